/- Steps of a walk: slices whose elements take one cell each. Conditions: as each theorem says. -/
import Derived.Test.YtmbcolbbekbccaaStp
import Derived.Laws.AppendOwn
import Derived.Laws.MakeOwn
import Derived.Laws.CopyRow
namespace Go.Proofs.Ytmbcolbbekbccaa
open Go Go.RowKit

abbrev sl (b o n c : Nat) : Value := .slice (some ⟨b, o, none⟩) n c
/-- T is a type of slices of E, whose elements take one cell. -/
structure TSl (P : Program) (T E : TypeId) (z : Value) (nb : Nat) : Prop where
  und : P.underlying T = some (.slice E)
  info : ∃ i, P.info? E = some i ∧ i.zero = some z ∧ i.size = 1 ∧ i.bytes = nb
  one : z.cells = #[z]
theorem TSl.size {P : Program} {T E : TypeId} {z : Value} {nb : Nat} (h : TSl P T E z nb) (w : World) : (sizeOf E).run P w = .ok 1 w := by
  obtain ⟨i, h1, _, h3, _⟩ := h.info
  simp [sizeOf, typeInfo, h1, h3]

/-- A slice that reads as a list. -/
def Rd (w : World) (v : Value) (l : List Value) : Prop :=
  (v = .slice none 0 0 ∧ l = []) ∨ ∃ b o c cs T fz, v = sl b o l.length c ∧ l.length ≤ c ∧ w.heap[b]? = some (.cells cs.toArray T fz) ∧ o + l.length ≤ cs.length ∧ piece cs o l.length = l
theorem Rd.ext {w w' : World} {v : Value} {l : List Value} (h : Rd w v l) (hx : Ext w w') : Rd w' v l := by
  rcases h with h | ⟨b, o, c, cs, T, fz, h1, h2, h3, h4, h5⟩
  · exact .inl h
  · exact .inr ⟨b, o, c, cs, T, fz, h1, h2, by rw [Below.block hx b (lt_of_blk h3)]; exact h3, h4, h5⟩
theorem Rd.hp {w0 w : World} {L : List Ent} {v : Value} {l : List Value} (h : Rd w0 v l) (H : HP w0 w L) : Rd w v l := h.ext H.below
theorem Rd.nil (w : World) : Rd w (.slice none 0 0) [] := .inl ⟨rfl, rfl⟩
theorem Rd.own {w0 w : World} {L : List Ent} (H : HP w0 w L) {k b o n c : Nat} {cs l : List Value} {T : TypeId} (hk : lk L k = some (b, cs, T)) (hl : piece cs o n = l) (hn : o + n ≤ cs.length) (hc : n ≤ c) : Rd w (sl b o n c) l := by
  have hlen : l.length = n := by rw [← hl, piece_eq]; simp; omega
  subst hlen
  exact .inr ⟨b, o, c, cs, T, (0, 0), rfl, hc, (H.blk k b cs T hk).1, hn, hl⟩
/-- The place of an element. -/
def adr : Value → Nat → Value
  | .slice (some a) _ _, i => .pointer (some (a.add i))
  | _, _ => .pointer none
/-- A piece of a slice. -/
def subv : Value → Nat → Nat → Value
  | .slice a _ c, lo, hi => .slice (if c = lo then a else a.map (·.add lo)) (hi - lo) (c - lo)
  | v, _, _ => v
theorem Rd.sub {w : World} {v : Value} {l : List Value} (h : Rd w v l) {lo hi : Nat} (h1 : lo ≤ hi) (h2 : hi ≤ l.length) : Rd w (subv v lo hi) ((l.drop lo).take (hi - lo)) := by
  have hlen : ((l.drop lo).take (hi - lo)).length = hi - lo := by simp; omega
  rcases h with ⟨rfl, rfl⟩ | ⟨b, o, c, cs, T, fz, rfl, h3, h4, h5, h6⟩
  · simp only [List.length_nil] at h2
    have e1 : lo = 0 := by omega
    have e2 : hi = 0 := by omega
    subst e1; subst e2
    exact .inl ⟨rfl, rfl⟩
  · by_cases hc : c = lo
    · have e1 : hi = lo := by omega
      refine .inr ⟨b, o, c - lo, cs, T, fz, ?_, by rw [hlen]; omega, h4, by rw [hlen]; omega, ?_⟩
      · rw [hlen]; simp [subv, sl, hc]
      · rw [hlen, e1]; simp [piece]
    · refine .inr ⟨b, o + lo, c - lo, cs, T, fz, ?_, by rw [hlen]; omega, h4, by rw [hlen]; omega, ?_⟩
      · rw [hlen]; simp [subv, sl, hc, add_addr]
      · rw [hlen, piece_eq]
        rw [piece_eq] at h6
        conv => rhs; rw [← h6]
        rw [List.drop_take, List.drop_drop, List.take_take]
        congr 1
        omega

section
variable {P : Program} {w : World} {e : Operand → Value} {x y lo hi : Operand} {T E ty : TypeId} {z v u : Value} {nb i : Nat} {l : List Value} {a : Int} {k : IntKind} {dst : Option Tmp} {pos : String} {aft : Array Edge} {g : Option (Nat × Bool)}
theorem r_lenR {N : Nat} (hT : TSl P T E z nb) (hx : e x = v) (hr : Rd w v l) (hN : l.length = N) : (execOp e ⟨dst, .call ⟨.builtin .len, #[x], #[T]⟩, ty, pos, aft, g⟩).run P w = .ok (.value (.int .i64 (N : Int))) w := by
  subst hN
  rcases hr with ⟨rfl, rfl⟩ | ⟨b, o, c, cs, T', fz, rfl, _⟩ <;> exact r_lenL hT.und hx
theorem r_addrR (hT : TSl P T E z nb) (hx : e x = v) (hy : e y = .int k a) (hr : Rd w v l) (ha : a = (i : Int)) (hi : i < l.length) :
    (execOp e ⟨dst, .indexAddr T x y, ty, pos, aft, g⟩).run P w = .ok (.value (adr v i)) w := by
  subst ha
  rcases hr with ⟨rfl, rfl⟩ | ⟨b, o, c, cs, T', fz, rfl, h3, h4, h5, h6⟩
  · simp at hi
  · simp [execOp, Instr.indexAt, hx, hy, sl, asIntOf, Go.underlying, hT.und, hT.size, hi, adr]
theorem r_loadR (hT : TOne P E) (hp : e x = adr v i) (hr : Rd w v l) (hv : l[i]? = some u) : (execOp e ⟨dst, .load E x, ty, pos, aft, g⟩).run P w = .ok (.value u) w := by
  have hi : i < l.length := (List.getElem?_eq_some_iff.1 hv).1
  rcases hr with ⟨rfl, rfl⟩ | ⟨b, o, c, cs, T', fz, rfl, h3, h4, h5, h6⟩
  · simp at hi
  · have hc : cs[o + i]? = some u := by
      rw [piece_eq] at h6
      rw [← h6] at hv
      rw [List.getElem?_take, if_pos hi, List.getElem?_drop] at hv
      exact hv
    have hp' : e x = .pointer (some ⟨b, o + i, none⟩) := by rw [hp]; simp [adr, sl, add_addr]
    simp only [execOp, hp', Sem.run_bind, run_loadOne hT h4 hc, Result.andThen, Sem.run_pure]
theorem run_bound {P : Program} {w : World} {k : IntKind} {a : Int} {h y : Nat} {code : BoundsCode} (ha : a = (h : Int)) (hh : h ≤ y) : (Instr.sliceBound (.int k a) y code).run P w = .ok h w := by
  subst ha
  have h2 : (0 : Int) ≤ (h : Int) ∧ (h : Int) ≤ (y : Int) := by omega
  simp [Instr.sliceBound, asIntOf, h2, hh]
/-- v[:h] -/
theorem r_sliceH {h : Nat} (hT : TSl P T E z nb) (hx : e x = v) (hy : e hi = .int k a) (ha : a = (h : Int)) (hr : Rd w v l) (hh : h ≤ l.length) :
    (execOp e ⟨dst, .slice T x none (some hi) none, ty, pos, aft, g⟩).run P w = .ok (.value (subv v 0 h)) w := by
  rcases hr with ⟨rfl, rfl⟩ | ⟨b, o, c, cs, T', fz, rfl, h3, h4, h5, h6⟩
  · have e0 : h = 0 := by simpa using hh
    subst e0
    simp [execOp, Instr.sliceAt, Go.underlying, hT.und, Instr.slice, Instr.sliceBounds, hx, hy, run_bound ha (Nat.le_refl _), hT.size, subv]
  · simp [execOp, Instr.sliceAt, Go.underlying, hT.und, Instr.slice, Instr.sliceBounds, hx, hy, sl, run_bound ha (Nat.le_trans hh h3), hT.size, subv]
/-- v[l:h] -/
theorem r_sliceLH {p h : Nat} {b : Int} {k' : IntKind} (hT : TSl P T E z nb) (hx : e x = v) (hz : e lo = .int k' b) (hy : e hi = .int k a) (hb : b = (p : Int)) (ha : a = (h : Int)) (hr : Rd w v l) (hp : p ≤ h) (hh : h ≤ l.length) :
    (execOp e ⟨dst, .slice T x (some lo) (some hi) none, ty, pos, aft, g⟩).run P w = .ok (.value (subv v p h)) w := by
  rcases hr with ⟨rfl, rfl⟩ | ⟨b', o, c, cs, T', fz, rfl, h3, h4, h5, h6⟩
  · have e0 : h = 0 := by simpa using hh
    subst e0
    have e1 : p = 0 := by omega
    subst e1
    simp [execOp, Instr.sliceAt, Go.underlying, hT.und, Instr.slice, Instr.sliceBounds, hx, hy, hz, run_bound ha (Nat.le_refl _), run_bound hb (Nat.le_refl _), hT.size, subv]
  · simp [execOp, Instr.sliceAt, Go.underlying, hT.und, Instr.slice, Instr.sliceBounds, hx, hy, hz, sl, run_bound ha (Nat.le_trans hh h3), run_bound hb hp, hT.size, subv]
/-- v[l:] -/
theorem r_sliceL {p : Nat} {b : Int} {k' : IntKind} (hT : TSl P T E z nb) (hx : e x = v) (hz : e lo = .int k' b) (hb : b = (p : Int)) (hr : Rd w v l) (hp : p ≤ l.length) :
    (execOp e ⟨dst, .slice T x (some lo) none none, ty, pos, aft, g⟩).run P w = .ok (.value (subv v p l.length)) w := by
  rcases hr with ⟨rfl, rfl⟩ | ⟨b', o, c, cs, T', fz, rfl, h3, h4, h5, h6⟩
  · have e1 : p = 0 := by simpa using hp
    subst e1
    simp [execOp, Instr.sliceAt, Go.underlying, hT.und, Instr.slice, Instr.sliceBounds, hx, hz, run_bound hb (Nat.le_refl _), hT.size, subv]
  · simp [execOp, Instr.sliceAt, Go.underlying, hT.und, Instr.slice, Instr.sliceBounds, hx, hz, sl, run_bound hb hp, hT.size, subv]
/-- an own slice: the place of an element. -/
theorem r_addrS {b o n c : Nat} (hT : TSl P T E z nb) (hx : e x = sl b o n c) (hy : e y = .int k a) (ha : a = (i : Int)) (hi : i < n) :
    (execOp e ⟨dst, .indexAddr T x y, ty, pos, aft, g⟩).run P w = .ok (.value (.pointer (some ⟨b, o + i, none⟩))) w := by
  subst ha
  simp [execOp, Instr.indexAt, hx, hy, sl, asIntOf, Go.underlying, hT.und, hT.size, hi, add_addr]
end

/-- One block in the place of another. -/
theorem HP.moved {w0 w : World} {L : List Ent} {x e : Ent} {k : Nat} (hk : lk L k = some x) (h : HP w0 w (e :: L)) : HP w0 w (st L k e) := by
  obtain ⟨b, cs, T⟩ := e
  refine ⟨h.below, ?_, ?_⟩
  · intro j b' c T' hj
    by_cases hjk : j = k
    · subst hjk
      rw [lk_st_same hk] at hj
      exact h.blk 0 b' c T' hj
    · rw [lk_st_other hjk] at hj
      exact h.blk (j + 1) b' c T' hj
  · intro i j b' c1 T1 c2 T2 hi hj
    have key : ∀ i c T1, lk (st L k (b, cs, T)) i = some (b', c, T1) → ∃ i', (i = k ∧ i' = 0 ∨ i ≠ k ∧ i' = i + 1) ∧ lk ((b, cs, T) :: L) i' = some (b', c, T1) := fun i c T1 hi => by
      by_cases hik : i = k
      · subst hik; rw [lk_st_same hk] at hi; exact ⟨0, .inl ⟨rfl, rfl⟩, hi⟩
      · rw [lk_st_other hik] at hi; exact ⟨i + 1, .inr ⟨hik, rfl⟩, hi⟩
    obtain ⟨i', hi1, hi2⟩ := key i _ _ hi
    obtain ⟨j', hj1, hj2⟩ := key j _ _ hj
    have := h.inj i' j' b' c1 T1 c2 T2 hi2 hj2
    omega

section
variable {P : Program} {ops : Array Oper} {Q : Exit → Act → World → Prop} {rest : List Oper} {n : Nat} {m : FM} {w w0 : World} {L : List Ent}
variable {d : Nat} {ty : TypeId} {pos : String} {aft : Array Edge} {x y : Operand} {T E : TypeId} {z : Value} {nb : Nat}

theorem append_own {b len c k : Nat} {xs rs news : List Value} {v2 : Value} (hT : TSl P T E z nb) (H : HP w0 w L) (hk : lk L k = some (b, xs ++ rs, E)) (hlen : xs.length = len) (hcap : (xs ++ rs).length = c)
    (hr : Rd w v2 news) (h1 : ∀ v ∈ news, v.oneCell' = true) (hb : (len + news.length) * nb ≤ 140737488355328) (hb' : len + news.length ≤ 140737488355328) :
    ∃ b' rs' w', (Builtin.append_ #[T, T] ty #[sl b 0 len c, v2]).run P w = .ok (sl b' 0 (len + news.length) (xs ++ news ++ rs').length) w' ∧ HP w0 w' (st L k (b', xs ++ news ++ rs', E)) := by
  obtain ⟨i, hi1, hi2, hi3, hi4⟩ := hT.info
  have hblk := (H.blk k b _ E hk).1
  subst hlen
  rcases hr with ⟨rfl, rfl⟩ | ⟨b2, o2, c2, cs2, T2, fz2, rfl, hc2, hb2, ho2, hp2⟩
  · refine ⟨b, rs, w, ?_, ?_⟩
    · have hroom : xs.length + 0 ≤ c := by rw [← hcap]; simp
      have hst := run_storeCells_at P b (xs.length * 1) E [] 0 (xs ++ rs).toArray w hblk (by simp) (fun v hv => by simp at hv)
      simp only [Builtin.append_, Sem.run_bind, Go.underlying, run_program, hT.und, Result.andThen_ok, sizeOf, typeInfo, hi1, hi3, Sem.run_pure, Builtin.lenOf, hcap, List.length_nil, List.append_nil]
      simp [Builtin.lenOf, Builtin.firstCells, sizeOf, typeInfo, hi1, hi3, hroom, hcap, storeCells, hT.und]
      intro hh; simp at hroom; omega
    · simp only [List.append_nil]
      exact H.set hk rfl rfl rfl rfl hblk (fun _ _ => rfl)
  · have hnews : ∀ j u, news[j]? = some u → w.cell? ((⟨b2, o2, none⟩ : Addr).add j) = some u := fun j u hj => by
      rw [add_addr, cell_of_blk hb2]
      have hjl := (List.getElem?_eq_some_iff.1 hj).1
      rw [← hp2, piece_eq, List.getElem?_take, if_pos hjl, List.getElem?_drop] at hj
      exact hj
    by_cases hroom : xs.length + news.length ≤ c
    · refine ⟨b, rs.drop news.length, w.setRow b ((xs ++ rs).take (xs.length * i.size) ++ news ++ (xs ++ rs).drop (xs.length * i.size + news.length)).toArray, ?_, ?_⟩
      · have hrun := run_append_room (P := P) w T ty E i hT.und hi1 b xs.length c (xs ++ rs).toArray hblk ⟨b2, o2, none⟩ news.length c2 news (by rw [hi3]; omega) hnews h1 hroom (by rw [hi3, Nat.mul_one]; simpa [← hcap] using hroom)
        have hcl : (xs ++ news ++ rs.drop news.length).length = c := by
          rw [← hcap]
          simp only [List.length_append, List.length_drop]
          rw [← hcap, List.length_append] at hroom
          omega
        rw [hcl]
        exact hrun
      · have e1 : (xs ++ rs).take (xs.length * i.size) ++ news ++ (xs ++ rs).drop (xs.length * i.size + news.length) = xs ++ news ++ rs.drop news.length := by
          rw [hi3, Nat.mul_one, List.take_left, ← List.drop_drop, List.drop_left]
        rw [e1]
        exact H.set hk (setRow_size w b _) rfl rfl rfl (setRow_heap w b _ _ E (0, 0) hblk) (fun j hj => setRow_other w b j _ hj)
    · have hnb : nb ≤ 140737488355328 ∨ True := .inr trivial
      have hfit := growslice_fits (bytes := nb) (Nat.lt_of_not_le hroom) hb
      have holds : ∀ j u, xs[j]? = some u → w.cell? ((⟨b, 0, none⟩ : Addr).add j) = some u := fun j u hj => by
        rw [add_addr, cell_of_blk hblk, Nat.zero_add, List.getElem?_append_left (List.getElem?_eq_some_iff.1 hj).1]
        exact hj
      have hrun := run_append_grow (P := P) w T ty E i z hT.und hi1 hi2 ⟨b, 0, none⟩ xs.length c xs (by rw [hi3]; omega) holds ⟨b2, o2, none⟩ news.length c2 news (by rw [hi3]; omega) hnews (Nat.lt_of_not_le hroom) (by omega) (by rw [hi4]; exact hfit)
      have hge := grownCap_ge w (xs.length + news.length) c E
      have hsz := size_zeroCells z.cells (grownCap w (xs.length + news.length) c E - (xs.length + news.length))
      rw [hT.one] at hsz hrun
      generalize hG : grownCap w (xs.length + news.length) c E = G at hrun hge hsz
      generalize hZ : Builtin.zeroCells #[z] (G - (xs.length + news.length)) = Z at hrun hsz
      have hZl : Z.toList.length = G - (xs.length + news.length) := by simpa using hsz
      have hcl : (xs ++ news ++ Z.toList).length = G := by simp only [List.length_append, hZl]; omega
      have hcells : xs.toArray ++ news.toArray ++ Z = (xs ++ news ++ Z.toList).toArray := by apply Array.ext'; simp
      refine ⟨w.heap.size, Z.toList, w.drew.alloc (.cells (xs ++ news ++ Z.toList).toArray E), ?_, HP.moved hk ?_⟩
      · rw [hcl, ← hcells]; exact hrun
      · exact H.push ((Ext.drew w).trans (Ext.alloc w.drew _)) (Nat.le_refl _) (heap_alloc_self w.drew _)
theorem tslMk {P : Program} {T E : TypeId} {z : Value} {nb : Nat} (h1 : P.underlying T = some (.slice E)) (h2 : (P.info? E).map (fun i => (i.zero, i.size, i.bytes)) = some (some z, 1, nb)) (h3 : z.cells = #[z]) : TSl P T E z nb := by
  refine ⟨h1, ?_, h3⟩
  cases hi : P.info? E with
  | none => simp [hi] at h2
  | some i =>
    simp only [hi, Option.map_some, Option.some.injEq, Prod.mk.injEq] at h2
    exact ⟨i, rfl, h2.1, h2.2.1, h2.2.2⟩
theorem Rd.ownA {w0 w : World} {L : List Ent} (H : HP w0 w L) {k b n c : Nat} {xs rs : List Value} {T : TypeId} (hk : lk L k = some (b, xs ++ rs, T)) (hn : xs.length = n) (hc : (xs ++ rs).length = c) : Rd w (sl b 0 n c) xs :=
  Rd.own H hk (by subst hn; rw [piece_eq]; simp) (by rw [Nat.zero_add, List.length_append]; omega) (by rw [List.length_append] at hc; omega)
theorem onesI {k : IntKind} {a : Int} : ∀ v ∈ [Value.int k a], v.oneCell' = true := fun v hv => by
  simp only [List.mem_singleton] at hv; subst hv; rfl
theorem p_append {b len c k : Nat} {xs rs news ys : List Value} {v2 : Value} (hT : TSl P T E z nb) (H : HP w0 w L) (hx : ev n m x = sl b 0 len c) (hk : lk L k = some (b, xs ++ rs, E)) (hlen : xs.length = len) (hcap : (xs ++ rs).length = c)
    (hy : ev n m y = v2) (hr : Rd w v2 news) (h1 : ∀ v ∈ news, v.oneCell' = true) (hys : xs ++ news = ys) (hb : ys.length * nb ≤ 140737488355328 ∧ ys.length ≤ 140737488355328)
    (h : ∀ w' b' rs', HP w0 w' (st L k (b', ys ++ rs', E)) → wpList P ops Q rest (fr n ((d, sl b' 0 ys.length (ys ++ rs').length) :: m)) w') :
    wpList P ops Q (⟨some d, .call ⟨.builtin .append, #[x, y], #[T, T]⟩, ty, pos, aft, none⟩ :: rest) (fr n m) w :=
  wpList_plain rfl fun K hK => by
    subst hys
    have hl : (xs ++ news).length = len + news.length := by rw [List.length_append, hlen]
    rw [hl] at hb h
    obtain ⟨b', rs', w', hrun, H'⟩ := append_own (ty := ty) hT H hk hlen hcap hr h1 hb.1 hb.2
    have hrun' : (execOp (ev n m) ⟨some d, .call ⟨.builtin .append, #[x, y], #[T, T]⟩, ty, pos, aft, none⟩).run P w = .ok (.value (sl b' 0 (len + news.length) (xs ++ news ++ rs').length)) w' := by
      simp [execOp, resolve, invoke, builtin, hx, hy, hrun]
    unfold Oper.wp; rw [eval_fr, hrun']; simp only [Oper.upon, put_fr]
    exact hK _ _ (h w' b' rs' H')

theorem append_nil {news : List Value} {v2 : Value} (hT : TSl P T E z nb) (H : HP w0 w L) (hr : Rd w v2 news) (h0 : 0 < news.length) (hb : news.length * nb ≤ 140737488355328) (hb' : news.length ≤ 140737488355328) :
    ∃ b' rs' w', (Builtin.append_ #[T, T] ty #[.slice none 0 0, v2]).run P w = .ok (sl b' 0 news.length (news ++ rs').length) w' ∧ HP w0 w' ((b', news ++ rs', E) :: L) := by
  obtain ⟨i, hi1, hi2, hi3, hi4⟩ := hT.info
  rcases hr with ⟨rfl, rfl⟩ | ⟨b2, o2, c2, cs2, T2, fz2, rfl, hc2, hb2, ho2, hp2⟩
  · exact absurd h0 (by decide)
  · have hnews : ∀ j u, news[j]? = some u → w.cell? ((⟨b2, o2, none⟩ : Addr).add j) = some u := fun j u hj => by
      rw [add_addr, cell_of_blk hb2]
      have hjl := (List.getElem?_eq_some_iff.1 hj).1
      rw [← hp2, piece_eq, List.getElem?_take, if_pos hjl, List.getElem?_drop] at hj
      exact hj
    have hrun := run_append_nil (P := P) w T ty E i z hT.und hi1 hi2 ⟨b2, o2, none⟩ news.length c2 news (by rw [hi3]; omega) hnews h0 (by omega) (by rw [hi4]; omega)
    have hge := grownCap_ge w news.length 0 E
    have hsz := size_zeroCells z.cells (grownCap w news.length 0 E - news.length)
    rw [hT.one] at hsz hrun
    generalize hG : grownCap w news.length 0 E = G at hrun hge hsz
    generalize hZ : Builtin.zeroCells #[z] (G - news.length) = Z at hrun hsz
    have hZl : Z.toList.length = G - news.length := by simpa using hsz
    have hcl : (news ++ Z.toList).length = G := by simp only [List.length_append, hZl]; omega
    have hcells : news.toArray ++ Z = (news ++ Z.toList).toArray := by apply Array.ext'; simp
    refine ⟨w.heap.size, Z.toList, w.drew.alloc (.cells (news ++ Z.toList).toArray E), ?_, ?_⟩
    · rw [hcl, ← hcells]; exact hrun
    · exact H.push ((Ext.drew w).trans (Ext.alloc w.drew _)) (Nat.le_refl _) (heap_alloc_self w.drew _)
theorem p_appendN {news ys : List Value} {v2 : Value} (hT : TSl P T E z nb) (H : HP w0 w L) (hx : ev n m x = .slice none 0 0)
    (hy : ev n m y = v2) (hr : Rd w v2 news) (hys : news = ys) (h0 : 0 < ys.length) (hb : ys.length * nb ≤ 140737488355328 ∧ ys.length ≤ 140737488355328)
    (h : ∀ w' b' rs', HP w0 w' ((b', ys ++ rs', E) :: L) → wpList P ops Q rest (fr n ((d, sl b' 0 ys.length (ys ++ rs').length) :: m)) w') :
    wpList P ops Q (⟨some d, .call ⟨.builtin .append, #[x, y], #[T, T]⟩, ty, pos, aft, none⟩ :: rest) (fr n m) w :=
  wpList_plain rfl fun K hK => by
    subst hys
    obtain ⟨b', rs', w', hrun, H'⟩ := append_nil (ty := ty) hT H hr h0 hb.1 hb.2
    have hrun' : (execOp (ev n m) ⟨some d, .call ⟨.builtin .append, #[x, y], #[T, T]⟩, ty, pos, aft, none⟩).run P w = .ok (.value (sl b' 0 news.length (news ++ rs').length)) w' := by
      simp [execOp, resolve, invoke, builtin, hx, hy, hrun]
    unfold Oper.wp; rw [eval_fr, hrun']; simp only [Oper.upon, put_fr]
    exact hK _ _ (h w' b' rs' H')

theorem toList_range_map (z : Value) (n : Nat) : ((Array.range n).map fun x => (#[z] : Array Value)[x % 1]!).toList = List.replicate n z := by
  apply List.ext_getElem?
  intro j
  by_cases hj : j < n <;> simp [hj, Nat.mod_one]
theorem fillL_slice {sz : Nat} {ps : List (Nat × Value)} {N : Nat} {cs l : List Value} (h : fillL ((List.range' 0 N).map fun i => (i * sz, sz)) cs ps = some l) : Instr.fill (fun i => some (i * sz, sz)) cs.toArray ps = some l.toArray :=
  fill_of (fun i => by simpa using lkp_array sz N 0 i) ps cs l h
theorem run_bslice {e : Operand → Value} {N : Nat} {ps : List (Nat × Operand)} {vals : List (Nat × Value)} {l : List Value} {dst : Option Tmp} {g : Option (Nat × Bool)} (hT : TSl P T E z nb) (hp : bparts e ps = vals)
    (hl : fillL ((List.range' 0 N).map fun i => (i * 1, 1)) (List.replicate N z) vals = some l) (hN : N ≤ 16777216) :
    (execOp e ⟨dst, .buildSlice T N ps.toArray, ty, pos, aft, g⟩).run P w = .ok (.value (sl w.heap.size 0 N N)) (w.alloc (.cells l.toArray E)) := by
  obtain ⟨i, hi1, hi2, hi3, hi4⟩ := hT.info
  have e1 : (ps.toArray.map fun (i, x) => (i, e x)) = vals.toArray := by
    rw [← hp, ← bparts_eq]; simp
  have hf := fillL_slice hl
  have hN' : ¬ 16777216 < N := by omega
  simp only [execOp, Sem.run_bind]
  rw [e1]
  by_cases h0 : N = 0
  · subst h0
    simp only [List.replicate, Nat.mul_one] at hf
    have hr' : (Array.map (fun _ => (default : Value)) (Array.range 0)) = #[] := by simp
    simp [Instr.buildSlice, Go.underlying, hT.und, hT.size, newRow, sl]
    rw [hr', hf]
    simp
  · have hr := toList_range_map z N
    have hr' : ((Array.range N).map fun x => (#[z] : Array Value)[x % 1]!) = (List.replicate N z).toArray := by rw [← hr]
    simp at hr'
    simp only [Nat.mul_one] at hf
    simp only [List.toArray_replicate] at hf
    simp [Instr.buildSlice, Go.underlying, hT.und, hT.size, newRow, sl, h0, hN', zeroValue, typeInfo, hi1, hi2, hT.one]
    rw [hr', hf]
    simp
theorem p_bslice {N : Nat} {ps : List (Nat × Operand)} {vals : List (Nat × Value)} {l ys : List Value} (hT : TSl P T E z nb) (H : HP w0 w L) (hp : bparts (ev n m) ps = vals)
    (hl : fillL ((List.range' 0 N).map fun i => (i * 1, 1)) (List.replicate N z) vals = some l) (hN : Nat.ble N 16777216 = true) (hlen : l.length = N) (hys : l = ys)
    (h : ∀ w' b, HP w0 w' ((b, ys ++ [], E) :: L) → wpList P ops Q rest (fr n ((d, sl b 0 ys.length (ys ++ []).length) :: m)) w') :
    wpList P ops Q (⟨some d, .buildSlice T N ps.toArray, ty, pos, aft, none⟩ :: rest) (fr n m) w :=
  wpList_plain rfl fun K hK => by
    subst hys
    have hrun := run_bslice (w := w) (ty := ty) (pos := pos) (aft := aft) (dst := some d) (g := none) hT hp hl (Nat.le_of_ble_eq_true hN)
    unfold Oper.wp; rw [eval_fr, hrun]; simp only [Oper.upon, put_fr]
    have hh := h _ _ (by rw [List.append_nil]; exact H.alloc l E)
    rw [List.append_nil, hlen] at hh
    exact hK _ _ hh
theorem p_make {a : Int} {k1 k2 : IntKind} {N : Nat} {ys : List Value} (hT : TSl P T E z nb) (H : HP w0 w L) (hx : ev n m x = .int k1 a) (hy : ev n m y = .int k2 a) (ha : a = (N : Int)) (hN : nb * N ≤ 281474976710656) (hN' : N ≤ 281474976710656) (hys : List.replicate N z = ys)
    (h : ∀ w' b, HP w0 w' ((b, ys ++ [], E) :: L) → wpList P ops Q rest (fr n ((d, sl b 0 ys.length (ys ++ []).length) :: m)) w') :
    wpList P ops Q (⟨some d, .makeSlice T x y, ty, pos, aft, none⟩ :: rest) (fr n m) w :=
  wpList_plain rfl fun K hK => by
    obtain ⟨i, hi1, hi2, hi3, hi4⟩ := hT.info
    subst ha
    have hb : (i.bytes : Int) * (N : Int) ≤ 281474976710656 := by rw [hi4, ← Int.natCast_mul]; omega
    have hr := run_make (P := P) w T E i z hT.und hi1 hi2 k1 k2 N N (by omega) (Int.le_refl _) hb (by omega)
    have hc : (madeCells z.cells (((N : Int).toNat) * i.size)).toList = List.replicate N z := by
      rw [hT.one, hi3, Int.toNat_natCast, Nat.mul_one]; exact toList_range_map z N
    have hc' : madeCells z.cells (((N : Int).toNat) * i.size) = (List.replicate N z).toArray := by rw [← hc]
    rw [hc', Int.toNat_natCast] at hr
    have hrun : (execOp (ev n m) ⟨some d, .makeSlice T x y, ty, pos, aft, none⟩).run P w = .ok (.value (sl w.heap.size 0 N N)) (w.alloc (.cells (List.replicate N z).toArray E)) := by
      simp only [execOp, hx, hy, Sem.run_bind, hr, Result.andThen_ok, Sem.run_pure]
    unfold Oper.wp; rw [eval_fr, hrun]; simp only [Oper.upon, put_fr]
    have hh := h _ _ (by rw [List.append_nil]; exact (hys ▸ H.alloc (List.replicate N z) E))
    rw [List.append_nil, ← hys, List.length_replicate] at hh
    exact hK _ _ hh

theorem set_len {xs ys : List Value} {i n : Nat} {v : Value} (h : xs.set i v = ys) (hn : xs.length = n) : ys.length = n := by rw [← h, List.length_set, hn]
theorem set_cap {xs ys rs : List Value} {i c : Nat} {v : Value} (h : xs.set i v = ys) (hc : (xs ++ rs).length = c) : (ys ++ rs).length = c := by rw [List.length_append, set_len h rfl, ← List.length_append, hc]
/-- An element of an own slice written. -/
theorem p_storeO {b i k : Nat} {xs rs ys : List Value} {v : Value} {T' : TypeId} (tg : TOne P E) (H : HP w0 w L) (hp : ev n m x = .pointer (some ⟨b, 0 + i, none⟩)) (hk : lk L k = some (b, xs ++ rs, T')) (hy : ev n m y = v) (hone : v.oneCell' = true) (hi : i < xs.length) (hys : xs.set i v = ys)
    (h : ∀ w', HP w0 w' (st L k (b, ys ++ rs, T')) → wpList P ops Q rest (fr n m) w') :
    wpList P ops Q (⟨none, .store E x y, ty, pos, aft, none⟩ :: rest) (fr n m) w :=
  p_store1 tg H hp hk hy hone (by rw [nat_blt, decide_eq_true_eq, List.length_append]; omega) fun w' H' => h w' (by
    have e : lay (xs ++ rs) (0 + i) [v] = ys ++ rs := by
      subst hys
      apply List.ext_getElem?
      intro j
      rw [lay_get]
      by_cases hj : j = i
      · subst hj
        rw [if_pos (by simp only [List.length_append, List.length_cons, List.length_nil]; omega), List.getElem?_append_left (by simpa using hi)]
        simp [hi]
      · rw [if_neg (by simp only [List.length_cons, List.length_nil]; omega)]
        by_cases hjl : j < xs.length
        · rw [List.getElem?_append_left hjl, List.getElem?_append_left (by simpa using hjl), List.getElem?_set_ne (by omega)]
        · rw [List.getElem?_append_right (by omega), List.getElem?_append_right (by simp; omega), List.length_set]
    rw [e] at H'; exact H')
theorem r_loadO {e : Operand → Value} {dst : Option Tmp} {g : Option (Nat × Bool)} {b i k : Nat} {xs rs : List Value} {u : Value} {T' : TypeId} (tg : TOne P E) (H : HP w0 w L) (hp : e x = .pointer (some ⟨b, 0 + i, none⟩)) (hk : lk L k = some (b, xs ++ rs, T')) (hv : xs[i]? = some u) :
    (execOp e ⟨dst, .load E x, ty, pos, aft, g⟩).run P w = .ok (.value u) w := by
  have hi := (List.getElem?_eq_some_iff.1 hv).1
  refine r_load1 tg H hp hk ?_
  rw [piece_eq, Nat.zero_add, List.drop_eq_getElem_cons (by rw [List.length_append]; omega)]
  have : (xs ++ rs)[i]? = some u := by rw [List.getElem?_append_left hi]; exact hv
  rw [(List.getElem?_eq_some_iff.1 this).2]
  rfl
theorem HP.restart (H : HP w0 w L) : HP w w [] := HP.start w
theorem HP.of (h : Ext w0 w) : HP w0 w [] := (HP.start w0).ext h
end
end Go.Proofs.Ytmbcolbbekbccaa
