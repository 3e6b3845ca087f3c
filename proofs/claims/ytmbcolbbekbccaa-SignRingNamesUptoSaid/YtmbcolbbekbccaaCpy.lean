/- Steps of a walk: bytes copied into an own slice, a new row of whatever bytes, a slice's capacity cut. Conditions: as each theorem says. -/
import Derived.Test.YtmbcolbbekbccaaVec
import Derived.Lib.MakeNoZero
namespace Go.Proofs.Ytmbcolbbekbccaa
open Go Go.RowKit
/-- What stands behind a copy of ys to place p of xs. -/
def putB (xs : List UInt8) (p : Nat) (ys : List UInt8) : List UInt8 := xs.take p ++ (ys.take (xs.length - p) ++ xs.drop (p + min ys.length (xs.length - p)))
theorem putB_len (xs : List UInt8) (p : Nat) (ys : List UInt8) (h : p ≤ xs.length) : (putB xs p ys).length = xs.length := by
  simp only [putB, List.length_append, List.length_take, List.length_drop]; omega
/-- A value for each list of n bytes that is one and the same. -/
noncomputable def anyJ {α : Type} (n : Nat) (f : List UInt8 → Option α) : Option α := by
  classical exact if h : ∃ r, ∀ l : List UInt8, l.length = n → f l = some r then some (Classical.choose h) else none
theorem anyJ_some {α : Type} {n : Nat} {f : List UInt8 → Option α} {r : α} (h : anyJ n f = some r) (l : List UInt8) (hl : l.length = n) : f l = some r := by
  unfold anyJ at h
  split at h
  · rename_i hc
    obtain rfl := Option.some.inj h
    exact Classical.choose_spec hc l hl
  · cases h
theorem anyJ_intro {α : Type} {n : Nat} {f : List UInt8 → Option α} {r : α} (h : ∀ l : List UInt8, l.length = n → f l = some r) : anyJ n f = some r := by
  unfold anyJ
  have hc : ∃ r, ∀ l : List UInt8, l.length = n → f l = some r := ⟨r, h⟩
  rw [dif_pos hc]
  have h1 := Classical.choose_spec hc (List.replicate n 0) (by simp)
  rw [h _ (by simp)] at h1
  exact h1.symm
theorem RL.u8 {S : Mem} : ∀ {xs : List UInt8} {cs : List Value}, RL S cs xs → cs = u8s xs
  | [], _, h => h
  | x :: xs, _, ⟨c, d, e, h1, h2⟩ => by
    obtain rfl := elU8 h1
    rw [e, RL.u8 h2]; rfl
theorem digits_u8 : ∀ (n t : Nat) (acc : List UInt8), ∃ l : List UInt8, l.length = n ∧ Extern.BytealgMakeNoZero.digits n t (u8s acc).toArray = (u8s (acc ++ l)).toArray
  | 0, _, acc => ⟨[], rfl, by simp [Extern.BytealgMakeNoZero.digits]⟩
  | n + 1, t, acc => by
    obtain ⟨l, h1, h2⟩ := digits_u8 n (t / 256) (acc ++ [UInt8.ofNat (t % 256)])
    refine ⟨UInt8.ofNat (t % 256) :: l, by simp [h1], ?_⟩
    have e : ((u8s acc).toArray.push (.int .u8 (Int.ofNat (t % 256)))) = (u8s (acc ++ [UInt8.ofNat (t % 256)])).toArray := by
      simp [u8s]
    rw [Extern.BytealgMakeNoZero.digits, e, h2]; simp
section
variable {P : Program}
theorem run_mnz (w : World) (ps : Array TypeId) (t e : TypeId) (ht : P.underlying t = some (.slice e)) (n : Nat) (hn : n ≤ 281474976710656) :
    ∃ l : List UInt8, n ≤ l.length ∧ (Extern.BytealgMakeNoZero.makeNoZero ps #[t] #[.int .i64 n]).run P w = .ok (sl w.heap.size 0 n l.length) (w.drew.drew.alloc (.cells (u8s l).toArray e)) := by
  obtain ⟨l, h1, h2⟩ := digits_u8 (grownCap w n 0 e) ((Question.extern "internal/bytealg.MakeNoZero.bytes" 0).cut (w.tape (w.drawn + 1) (.extern "internal/bytealg.MakeNoZero.bytes" 0))) []
  refine ⟨l, by rw [h1]; simpa using grownCap_ge w n 0 e, ?_⟩
  have a1 : ¬ (n : Int) < 0 := by omega
  have a2 : ¬ (281474976710656 : Int) < (n : Int) := by omega
  rw [show (u8s l).toArray = Extern.BytealgMakeNoZero.digits (grownCap w n 0 e) _ #[] from h2.symm, h1]
  delta Extern.BytealgMakeNoZero.makeNoZero
  delta Extern.BytealgMakeNoZero.makeNoZero.match_3
  delta Extern.BytealgMakeNoZero.makeNoZero._sparseCasesOn_3 Extern.BytealgMakeNoZero.makeNoZero._sparseCasesOn_4
  dsimp [Array.getLit]
  simp [run_underlying ht, a1, a2, Question.forced, newRow, grownCap, sl]
end
section
variable {P : Program} {w : World} {B : Bas} {S : Mem} {L : List Res} {T T' E dT sT : TypeId} {e : Operand → Value} {x y lo hi mx : Operand} {dst : Option Tmp} {pos : String} {aft : Array Edge} {ty : TypeId} {g : Option (Nat × Bool)} {v : Value} {k1 k2 : IntKind}
theorem a_mnz {fn : Func} {f : FuncId} {at_ ps : Array TypeId} {t : TypeId} {a : Int} (hf : P.funcs[f]? = some fn) (hname : (fn.name == "runtime.NumGoroutine") = false) (hb : fn.body.isNone = true) (hn : Extern.findNext fn = none)
    (he : Extern.find fn = some (Extern.BytealgMakeNoZero.makeNoZero ps #[t])) (ht : P.underlying t = some (.slice E)) (he0 : e (.func f) = .func (.func f) #[] #[]) (H : HS B S w L) (hx : e x = .int .i64 a) (h0 : 0 ≤ a) (h1 : a ≤ (LIM : Int)) :
    ∃ w' v, (execOp e ⟨dst, .call ⟨.value (.func f), #[x], at_⟩, ty, pos, aft, g⟩).run P w = .ok (.value v) w' ∧ ∃ b c jk jr, v = sl b 0 jk.length c ∧ jk.length = a.toNat ∧ HS B S w' (.osl (sl b 0 jk.length c) jk.length 1 (u8s jk) (u8s jr) E :: L) := by
  have h1' : a ≤ 68719476736 := h1
  obtain ⟨n, rfl⟩ := Int.eq_ofNat_of_zero_le h0
  obtain ⟨l, hl, hrun⟩ := run_mnz w ps t E ht n (by omega)
  have hc : (callFunc f #[.int .i64 (n : Int)]).run P w = .ok (.value (sl w.heap.size 0 n l.length)) (w.drew.drew.alloc (.cells (u8s l).toArray E)) := by
    rw [run_callFunc_extern hf hname hb hn he, hrun]; rfl
  have hlen : (l.take n).length = n := by simp; omega
  have hop : (execOp e ⟨dst, .call ⟨.value (.func f), #[x], at_⟩, ty, pos, aft, g⟩).run P w = .ok (.value (sl w.heap.size 0 n l.length)) (w.drew.drew.alloc (.cells (u8s l).toArray E)) := by
    simp only [execOp, resolve, he0, Deferred.ofValue, Sem.run_bind, Sem.run_pure, Result.andThen, invoke]
    simpa [hx] using hc
  refine ⟨_, _, hop, w.heap.size, l.length, l.take n, l.drop n, by rw [hlen], by rw [hlen]; exact (Int.toNat_natCast n).symm, ?_⟩
  rw [hlen]
  refine H.push (Ext.trans (Ext.drew w) (Ext.trans (Ext.drew w.drew) (Ext.alloc w.drew.drew _))) (.inr ⟨w.heap.size, l.length, (0, 0), rfl, hl, by simp [u8s]; omega, by simp [u8s], ?_, .inl rfl⟩) fun b hb => by cases hb; exact Nat.le_refl _
  have : u8s (l.take n) ++ u8s (l.drop n) = u8s l := by simp only [u8s, ← List.map_append, List.take_append_drop]
  rw [this]
  exact heap_alloc_self w.drew.drew _
/-- s[:n:n] of an own slice of n elements: its room is cut. -/
theorem r_sliceC {b c N sz : Nat} {a : Int} (hu : P.underlying T = some (.slice E)) (ts : TSz P E sz) (hx : e x = sl b 0 N c) (hy : e hi = .int k1 a) (hz : e mx = .int k2 a) (ha : a = (N : Int)) (hc : N ≤ c) :
    (execOp e ⟨dst, .slice T x none (some hi) (some mx), ty, pos, aft, g⟩).run P w = .ok (.value (sl b 0 N N)) w := by
  simp [execOp, Instr.sliceAt, Go.underlying, hu, Instr.slice, Instr.sliceBounds, hx, hy, hz, sl, run_bound (P := P) (w := w) ha hc, run_bound (P := P) (w := w) ha (Nat.le_refl _), ts w, Addr.add]
theorem HS.recap {k b c N sz : Nat} {cs rs : List Value} (H : HS B S w L) (hk : lkR L k = some (.osl (sl b 0 N c) N sz cs rs T')) : HS B S w (stR L k (.osl (sl b 0 N N) N sz cs rs T')) := by
  rcases H.own k _ hk with ⟨h, _⟩ | ⟨b', c', fz, hv', h1, h2, h3, h4, h5⟩
  · cases h
  · injection hv' with e1 e2 e3
    injection e1 with e1
    injection e1 with e1 _ _
    subst e1; subst e3
    exact H.upd hk (Nat.le_refl _) rfl rfl rfl (fun _ _ _ => rfl) (.inr ⟨b, N, fz, rfl, Nat.le_refl _, h2, Nat.le_trans (Nat.mul_le_mul_right sz h1) h3, h4, h5⟩) fun b' hb' => .inl hb'
theorem capOf {k b c N sz : Nat} {cs rs : List Value} (H : HS B S w L) (hk : lkR L k = some (.osl (sl b 0 N c) N sz cs rs T')) : N ≤ c := by
  rcases H.own k _ hk with ⟨h, _⟩ | ⟨b', c', fz, hv', h1, _⟩
  · cases h
  · injection hv' with e1 e2 e3
    subst e3; exact h1
theorem lay_u8s (xs ys : List UInt8) (p n : Nat) (rs : List Value) (hn : n = min ys.length (xs.length - p)) (hp : p ≤ xs.length) : lay (u8s xs ++ rs) p (u8s (ys.take n)) = u8s (putB xs p ys) ++ rs := by
  apply List.ext_getElem?
  intro j
  rw [lay_get]
  have h1 : (u8s (ys.take n)).length = n := by simp [u8s]; omega
  have h2 : (u8s (putB xs p ys)).length = xs.length := by rw [u8s, List.length_map, putB_len _ _ _ hp]
  have h3 : (u8s xs).length = xs.length := by simp [u8s]
  have h4 : (xs.take p).length = p := by simp; omega
  by_cases hj : p ≤ j ∧ j < p + n
  · rw [if_pos (by rw [h1, List.length_append, h3]; omega), List.getElem?_append_left (by rw [h2]; omega)]
    simp only [u8s, putB, List.map_append]
    rw [List.getElem?_append_right (by simp; omega), List.getElem?_append_left (by simp; omega)]
    simp only [List.length_map, h4, List.getElem?_map, List.getElem?_take]
    rw [if_pos (by omega), if_pos (by omega)]
  · rw [if_neg (by rw [h1]; omega)]
    by_cases hx : j < xs.length
    · rw [List.getElem?_append_left (by rw [h3]; omega), List.getElem?_append_left (by rw [h2]; omega)]
      simp only [u8s, putB, List.map_append]
      by_cases hq : j < p
      · rw [List.getElem?_append_left (by simp; omega)]
        simp only [List.getElem?_map, List.getElem?_take, if_pos hq]
      · rw [List.getElem?_append_right (by simp; omega), List.getElem?_append_right (by simp; omega)]
        simp only [List.length_map, h4, List.getElem?_map, List.getElem?_drop, List.length_take]
        congr 2; omega
    · rw [List.getElem?_append_right (by rw [h3]; omega), List.getElem?_append_right (by rw [h2]; omega), h2, h3]
/-- copy into an own slice, from place p on. -/
theorem a_copyO {k p : Nat} {xs ys : List UInt8} {S2 : Mem} {cs rs : List Value} {v2 : Value} (hu : P.underlying dT = some (.slice E)) (ts : TSz P E 1) (H : HS B S w L) (hk : lkR L k = some (.osl v xs.length 1 cs rs T')) (h0 : RL S cs xs)
    (hx : e x = subN v 1 p xs.length) (hp : p ≤ xs.length) (h2 : RdS S2 v2 ys) (hs2 : Sub S2 w) (hy : e y = v2) :
    ∃ w' r, (execOp e ⟨dst, .call ⟨.builtin .copy, #[x, y], #[dT, sT]⟩, ty, pos, aft, g⟩).run P w = .ok (.value r) w' ∧ r = .int .i64 ((min ys.length (xs.length - p) : Nat) : Int) ∧ ∃ cs', HS B S w' (stR L k (.osl v (putB xs p ys).length 1 cs' rs T')) ∧ RL S cs' (putB xs p ys) := by
  obtain ⟨ds, k1, k2⟩ := h2
  obtain rfl := k2.u8
  obtain rfl := h0.u8
  have k1w := k1.w hs2
  have hsz : Rp.sz UInt8 = 1 := rfl
  rw [hsz] at k1w
  generalize hn : min ys.length (xs.length - p) = n
  have hlen : (u8s (ys.take n)).length = n := by simp [u8s]; omega
  have hone : ∀ u ∈ u8s (ys.take n), u.oneCell' = true := (RL.of_u8s (S := S) (ys.take n)).one
  have hcells : (Builtin.firstCells 1 n v2).run P w = .ok (u8s (ys.take n)).toArray w ∧ (Builtin.lenOf v2).run P w = .ok ys.length w := by
    rcases k1w with ⟨h, h0, _⟩ | ⟨b, o, c, dd, T2, fz, h, hc, hh, hl, hpc⟩
    · obtain rfl : ys = [] := List.length_eq_zero_iff.1 h0
      obtain rfl : n = 0 := by rw [← hn]; simp
      rw [h]; constructor <;> simp [Builtin.firstCells, Builtin.lenOf, u8s]
    · have := run_loadCells_list (P := P) w ⟨b, o, none⟩ (u8s (ys.take n)) (fun j v hj => by
        have hjn : j < n := by have := (List.getElem?_eq_some_iff.1 hj).1; rwa [hlen] at this
        rw [add_addr, cell_of_F hh, ← hj]
        have h3 : (u8s ys)[j]? = (u8s (ys.take n))[j]? := by simp only [u8s, List.getElem?_map, List.getElem?_take, if_pos hjn]
        rw [← h3, ← hpc, piece_eq, List.getElem?_take, if_pos (by omega), List.getElem?_drop])
      rw [hlen] at this
      rw [h]; constructor
      · simpa [Builtin.firstCells, sl] using this
      · simp [Builtin.lenOf, sl]
  have hmin : Nat.min ys.length (xs.length - p) = n := hn
  rcases H.own k _ hk with ⟨h, hN, hcs, hrs⟩ | ⟨b, c, fz, hv, hc1, hc2, hc3, hc4, hc5⟩
  · obtain rfl : xs = [] := List.length_eq_zero_iff.1 hN
    obtain rfl : p = 0 := by simpa using hp
    obtain rfl : n = 0 := by rw [← hn]; simp
    refine ⟨w, _, ?_, rfl, u8s [], ?_, ?_⟩
    · subst h
      simp [execOp, resolve, invoke, builtin, hx, hy, subN, Builtin.copy_, Go.underlying, hu, hcells.1, hcells.2, ts w, goInt, hmin]
    · have : putB [] 0 ys = [] := by simp [putB]
      rw [this]
      exact H.upd hk (Nat.le_refl _) rfl rfl rfl (fun _ _ _ => rfl) (.inl ⟨h, rfl, hcs, hrs⟩) fun b' hb' => .inl hb'
    · have : putB [] 0 ys = [] := by simp [putB]
      rw [this]; rfl
  · obtain ⟨w', he, hb, hs, h4, h5, h6, h7⟩ := run_storeCellsF (P := P) (o := p) (u8s (ys.take n)) 0 w (u8s xs ++ rs) hone hc4 hc5 (by rw [hlen, List.length_append]; simp [u8s]; omega)
    refine ⟨w', _, ?_, rfl, u8s (putB xs p ys), ?_, RL.of_u8s _⟩
    · subst hv
      by_cases hcp : c = p
      · have h0' : n = 0 := by omega
        subst h0'
        have hw : w = w' := by simpa [storeCells, u8s] using he
        subst hw
        simp [execOp, resolve, invoke, builtin, hx, hy, subN, sl, hcp, Builtin.copy_, Go.underlying, hu, hcells.1, hcells.2, ts w, goInt, hmin, storeCells, u8s]
      · simp [execOp, resolve, invoke, builtin, hx, hy, subN, sl, hcp, Builtin.copy_, Go.underlying, hu, hcells.1, hcells.2, ts w, goInt, hmin, add_addr, he]
    · rw [Nat.add_zero, lay_u8s xs ys p n rs hn.symm hp] at hb
      refine H.upd hk (by omega) h4 h5 h6 (fun i _ hne => h7 i fun e => hne (by rw [e, hv]; rfl)) (.inr ⟨b, c, fz, by rw [putB_len _ _ _ hp]; exact hv, by rw [putB_len _ _ _ hp]; exact hc1, by simp [u8s], ?_, hb, ?_⟩) fun b' hb' => .inl hb'
      · simp only [u8s, List.length_append, List.length_map, putB_len _ _ _ hp] at hc3 ⊢; exact hc3
      · simp only [u8s, List.length_append, List.length_map, putB_len _ _ _ hp] at hc5 ⊢; exact hc5
theorem r_min {a b r : Int} {ats : Array TypeId} (hx : e x = .int .i64 a) (hy : e y = .int .i64 b) (h : (bif decide (a ≤ b) then a else b) = r) :
    (execOp e ⟨dst, .call ⟨.builtin .min, #[x, y], ats⟩, ty, pos, aft, g⟩).run P w = .ok (.value (.int .i64 r)) w := by
  subst h
  by_cases hc : a ≤ b
  · have h2 : ¬ b < a := by omega
    simp [execOp, resolve, invoke, builtin, hx, hy, Builtin.min_, Builtin.min2, hc, h2]
  · have h2 : b < a := by omega
    simp [execOp, resolve, invoke, builtin, hx, hy, Builtin.min_, Builtin.min2, hc, h2]
theorem HS.subAll {k N sz : Nat} {cs rs : List Value} (H : HS B S w L) (hk : lkR L k = some (.osl v N sz cs rs T')) : subN v sz 0 N = v := by
  rcases H.own k _ hk with ⟨h, hN, _⟩ | ⟨b, c, fz, hv, _⟩
  · subst hN; rw [h]; rfl
  · rw [hv]; simp only [subN, sl, Nat.zero_mul, Nat.sub_zero]
    split <;> simp [Addr.add]
end
end Go.Proofs.Ytmbcolbbekbccaa
