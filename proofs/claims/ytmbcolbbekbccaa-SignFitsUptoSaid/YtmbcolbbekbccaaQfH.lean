/- Steps of a walk: bytes copied into an own slice, a new row of whatever bytes, a slice's capacity cut. What some functions compute, and that they do. What more calls of packages field, curve and strings compute, over numbers in words. Conditions: as each theorem says. -/
import Derived.Lib.MakeNoZero
import Derived.Test.YtmbcolbbekbccaaQfG
namespace Go.Proofs.Ytmbcolbbekbccaa
open Go Go.RowKit
/-- What stands behind a copy of ys to place p of xs. -/
def putB (xs : List UInt8) (p : Nat) (ys : List UInt8) : List UInt8 := xs.take p ++ (ys.take (xs.length - p) ++ xs.drop (p + min ys.length (xs.length - p)))
theorem putB_len (xs : List UInt8) (p : Nat) (ys : List UInt8) (h : p ≤ xs.length) : (putB xs p ys).length = xs.length := by
  simp only [putB, List.length_append, List.length_take, List.length_drop]; omega
/-- A value for each list of n bytes that is one and the same. -/
noncomputable def anyJ {α : Type} (n : Nat) (f : List UInt8 → Option α) : Option α := by
  classical exact if h : ∃ r, ∀ l : List UInt8, l.length = n → f l = some r then some (Classical.choose h) else none
theorem anyJ_some {α : Type} {n : Nat} {f : List UInt8 → Option α} {r : α} (h : anyJ n f = some r) (l : List UInt8) (hl : l.length = n) : f l = some r := by
  unfold anyJ at h
  split at h
  · rename_i hc
    obtain rfl := Option.some.inj h
    exact Classical.choose_spec hc l hl
  · cases h
theorem anyJ_intro {α : Type} {n : Nat} {f : List UInt8 → Option α} {r : α} (h : ∀ l : List UInt8, l.length = n → f l = some r) : anyJ n f = some r := by
  unfold anyJ
  have hc : ∃ r, ∀ l : List UInt8, l.length = n → f l = some r := ⟨r, h⟩
  rw [dif_pos hc]
  have h1 := Classical.choose_spec hc (List.replicate n 0) (by simp)
  rw [h _ (by simp)] at h1
  exact h1.symm
theorem RL.u8 {S : Mem} : ∀ {xs : List UInt8} {cs : List Value}, RL S cs xs → cs = u8s xs
  | [], _, h => h
  | x :: xs, _, ⟨c, d, e, h1, h2⟩ => by
    obtain rfl := elU8 h1
    rw [e, RL.u8 h2]; rfl
theorem digits_u8 : ∀ (n t : Nat) (acc : List UInt8), ∃ l : List UInt8, l.length = n ∧ Extern.BytealgMakeNoZero.digits n t (u8s acc).toArray = (u8s (acc ++ l)).toArray
  | 0, _, acc => ⟨[], rfl, by simp [Extern.BytealgMakeNoZero.digits]⟩
  | n + 1, t, acc => by
    obtain ⟨l, h1, h2⟩ := digits_u8 n (t / 256) (acc ++ [UInt8.ofNat (t % 256)])
    refine ⟨UInt8.ofNat (t % 256) :: l, by simp [h1], ?_⟩
    have e : ((u8s acc).toArray.push (.int .u8 (Int.ofNat (t % 256)))) = (u8s (acc ++ [UInt8.ofNat (t % 256)])).toArray := by
      simp [u8s]
    rw [Extern.BytealgMakeNoZero.digits, e, h2]; simp
section
variable {P : Program}
theorem run_mnz (w : World) (ps : Array TypeId) (t e : TypeId) (ht : P.underlying t = some (.slice e)) (n : Nat) (hn : n ≤ 281474976710656) :
    ∃ l : List UInt8, n ≤ l.length ∧ (Extern.BytealgMakeNoZero.makeNoZero ps #[t] #[.int .i64 n]).run P w = .ok (sl w.heap.size 0 n l.length) (w.drew.drew.alloc (.cells (u8s l).toArray e)) := by
  obtain ⟨l, h1, h2⟩ := digits_u8 (grownCap w n 0 e) ((Question.extern "internal/bytealg.MakeNoZero.bytes" 0).cut (w.tape (w.drawn + 1) (.extern "internal/bytealg.MakeNoZero.bytes" 0))) []
  refine ⟨l, by rw [h1]; simpa using grownCap_ge w n 0 e, ?_⟩
  have a1 : ¬ (n : Int) < 0 := by omega
  have a2 : ¬ (281474976710656 : Int) < (n : Int) := by omega
  rw [show (u8s l).toArray = Extern.BytealgMakeNoZero.digits (grownCap w n 0 e) _ #[] from h2.symm, h1]
  delta Extern.BytealgMakeNoZero.makeNoZero
  delta Extern.BytealgMakeNoZero.makeNoZero.match_3
  delta Extern.BytealgMakeNoZero.makeNoZero._sparseCasesOn_3 Extern.BytealgMakeNoZero.makeNoZero._sparseCasesOn_4
  dsimp [Array.getLit]
  simp [run_underlying ht, a1, a2, Question.forced, newRow, grownCap, sl]
end
section
variable {P : Program} {w : World} {B : Bas} {S : Mem} {L : List Res} {T T' E dT sT : TypeId} {e : Operand → Value} {x y lo hi mx : Operand} {dst : Option Tmp} {pos : String} {aft : Array Edge} {ty : TypeId} {g : Option (Nat × Bool)} {v : Value} {k1 k2 : IntKind}
theorem a_mnz {fn : Func} {f : FuncId} {at_ ps : Array TypeId} {t : TypeId} {a : Int} (hf : P.funcs[f]? = some fn) (hname : (fn.name == "runtime.NumGoroutine") = false) (hb : fn.body.isNone = true) (hn : Extern.findNext fn = none)
    (he : Extern.find fn = some (Extern.BytealgMakeNoZero.makeNoZero ps #[t])) (ht : P.underlying t = some (.slice E)) (he0 : e (.func f) = .func (.func f) #[] #[]) (H : HS B S w L) (hx : e x = .int .i64 a) (h0 : 0 ≤ a) (h1 : a ≤ (LIM : Int)) :
    ∃ w' v, (execOp e ⟨dst, .call ⟨.value (.func f), #[x], at_⟩, ty, pos, aft, g⟩).run P w = .ok (.value v) w' ∧ ∃ b c jk jr, v = sl b 0 jk.length c ∧ jk.length = a.toNat ∧ HS B S w' (.osl (sl b 0 jk.length c) jk.length 1 (u8s jk) (u8s jr) E :: L) := by
  have h1' : a ≤ 68719476736 := h1
  obtain ⟨n, rfl⟩ := Int.eq_ofNat_of_zero_le h0
  obtain ⟨l, hl, hrun⟩ := run_mnz w ps t E ht n (by omega)
  have hc : (callFunc f #[.int .i64 (n : Int)]).run P w = .ok (.value (sl w.heap.size 0 n l.length)) (w.drew.drew.alloc (.cells (u8s l).toArray E)) := by
    rw [run_callFunc_extern hf hname hb hn he, hrun]; rfl
  have hlen : (l.take n).length = n := by simp; omega
  have hop : (execOp e ⟨dst, .call ⟨.value (.func f), #[x], at_⟩, ty, pos, aft, g⟩).run P w = .ok (.value (sl w.heap.size 0 n l.length)) (w.drew.drew.alloc (.cells (u8s l).toArray E)) := by
    simp only [execOp, resolve, he0, Deferred.ofValue, Sem.run_bind, Sem.run_pure, Result.andThen, invoke]
    simpa [hx] using hc
  refine ⟨_, _, hop, w.heap.size, l.length, l.take n, l.drop n, by rw [hlen], by rw [hlen]; exact (Int.toNat_natCast n).symm, ?_⟩
  rw [hlen]
  refine H.push (Ext.trans (Ext.drew w) (Ext.trans (Ext.drew w.drew) (Ext.alloc w.drew.drew _))) (.inr ⟨w.heap.size, l.length, (0, 0), rfl, hl, by simp [u8s]; omega, by simp [u8s], ?_, .inl rfl⟩) fun b hb => by cases hb; exact Nat.le_refl _
  have : u8s (l.take n) ++ u8s (l.drop n) = u8s l := by simp only [u8s, ← List.map_append, List.take_append_drop]
  rw [this]
  exact heap_alloc_self w.drew.drew _
/-- s[:n:n] of an own slice of n elements: its room is cut. -/
theorem r_sliceC {b c N sz : Nat} {a : Int} (hu : P.underlying T = some (.slice E)) (ts : TSz P E sz) (hx : e x = sl b 0 N c) (hy : e hi = .int k1 a) (hz : e mx = .int k2 a) (ha : a = (N : Int)) (hc : N ≤ c) :
    (execOp e ⟨dst, .slice T x none (some hi) (some mx), ty, pos, aft, g⟩).run P w = .ok (.value (sl b 0 N N)) w := by
  simp [execOp, Instr.sliceAt, Go.underlying, hu, Instr.slice, Instr.sliceBounds, hx, hy, hz, sl, run_bound (P := P) (w := w) ha hc, run_bound (P := P) (w := w) ha (Nat.le_refl _), ts w, Addr.add]
theorem HS.recap {k b c N sz : Nat} {cs rs : List Value} (H : HS B S w L) (hk : lkR L k = some (.osl (sl b 0 N c) N sz cs rs T')) : HS B S w (stR L k (.osl (sl b 0 N N) N sz cs rs T')) := by
  rcases H.own k _ hk with ⟨h, _⟩ | ⟨b', c', fz, hv', h1, h2, h3, h4, h5⟩
  · cases h
  · injection hv' with e1 e2 e3
    injection e1 with e1
    injection e1 with e1 _ _
    subst e1; subst e3
    exact H.upd hk (Nat.le_refl _) rfl rfl rfl (fun _ _ _ => rfl) (.inr ⟨b, N, fz, rfl, Nat.le_refl _, h2, Nat.le_trans (Nat.mul_le_mul_right sz h1) h3, h4, h5⟩) fun b' hb' => .inl hb'
theorem capOf {k b c N sz : Nat} {cs rs : List Value} (H : HS B S w L) (hk : lkR L k = some (.osl (sl b 0 N c) N sz cs rs T')) : N ≤ c := by
  rcases H.own k _ hk with ⟨h, _⟩ | ⟨b', c', fz, hv', h1, _⟩
  · cases h
  · injection hv' with e1 e2 e3
    subst e3; exact h1
theorem lay_u8s (xs ys : List UInt8) (p n : Nat) (rs : List Value) (hn : n = min ys.length (xs.length - p)) (hp : p ≤ xs.length) : lay (u8s xs ++ rs) p (u8s (ys.take n)) = u8s (putB xs p ys) ++ rs := by
  apply List.ext_getElem?
  intro j
  rw [lay_get]
  have h1 : (u8s (ys.take n)).length = n := by simp [u8s]; omega
  have h2 : (u8s (putB xs p ys)).length = xs.length := by rw [u8s, List.length_map, putB_len _ _ _ hp]
  have h3 : (u8s xs).length = xs.length := by simp [u8s]
  have h4 : (xs.take p).length = p := by simp; omega
  by_cases hj : p ≤ j ∧ j < p + n
  · rw [if_pos (by rw [h1, List.length_append, h3]; omega), List.getElem?_append_left (by rw [h2]; omega)]
    simp only [u8s, putB, List.map_append]
    rw [List.getElem?_append_right (by simp; omega), List.getElem?_append_left (by simp; omega)]
    simp only [List.length_map, h4, List.getElem?_map, List.getElem?_take]
    rw [if_pos (by omega), if_pos (by omega)]
  · rw [if_neg (by rw [h1]; omega)]
    by_cases hx : j < xs.length
    · rw [List.getElem?_append_left (by rw [h3]; omega), List.getElem?_append_left (by rw [h2]; omega)]
      simp only [u8s, putB, List.map_append]
      by_cases hq : j < p
      · rw [List.getElem?_append_left (by simp; omega)]
        simp only [List.getElem?_map, List.getElem?_take, if_pos hq]
      · rw [List.getElem?_append_right (by simp; omega), List.getElem?_append_right (by simp; omega)]
        simp only [List.length_map, h4, List.getElem?_map, List.getElem?_drop, List.length_take]
        congr 2; omega
    · rw [List.getElem?_append_right (by rw [h3]; omega), List.getElem?_append_right (by rw [h2]; omega), h2, h3]
/-- copy into an own slice, from place p on. -/
theorem a_copyO {k p : Nat} {xs ys : List UInt8} {S2 : Mem} {cs rs : List Value} {v2 : Value} (hu : P.underlying dT = some (.slice E)) (ts : TSz P E 1) (H : HS B S w L) (hk : lkR L k = some (.osl v xs.length 1 cs rs T')) (h0 : RL S cs xs)
    (hx : e x = subN v 1 p xs.length) (hp : p ≤ xs.length) (h2 : RdS S2 v2 ys) (hs2 : Sub S2 w) (hy : e y = v2) :
    ∃ w' r, (execOp e ⟨dst, .call ⟨.builtin .copy, #[x, y], #[dT, sT]⟩, ty, pos, aft, g⟩).run P w = .ok (.value r) w' ∧ r = .int .i64 ((min ys.length (xs.length - p) : Nat) : Int) ∧ ∃ cs', HS B S w' (stR L k (.osl v (putB xs p ys).length 1 cs' rs T')) ∧ RL S cs' (putB xs p ys) := by
  obtain ⟨ds, k1, k2⟩ := h2
  obtain rfl := k2.u8
  obtain rfl := h0.u8
  have k1w := k1.w hs2
  have hsz : Rp.sz UInt8 = 1 := rfl
  rw [hsz] at k1w
  generalize hn : min ys.length (xs.length - p) = n
  have hlen : (u8s (ys.take n)).length = n := by simp [u8s]; omega
  have hone : ∀ u ∈ u8s (ys.take n), u.oneCell' = true := (RL.of_u8s (S := S) (ys.take n)).one
  have hcells : (Builtin.firstCells 1 n v2).run P w = .ok (u8s (ys.take n)).toArray w ∧ (Builtin.lenOf v2).run P w = .ok ys.length w := by
    rcases k1w with ⟨h, h0, _⟩ | ⟨b, o, c, dd, T2, fz, h, hc, hh, hl, hpc⟩
    · obtain rfl : ys = [] := List.length_eq_zero_iff.1 h0
      obtain rfl : n = 0 := by rw [← hn]; simp
      rw [h]; constructor <;> simp [Builtin.firstCells, Builtin.lenOf, u8s]
    · have := run_loadCells_list (P := P) w ⟨b, o, none⟩ (u8s (ys.take n)) (fun j v hj => by
        have hjn : j < n := by have := (List.getElem?_eq_some_iff.1 hj).1; rwa [hlen] at this
        rw [add_addr, cell_of_F hh, ← hj]
        have h3 : (u8s ys)[j]? = (u8s (ys.take n))[j]? := by simp only [u8s, List.getElem?_map, List.getElem?_take, if_pos hjn]
        rw [← h3, ← hpc, piece_eq, List.getElem?_take, if_pos (by omega), List.getElem?_drop])
      rw [hlen] at this
      rw [h]; constructor
      · simpa [Builtin.firstCells, sl] using this
      · simp [Builtin.lenOf, sl]
  have hmin : Nat.min ys.length (xs.length - p) = n := hn
  rcases H.own k _ hk with ⟨h, hN, hcs, hrs⟩ | ⟨b, c, fz, hv, hc1, hc2, hc3, hc4, hc5⟩
  · obtain rfl : xs = [] := List.length_eq_zero_iff.1 hN
    obtain rfl : p = 0 := by simpa using hp
    obtain rfl : n = 0 := by rw [← hn]; simp
    refine ⟨w, _, ?_, rfl, u8s [], ?_, ?_⟩
    · subst h
      simp [execOp, resolve, invoke, builtin, hx, hy, subN, Builtin.copy_, Go.underlying, hu, hcells.1, hcells.2, ts w, goInt, hmin]
    · have : putB [] 0 ys = [] := by simp [putB]
      rw [this]
      exact H.upd hk (Nat.le_refl _) rfl rfl rfl (fun _ _ _ => rfl) (.inl ⟨h, rfl, hcs, hrs⟩) fun b' hb' => .inl hb'
    · have : putB [] 0 ys = [] := by simp [putB]
      rw [this]; rfl
  · obtain ⟨w', he, hb, hs, h4, h5, h6, h7⟩ := run_storeCellsF (P := P) (o := p) (u8s (ys.take n)) 0 w (u8s xs ++ rs) hone hc4 hc5 (by rw [hlen, List.length_append]; simp [u8s]; omega)
    refine ⟨w', _, ?_, rfl, u8s (putB xs p ys), ?_, RL.of_u8s _⟩
    · subst hv
      by_cases hcp : c = p
      · have h0' : n = 0 := by omega
        subst h0'
        have hw : w = w' := by simpa [storeCells, u8s] using he
        subst hw
        simp [execOp, resolve, invoke, builtin, hx, hy, subN, sl, hcp, Builtin.copy_, Go.underlying, hu, hcells.1, hcells.2, ts w, goInt, hmin, storeCells, u8s]
      · simp [execOp, resolve, invoke, builtin, hx, hy, subN, sl, hcp, Builtin.copy_, Go.underlying, hu, hcells.1, hcells.2, ts w, goInt, hmin, add_addr, he]
    · rw [Nat.add_zero, lay_u8s xs ys p n rs hn.symm hp] at hb
      refine H.upd hk (by omega) h4 h5 h6 (fun i _ hne => h7 i fun e => hne (by rw [e, hv]; rfl)) (.inr ⟨b, c, fz, by rw [putB_len _ _ _ hp]; exact hv, by rw [putB_len _ _ _ hp]; exact hc1, by simp [u8s], ?_, hb, ?_⟩) fun b' hb' => .inl hb'
      · simp only [u8s, List.length_append, List.length_map, putB_len _ _ _ hp] at hc3 ⊢; exact hc3
      · simp only [u8s, List.length_append, List.length_map, putB_len _ _ _ hp] at hc5 ⊢; exact hc5
theorem r_min {a b r : Int} {ats : Array TypeId} (hx : e x = .int .i64 a) (hy : e y = .int .i64 b) (h : (bif decide (a ≤ b) then a else b) = r) :
    (execOp e ⟨dst, .call ⟨.builtin .min, #[x, y], ats⟩, ty, pos, aft, g⟩).run P w = .ok (.value (.int .i64 r)) w := by
  subst h
  by_cases hc : a ≤ b
  · have h2 : ¬ b < a := by omega
    simp [execOp, resolve, invoke, builtin, hx, hy, Builtin.min_, Builtin.min2, hc, h2]
  · have h2 : b < a := by omega
    simp [execOp, resolve, invoke, builtin, hx, hy, Builtin.min_, Builtin.min2, hc, h2]
theorem HS.subAll {k N sz : Nat} {cs rs : List Value} (H : HS B S w L) (hk : lkR L k = some (.osl v N sz cs rs T')) : subN v sz 0 N = v := by
  rcases H.own k _ hk with ⟨h, hN, _⟩ | ⟨b, c, fz, hv, _⟩
  · subst hN; rw [h]; rfl
  · rw [hv]; simp only [subN, sl, Nat.zero_mul, Nat.sub_zero]
    split <;> simp [Addr.add]
end
end Go.Proofs.Ytmbcolbbekbccaa
namespace Go.Proofs.Ytmbcolbbekbccaa
open Go Go.RowKit
attribute [local irreducible] wpList wpT Code.wp Calls Code.rounds
theorem to5 : TOne Try.prog 5 := ⟨fun _ => by kernel_rfl, fun _ => by kernel_rfl⟩
theorem is39 : IsFn Try.prog 39 := isFn Try.func39 (by kernel_rfl) (by kernel_rfl)
theorem is40 : IsFn Try.prog 40 := isFn Try.func40 (by kernel_rfl) (by kernel_rfl)
theorem is43 : IsFn Try.prog 43 := isFn Try.func43 (by kernel_rfl) (by kernel_rfl)
def math_bits_Mul64_p (x0 : UInt64) (x1 : UInt64) : Option (UInt64 × UInt64) :=
  some (((i64 ((((i64 ((((i64 ((((i64 (shrI .u64 ((x0).toNat : Int) 32))).toNat : Int) * (((i64 (shrI .u64 ((x1).toNat : Int) 32))).toNat : Int)))).toNat : Int) + (((i64 (shrI .u64 (((i64 ((((i64 ((((i64 (shrI .u64 ((x0).toNat : Int) 32))).toNat : Int) * (((x1 &&& (4294967295 : UInt64))).toNat : Int)))).toNat : Int) + (((i64 (shrI .u64 (((i64 ((((x0 &&& (4294967295 : UInt64))).toNat : Int) * (((x1 &&& (4294967295 : UInt64))).toNat : Int)))).toNat : Int) 32))).toNat : Int)))).toNat : Int) 32))).toNat : Int)))).toNat : Int) + (((i64 (shrI .u64 (((i64 (((((i64 ((((i64 ((((i64 (shrI .u64 ((x0).toNat : Int) 32))).toNat : Int) * (((x1 &&& (4294967295 : UInt64))).toNat : Int)))).toNat : Int) + (((i64 (shrI .u64 (((i64 ((((x0 &&& (4294967295 : UInt64))).toNat : Int) * (((x1 &&& (4294967295 : UInt64))).toNat : Int)))).toNat : Int) 32))).toNat : Int))) &&& (4294967295 : UInt64))).toNat : Int) + (((i64 ((((x0 &&& (4294967295 : UInt64))).toNat : Int) * (((i64 (shrI .u64 ((x1).toNat : Int) 32))).toNat : Int)))).toNat : Int)))).toNat : Int) 32))).toNat : Int))), (i64 (((x0).toNat : Int) * ((x1).toNat : Int)))))
theorem math_bits_Mul64_c {S : Mem} {w : World} (hS : Sub S w) {x0 : UInt64} {x1 : UInt64} {r : UInt64 × UInt64} (hF : math_bits_Mul64_p x0 x1 = some r) :
    Calls Try.prog 73 #[.int .u64 (((x0).toNat : Int)), .int .u64 (((x1).toNat : Int))] w fun e w' => e = .returned (.tuple #[.int .u64 (((r.1).toNat : Int)), .int .u64 (((r.2).toNat : Int))]) ∧ Ext w w' := by
 refine enter (n := 51) Try.func73 rfl rfl rfl ?_
 have H := HS.start hS
 unfold math_bits_Mul64_p at hF
 refine sr ?_; intro K1 hK1
 refine p_as (v := .int .u64 (0)) rfl ?_
 refine p_as (v := .int .u64 (0)) rfl ?_
 refine xk hK1 ?_; clear hK1
 refine sr ?_; intro K2 hK2
 refine p_mv (v := .int .u64 (((x0).toNat : Int))) rfl ?_
 refine p_val (r_bits (bo := .and) (by simp) rfl rfl (i64_and _ (4294967295 : UInt64))) ?_
 refine p_as (v := .int .u64 ((((x0 &&& (4294967295 : UInt64))).toNat : Int))) rfl ?_
 refine xk hK2 ?_; clear hK2
 refine sr ?_; intro K3 hK3
 refine p_mv (v := .int .u64 (((x0).toNat : Int))) rfl ?_
 refine p_val (r_shr rfl rfl (by decide) (i64_shr _ _)) ?_
 refine p_as (v := .int .u64 ((((i64 (shrI .u64 ((x0).toNat : Int) 32))).toNat : Int))) rfl ?_
 refine xk hK3 ?_; clear hK3
 refine sr ?_; intro K4 hK4
 refine p_mv (v := .int .u64 (((x1).toNat : Int))) rfl ?_
 refine p_val (r_bits (bo := .and) (by simp) rfl rfl (i64_and _ (4294967295 : UInt64))) ?_
 refine p_as (v := .int .u64 ((((x1 &&& (4294967295 : UInt64))).toNat : Int))) rfl ?_
 refine xk hK4 ?_; clear hK4
 refine sr ?_; intro K5 hK5
 refine p_mv (v := .int .u64 (((x1).toNat : Int))) rfl ?_
 refine p_val (r_shr rfl rfl (by decide) (i64_shr _ _)) ?_
 refine p_as (v := .int .u64 ((((i64 (shrI .u64 ((x1).toNat : Int) 32))).toNat : Int))) rfl ?_
 refine xk hK5 ?_; clear hK5
 refine sr ?_; intro K6 hK6
 refine p_mv (v := .int .u64 ((((x0 &&& (4294967295 : UInt64))).toNat : Int))) rfl ?_
 refine p_mv (v := .int .u64 ((((x1 &&& (4294967295 : UInt64))).toNat : Int))) rfl ?_
 refine p_val (r_mul rfl rfl (i64_wrap _)) ?_
 refine p_as (v := .int .u64 ((((i64 ((((x0 &&& (4294967295 : UInt64))).toNat : Int) * (((x1 &&& (4294967295 : UInt64))).toNat : Int)))).toNat : Int))) rfl ?_
 refine xk hK6 ?_; clear hK6
 refine sr ?_; intro K7 hK7
 refine p_mv (v := .int .u64 ((((i64 (shrI .u64 ((x0).toNat : Int) 32))).toNat : Int))) rfl ?_
 refine p_mv (v := .int .u64 ((((x1 &&& (4294967295 : UInt64))).toNat : Int))) rfl ?_
 refine p_val (r_mul rfl rfl (i64_wrap _)) ?_
 refine p_mv (v := .int .u64 ((((i64 ((((x0 &&& (4294967295 : UInt64))).toNat : Int) * (((x1 &&& (4294967295 : UInt64))).toNat : Int)))).toNat : Int))) rfl ?_
 refine p_val (r_shr rfl rfl (by decide) (i64_shr _ _)) ?_
 refine p_val (r_add rfl rfl (i64_wrap _)) ?_
 refine p_as (v := .int .u64 ((((i64 ((((i64 ((((i64 (shrI .u64 ((x0).toNat : Int) 32))).toNat : Int) * (((x1 &&& (4294967295 : UInt64))).toNat : Int)))).toNat : Int) + (((i64 (shrI .u64 (((i64 ((((x0 &&& (4294967295 : UInt64))).toNat : Int) * (((x1 &&& (4294967295 : UInt64))).toNat : Int)))).toNat : Int) 32))).toNat : Int)))).toNat : Int))) rfl ?_
 refine xk hK7 ?_; clear hK7
 refine sr ?_; intro K8 hK8
 refine p_mv (v := .int .u64 ((((i64 ((((i64 ((((i64 (shrI .u64 ((x0).toNat : Int) 32))).toNat : Int) * (((x1 &&& (4294967295 : UInt64))).toNat : Int)))).toNat : Int) + (((i64 (shrI .u64 (((i64 ((((x0 &&& (4294967295 : UInt64))).toNat : Int) * (((x1 &&& (4294967295 : UInt64))).toNat : Int)))).toNat : Int) 32))).toNat : Int)))).toNat : Int))) rfl ?_
 refine p_val (r_bits (bo := .and) (by simp) rfl rfl (i64_and _ (4294967295 : UInt64))) ?_
 refine p_as (v := .int .u64 (((((i64 ((((i64 ((((i64 (shrI .u64 ((x0).toNat : Int) 32))).toNat : Int) * (((x1 &&& (4294967295 : UInt64))).toNat : Int)))).toNat : Int) + (((i64 (shrI .u64 (((i64 ((((x0 &&& (4294967295 : UInt64))).toNat : Int) * (((x1 &&& (4294967295 : UInt64))).toNat : Int)))).toNat : Int) 32))).toNat : Int))) &&& (4294967295 : UInt64))).toNat : Int))) rfl ?_
 refine xk hK8 ?_; clear hK8
 refine sr ?_; intro K9 hK9
 refine p_mv (v := .int .u64 ((((i64 ((((i64 ((((i64 (shrI .u64 ((x0).toNat : Int) 32))).toNat : Int) * (((x1 &&& (4294967295 : UInt64))).toNat : Int)))).toNat : Int) + (((i64 (shrI .u64 (((i64 ((((x0 &&& (4294967295 : UInt64))).toNat : Int) * (((x1 &&& (4294967295 : UInt64))).toNat : Int)))).toNat : Int) 32))).toNat : Int)))).toNat : Int))) rfl ?_
 refine p_val (r_shr rfl rfl (by decide) (i64_shr _ _)) ?_
 refine p_as (v := .int .u64 ((((i64 (shrI .u64 (((i64 ((((i64 ((((i64 (shrI .u64 ((x0).toNat : Int) 32))).toNat : Int) * (((x1 &&& (4294967295 : UInt64))).toNat : Int)))).toNat : Int) + (((i64 (shrI .u64 (((i64 ((((x0 &&& (4294967295 : UInt64))).toNat : Int) * (((x1 &&& (4294967295 : UInt64))).toNat : Int)))).toNat : Int) 32))).toNat : Int)))).toNat : Int) 32))).toNat : Int))) rfl ?_
 refine xk hK9 ?_; clear hK9
 refine sr ?_; intro K10 hK10
 refine p_mv (v := .int .u64 (((((i64 ((((i64 ((((i64 (shrI .u64 ((x0).toNat : Int) 32))).toNat : Int) * (((x1 &&& (4294967295 : UInt64))).toNat : Int)))).toNat : Int) + (((i64 (shrI .u64 (((i64 ((((x0 &&& (4294967295 : UInt64))).toNat : Int) * (((x1 &&& (4294967295 : UInt64))).toNat : Int)))).toNat : Int) 32))).toNat : Int))) &&& (4294967295 : UInt64))).toNat : Int))) rfl ?_
 refine p_mv (v := .int .u64 ((((x0 &&& (4294967295 : UInt64))).toNat : Int))) rfl ?_
 refine p_mv (v := .int .u64 ((((i64 (shrI .u64 ((x1).toNat : Int) 32))).toNat : Int))) rfl ?_
 refine p_val (r_mul rfl rfl (i64_wrap _)) ?_
 refine p_val (r_add rfl rfl (i64_wrap _)) ?_
 refine p_as (v := .int .u64 ((((i64 (((((i64 ((((i64 ((((i64 (shrI .u64 ((x0).toNat : Int) 32))).toNat : Int) * (((x1 &&& (4294967295 : UInt64))).toNat : Int)))).toNat : Int) + (((i64 (shrI .u64 (((i64 ((((x0 &&& (4294967295 : UInt64))).toNat : Int) * (((x1 &&& (4294967295 : UInt64))).toNat : Int)))).toNat : Int) 32))).toNat : Int))) &&& (4294967295 : UInt64))).toNat : Int) + (((i64 ((((x0 &&& (4294967295 : UInt64))).toNat : Int) * (((i64 (shrI .u64 ((x1).toNat : Int) 32))).toNat : Int)))).toNat : Int)))).toNat : Int))) rfl ?_
 refine xk hK10 ?_; clear hK10
 refine sr ?_; intro K11 hK11
 refine p_mv (v := .int .u64 ((((i64 (shrI .u64 ((x0).toNat : Int) 32))).toNat : Int))) rfl ?_
 refine p_mv (v := .int .u64 ((((i64 (shrI .u64 ((x1).toNat : Int) 32))).toNat : Int))) rfl ?_
 refine p_val (r_mul rfl rfl (i64_wrap _)) ?_
 refine p_mv (v := .int .u64 ((((i64 (shrI .u64 (((i64 ((((i64 ((((i64 (shrI .u64 ((x0).toNat : Int) 32))).toNat : Int) * (((x1 &&& (4294967295 : UInt64))).toNat : Int)))).toNat : Int) + (((i64 (shrI .u64 (((i64 ((((x0 &&& (4294967295 : UInt64))).toNat : Int) * (((x1 &&& (4294967295 : UInt64))).toNat : Int)))).toNat : Int) 32))).toNat : Int)))).toNat : Int) 32))).toNat : Int))) rfl ?_
 refine p_val (r_add rfl rfl (i64_wrap _)) ?_
 refine p_mv (v := .int .u64 ((((i64 (((((i64 ((((i64 ((((i64 (shrI .u64 ((x0).toNat : Int) 32))).toNat : Int) * (((x1 &&& (4294967295 : UInt64))).toNat : Int)))).toNat : Int) + (((i64 (shrI .u64 (((i64 ((((x0 &&& (4294967295 : UInt64))).toNat : Int) * (((x1 &&& (4294967295 : UInt64))).toNat : Int)))).toNat : Int) 32))).toNat : Int))) &&& (4294967295 : UInt64))).toNat : Int) + (((i64 ((((x0 &&& (4294967295 : UInt64))).toNat : Int) * (((i64 (shrI .u64 ((x1).toNat : Int) 32))).toNat : Int)))).toNat : Int)))).toNat : Int))) rfl ?_
 refine p_val (r_shr rfl rfl (by decide) (i64_shr _ _)) ?_
 refine p_val (r_add rfl rfl (i64_wrap _)) ?_
 refine p_as (v := .int .u64 ((((i64 ((((i64 ((((i64 ((((i64 (shrI .u64 ((x0).toNat : Int) 32))).toNat : Int) * (((i64 (shrI .u64 ((x1).toNat : Int) 32))).toNat : Int)))).toNat : Int) + (((i64 (shrI .u64 (((i64 ((((i64 ((((i64 (shrI .u64 ((x0).toNat : Int) 32))).toNat : Int) * (((x1 &&& (4294967295 : UInt64))).toNat : Int)))).toNat : Int) + (((i64 (shrI .u64 (((i64 ((((x0 &&& (4294967295 : UInt64))).toNat : Int) * (((x1 &&& (4294967295 : UInt64))).toNat : Int)))).toNat : Int) 32))).toNat : Int)))).toNat : Int) 32))).toNat : Int)))).toNat : Int) + (((i64 (shrI .u64 (((i64 (((((i64 ((((i64 ((((i64 (shrI .u64 ((x0).toNat : Int) 32))).toNat : Int) * (((x1 &&& (4294967295 : UInt64))).toNat : Int)))).toNat : Int) + (((i64 (shrI .u64 (((i64 ((((x0 &&& (4294967295 : UInt64))).toNat : Int) * (((x1 &&& (4294967295 : UInt64))).toNat : Int)))).toNat : Int) 32))).toNat : Int))) &&& (4294967295 : UInt64))).toNat : Int) + (((i64 ((((x0 &&& (4294967295 : UInt64))).toNat : Int) * (((i64 (shrI .u64 ((x1).toNat : Int) 32))).toNat : Int)))).toNat : Int)))).toNat : Int) 32))).toNat : Int)))).toNat : Int))) rfl ?_
 refine xk hK11 ?_; clear hK11
 refine sr ?_; intro K12 hK12
 refine p_mv (v := .int .u64 (((x0).toNat : Int))) rfl ?_
 refine p_mv (v := .int .u64 (((x1).toNat : Int))) rfl ?_
 refine p_val (r_mul rfl rfl (i64_wrap _)) ?_
 refine p_as (v := .int .u64 ((((i64 (((x0).toNat : Int) * ((x1).toNat : Int)))).toNat : Int))) rfl ?_
 refine xk hK12 ?_; clear hK12
 refine wp_ret ?_
 obtain rfl := Option.some.inj hF
 refine e_2 rfl (q_tmp (v := .int .u64 ((((i64 ((((i64 ((((i64 ((((i64 (shrI .u64 ((x0).toNat : Int) 32))).toNat : Int) * (((i64 (shrI .u64 ((x1).toNat : Int) 32))).toNat : Int)))).toNat : Int) + (((i64 (shrI .u64 (((i64 ((((i64 ((((i64 (shrI .u64 ((x0).toNat : Int) 32))).toNat : Int) * (((x1 &&& (4294967295 : UInt64))).toNat : Int)))).toNat : Int) + (((i64 (shrI .u64 (((i64 ((((x0 &&& (4294967295 : UInt64))).toNat : Int) * (((x1 &&& (4294967295 : UInt64))).toNat : Int)))).toNat : Int) 32))).toNat : Int)))).toNat : Int) 32))).toNat : Int)))).toNat : Int) + (((i64 (shrI .u64 (((i64 (((((i64 ((((i64 ((((i64 (shrI .u64 ((x0).toNat : Int) 32))).toNat : Int) * (((x1 &&& (4294967295 : UInt64))).toNat : Int)))).toNat : Int) + (((i64 (shrI .u64 (((i64 ((((x0 &&& (4294967295 : UInt64))).toNat : Int) * (((x1 &&& (4294967295 : UInt64))).toNat : Int)))).toNat : Int) 32))).toNat : Int))) &&& (4294967295 : UInt64))).toNat : Int) + (((i64 ((((x0 &&& (4294967295 : UInt64))).toNat : Int) * (((i64 (shrI .u64 ((x1).toNat : Int) 32))).toNat : Int)))).toNat : Int)))).toNat : Int) 32))).toNat : Int)))).toNat : Int))) rfl) (q_tmp (v := .int .u64 ((((i64 (((x0).toNat : Int) * ((x1).toNat : Int)))).toNat : Int))) rfl) ?_
 exact ⟨rfl, H.toExt⟩
def math_bits_Mul_p (x0 : UInt64) (x1 : UInt64) : Option (UInt64 × UInt64) :=
  Option.bind (math_bits_Mul64_p x0 x1) fun y1 => some ((y1.1, y1.2))
theorem math_bits_Mul_c {S : Mem} {w : World} (hS : Sub S w) {x0 : UInt64} {x1 : UInt64} {r : UInt64 × UInt64} (hF : math_bits_Mul_p x0 x1 = some r) :
    Calls Try.prog 43 #[.int .u64 (((x0).toNat : Int)), .int .u64 (((x1).toNat : Int))] w fun e w' => e = .returned (.tuple #[.int .u64 (((r.1).toNat : Int)), .int .u64 (((r.2).toNat : Int))]) ∧ Ext w w' := by
 refine enter (n := 30) Try.func43 rfl rfl rfl ?_
 have H := HS.start hS
 unfold math_bits_Mul_p at hF
 refine sr ?_; intro K1 hK1
 refine p_as (v := .int .u64 (0)) rfl ?_
 refine p_as (v := .int .u64 (0)) rfl ?_
 refine xk hK1 ?_; clear hK1
 refine wp_seq_k ?_; intro K2 hK2
 refine c_false (t := false) rfl rfl ?_
 refine wp_skip ?_
 refine xn hK2 ?_; clear hK2
 refine sr ?_; intro K3 hK3
 refine p_mv (v := .int .u64 (((x0).toNat : Int))) rfl ?_
 refine p_mv (v := .int .u64 (((x1).toNat : Int))) rfl ?_
 obtain ⟨y1, e1, hF⟩ := bnd hF
 refine p_call (l := [.int .u64 (((x0).toNat : Int)), .int .u64 (((x1).toNat : Int))]) is73 rfl ?_
 refine (math_bits_Mul64_c H.sub e1).mono ?_; rintro _ w1 ⟨rfl, hx⟩; replace H := H.ext hx; clear hx
 refine p_mv (v := .tuple #[.int .u64 (((y1.1).toNat : Int)), .int .u64 (((y1.2).toNat : Int))]) rfl ?_
 refine p_val (r_extract (v := .int .u64 (((y1.1).toNat : Int))) rfl rfl) ?_
 refine p_val (r_extract (v := .int .u64 (((y1.2).toNat : Int))) rfl rfl) ?_
 refine p_as (v := .int .u64 (((y1.1).toNat : Int))) rfl ?_
 refine p_as (v := .int .u64 (((y1.2).toNat : Int))) rfl ?_
 refine xk hK3 ?_; clear hK3
 refine sr ?_; intro K4 hK4
 refine p_mv (v := .int .u64 (((y1.1).toNat : Int))) rfl ?_
 refine p_mv (v := .int .u64 (((y1.2).toNat : Int))) rfl ?_
 refine p_as (v := .int .u64 (((y1.1).toNat : Int))) rfl ?_
 refine p_as (v := .int .u64 (((y1.2).toNat : Int))) rfl ?_
 refine xk hK4 ?_; clear hK4
 refine wp_ret ?_
 obtain rfl := Option.some.inj hF
 refine e_2 rfl (q_tmp (v := .int .u64 (((y1.1).toNat : Int))) rfl) (q_tmp (v := .int .u64 (((y1.2).toNat : Int))) rfl) ?_
 exact ⟨rfl, H.toExt⟩
noncomputable def bytes_Repeat_b0 (y1 : UInt64 × UInt64) (t1 : Int) (s1 : Int × (List UInt8)) : Option ((Int × (List UInt8)) ⊕ ((List UInt8))) :=
  bif decide (s1.1 < (w64 ((y1.2).toNat : Int))) then (Option.bind (subL s1.2 s1.1) fun y4 => Option.bind (subH s1.2 (bif decide (s1.1 ≤ t1) then s1.1 else t1)) fun y5 => some (.inl (((w64 (s1.1 + ((min (y5).length ((s1.2).length - (s1.1 : Int).toNat) : Nat) : Int))), (putB s1.2 ((s1.1 : Int).toNat) y5))))) else (some (.inr (s1.2)))
noncomputable def bytes_Repeat_p (x0 : List UInt8) (x1 : Int) : Option ((List UInt8)) :=
  bif (x1 == 0) then (some (([] : List UInt8))) else (bif decide (x1 < 0) then (none) else (Option.bind (math_bits_Mul_p (i64 ((x0).length : Int)) (i64 x1)) fun y1 => bif (bif decide ((0 : Int) < ((y1.1).toNat : Int)) then true else decide ((9223372036854775807 : Int) < ((y1.2).toNat : Int))) then (none) else (bif (((x0).length : Int) == 0) then (some (([] : List UInt8))) else (Option.bind (bif decide ((8192 : Int) < (w64 ((y1.2).toNat : Int))) then (Option.bind (chk (decide (((x0).length : Int) ≠ 0))) fun y2 => bif ((w64 ((w64 (Int.tdiv 8192 ((x0).length : Int))) * ((x0).length : Int))) == 0) then (some (((x0).length : Int))) else (some ((w64 ((w64 (Int.tdiv 8192 ((x0).length : Int))) * ((x0).length : Int)))))) else (some ((w64 ((y1.2).toNat : Int))))) (fun t1 => Option.bind (chk (decide (0 ≤ (w64 ((y1.2).toNat : Int))) && decide ((w64 ((y1.2).toNat : Int)) ≤ (LIM : Int)))) fun y3 => anyJ ((w64 ((y1.2).toNat : Int)) : Int).toNat fun jk1 => Option.bind (Option.bind (iter (bytes_Repeat_b0 y1 t1) ((((min (x0).length ((jk1).length - 0) : Nat) : Int), (putB jk1 0 x0)))) (fun e => some (e))) (fun t2 => some (t2)))))))
theorem bytes_Repeat_c {S : Mem} {w : World} (H : HS ⟨S, keysR [], w⟩ S w []) {v0_ : Value} {x0 : List UInt8} (h0_ : RdS S v0_ x0) {x1 : Int} {r : (List UInt8)} (hF : bytes_Repeat_p x0 x1 = some r) :
    Calls Try.prog 40 #[v0_, .int .i64 (x1)] w fun e w' => ∃ (S2 : Mem) (pv4 : Value) (pcs4 prs4 : List Value), e = .returned (pv4) ∧ HS ⟨S, keysR [], w⟩ S2 w' [.osl (pv4) (r).length 1 pcs4 prs4 5] ∧ RL S2 pcs4 r := by
 refine enter (n := 77) Try.func40 rfl rfl rfl ?_
 unfold bytes_Repeat_p at hF
 refine sr ?_; intro K1 hK1
 refine p_as (v := .slice none 0 0) rfl ?_
 refine xk hK1 ?_; clear hK1
 refine wp_seq_k ?_; intro K2 hK2
 refine sr ?_; intro K3 hK3
 refine p_mv (v := .int .i64 (x1)) rfl ?_
 refine p_val (r_eqlI rfl rfl) ?_
 refine xk hK3 ?_; clear hK3
 refine c_split (t := (x1 == 0)) rfl (fun hc1 => ?_) (fun hc1 => ?_)
 ·replace hF := cnd_t hF hc1
  refine sr ?_; intro K4 hK4
  have g1 : RL S ([] : List Value) ([] : List UInt8) := RL.nil
  refine p_of1 (a_bslice (N := 0) (vals := []) (l := ([] : List Value)) tn67 H rfl rfl rfl g1.len) ?_; clear H; intro w1 v1 H
  replace H : HS ⟨S, keysR [], w⟩ S w1 [.osl (v1) (([] : List UInt8)).length 1 ([] : List Value) [] 5] := H
  refine p_as (v := v1) rfl ?_
  refine xk hK4 ?_; clear hK4
  refine wp_ret ?_
  refine x_ret ?_
  obtain rfl := Option.some.inj hF
  refine e_1 rfl (q_tmp (v := v1) rfl) ?_
  replace H : HS ⟨S, keysR [], w⟩ S w1 [.osl (v1) (([] : List UInt8)).length 1 ([] : List Value) [] 5] := H
  exact ⟨_, _, _, _, rfl, H, g1⟩
 ·replace hF := cnd_f hF hc1
  refine wp_skip ?_
  refine xn hK2 ?_; clear hK2
  refine wp_seq_k ?_; intro K5 hK5
  refine sr ?_; intro K6 hK6
  refine p_mv (v := .int .i64 (x1)) rfl ?_
  refine p_val (r_lssI rfl rfl) ?_
  refine xk hK6 ?_; clear hK6
  refine c_split (t := decide (x1 < 0)) rfl (fun hc2 => ?_) (fun hc2 => ?_)
  ·replace hF := cnd_t hF hc2
   exact nomatch hF
  ·replace hF := cnd_f hF hc2
   refine wp_skip ?_
   refine xn hK5 ?_; clear hK5
   refine sr ?_; intro K7 hK7
   refine p_mv (v := v0_) rfl ?_
   refine p_val (r_lenR' u67 rfl h0_ H.sub) ?_
   refine p_val (r_conv u3 u94 rfl (i64_wrap _)) ?_
   refine p_mv (v := .int .i64 (x1)) rfl ?_
   refine p_val (r_conv u3 u94 rfl (i64_wrap _)) ?_
   obtain ⟨y1, e1, hF⟩ := bnd hF
   refine p_call (l := [.int .u64 ((((i64 ((x0).length : Int))).toNat : Int)), .int .u64 ((((i64 x1)).toNat : Int))]) is43 rfl ?_
   refine (math_bits_Mul_c H.sub e1).mono ?_; rintro _ w2 ⟨rfl, hx⟩; replace H := H.ext hx; clear hx
   refine p_mv (v := .tuple #[.int .u64 (((y1.1).toNat : Int)), .int .u64 (((y1.2).toNat : Int))]) rfl ?_
   refine p_val (r_extract (v := .int .u64 (((y1.1).toNat : Int))) rfl rfl) ?_
   refine p_val (r_extract (v := .int .u64 (((y1.2).toNat : Int))) rfl rfl) ?_
   refine p_as (v := .int .u64 (((y1.1).toNat : Int))) rfl ?_
   refine p_as (v := .int .u64 (((y1.2).toNat : Int))) rfl ?_
   refine xk hK7 ?_; clear hK7
   refine wp_seq_k ?_; intro K8 hK8
   refine sr ?_; intro K9 hK9
   refine p_mv (v := .int .u64 (((y1.1).toNat : Int))) rfl ?_
   refine p_val (r_gtrI rfl rfl) ?_
   refine p_mv (v := .bool (decide ((0 : Int) < ((y1.1).toNat : Int)))) rfl ?_
   refine nameL fun m1 k1 => ?_
   refine gs_at 3 fun K10 hK10 R2 hR2 => ?_
   have J1 : ∀ (m2 : FM), (∀ t, has [30, 31, 32] t = false → look m2 t = look m1 t) → look m2 32 = .bool ((bif decide ((0 : Int) < ((y1.1).toNat : Int)) then true else decide ((9223372036854775807 : Int) < ((y1.2).toNat : Int)))) → K10 m2 w2 := by
    intro m2 k2 q1
    have q2 : look m2 0 = v0_ := (k2 0 rfl).trans (k1 0)
    have q3 : look m2 6 = .int .u64 (((y1.2).toNat : Int)) := (k2 6 rfl).trans (k1 6)
    refine hK10 _ _ ?_; clear hK10 hR2
    refine xk hK9 ?_; clear hK9
    refine c_split (t := (bif decide ((0 : Int) < ((y1.1).toNat : Int)) then true else decide ((9223372036854775807 : Int) < ((y1.2).toNat : Int)))) q1 (fun hc3 => ?_) (fun hc3 => ?_)
    ·replace hF := cnd_t hF hc3
     exact nomatch hF
    ·replace hF := cnd_f hF hc3
     refine wp_skip ?_
     refine xn hK8 ?_; clear hK8
     refine sr ?_; intro K11 hK11
     refine p_mv q3 ?_
     refine p_val (r_conv (r := (w64 ((y1.2).toNat : Int))) u94 u3 rfl (rfl)) ?_
     refine p_as (v := .int .i64 ((w64 ((y1.2).toNat : Int)))) rfl ?_
     refine xk hK11 ?_; clear hK11
     refine wp_seq_k ?_; intro K12 hK12
     refine sr ?_; intro K13 hK13
     refine p_mv (v := v0_) q2 ?_
     refine p_val (r_lenR' u67 rfl h0_ H.sub) ?_
     refine p_val (r_eqlI rfl rfl) ?_
     refine xk hK13 ?_; clear hK13
     refine c_split (t := (((x0).length : Int) == 0)) rfl (fun hc4 => ?_) (fun hc4 => ?_)
     ·replace hF := cnd_t hF hc4
      refine sr ?_; intro K14 hK14
      have g2 : RL S ([] : List Value) ([] : List UInt8) := RL.nil
      refine p_of1 (a_bslice (N := 0) (vals := []) (l := ([] : List Value)) tn67 H rfl rfl rfl g2.len) ?_; clear H; intro w3 v2 H
      replace H : HS ⟨S, keysR [], w⟩ S w3 [.osl (v2) (([] : List UInt8)).length 1 ([] : List Value) [] 5] := H
      refine p_as (v := v2) rfl ?_
      refine xk hK14 ?_; clear hK14
      refine wp_ret ?_
      refine x_ret ?_
      obtain rfl := Option.some.inj hF
      refine e_1 rfl (q_tmp (v := v2) rfl) ?_
      replace H : HS ⟨S, keysR [], w⟩ S w3 [.osl (v2) (([] : List UInt8)).length 1 ([] : List Value) [] 5] := H
      exact ⟨_, _, _, _, rfl, H, g2⟩
     ·replace hF := cnd_f hF hc4
      refine wp_skip ?_
      refine xn hK12 ?_; clear hK12
      refine sr ?_; intro K15 hK15
      refine p_mv (v := .int .i64 ((w64 ((y1.2).toNat : Int)))) rfl ?_
      refine p_as (v := .int .i64 ((w64 ((y1.2).toNat : Int)))) rfl ?_
      refine xk hK15 ?_; clear hK15
      refine wp_seq_k ?_; intro K16 hK16
      refine nameF fun m3 k3 => ?_
      obtain ⟨t1, hE1, hF1⟩ := bnd hF
      have J3 : ∀ (m4 : FM) (w4 : World), (∀ t, has [8, 41, 42, 43, 44, 45, 46, 47, 48, 49, 50, 51, 52] t = false → look m4 t = look m3 t) → look m4 8 = .int .i64 (t1) → HS ⟨S, keysR [], w⟩ S w4 [] → K16 (fr 77 m4) w4 := by
       clear H; intro m4 w4 k4 q4 H
       have q5 : look m4 0 = v0_ := (k4 0 rfl).trans ((k3 0).trans q2)
       have q6 : look m4 7 = .int .i64 ((w64 ((y1.2).toNat : Int))) := (k4 7 rfl).trans (k3 7)
       refine hK16 _ _ ?_
       refine sr ?_; intro K20 hK20
       refine p_mv q6 ?_
       obtain ⟨y3, e3, hF1⟩ := bnd hF1
       refine p_of1 (a_mnz (ps := #[3]) (t := 67) (a := (w64 ((y1.2).toNat : Int))) Try.func70 (by kernel_rfl) (by kernel_rfl) (by kernel_rfl) (by kernel_rfl) u67 rfl H rfl (of_decide_eq_true (and_l (chk_some e3))) (of_decide_eq_true (and_r (chk_some e3)))) ?_; clear H; rintro w5 _ ⟨b1, c1, jk1, jr1, rfl, hjk1, H⟩
       replace hF1 := anyJ_some hF1 jk1 hjk1
       have g3 : RL S (u8s jk1) jk1 := RL.of_u8s _
       replace H : HS ⟨S, keysR [], w⟩ S w5 [.osl (sl b1 0 (jk1).length c1) (jk1).length 1 (u8s jk1) (u8s jr1) 5] := H
       refine p_mv q6 ?_
       refine p_mv q6 ?_
       refine p_val (r_sliceC (N := (jk1).length) u67 tsz5 rfl rfl rfl (by have h0_ := of_decide_eq_true (and_l (chk_some e3)); omega) (capOf H (k := 0) rfl)) ?_
       have H1 := H.recap (k := 0) rfl; clear H; have H := H1; clear H1
       replace H : HS ⟨S, keysR [], w⟩ S w5 [.osl (sl b1 0 (jk1).length (jk1).length) (jk1).length 1 (u8s jk1) (u8s jr1) 5] := H
       refine p_as (v := sl b1 0 (jk1).length (jk1).length) rfl ?_
       refine xk hK20 ?_; clear hK20
       refine sr ?_; intro K21 hK21
       refine p_mv (v := sl b1 0 (jk1).length (jk1).length) rfl ?_
       refine p_mv (v := v0_) q5 ?_
       refine p_of1 (a_copyO (k := 0) (p := 0) (xs := jk1) (ys := x0) u67 tsz5 H rfl g3 (Eq.trans rfl (HS.subAll H (k := 0) rfl).symm) (Nat.zero_le _) h0_ H.sub rfl) ?_; clear H; rintro w6 _ ⟨rfl, cs3, H, g4⟩
       replace H : HS ⟨S, keysR [], w⟩ S w6 [.osl (sl b1 0 (jk1).length (jk1).length) ((putB jk1 0 x0)).length 1 cs3 (u8s jr1) 5] := H
       refine p_as (v := .int .i64 (((min (x0).length ((jk1).length - 0) : Nat) : Int))) rfl ?_
       refine xk hK21 ?_; clear hK21
       refine wp_seq_k ?_; intro K22 hK22
       refine nameF fun m5 k5 => ?_
       obtain ⟨t2, hE2, hF2⟩ := bnd hF1
       have J2 : ∀ (cs6 rs2 : List Value) (m8 : FM) (w10 : World), (∀ t, has [10, 11, 61, 62, 63, 64, 65, 66, 67, 68, 69, 70, 71, 72, 73, 74, 75] t = false → look m8 t = look m5 t) → HS ⟨S, keysR [], w⟩ S w10 [.osl (sl b1 0 (jk1).length (jk1).length) (t2).length 1 cs6 rs2 5] → RL S cs6 t2 → K22 (fr 77 m8) w10 := by
        clear H; intro cs6 rs2 m8 w10 k9 H g9
        have q11 : look m8 9 = sl b1 0 (jk1).length (jk1).length := (k9 9 rfl).trans (k5 9)
        refine hK22 _ _ ?_
        refine sr ?_; intro K26 hK26
        refine p_mv (v := sl b1 0 (jk1).length (jk1).length) q11 ?_
        refine p_as (v := sl b1 0 (jk1).length (jk1).length) rfl ?_
        refine xk hK26 ?_; clear hK26
        refine wp_ret ?_
        obtain rfl := Option.some.inj hF2
        refine e_1 rfl (q_tmp (v := sl b1 0 (jk1).length (jk1).length) rfl) ?_
        replace H : HS ⟨S, keysR [], w⟩ S w10 [.osl (sl b1 0 (jk1).length (jk1).length) (t2).length 1 cs6 rs2 5] := H
        exact ⟨_, _, _, _, rfl, H, g9⟩
       refine wp_block ?_
       refine nameF fun m6 k6 => ?_
       obtain ⟨out1, hL1, hE3⟩ := bnd hE2
       replace H : HS ⟨S, keysR [], w⟩ S w6 [.osl (sl b1 0 (jk1).length (jk1).length) ((putB jk1 0 x0)).length 1 cs3 (u8s jr1) 5] := H
       refine loopI [10, 11, 61, 62, 63, 64, 65, 66, 67, 68, 69, 70, 71, 72, 73, 74, 75] (fun (s1 : Int × (List UInt8)) (m7 : FM) (w7 : World) => ∃ (cs4 rs1 : List Value), look m7 10 = .int .i64 (s1.1) ∧ HS ⟨S, keysR [], w⟩ S w7 [.osl (sl b1 0 (jk1).length (jk1).length) (s1.2).length 1 cs4 rs1 5] ∧ RL S cs4 s1.2) hL1 ⟨_, _, ((k6 10).trans (k5 10)), H, g4⟩ ?_
       clear H; intro k8 s1 m7 w7 k7 hI1 o3 hb1 hh1; obtain ⟨cs4, rs1, q7, H, g5⟩ := hI1
       have q8 : look m7 7 = .int .i64 ((w64 ((y1.2).toNat : Int))) := (k7 7 rfl).trans ((k6 7).trans ((k5 7).trans q6))
       have q9 : look m7 8 = .int .i64 (t1) := (k7 8 rfl).trans ((k6 8).trans ((k5 8).trans q4))
       have q10 : look m7 9 = sl b1 0 (jk1).length (jk1).length := (k7 9 rfl).trans ((k6 9).trans (k5 9))
       unfold bytes_Repeat_b0 at hb1
       refine wp_seq_k ?_; intro K23 hK23
       refine sr ?_; intro K24 hK24
       refine p_mv q7 ?_
       refine p_mv q8 ?_
       refine p_val (r_lssI rfl rfl) ?_
       refine xk hK24 ?_; clear hK24
       refine c_split (t := decide (s1.1 < (w64 ((y1.2).toNat : Int)))) rfl (fun hc7 => ?_) (fun hc7 => ?_)
       ·replace hb1 := cnd_t hb1 hc7
        refine wp_skip ?_
        refine xn hK23 ?_; clear hK23
        refine wp_block ?_
        refine sr ?_; intro K25 hK25
        refine p_mv q7 ?_
        refine p_mv q9 ?_
        refine p_val (r_min (r := (bif decide (s1.1 ≤ t1) then s1.1 else t1)) rfl rfl rfl) ?_
        refine p_as (v := .int .i64 ((bif decide (s1.1 ≤ t1) then s1.1 else t1))) rfl ?_
        refine xk hK25 ?_; clear hK25
        obtain ⟨y4, e4, hb1⟩ := bnd hb1
        obtain ⟨y5, e5, hb1⟩ := bnd hb1
        apply wp_region_ext 7 (kindsF []) rfl rfl (by kernel_rfl); intro vs1
        simp only [List.take_succ_cons, List.take_zero, List.drop_succ_cons, List.drop_zero]
        replace H := H.drew
        refine t_float (fun w => r_move q7) rfl rfl ?_
        refine t_v (fun w hx => r_move (v := sl b1 0 (jk1).length (jk1).length) q10) ?_
        refine t_v (fun w hx => r_move q7) ?_
        refine t_v (fun w hx => r_subL (p := (s1.1 : Int).toNat) u67 tsz5 rfl rfl (subL_some e4).1 (RdS.ofOwn (H.ext hx) (k := 0) rfl g5) (subL_some e4).2.1) ?_
        refine t_v (fun w hx => r_move (v := sl b1 0 (jk1).length (jk1).length) q10) ?_
        refine t_v (fun w hx => r_move (v := .int .i64 ((bif decide (s1.1 ≤ t1) then s1.1 else t1))) rfl) ?_
        refine t_v (fun w hx => r_subH (h := ((bif decide (s1.1 ≤ t1) then s1.1 else t1) : Int).toNat) u67 tsz5 rfl rfl (subH_some e5).1 (RdS.ofOwn (H.ext hx) (k := 0) rfl g5) (subH_some e5).2.1) ?_
        refine t_nil (fun w8 hx hF hA => ?_)
        replace H := H.ext hx; clear hx hF hA
        refine p_of1 (a_copyO (k := 0) (p := (s1.1 : Int).toNat) (xs := s1.2) (ys := y5) u67 tsz5 H rfl g5 rfl (subL_some e4).2.1 (RdS.subH (RdS.ofOwn H (k := 0) rfl g5) e5) (subMem _) rfl) ?_; clear H; rintro w9 _ ⟨rfl, cs5, H, g8⟩
        replace H : HS ⟨S, keysR [], w⟩ S w9 [.osl (sl b1 0 (jk1).length (jk1).length) ((putB s1.2 ((s1.1 : Int).toNat) y5)).length 1 cs5 rs1 5] := H
        refine p_val (r_addI rfl rfl) ?_
        refine p_as (v := .int .i64 ((w64 (s1.1 + ((min (y5).length ((s1.2).length - (s1.1 : Int).toNat) : Nat) : Int))))) rfl ?_
        refine wpList_nil ?_; refine on_norm ?_
        refine b_norm ?_
        refine x_norm ?_
        replace H : HS ⟨S, keysR [], w⟩ S w9 [.osl (sl b1 0 (jk1).length (jk1).length) ((putB s1.2 ((s1.1 : Int).toNat) y5)).length 1 cs5 rs1 5] := H
        obtain rfl := Option.some.inj hb1
        exact ⟨((w64 (s1.1 + ((min (y5).length ((s1.2).length - (s1.1 : Int).toNat) : Nat) : Int))), (putB s1.2 ((s1.1 : Int).toNat) y5)), _, rfl, (by (repeat (refine keep_cons rfl ?_)); refine keep_sub k7 rfl ?_; (repeat (refine keep_cons rfl ?_)); exact fun _ _ => rfl), ⟨_, _, rfl, H, g8⟩, hh1⟩
       ·replace hb1 := cnd_f hb1 hc7
        refine wp_exit ?_
        refine x_exit ?_
        refine x_exit ?_
        refine b_hit ?_
        refine x_norm ?_
        replace H : HS ⟨S, keysR [], w⟩ S w7 [.osl (sl b1 0 (jk1).length (jk1).length) (s1.2).length 1 cs4 rs1 5] := H
        obtain rfl := Option.some.inj hb1
        obtain rfl := Option.some.inj hh1
        obtain rfl := Option.some.inj hE3
        exact J2 _ _ _ _ (by (repeat (refine keep_cons rfl ?_)); refine keep_sub k7 rfl ?_; (repeat (refine keep_cons rfl ?_)); refine keep_name k6 ?_; (repeat (refine keep_cons rfl ?_)); exact fun _ _ => rfl) H g5
      refine sr ?_; intro K17 hK17
      refine p_mv (k3 8) ?_
      refine p_val (r_gtrI rfl rfl) ?_
      refine xk hK17 ?_; clear hK17
      refine c_split (t := decide ((8192 : Int) < (w64 ((y1.2).toNat : Int)))) rfl (fun hc5 => ?_) (fun hc5 => ?_)
      ·replace hE1 := cnd_t hE1 hc5
       refine sr ?_; intro K18 hK18
       refine p_mv (v := v0_) ((k3 0).trans q2) ?_
       refine p_val (r_lenR' u67 rfl h0_ H.sub) ?_
       obtain ⟨y2, e2, hE1⟩ := bnd hE1
       refine p_val (r_quo (r := w64 (Int.tdiv 8192 ((x0).length : Int))) rfl rfl (of_decide_eq_true (chk_some e2)) rfl) ?_
       refine p_mv (v := v0_) ((k3 0).trans q2) ?_
       refine p_val (r_lenR' u67 rfl h0_ H.sub) ?_
       refine p_val (r_mulI rfl rfl) ?_
       refine p_as (v := .int .i64 ((w64 ((w64 (Int.tdiv 8192 ((x0).length : Int))) * ((x0).length : Int))))) rfl ?_
       refine xk hK18 ?_; clear hK18
       refine sr ?_; intro K19 hK19
       refine p_mv (v := .int .i64 ((w64 ((w64 (Int.tdiv 8192 ((x0).length : Int))) * ((x0).length : Int))))) rfl ?_
       refine p_val (r_eqlI rfl rfl) ?_
       refine xk hK19 ?_; clear hK19
       refine c_split (t := ((w64 ((w64 (Int.tdiv 8192 ((x0).length : Int))) * ((x0).length : Int))) == 0)) rfl (fun hc6 => ?_) (fun hc6 => ?_)
       ·replace hE1 := cnd_t hE1 hc6
        refine wp_region_lit ?_
        refine p_mv (v := v0_) ((k3 0).trans q2) ?_
        refine p_val (r_lenR' u67 rfl h0_ H.sub) ?_
        refine p_as (v := .int .i64 (((x0).length : Int))) rfl ?_
        refine wpList_nil ?_
        refine x_norm ?_
        replace H : HS ⟨S, keysR [], w⟩ S w2 [] := H
        obtain rfl := Option.some.inj hE1
        exact J3 _ _ (by (repeat (refine keep_cons rfl ?_)); exact fun _ _ => rfl) rfl H
       ·replace hE1 := cnd_f hE1 hc6
        refine wp_skip ?_
        refine x_norm ?_
        replace H : HS ⟨S, keysR [], w⟩ S w2 [] := H
        obtain rfl := Option.some.inj hE1
        exact J3 _ _ (by (repeat (refine keep_cons rfl ?_)); exact fun _ _ => rfl) rfl H
      ·replace hE1 := cnd_f hE1 hc5
       refine wp_skip ?_
       refine x_norm ?_
       replace H : HS ⟨S, keysR [], w⟩ S w2 [] := H
       obtain rfl := Option.some.inj hE1
       exact J3 _ _ (by (repeat (refine keep_cons rfl ?_)); exact fun _ _ => rfl) (k3 8) H
   refine p_gs (j := 2) (gvl_at rfl rfl (k1 29)) (fun hb2 => ?_) (fun hb2 => ?_)
   ·skip
    refine p_skip (gvl_at rfl rfl (k1 29)) hb2 ?_
    rw [put_fr]
    refine p_skip (gvl_at rfl rfl (k1 29)) hb2 ?_
    rw [put_fr]
    refine p_val (r_pickt (v := .bool (true)) (k1 29) hb2 rfl) ?_
    refine hR2 _ _ ?_
    exact J1 _ (by (repeat (refine keep_cons rfl ?_)); exact fun _ _ => rfl) (show (.bool (true) : Value) = .bool ((bif decide ((0 : Int) < ((y1.1).toNat : Int)) then true else decide ((9223372036854775807 : Int) < ((y1.2).toNat : Int)))) from congrArg Value.bool (by simp only [hb2, cond_true, cond_false]))
   ·skip
    refine p_want (gvl_at rfl rfl (k1 29)) hb2 ?_
    refine p_mv (k1 6) ?_
    refine p_want (gvl_at rfl rfl (k1 29)) hb2 ?_
    refine p_val (r_gtrI rfl rfl) ?_
    refine p_val (r_pickf (v := .bool (decide ((9223372036854775807 : Int) < ((y1.2).toNat : Int)))) (k1 29) hb2 rfl) ?_
    refine hR2 _ _ ?_
    exact J1 _ (by (repeat (refine keep_cons rfl ?_)); exact fun _ _ => rfl) (show (.bool (decide ((9223372036854775807 : Int) < ((y1.2).toNat : Int))) : Value) = .bool ((bif decide ((0 : Int) < ((y1.1).toNat : Int)) then true else decide ((9223372036854775807 : Int) < ((y1.2).toNat : Int)))) from congrArg Value.bool (by simp only [hb2, cond_true, cond_false]))
noncomputable def hash_Mac_b0 (t1 : (List UInt8)) (s1 : Int × (List UInt8) × (List UInt8)) : Option ((Int × (List UInt8) × (List UInt8)) ⊕ ((List UInt8) × (List UInt8))) :=
  bif decide (s1.1 < ((t1).length : Int)) then (Option.bind (idx s1.2.2 s1.1) fun y4 => Option.bind (idx t1 s1.1) fun y5 => Option.bind (idx s1.2.2 s1.1) fun y6 => Option.bind (setL s1.2.2 (s1.1 : Int) (y4 ^^^ y5)) fun y7 => Option.bind (idx s1.2.1 s1.1) fun y8 => Option.bind (idx t1 s1.1) fun y9 => Option.bind (idx s1.2.1 s1.1) fun y10 => Option.bind (setL s1.2.1 (s1.1 : Int) (y8 ^^^ y9)) fun y11 => some (.inl (((w64 (s1.1 + 1)), y11, y7)))) else (some (.inr ((s1.2.1, s1.2.2))))
noncomputable def hash_Mac_p (x0 : List UInt8) (x1 : List UInt8) : Option ((List UInt8)) :=
  Option.bind (bif decide ((64 : Int) < ((x0).length : Int)) then (Option.bind (hash_Sum_p x0) fun y1 => some (y1)) else (some (x0))) (fun t1 => Option.bind (bytes_Repeat_p ([(54 : UInt8)] : List UInt8) 64) fun y2 => Option.bind (bytes_Repeat_p ([(92 : UInt8)] : List UInt8) 64) fun y3 => Option.bind (Option.bind (iter (hash_Mac_b0 t1) ((0, y3, y2))) (fun e => some (e))) (fun t2 => Option.bind (app t2.2 x1) fun y12 => Option.bind (hash_Sum_p y12) fun y13 => Option.bind (app t2.1 y13) fun y14 => Option.bind (hash_Sum_p y14) fun y15 => some (y15)))
theorem hash_Mac_c {S : Mem} {w : World} (hS : Sub S w) {x0 : List UInt8} {x1 : List UInt8} {r : (List UInt8)} (hF : hash_Mac_p x0 x1 = some r) :
    Calls Try.prog 15 #[str (x0), str (x1)] w fun e w' => e = .returned (str (r)) ∧ Ext w w' := by
 refine enter (n := 50) Try.func15 rfl rfl rfl ?_
 have H := HS.start hS
 unfold hash_Mac_p at hF
 refine sr ?_; intro K1 hK1
 refine p_as (v := str (([] : List UInt8))) rfl ?_
 refine xk hK1 ?_; clear hK1
 refine wp_seq_k ?_; intro K2 hK2
 refine nameF fun m1 k1 => ?_
 obtain ⟨t1, hE1, hF1⟩ := bnd hF
 have J2 : ∀ (m2 : FM) (w2 : World), (∀ t, has [0, 8, 9, 10, 11, 12] t = false → look m2 t = look m1 t) → look m2 0 = str (t1) → HS ⟨S, [], w⟩ S w2 [] → K2 (fr 50 m2) w2 := by
  clear H; intro m2 w2 k2 q1 H
  have q2 : look m2 1 = str (x1) := (k2 1 rfl).trans (k1 1)
  refine hK2 _ _ ?_
  refine sr ?_; intro K4 hK4
  have g1 : RL S ([Value.int .u8 (54)] ++ ([] : List Value)) ([(54 : UInt8)] : List UInt8) := (RL.cons (rpU8c (x := (54 : UInt8)) rfl) RL.nil)
  refine p_of1 (a_bslice (N := 1) (vals := [(0, .int .u8 (54))]) (l := ([Value.int .u8 (54)] ++ ([] : List Value))) tn67 H rfl rfl rfl g1.len) ?_; clear H; intro w3 v1 H
  generalize ([Value.int .u8 (54)] ++ ([] : List Value)) = cs1 at H g1
  replace H : HS ⟨S, [], w⟩ S w3 [.osl (v1) (([(54 : UInt8)] : List UInt8)).length 1 cs1 [] 5] := H
  obtain ⟨S1, hle1, g2, H1⟩ := H.fixX (k := 0) rfl g1; clear H; have H := H1; clear H1
  replace H : HS ⟨S, [], w⟩ S1 w3 [] := H
  obtain ⟨y2, e2, hF1⟩ := bnd hF1
  refine p_call (l := [v1, .int .i64 (64)]) is40 rfl ?_
  refine (bytes_Repeat_c (H.hand [] rfl) g2 e2).mono ?_; rintro _ w4 ⟨S2, pv1, pcs1, prs1, rfl, H2, pg1⟩
  obtain ⟨H1, hle2⟩ := H.frame [] [] rfl H2; clear H H2; have H := H1; clear H1
  replace g2 := RdS.mono g2 hle2
  replace H : HS ⟨S, [], w⟩ S2 w4 [.osl (pv1) (y2).length 1 pcs1 prs1 5] := H
  have g3 : RL S2 ([Value.int .u8 (92)] ++ ([] : List Value)) ([(92 : UInt8)] : List UInt8) := (RL.cons (rpU8c (x := (92 : UInt8)) rfl) RL.nil)
  refine p_of1 (a_bslice (N := 1) (vals := [(0, .int .u8 (92))]) (l := ([Value.int .u8 (92)] ++ ([] : List Value))) tn67 H rfl rfl rfl g3.len) ?_; clear H; intro w5 v2 H
  generalize ([Value.int .u8 (92)] ++ ([] : List Value)) = cs2 at H g3
  replace H : HS ⟨S, [], w⟩ S2 w5 [.osl (v2) (([(92 : UInt8)] : List UInt8)).length 1 cs2 [] 5, .osl (pv1) (y2).length 1 pcs1 prs1 5] := H
  obtain ⟨S3, hle3, g4, H1⟩ := H.fixX (k := 0) rfl g3; clear H; have H := H1; clear H1
  replace pg1 := RL.mono pg1 hle3
  replace H : HS ⟨S, [], w⟩ S3 w5 [.osl (pv1) (y2).length 1 pcs1 prs1 5] := H
  obtain ⟨y3, e3, hF1⟩ := bnd hF1
  refine p_call (l := [v2, .int .i64 (64)]) is40 rfl ?_
  refine (bytes_Repeat_c (H.hand [] rfl) g4 e3).mono ?_; rintro _ w6 ⟨S4, pv2, pcs2, prs2, rfl, H2, pg2⟩
  obtain ⟨H1, hle4⟩ := H.frame [] [0] rfl H2; clear H H2; have H := H1; clear H1
  replace pg1 := RL.mono pg1 hle4
  replace g4 := RdS.mono g4 hle4
  replace H : HS ⟨S, [], w⟩ S4 w6 [.osl (pv2) (y3).length 1 pcs2 prs2 5, .osl (pv1) (y2).length 1 pcs1 prs1 5] := H
  refine p_as (v := pv1) rfl ?_
  refine p_as (v := pv2) rfl ?_
  refine xk hK4 ?_; clear hK4
  refine wp_seq_k ?_; intro K5 hK5
  refine nameF fun m3 k3 => ?_
  obtain ⟨t2, hE2, hF2⟩ := bnd hF1
  have J1 : ∀ (cs9 rs3 : List Value) (cs10 rs4 : List Value) (m6 : FM) (w12 : World), (∀ t, has [7, 17, 18, 19, 20, 21, 22, 23, 24, 25, 26, 27, 28, 29, 30, 31, 32, 33, 34, 35, 36, 37, 38, 39, 40] t = false → look m6 t = look m3 t) → HS ⟨S, [], w⟩ S4 w12 [.osl (pv2) (t2.1).length 1 cs9 rs3 5, .osl (pv1) (t2.2).length 1 cs10 rs4 5] → RL S4 cs9 t2.1 → RL S4 cs10 t2.2 → K5 (fr 50 m6) w12 := by
   clear H; intro cs9 rs3 cs10 rs4 m6 w12 k7 H g9 g10
   have q9 : look m6 1 = str (x1) := (k7 1 rfl).trans ((k3 1).trans q2)
   have q10 : look m6 5 = pv1 := (k7 5 rfl).trans (k3 5)
   have q11 : look m6 6 = pv2 := (k7 6 rfl).trans (k3 6)
   refine hK5 _ _ ?_
   refine wp_seq_k ?_; intro K12 hK12
   obtain ⟨y12, e12, hF2⟩ := bnd hF2
   obtain ⟨y13, e13, hF2⟩ := bnd hF2
   obtain ⟨y14, e14, hF2⟩ := bnd hF2
   obtain ⟨y15, e15, hF2⟩ := bnd hF2
   apply wp_region_ext 9 (kindsF [(6, .inl (str (y13))), (8, .inl (str (y15)))]) rfl rfl (by kernel_rfl); intro vs3
   simp only [List.take_succ_cons, List.take_zero, List.drop_succ_cons, List.drop_zero]
   replace H := H.drew
   refine t_v (fun w hx => r_move (v := pv2) q11) ?_
   refine t_v (fun w hx => r_strO u67 u5 u9 rfl (H.ext hx) (k := 0) rfl g9) ?_
   refine t_v (fun w hx => r_move (v := pv1) q10) ?_
   refine t_v (fun w hx => r_strO u67 u5 u9 rfl (H.ext hx) (k := 1) rfl g10) ?_
   refine t_v (fun w hx => r_move q9) ?_
   refine t_v (fun w hx => r_cat (r := y12) rfl rfl (by have := (app_some e12).1; omega) (app_some e12).2) ?_
   refine t_call (l := [str (y12)]) rfl rfl is39 rfl (fun w hx hF => (hash_Sum_c (H.ext hx).sub e13).mono (fun _ _ ⟨he, hx⟩ => ⟨he, hx⟩)) ?_
   refine t_v (fun w hx => r_cat (r := y14) rfl rfl (by have := (app_some e14).1; omega) (app_some e14).2) ?_
   refine t_call (l := [str (y14)]) rfl rfl is39 rfl (fun w hx hF => (hash_Sum_c (H.ext hx).sub e15).mono (fun _ _ ⟨he, hx⟩ => ⟨he, hx⟩)) ?_
   refine t_nil (fun w13 hx hF hA => ?_)
   replace H := H.ext hx; clear hx hF hA
   refine p_as (v := str (y15)) rfl ?_
   refine wpList_nil ?_; refine on_norm ?_
   refine xn hK12 ?_; clear hK12
   refine wp_ret ?_
   obtain rfl := Option.some.inj hF2
   refine e_1 rfl (q_tmp (v := str (y15)) rfl) ?_
   exact ⟨rfl, H.toExt⟩
  refine sr ?_; intro K6 hK6
  refine p_mv ((k3 0).trans q1) ?_
  refine p_val (r_lenT (N := (t1).length) u9 rfl rfl) ?_
  refine p_mv (v := .int .i64 (0)) rfl ?_
  refine xk hK6 ?_; clear hK6
  refine wp_block ?_
  refine nameF fun m4 k4 => ?_
  obtain ⟨out1, hL1, hE3⟩ := bnd hE2
  replace H : HS ⟨S, [], w⟩ S4 w6 [.osl (pv2) (y3).length 1 pcs2 prs2 5, .osl (pv1) (y2).length 1 pcs1 prs1 5] := H
  refine loopI [7, 19, 20, 21, 22, 23, 24, 25, 26, 27, 28, 29, 30, 31, 32, 33, 34, 35, 36, 37, 38, 39, 40] (fun (s1 : Int × (List UInt8) × (List UInt8)) (m5 : FM) (w7 : World) => ∃ (cs3 rs1 : List Value) (cs4 rs2 : List Value), look m5 19 = .int .i64 (s1.1) ∧ HS ⟨S, [], w⟩ S4 w7 [.osl (pv2) (s1.2.1).length 1 cs3 rs1 5, .osl (pv1) (s1.2.2).length 1 cs4 rs2 5] ∧ RL S4 cs3 s1.2.1 ∧ RL S4 cs4 s1.2.2) hL1 ⟨_, _, _, _, (k4 19), H, pg2, pg1⟩ ?_
  clear H; intro k6 s1 m5 w7 k5 hI1 o3 hb1 hh1; obtain ⟨cs3, rs1, cs4, rs2, q3, H, g5, g6⟩ := hI1
  have q4 : look m5 1 = str (x1) := (k5 1 rfl).trans ((k4 1).trans ((k3 1).trans q2))
  have q5 : look m5 0 = str (t1) := (k5 0 rfl).trans ((k4 0).trans ((k3 0).trans q1))
  have q6 : look m5 5 = pv1 := (k5 5 rfl).trans ((k4 5).trans (k3 5))
  have q7 : look m5 6 = pv2 := (k5 6 rfl).trans ((k4 6).trans (k3 6))
  have q8 : look m5 18 = .int .i64 (((t1).length : Int)) := (k5 18 rfl).trans (k4 18)
  unfold hash_Mac_b0 at hb1
  refine sr ?_; intro K7 hK7
  refine p_val (r_lssI q3 q8) ?_
  refine xk hK7 ?_; clear hK7
  refine wp_seq_k ?_; intro K8 hK8
  refine c_split (t := decide (s1.1 < ((t1).length : Int))) rfl (fun hc2 => ?_) (fun hc2 => ?_)
  ·replace hb1 := cnd_t hb1 hc2
   refine wp_skip ?_
   refine xn hK8 ?_; clear hK8
   refine wp_seq_k ?_; intro K9 hK9
   refine wp_block ?_
   refine sr ?_; intro K10 hK10
   refine p_mv q3 ?_
   refine p_as (v := .int .i64 (s1.1)) rfl ?_
   refine xk hK10 ?_; clear hK10
   refine wp_seq_k ?_; intro K11 hK11
   obtain ⟨y4, e4, hb1⟩ := bnd hb1
   obtain ⟨b1, c1, hv1⟩ := H.ownAt (k := 1) rfl (idx_lt e4)
   subst hv1
   have hr1 := RL.get g6 (idx_some e4).2; generalize hghr1 : piece cs4 _ _ = cs5 at hr1
   obtain rfl := elU8 hr1
   obtain ⟨y5, e5, hb1⟩ := bnd hb1
   obtain ⟨y6, e6, hb1⟩ := bnd hb1
   apply wp_region_ext 9 (kindsF []) rfl rfl (by kernel_rfl); intro vs1
   simp only [List.take_succ_cons, List.take_zero, List.drop_succ_cons, List.drop_zero]
   replace H := H.drew
   refine t_v (fun w hx => r_move (v := (sl b1 0 (s1.2.2).length c1)) q6) ?_
   refine t_v (fun w hx => r_move (v := .int .i64 (s1.1)) rfl) ?_
   refine t_v (fun w hx => r_addrV (i := (s1.1 : Int).toNat) u67 tsz5 rfl rfl rfl (idx_some e4).1 (idx_lt e4)) ?_
   refine t_v (fun w hx => o_load1 (v := .int .u8 (((y4).toNat : Int))) to5 (H.ext hx) (k := 1) rfl rfl (idx_lt e4) hghr1) ?_
   refine t_v (fun w hx => r_move q5) ?_
   refine t_v (fun w hx => r_move (v := .int .i64 (s1.1)) rfl) ?_
   refine t_v (fun w hx => r_idxT (i := (s1.1 : Int).toNat) (u := y5) u9 rfl rfl (idx_some e5).1 (idx_some e5).2) ?_
   refine t_v (fun w hx => r_bits (bo := .xor) (by simp) rfl rfl (i8_xor _ _)) ?_
   refine t_v (fun w hx => r_addrV (i := (s1.1 : Int).toNat) u67 tsz5 rfl (HS.ownV H (k := 1) rfl) rfl (idx_some e6).1 (idx_lt e6)) ?_
   refine t_nil (fun w8 hx hF hA => ?_)
   replace H := H.ext hx; clear hx hF hA
   obtain ⟨y7, e7, hb1⟩ := bnd hb1
   refine p_ofs (a_storeX (k := 1) (v := .int .u8 ((((y4 ^^^ y5)).toNat : Int))) (l := [Value.int .u8 ((((y4 ^^^ y5)).toNat : Int))]) tsz5 rfl H rfl g6 rfl rfl (cells_one rfl) rpU8 e7) ?_; clear H; rintro w9 ⟨cs6, H, g7⟩
   replace H : HS ⟨S, [], w⟩ S4 w9 [.osl (pv2) (s1.2.1).length 1 cs3 rs1 5, .osl (sl b1 0 (s1.2.2).length c1) (y7).length 1 cs6 rs2 5] := H
   refine wpList_nil ?_; refine on_norm ?_
   refine xn hK11 ?_; clear hK11
   obtain ⟨y8, e8, hb1⟩ := bnd hb1
   obtain ⟨b3, c3, hv3⟩ := H.ownAt (k := 0) rfl (idx_lt e8)
   subst hv3
   have hr2 := RL.get g5 (idx_some e8).2; generalize hghr2 : piece cs3 _ _ = cs7 at hr2
   obtain rfl := elU8 hr2
   obtain ⟨y9, e9, hb1⟩ := bnd hb1
   obtain ⟨y10, e10, hb1⟩ := bnd hb1
   apply wp_region_ext 9 (kindsF []) rfl rfl (by kernel_rfl); intro vs2
   simp only [List.take_succ_cons, List.take_zero, List.drop_succ_cons, List.drop_zero]
   replace H := H.drew
   refine t_v (fun w hx => r_move (v := (sl b3 0 (s1.2.1).length c3)) q7) ?_
   refine t_v (fun w hx => r_move (v := .int .i64 (s1.1)) rfl) ?_
   refine t_v (fun w hx => r_addrV (i := (s1.1 : Int).toNat) u67 tsz5 rfl rfl rfl (idx_some e8).1 (idx_lt e8)) ?_
   refine t_v (fun w hx => o_load1 (v := .int .u8 (((y8).toNat : Int))) to5 (H.ext hx) (k := 0) rfl rfl (idx_lt e8) hghr2) ?_
   refine t_v (fun w hx => r_move q5) ?_
   refine t_v (fun w hx => r_move (v := .int .i64 (s1.1)) rfl) ?_
   refine t_v (fun w hx => r_idxT (i := (s1.1 : Int).toNat) (u := y9) u9 rfl rfl (idx_some e9).1 (idx_some e9).2) ?_
   refine t_v (fun w hx => r_bits (bo := .xor) (by simp) rfl rfl (i8_xor _ _)) ?_
   refine t_v (fun w hx => r_addrV (i := (s1.1 : Int).toNat) u67 tsz5 rfl (HS.ownV H (k := 0) rfl) rfl (idx_some e10).1 (idx_lt e10)) ?_
   refine t_nil (fun w10 hx hF hA => ?_)
   replace H := H.ext hx; clear hx hF hA
   obtain ⟨y11, e11, hb1⟩ := bnd hb1
   refine p_ofs (a_storeX (k := 0) (v := .int .u8 ((((y8 ^^^ y9)).toNat : Int))) (l := [Value.int .u8 ((((y8 ^^^ y9)).toNat : Int))]) tsz5 rfl H rfl g5 rfl rfl (cells_one rfl) rpU8 e11) ?_; clear H; rintro w11 ⟨cs8, H, g8⟩
   replace H : HS ⟨S, [], w⟩ S4 w11 [.osl (sl b3 0 (s1.2.1).length c3) (y11).length 1 cs8 rs1 5, .osl (sl b1 0 (s1.2.2).length c1) (y7).length 1 cs6 rs2 5] := H
   refine wpList_nil ?_; refine on_norm ?_
   refine b_norm ?_
   refine xn hK9 ?_; clear hK9
   refine wp_region_lit ?_
   refine p_val (r_addI q3 rfl) ?_
   refine p_mv (v := .int .i64 ((w64 (s1.1 + 1)))) rfl ?_
   refine wpList_nil ?_
   refine x_norm ?_
   replace H : HS ⟨S, [], w⟩ S4 w11 [.osl (sl b3 0 (s1.2.1).length c3) (y11).length 1 cs8 rs1 5, .osl (sl b1 0 (s1.2.2).length c1) (y7).length 1 cs6 rs2 5] := H
   obtain rfl := Option.some.inj hb1
   exact ⟨((w64 (s1.1 + 1)), y11, y7), _, rfl, (by (repeat (refine keep_cons rfl ?_)); refine keep_sub k5 rfl ?_; (repeat (refine keep_cons rfl ?_)); exact fun _ _ => rfl), ⟨_, _, _, _, rfl, H, g8, g7⟩, hh1⟩
  ·replace hb1 := cnd_f hb1 hc2
   refine wp_exit ?_
   refine x_exit ?_
   refine x_exit ?_
   refine b_hit ?_
   refine x_norm ?_
   replace H : HS ⟨S, [], w⟩ S4 w7 [.osl (pv2) (s1.2.1).length 1 cs3 rs1 5, .osl (pv1) (s1.2.2).length 1 cs4 rs2 5] := H
   obtain rfl := Option.some.inj hb1
   obtain rfl := Option.some.inj hh1
   obtain rfl := Option.some.inj hE3
   exact J1 _ _ _ _ _ _ (by (repeat (refine keep_cons rfl ?_)); refine keep_sub k5 rfl ?_; (repeat (refine keep_cons rfl ?_)); refine keep_name k4 ?_; (repeat (refine keep_cons rfl ?_)); exact fun _ _ => rfl) H g5 g6
 refine sr ?_; intro K3 hK3
 refine p_mv (k1 0) ?_
 refine p_val (r_lenT (N := (x0).length) u9 rfl rfl) ?_
 refine p_val (r_gtrI rfl rfl) ?_
 refine xk hK3 ?_; clear hK3
 refine c_split (t := decide ((64 : Int) < ((x0).length : Int))) rfl (fun hc1 => ?_) (fun hc1 => ?_)
 ·replace hE1 := cnd_t hE1 hc1
  refine wp_region_lit ?_
  refine p_mv (k1 0) ?_
  obtain ⟨y1, e1, hE1⟩ := bnd hE1
  refine p_call (l := [str (x0)]) is39 rfl ?_
  refine (hash_Sum_c H.sub e1).mono ?_; rintro _ w1 ⟨rfl, hx⟩; replace H := H.ext hx; clear hx
  refine p_as (v := str (y1)) rfl ?_
  refine wpList_nil ?_
  refine x_norm ?_
  replace H : HS ⟨S, [], w⟩ S w1 [] := H
  obtain rfl := Option.some.inj hE1
  exact J2 _ _ (by (repeat (refine keep_cons rfl ?_)); exact fun _ _ => rfl) rfl H
 ·replace hE1 := cnd_f hE1 hc1
  refine wp_skip ?_
  refine x_norm ?_
  replace H : HS ⟨S, [], w⟩ S w [] := H
  obtain rfl := Option.some.inj hE1
  exact J2 _ _ (by (repeat (refine keep_cons rfl ?_)); exact fun _ _ => rfl) (k1 0) H
end Go.Proofs.Ytmbcolbbekbccaa
namespace Go.Proofs.Ytmbcolbbekbccaa
open Go Go.RowKit
attribute [local irreducible] wpList wpT Code.wp Calls Code.rounds
theorem is17 : IsFn Try.prog 17 := isFn Try.func17 (by kernel_rfl) (by kernel_rfl)
theorem is21 : IsFn Try.prog 21 := isFn Try.func21 (by kernel_rfl) (by kernel_rfl)
theorem is23 : IsFn Try.prog 23 := isFn Try.func23 (by kernel_rfl) (by kernel_rfl)
theorem is28 : IsFn Try.prog 28 := isFn Try.func28 (by kernel_rfl) (by kernel_rfl)
theorem is31 : IsFn Try.prog 31 := isFn Try.func31 (by kernel_rfl) (by kernel_rfl)
theorem eqt24 (x y : UInt64 × UInt64 × UInt64 × UInt64) : EqR Try.prog 2 24 (.agg (cl24 x).toArray) (.agg (cl24 y).toArray) (x == y) :=
  EqR.arr (k := 4) (E := 22) (sz := 1) (by kernel_rfl) (fun w => sz22 w) (l := [(22, 0), (22, 1), (22, 2), (22, 3)]) rfl (EqL.cons (part1 (v := Value.int .u64 ((x.1.toNat : Int))) to22 rfl) (part1 (v := Value.int .u64 ((y.1.toNat : Int))) to22 rfl) (eqU64 u22) (EqL.cons (part1 (v := Value.int .u64 ((x.2.1.toNat : Int))) to22 rfl) (part1 (v := Value.int .u64 ((y.2.1.toNat : Int))) to22 rfl) (eqU64 u22) (EqL.cons (part1 (v := Value.int .u64 ((x.2.2.1.toNat : Int))) to22 rfl) (part1 (v := Value.int .u64 ((y.2.2.1.toNat : Int))) to22 rfl) (eqU64 u22) (EqL.last (part1 (v := Value.int .u64 ((x.2.2.2.toNat : Int))) to22 rfl) (part1 (v := Value.int .u64 ((y.2.2.2.toNat : Int))) to22 rfl) (eqU64 u22)))))
theorem tsz24 : TSz Try.prog 24 4 := fun _ => by kernel_rfl
theorem tsz29 : TSz Try.prog 29 9 := fun _ => by kernel_rfl
def sign_zero_p  : Option ((UInt64 × UInt64 × UInt64 × UInt64)) :=
  some (((0 : UInt64), (0 : UInt64), (0 : UInt64), (0 : UInt64)))
theorem sign_zero_c {S : Mem} {w : World} (hS : Sub S w)  {r : (UInt64 × UInt64 × UInt64 × UInt64)} (hF : sign_zero_p = some r) :
    Calls Try.prog 21 #[] w fun e w' => e = .returned (.agg ((cl24 r)).toArray) ∧ Ext w w' := by
 refine enter (n := 2) Try.func21 rfl rfl rfl ?_
 have H := HS.start hS
 unfold sign_zero_p at hF
 refine sr ?_; intro K1 hK1
 refine p_ofb (a_alloc (l := (cl24 ((0 : UInt64), (0 : UInt64), (0 : UInt64), (0 : UInt64)))) H tz24 rfl) ?_; clear H; intro w1 b1 H
 refine xk hK1 ?_; clear hK1
 refine sr ?_; intro K2 hK2
 refine p_val (r_build (vals := []) (l := (cl24 ((0 : UInt64), (0 : UInt64), (0 : UInt64), (0 : UInt64)))) tb24 rfl rfl) ?_
 refine p_ofs (a_store (k := 0) (v := .agg ((cl24 ((0 : UInt64), (0 : UInt64), (0 : UInt64), (0 : UInt64)))).toArray) (l := (cl24 ((0 : UInt64), (0 : UInt64), (0 : UInt64), (0 : UInt64)))) tsz24 H rfl rfl rfl (cells_agg _) rfl (fun u hu => List.all_eq_true.1 (rfl : ((cl24 ((0 : UInt64), (0 : UInt64), (0 : UInt64), (0 : UInt64)))).all (·.oneCell') = true) u hu) rfl) ?_; clear H; intro w2 H
 replace H : HS ⟨S, [], w⟩ S w2 [.blk b1 ((cl24 ((0 : UInt64), (0 : UInt64), (0 : UInt64), (0 : UInt64)))) 24] := H
 refine xk hK2 ?_; clear hK2
 refine wp_ret ?_
 obtain rfl := Option.some.inj hF
 refine e_1 rfl (qh_cell (l := (cl24 ((0 : UInt64), (0 : UInt64), (0 : UInt64), (0 : UInt64)))) tg24 H rfl (k := 0) rfl rfl rfl) ?_
 exact ⟨rfl, H.toExt⟩
def sign_fine_p (x0 : UInt64 × UInt64 × UInt64 × UInt64) : Option (Bool) :=
  Option.bind (sign_zero_p) fun y1 => bif ((x0 : UInt64 × UInt64 × UInt64 × UInt64) != (y1 : UInt64 × UInt64 × UInt64 × UInt64)) then (Option.bind (sign_zero_p) fun y2 => Option.bind (field_Add_p 1 x0 y2) fun y3 => some (((y3 : UInt64 × UInt64 × UInt64 × UInt64) == (x0 : UInt64 × UInt64 × UInt64 × UInt64)))) else (some (false))
theorem sign_fine_c {S : Mem} {w : World} (hS : Sub S w) {x0 : UInt64 × UInt64 × UInt64 × UInt64} {r : Bool} (hF : sign_fine_p x0 = some r) :
    Calls Try.prog 17 #[.agg ((cl24 x0)).toArray] w fun e w' => e = .returned (.bool (r)) ∧ Ext w w' := by
 refine enter (n := 13) Try.func17 rfl rfl rfl ?_
 have H := HS.start hS
 unfold sign_fine_p at hF
 refine sr ?_; intro K1 hK1
 refine p_ofb (a_box (l := (cl24 x0)) H rfl) ?_; clear H; intro w1 b1 H
 refine p_as (v := .bool (false)) rfl ?_
 refine xk hK1 ?_; clear hK1
 refine wp_seq_k ?_; intro K2 hK2
 obtain ⟨y1, e1, hF⟩ := bnd hF
 rcases Bool.eq_false_or_eq_true (((x0 : UInt64 × UInt64 × UInt64 × UInt64) != (y1 : UInt64 × UInt64 × UInt64 × UInt64))) with hb1 | hb1
 ·replace hF := cnd_t hF hb1
  obtain ⟨y2, e2, hF⟩ := bnd hF
  obtain ⟨y3, e3, hF⟩ := bnd hF
  apply wp_region_ext 10 (kindsF [(1, .inl (.agg ((cl24 y1)).toArray)), (5, .inl (.agg ((cl24 y2)).toArray)), (6, .inl (.agg ((cl24 y3)).toArray))]) rfl rfl (by kernel_rfl); intro vs1
  simp only [List.take_succ_cons, List.take_zero, List.drop_succ_cons, List.drop_zero]
  replace H := H.drew
  refine t_v (fun w hx => h_load (l := (cl24 x0)) tg24 (H.ext hx) rfl (k := 0) rfl rfl rfl) ?_
  refine t_call (l := []) rfl rfl is21 rfl (fun w hx hF => (sign_zero_c (H.ext hx).sub e1).mono (fun _ _ ⟨he, hx⟩ => ⟨he, hx⟩)) ?_
  refine t_v (fun w hx => r_neR eg24 (by decide) (eqt24 x0 y1) rfl rfl) ?_
  refine t_v (fun w hx => r_move (v := .bool (((x0 : UInt64 × UInt64 × UInt64 × UInt64) != (y1 : UInt64 × UInt64 × UInt64 × UInt64)))) rfl) ?_
  refine t_valG rfl hb1 (fun w hx => h_load (l := (cl24 x0)) tg24 (H.ext hx) rfl (k := 0) rfl rfl rfl) rfl rfl ?_
  refine t_callG rfl hb1 (l := []) rfl rfl is21 rfl (fun w hx hF => (sign_zero_c (H.ext hx).sub e2).mono (fun _ _ ⟨he, hx⟩ => ⟨he, hx⟩)) ?_
  refine t_callG rfl hb1 (l := [.int .i64 (1), .agg ((cl24 x0)).toArray, .agg ((cl24 y2)).toArray]) rfl rfl is22 rfl (fun w hx hF => (field_Add_c (H.ext hx).sub e3).mono (fun _ _ ⟨he, hx⟩ => ⟨he, hx⟩)) ?_
  refine t_valG rfl hb1 (fun w hx => h_load (l := (cl24 x0)) tg24 (H.ext hx) rfl (k := 0) rfl rfl rfl) rfl rfl ?_
  refine t_valG rfl hb1 (fun w hx => r_eqR eg24 (by decide) (eqt24 y3 x0) rfl rfl) rfl rfl ?_
  refine t_v (fun w hx => r_pickt (v := .bool (((y3 : UInt64 × UInt64 × UInt64 × UInt64) == (x0 : UInt64 × UInt64 × UInt64 × UInt64)))) rfl hb1 rfl) ?_
  refine t_nil (fun w2 hx hF hA => ?_)
  replace H := H.ext hx; clear hx hF hA
  refine p_as (v := .bool (((y3 : UInt64 × UInt64 × UInt64 × UInt64) == (x0 : UInt64 × UInt64 × UInt64 × UInt64)))) rfl ?_
  refine wpList_nil ?_; refine on_norm ?_
  refine xn hK2 ?_; clear hK2
  refine wp_ret ?_
  obtain rfl := Option.some.inj hF
  refine e_1 rfl (q_tmp (v := .bool (((y3 : UInt64 × UInt64 × UInt64 × UInt64) == (x0 : UInt64 × UInt64 × UInt64 × UInt64)))) rfl) ?_
  exact ⟨rfl, H.toExt⟩
 ·replace hF := cnd_f hF hb1
  apply wp_region_ext 10 (kindsF [(1, .inl (.agg ((cl24 y1)).toArray))]) rfl rfl (by kernel_rfl); intro vs1
  simp only [List.take_succ_cons, List.take_zero, List.drop_succ_cons, List.drop_zero]
  replace H := H.drew
  refine t_v (fun w hx => h_load (l := (cl24 x0)) tg24 (H.ext hx) rfl (k := 0) rfl rfl rfl) ?_
  refine t_call (l := []) rfl rfl is21 rfl (fun w hx hF => (sign_zero_c (H.ext hx).sub e1).mono (fun _ _ ⟨he, hx⟩ => ⟨he, hx⟩)) ?_
  refine t_v (fun w hx => r_neR eg24 (by decide) (eqt24 x0 y1) rfl rfl) ?_
  refine t_v (fun w hx => r_move (v := .bool (((x0 : UInt64 × UInt64 × UInt64 × UInt64) != (y1 : UInt64 × UInt64 × UInt64 × UInt64)))) rfl) ?_
  refine t_skip rfl hb1 rfl ?_
  rw [put_fr]
  refine t_skip rfl hb1 rfl ?_
  rw [put_fr]
  refine t_skip rfl hb1 rfl ?_
  rw [put_fr]
  refine t_skip rfl hb1 rfl ?_
  rw [put_fr]
  refine t_skip rfl hb1 rfl ?_
  rw [put_fr]
  refine t_v (fun w hx => r_pickf (v := .bool (false)) rfl hb1 rfl) ?_
  refine t_nil (fun w3 hx hF hA => ?_)
  replace H := H.ext hx; clear hx hF hA
  refine p_as (v := .bool (false)) rfl ?_
  refine wpList_nil ?_; refine on_norm ?_
  refine xn hK2 ?_; clear hK2
  refine wp_ret ?_
  obtain rfl := Option.some.inj hF
  refine e_1 rfl (q_tmp (v := .bool (false)) rfl) ?_
  exact ⟨rfl, H.toExt⟩
def sign_times_p (x0 : UInt64 × UInt64 × UInt64 × UInt64) : Option (((UInt64 × UInt64 × UInt64 × UInt64) × (UInt64 × UInt64 × UInt64 × UInt64) × Bool)) :=
  Option.bind (curve_Base_p) fun y1 => Option.bind (curve_Mul_p x0 y1) fun y2 => some (y2.1)
theorem sign_times_c {S : Mem} {w : World} (hS : Sub S w) {x0 : UInt64 × UInt64 × UInt64 × UInt64} {r : ((UInt64 × UInt64 × UInt64 × UInt64) × (UInt64 × UInt64 × UInt64 × UInt64) × Bool)} (hF : sign_times_p x0 = some r) :
    Calls Try.prog 23 #[.agg ((cl24 x0)).toArray] w fun e w' => e = .returned (.agg ((cl29 r)).toArray) ∧ Ext w w' := by
 refine enter (n := 12) Try.func23 rfl rfl rfl ?_
 have H := HS.start hS
 unfold sign_times_p at hF
 refine sr ?_; intro K1 hK1
 refine p_ofb (a_box (l := (cl24 x0)) H rfl) ?_; clear H; intro w1 b1 H
 refine p_ofb (a_alloc (l := (cl29 (((0 : UInt64), (0 : UInt64), (0 : UInt64), (0 : UInt64)), ((0 : UInt64), (0 : UInt64), (0 : UInt64), (0 : UInt64)), false))) H tz29 rfl) ?_; clear H; intro w2 b2 H
 refine xk hK1 ?_; clear hK1
 refine wp_seq_k ?_; intro K2 hK2
 obtain ⟨y1, e1, hF⟩ := bnd hF
 obtain ⟨y2, e2, hF⟩ := bnd hF
 apply wp_region_ext 7 (kindsF [(1, .inl (.agg ((cl29 y1)).toArray)), (2, .inl (.tuple #[.agg ((cl29 y2.1)).toArray, .int .i64 (y2.2)])), (6, .inr (lowR (NewAt w2.drew ((cl29 (((0 : UInt64), (0 : UInt64), (0 : UInt64), (0 : UInt64)), ((0 : UInt64), (0 : UInt64), (0 : UInt64), (0 : UInt64)), false))) 29)))]) rfl rfl (by kernel_rfl); intro vs1
 simp only [List.take_succ_cons, List.take_zero, List.drop_succ_cons, List.drop_zero]
 replace H := H.drew
 refine t_v (fun w hx => h_load (l := (cl24 x0)) tg24 (H.ext hx) rfl (k := 1) rfl rfl rfl) ?_
 refine t_call (l := []) rfl rfl is28 rfl (fun w hx hF => (curve_Base_c (H.ext hx).sub e1).mono (fun _ _ ⟨he, hx⟩ => ⟨he, hx⟩)) ?_
 refine t_call (l := [.agg ((cl24 x0)).toArray, .agg ((cl29 y1)).toArray]) rfl rfl is31 rfl (fun w hx hF => (curve_Mul_c (H.ext hx).sub e2).mono (fun _ _ ⟨he, hx⟩ => ⟨he, hx⟩)) ?_
 refine t_v (fun w hx => r_move (v := .tuple #[.agg ((cl29 y2.1)).toArray, .int .i64 (y2.2)]) rfl) ?_
 refine t_v (fun w hx => r_extract (v := .agg ((cl29 y2.1)).toArray) rfl rfl) ?_
 refine t_float (fun w => r_extract (v := .int .i64 (y2.2)) rfl rfl) rfl rfl ?_
 refine t_alloc rfl rfl tz29 rfl ?_
 refine t_nil (fun w3 hx hF hA => ?_)
 obtain ⟨F1, hd1, h01⟩ := depE hF
 obtain ⟨⟨b3, eq1, hb1, hh1⟩, hn1⟩ := fact_relF hF 6 rfl rfl
 have hle1 := gf_le (F := F1) (w := w3) H.sub; replace H := (HS.adopt (H.callF (F := F1) hx) (Nat.le_trans H.fr.size hb1) (gf_none hb1 (by rw [h01]; exact noF hA (by decide) rfl eq1 hn1)) hh1 (HS.keys_lt H hb1)); clear hx hF hA hd1 h01; generalize gf S w2.drew F1 w3 = S1 at hle1 H
 refine p_ofs (a_store (k := 0) (v := .agg ((cl29 y2.1)).toArray) (l := (cl29 y2.1)) tsz29 H eq1 rfl rfl (cells_agg _) rfl (fun u hu => List.all_eq_true.1 (rfl : ((cl29 y2.1)).all (·.oneCell') = true) u hu) rfl) ?_; clear H; intro w4 H
 replace H : HS ⟨S, [], w⟩ S1 w4 [.blk b3 ((cl29 y2.1)) 29, .blk b2 ((cl29 (((0 : UInt64), (0 : UInt64), (0 : UInt64), (0 : UInt64)), ((0 : UInt64), (0 : UInt64), (0 : UInt64), (0 : UInt64)), false))) 29, .blk b1 ((cl24 x0)) 24] := H
 refine p_as (v := .int .i64 (y2.2)) rfl ?_
 refine wpList_nil ?_; refine on_norm ?_
 refine xn hK2 ?_; clear hK2
 refine sr ?_; intro K3 hK3
 refine p_val (h_load (l := (cl29 y2.1)) tg29 H eq1 (k := 0) rfl rfl rfl) ?_
 refine p_ofs (a_store (k := 1) (v := .agg ((cl29 y2.1)).toArray) (l := (cl29 y2.1)) tsz29 H rfl rfl rfl (cells_agg _) rfl (fun u hu => List.all_eq_true.1 (rfl : ((cl29 y2.1)).all (·.oneCell') = true) u hu) rfl) ?_; clear H; intro w5 H
 replace H : HS ⟨S, [], w⟩ S1 w5 [.blk b3 ((cl29 y2.1)) 29, .blk b2 ((cl29 y2.1)) 29, .blk b1 ((cl24 x0)) 24] := H
 refine xk hK3 ?_; clear hK3
 refine wp_ret ?_
 obtain rfl := Option.some.inj hF
 refine e_1 rfl (qh_cell (l := (cl29 y2.1)) tg29 H rfl (k := 1) rfl rfl rfl) ?_
 exact ⟨rfl, H.toExt⟩
def sign_Public_p (x0 : UInt64 × UInt64 × UInt64 × UInt64) : Option (((UInt64 × UInt64 × UInt64 × UInt64) × (UInt64 × UInt64 × UInt64 × UInt64) × Bool) × Int) :=
  Option.bind (sign_fine_p x0) fun y1 => bif (!y1) then (some (((((0 : UInt64), (0 : UInt64), (0 : UInt64), (0 : UInt64)), ((0 : UInt64), (0 : UInt64), (0 : UInt64), (0 : UInt64)), false), 80))) else (Option.bind (sign_times_p x0) fun y2 => some ((y2, 0)))
theorem sign_Public_c {S : Mem} {w : World} (hS : Sub S w) {x0 : UInt64 × UInt64 × UInt64 × UInt64} {r : ((UInt64 × UInt64 × UInt64 × UInt64) × (UInt64 × UInt64 × UInt64 × UInt64) × Bool) × Int} (hF : sign_Public_p x0 = some r) :
    Calls Try.prog 6 #[.agg ((cl24 x0)).toArray] w fun e w' => e = .returned (.tuple #[.agg ((cl29 r.1)).toArray, .int .i64 (r.2)]) ∧ Ext w w' := by
 refine enter (n := 10) Try.func6 rfl rfl rfl ?_
 have H := HS.start hS
 unfold sign_Public_p at hF
 refine sr ?_; intro K1 hK1
 refine p_ofb (a_box (l := (cl24 x0)) H rfl) ?_; clear H; intro w1 b1 H
 refine p_ofb (a_alloc (l := (cl29 (((0 : UInt64), (0 : UInt64), (0 : UInt64), (0 : UInt64)), ((0 : UInt64), (0 : UInt64), (0 : UInt64), (0 : UInt64)), false))) H tz29 rfl) ?_; clear H; intro w2 b2 H
 refine p_as (v := .int .i64 (0)) rfl ?_
 refine xk hK1 ?_; clear hK1
 refine wp_seq_k ?_; intro K2 hK2
 refine sr ?_; intro K3 hK3
 refine p_val (h_load (l := (cl24 x0)) tg24 H rfl (k := 1) rfl rfl rfl) ?_
 obtain ⟨y1, e1, hF⟩ := bnd hF
 refine p_call (l := [.agg ((cl24 x0)).toArray]) is17 rfl ?_
 refine (sign_fine_c H.sub e1).mono ?_; rintro _ w3 ⟨rfl, hx⟩; replace H := H.ext hx; clear hx
 refine p_val (r_not (t := (!y1)) rfl rfl) ?_
 refine xk hK3 ?_; clear hK3
 refine c_split (t := (!y1)) rfl (fun hc1 => ?_) (fun hc1 => ?_)
 ·replace hF := cnd_t hF hc1
  refine sr ?_; intro K4 hK4
  refine p_val (r_build (vals := []) (l := (cl29 (((0 : UInt64), (0 : UInt64), (0 : UInt64), (0 : UInt64)), ((0 : UInt64), (0 : UInt64), (0 : UInt64), (0 : UInt64)), false))) tb29 rfl rfl) ?_
  refine p_ofs (a_store (k := 0) (v := .agg ((cl29 (((0 : UInt64), (0 : UInt64), (0 : UInt64), (0 : UInt64)), ((0 : UInt64), (0 : UInt64), (0 : UInt64), (0 : UInt64)), false))).toArray) (l := (cl29 (((0 : UInt64), (0 : UInt64), (0 : UInt64), (0 : UInt64)), ((0 : UInt64), (0 : UInt64), (0 : UInt64), (0 : UInt64)), false))) tsz29 H rfl rfl rfl (cells_agg _) rfl (fun u hu => List.all_eq_true.1 (rfl : ((cl29 (((0 : UInt64), (0 : UInt64), (0 : UInt64), (0 : UInt64)), ((0 : UInt64), (0 : UInt64), (0 : UInt64), (0 : UInt64)), false))).all (·.oneCell') = true) u hu) rfl) ?_; clear H; intro w4 H
  replace H : HS ⟨S, [], w⟩ S w4 [.blk b2 ((cl29 (((0 : UInt64), (0 : UInt64), (0 : UInt64), (0 : UInt64)), ((0 : UInt64), (0 : UInt64), (0 : UInt64), (0 : UInt64)), false))) 29, .blk b1 ((cl24 x0)) 24] := H
  refine p_as (v := .int .i64 (80)) rfl ?_
  refine xk hK4 ?_; clear hK4
  refine wp_ret ?_
  refine x_ret ?_
  obtain rfl := Option.some.inj hF
  refine e_2 rfl (qh_cell (l := (cl29 (((0 : UInt64), (0 : UInt64), (0 : UInt64), (0 : UInt64)), ((0 : UInt64), (0 : UInt64), (0 : UInt64), (0 : UInt64)), false))) tg29 H rfl (k := 0) rfl rfl rfl) (q_tmp (v := .int .i64 (80)) rfl) ?_
  exact ⟨rfl, H.toExt⟩
 ·replace hF := cnd_f hF hc1
  refine wp_skip ?_
  refine xn hK2 ?_; clear hK2
  refine sr ?_; intro K5 hK5
  refine p_val (h_load (l := (cl24 x0)) tg24 H rfl (k := 1) rfl rfl rfl) ?_
  obtain ⟨y2, e2, hF⟩ := bnd hF
  refine p_call (l := [.agg ((cl24 x0)).toArray]) is23 rfl ?_
  refine (sign_times_c H.sub e2).mono ?_; rintro _ w5 ⟨rfl, hx⟩; replace H := H.ext hx; clear hx
  refine p_ofs (a_store (k := 0) (v := .agg ((cl29 y2)).toArray) (l := (cl29 y2)) tsz29 H rfl rfl rfl (cells_agg _) rfl (fun u hu => List.all_eq_true.1 (rfl : ((cl29 y2)).all (·.oneCell') = true) u hu) rfl) ?_; clear H; intro w6 H
  replace H : HS ⟨S, [], w⟩ S w6 [.blk b2 ((cl29 y2)) 29, .blk b1 ((cl24 x0)) 24] := H
  refine p_as (v := .int .i64 (0)) rfl ?_
  refine xk hK5 ?_; clear hK5
  refine wp_ret ?_
  obtain rfl := Option.some.inj hF
  refine e_2 rfl (qh_cell (l := (cl29 y2)) tg29 H rfl (k := 0) rfl rfl rfl) (q_tmp (v := .int .i64 (0)) rfl) ?_
  exact ⟨rfl, H.toExt⟩
end Go.Proofs.Ytmbcolbbekbccaa
namespace Go.Proofs.Ytmbcolbbekbccaa
open Go Go.RowKit
section
variable {S : Mem} {w : World}
def field_Mul_p (m : Int) (a b : W4) : Option W4 := some (tv (nv a * nv b % modN m))
theorem field_Mul_c (_ : Sub S w) {x0 : Int} {x1 x2 r : W4} (hF : field_Mul_p x0 x1 x2 = some r) : Calls Try.prog 25 #[.int .i64 x0, .agg (cl24 x1).toArray, .agg (cl24 x2).toArray] w fun e w' => e = .returned (.agg (cl24 r).toArray) ∧ Ext w w' := by
  obtain rfl := Option.some.inj hF; rw [clN_v, clN_w, clN_w]; exact mul_c x0 _ _ (nv_lt _) (nv_lt _) w
def field_Inv_p (m : Int) (a : W4) : Option (W4 × Int) := some (tv (invV m (nv a)), invE m (nv a))
theorem field_Inv_c (_ : Sub S w) {x0 : Int} {x1 : W4} {r : W4 × Int} (hF : field_Inv_p x0 x1 = some r) : Calls Try.prog 24 #[.int .i64 x0, .agg (cl24 x1).toArray] w fun e w' => e = .returned (.tuple #[.agg (cl24 r.1).toArray, .int .i64 r.2]) ∧ Ext w w' := by
  obtain rfl := Option.some.inj hF; rw [clN_v, clN_w]; exact inv_c x0 _ (nv_lt _) w
def field_Of_p (m : Int) (l : List UInt8) : Option (W4 × Int) := Option.bind (chk (decide (l.length ≤ LIM))) fun _ => some (tv (ofV m l), ofE m l)
theorem field_Of_c (_ : Sub S w) {x0 : Int} {x1 : List UInt8} {r : W4 × Int} (hF : field_Of_p x0 x1 = some r) : Calls Try.prog 9 #[.int .i64 x0, str x1] w fun e w' => e = .returned (.tuple #[.agg (cl24 r.1).toArray, .int .i64 r.2]) ∧ Ext w w' := by
  unfold field_Of_p at hF
  obtain ⟨y, e, hF⟩ := bnd hF
  have hl := of_decide_eq_true (chk_some e)
  obtain rfl := Option.some.inj hF; rw [clN_v]; exact of_c x0 x1 (by unfold LIM at hl; omega) w
def field_Bytes_p (a : W4) : Option (List UInt8) := some (be 32 (nv a))
theorem field_Bytes_c (_ : Sub S w) {x0 : W4} {r : List UInt8} (hF : field_Bytes_p x0 = some r) : Calls Try.prog 10 #[.agg (cl24 x0).toArray] w fun e w' => e = .returned (str r) ∧ Ext w w' := by
  obtain rfl := Option.some.inj hF; rw [clN_w]; exact bytes_c _ w
def field_Neg_p (m : Int) (a : W4) : Option W4 := some (tv ((modN m - nv a % modN m) % modN m))
theorem field_Neg_c (_ : Sub S w) {x0 : Int} {x1 r : W4} (hF : field_Neg_p x0 x1 = some r) : Calls Try.prog 11 #[.int .i64 x0, .agg (cl24 x1).toArray] w fun e w' => e = .returned (.agg (cl24 r).toArray) ∧ Ext w w' := by
  obtain rfl := Option.some.inj hF; rw [clN_v, clN_w]; exact neg_c x0 _ (nv_lt _) w
def curve_Add_p (x0 x1 : Pw) : Option (Pw × Int) := some (ptW (cadd (apT x0) (apT x1)), cadde (apT x0) (apT x1))
theorem curve_Add_c (_ : Sub S w) {x0 x1 : Pw} {r : Pw × Int} (hF : curve_Add_p x0 x1 = some r) : Calls Try.prog 32 #[.agg (cl29 x0).toArray, .agg (cl29 x1).toArray] w fun e w' => e = .returned (.tuple #[.agg (cl29 r.1).toArray, .int .i64 r.2]) ∧ Ext w w' := by
  obtain rfl := Option.some.inj hF; rw [clP_ap, clP_ap, clP_W]
  exact cadd_c (nv x0.1) (nv x0.2.1) x0.2.2 (nv_lt _) (nv_lt _) (nv x1.1) (nv x1.2.1) x1.2.2 (nv_lt _) (nv_lt _) w
def strings_Repeat_p (l : List UInt8) (n : Int) : Option (List UInt8) := Option.bind (chk (decide (l.length ≤ 1000000) && (decide (0 ≤ n) && decide (n ≤ 1000000)))) fun _ => some (Lib.repeatL l n.toNat)
theorem strings_Repeat_c (_ : Sub S w) {x0 : List UInt8} {x1 : Int} {r : List UInt8} (hF : strings_Repeat_p x0 x1 = some r) : Calls Try.prog 19 #[str x0, .int .i64 x1] w fun e w' => e = .returned (str r) ∧ Ext w w' := by
  unfold strings_Repeat_p at hF
  obtain ⟨y, e, hF⟩ := bnd hF
  have hc := chk_some e
  have hl := of_decide_eq_true (and_l hc)
  have h0 := of_decide_eq_true (and_l (and_r hc))
  have h1 := of_decide_eq_true (and_r (and_r hc))
  obtain rfl := Option.some.inj hF
  have hn : x1 = ((x1.toNat : Nat) : Int) := by omega
  have hm : x0.length * x1.toNat ≤ 1000000 * 1000000 := Nat.mul_le_mul hl (by omega)
  have := Try.strings_Repeat ⟨x0.toArray⟩ x1.toNat w (by omega) (by show x0.toArray.size * _ ≤ _; rw [List.size_toArray]; omega)
  rw [hn]
  refine this.mono fun e' w' ⟨h1, h2⟩ => ⟨?_, ?_⟩
  · rw [h1]; rfl
  · exact h2
end
end Go.Proofs.Ytmbcolbbekbccaa
namespace Go.Proofs.Ytmbcolbbekbccaa
open Go Go.RowKit
attribute [local irreducible] wpList wpT Code.wp Calls Code.rounds
theorem is9 : IsFn Try.prog 9 := isFn Try.func9 (by kernel_rfl) (by kernel_rfl)
theorem is18 : IsFn Try.prog 18 := isFn Try.func18 (by kernel_rfl) (by kernel_rfl)
theorem is32 : IsFn Try.prog 32 := isFn Try.func32 (by kernel_rfl) (by kernel_rfl)
theorem is42 : IsFn Try.prog 42 := isFn Try.func42 (by kernel_rfl) (by kernel_rfl)
def sign_sum_p (x0 : List UInt8) : Option ((UInt64 × UInt64 × UInt64 × UInt64)) :=
  Option.bind (hash_Sum_p x0) fun y1 => Option.bind (field_Reduce_p 1 y1) fun y2 => some (y2)
theorem sign_sum_c {S : Mem} {w : World} (hS : Sub S w) {x0 : List UInt8} {r : (UInt64 × UInt64 × UInt64 × UInt64)} (hF : sign_sum_p x0 = some r) :
    Calls Try.prog 18 #[str (x0)] w fun e w' => e = .returned (.agg ((cl24 r)).toArray) ∧ Ext w w' := by
 refine enter (n := 6) Try.func18 rfl rfl rfl ?_
 have H := HS.start hS
 unfold sign_sum_p at hF
 refine sr ?_; intro K1 hK1
 refine p_ofb (a_alloc (l := (cl24 ((0 : UInt64), (0 : UInt64), (0 : UInt64), (0 : UInt64)))) H tz24 rfl) ?_; clear H; intro w1 b1 H
 refine xk hK1 ?_; clear hK1
 refine sr ?_; intro K2 hK2
 refine p_mv (v := str (x0)) rfl ?_
 obtain ⟨y1, e1, hF⟩ := bnd hF
 refine p_call (l := [str (x0)]) is39 rfl ?_
 refine (hash_Sum_c H.sub e1).mono ?_; rintro _ w2 ⟨rfl, hx⟩; replace H := H.ext hx; clear hx
 obtain ⟨y2, e2, hF⟩ := bnd hF
 refine p_call (l := [.int .i64 (1), str (y1)]) is42 rfl ?_
 refine (field_Reduce_c H.sub e2).mono ?_; rintro _ w3 ⟨rfl, hx⟩; replace H := H.ext hx; clear hx
 refine p_ofs (a_store (k := 0) (v := .agg ((cl24 y2)).toArray) (l := (cl24 y2)) tsz24 H rfl rfl rfl (cells_agg _) rfl (fun u hu => List.all_eq_true.1 (rfl : ((cl24 y2)).all (·.oneCell') = true) u hu) rfl) ?_; clear H; intro w4 H
 replace H : HS ⟨S, [], w⟩ S w4 [.blk b1 ((cl24 y2)) 24] := H
 refine xk hK2 ?_; clear hK2
 refine wp_ret ?_
 obtain rfl := Option.some.inj hF
 refine e_1 rfl (qh_cell (l := (cl24 y2)) tg24 H rfl (k := 0) rfl rfl rfl) ?_
 exact ⟨rfl, H.toExt⟩
def sign_Verify_p (x0 : (UInt64 × UInt64 × UInt64 × UInt64) × (UInt64 × UInt64 × UInt64 × UInt64) × Bool) (x1 : List UInt8) (x2 : List UInt8) : Option (Bool) :=
  Option.bind (bif (((x2).length : Int) != 64) then (some (true)) else (some (x0.2.2))) (fun t1 => Option.bind (bif t1 then (some (true)) else (Option.bind (curve_On_p x0) fun y1 => some ((!y1)))) (fun t2 => bif t2 then (some (false)) else (Option.bind (subH x2 32) fun y2 => Option.bind (field_Of_p 1 y2) fun y3 => Option.bind (subL x2 32) fun y4 => Option.bind (field_Of_p 1 y4) fun y5 => Option.bind (bif (bif (y3.2 != 0) then true else (y5.2 != 0)) then (some (true)) else (Option.bind (sign_fine_p y3.1) fun y6 => some ((!y6)))) (fun t3 => Option.bind (bif t3 then (some (true)) else (Option.bind (sign_fine_p y5.1) fun y7 => some ((!y7)))) (fun t4 => bif t4 then (some (false)) else (Option.bind (field_Inv_p 1 y5.1) fun y8 => Option.bind (sign_sum_p x1) fun y9 => Option.bind (field_Mul_p 1 y9 y8.1) fun y10 => Option.bind (sign_times_p y10) fun y11 => Option.bind (field_Mul_p 1 y3.1 y8.1) fun y12 => Option.bind (curve_Mul_p y12 x0) fun y13 => Option.bind (curve_Add_p y11 y13.1) fun y14 => bif (!y14.1.2.2) then (Option.bind (sign_zero_p) fun y15 => Option.bind (field_Add_p 1 y14.1.1 y15) fun y16 => some (((y16 : UInt64 × UInt64 × UInt64 × UInt64) == (y3.1 : UInt64 × UInt64 × UInt64 × UInt64)))) else (some (false))))))))
theorem sign_Verify_c {S : Mem} {w : World} (hS : Sub S w) {x0 : (UInt64 × UInt64 × UInt64 × UInt64) × (UInt64 × UInt64 × UInt64 × UInt64) × Bool} {x1 : List UInt8} {x2 : List UInt8} {r : Bool} (hF : sign_Verify_p x0 x1 x2 = some r) :
    Calls Try.prog 8 #[.agg ((cl29 x0)).toArray, str (x1), str (x2)] w fun e w' => e = .returned (.bool (r)) ∧ Ext w w' := by
 refine enter (n := 93) Try.func8 rfl rfl rfl ?_
 have H := HS.start hS
 unfold sign_Verify_p at hF
 refine sr ?_; intro K1 hK1
 refine p_ofb (a_box (l := (cl29 x0)) H rfl) ?_; clear H; intro w1 b1 H
 refine p_as (v := .bool (false)) rfl ?_
 refine xk hK1 ?_; clear hK1
 refine wp_seq_k ?_; intro K2 hK2
 refine sr ?_; intro K3 hK3
 refine p_mv (v := str (x2)) rfl ?_
 refine p_val (r_lenT (N := (x2).length) u9 rfl rfl) ?_
 refine p_val (r_neqI rfl rfl) ?_
 refine p_mv (v := .bool ((((x2).length : Int) != 64))) rfl ?_
 refine nameL fun m1 k1 => ?_
 refine gs_at 3 fun K4 hK4 R2 hR2 => ?_
 obtain ⟨t1, hE1, hF1⟩ := bnd hF
 have J5 : ∀ (m2 : FM) (w2 : World), (∀ t, has [22, 23, 24] t = false → look m2 t = look m1 t) → look m2 24 = .bool (t1) → HS ⟨S, [], w⟩ S w2 [.blk b1 ((cl29 x0)) 29] → K4 m2 w2 := by
  clear H; intro m2 w2 k2 q1 H
  have q2 : look m2 1 = str (x1) := (k2 1 rfl).trans (k1 1)
  have q3 : look m2 2 = str (x2) := (k2 2 rfl).trans (k1 2)
  have q4 : look m2 3 = .pointer (some ⟨b1, 0, none⟩) := (k2 3 rfl).trans (k1 3)
  refine hK4 _ _ ?_
  refine p_mv q1 ?_
  refine nameL fun m3 k3 => ?_
  refine gs_at 4 fun K5 hK5 R3 hR3 => ?_
  obtain ⟨t2, hE2, hF2⟩ := bnd hF1
  have J4 : ∀ (m4 : FM) (w4 : World), (∀ t, has [26, 27, 28, 29] t = false → look m4 t = look m3 t) → look m4 29 = .bool (t2) → HS ⟨S, [], w⟩ S w4 [.blk b1 ((cl29 x0)) 29] → K5 m4 w4 := by
   clear H; intro m4 w4 k4 q5 H
   have q6 : look m4 1 = str (x1) := (k4 1 rfl).trans ((k3 1).trans q2)
   have q7 : look m4 2 = str (x2) := (k4 2 rfl).trans ((k3 2).trans q3)
   have q8 : look m4 3 = .pointer (some ⟨b1, 0, none⟩) := (k4 3 rfl).trans ((k3 3).trans q4)
   refine hK5 _ _ ?_
   refine xk hK3 ?_; clear hK3
   refine c_split (t := t2) q5 (fun hc1 => ?_) (fun hc1 => ?_)
   ·replace hF2 := cnd_t hF2 hc1
    refine sr ?_; intro K6 hK6
    refine p_as (v := .bool (false)) rfl ?_
    refine xk hK6 ?_; clear hK6
    refine wp_ret ?_
    refine x_ret ?_
    obtain rfl := Option.some.inj hF2
    refine e_1 rfl (q_tmp (v := .bool (false)) rfl) ?_
    exact ⟨rfl, H.toExt⟩
   ·replace hF2 := cnd_f hF2 hc1
    refine wp_skip ?_
    refine xn hK2 ?_; clear hK2
    refine sr ?_; intro K7 hK7
    refine p_mv q7 ?_
    obtain ⟨y2, e2, hF2⟩ := bnd hF2
    refine p_val (r_sliceTH (h := (32 : Int).toNat) (r := y2) u9 rfl rfl (subH_some e2).1 (subH_some e2).2.1 (subH_some e2).2.2) ?_
    obtain ⟨y3, e3, hF2⟩ := bnd hF2
    refine p_call (l := [.int .i64 (1), str (y2)]) is9 rfl ?_
    refine (field_Of_c H.sub e3).mono ?_; rintro _ w5 ⟨rfl, hx⟩; replace H := H.ext hx; clear hx
    refine p_mv (v := .tuple #[.agg ((cl24 y3.1)).toArray, .int .i64 (y3.2)]) rfl ?_
    refine p_val (r_extract (v := .agg ((cl24 y3.1)).toArray) rfl rfl) ?_
    refine p_val (r_extract (v := .int .i64 (y3.2)) rfl rfl) ?_
    refine p_ofb (a_alloc (l := (cl24 ((0 : UInt64), (0 : UInt64), (0 : UInt64), (0 : UInt64)))) H tz24 rfl) ?_; clear H; intro w6 b2 H
    refine p_ofs (a_store (k := 0) (v := .agg ((cl24 y3.1)).toArray) (l := (cl24 y3.1)) tsz24 H rfl rfl rfl (cells_agg _) rfl (fun u hu => List.all_eq_true.1 (rfl : ((cl24 y3.1)).all (·.oneCell') = true) u hu) rfl) ?_; clear H; intro w7 H
    replace H : HS ⟨S, [], w⟩ S w7 [.blk b2 ((cl24 y3.1)) 24, .blk b1 ((cl29 x0)) 29] := H
    refine p_as (v := .int .i64 (y3.2)) rfl ?_
    refine xk hK7 ?_; clear hK7
    refine sr ?_; intro K8 hK8
    refine p_mv q7 ?_
    obtain ⟨y4, e4, hF2⟩ := bnd hF2
    refine p_val (r_sliceTL (p := (32 : Int).toNat) (r := y4) u9 rfl rfl (subL_some e4).1 (subL_some e4).2.1 (subL_some e4).2.2) ?_
    obtain ⟨y5, e5, hF2⟩ := bnd hF2
    refine p_call (l := [.int .i64 (1), str (y4)]) is9 rfl ?_
    refine (field_Of_c H.sub e5).mono ?_; rintro _ w8 ⟨rfl, hx⟩; replace H := H.ext hx; clear hx
    refine p_mv (v := .tuple #[.agg ((cl24 y5.1)).toArray, .int .i64 (y5.2)]) rfl ?_
    refine p_val (r_extract (v := .agg ((cl24 y5.1)).toArray) rfl rfl) ?_
    refine p_val (r_extract (v := .int .i64 (y5.2)) rfl rfl) ?_
    refine p_ofb (a_alloc (l := (cl24 ((0 : UInt64), (0 : UInt64), (0 : UInt64), (0 : UInt64)))) H tz24 rfl) ?_; clear H; intro w9 b3 H
    refine p_ofs (a_store (k := 0) (v := .agg ((cl24 y5.1)).toArray) (l := (cl24 y5.1)) tsz24 H rfl rfl rfl (cells_agg _) rfl (fun u hu => List.all_eq_true.1 (rfl : ((cl24 y5.1)).all (·.oneCell') = true) u hu) rfl) ?_; clear H; intro w10 H
    replace H : HS ⟨S, [], w⟩ S w10 [.blk b3 ((cl24 y5.1)) 24, .blk b2 ((cl24 y3.1)) 24, .blk b1 ((cl29 x0)) 29] := H
    refine p_as (v := .int .i64 (y5.2)) rfl ?_
    refine xk hK8 ?_; clear hK8
    refine wp_seq_k ?_; intro K9 hK9
    refine sr ?_; intro K10 hK10
    refine p_mv (v := .int .i64 (y3.2)) rfl ?_
    refine p_val (r_neqI rfl rfl) ?_
    refine p_mv (v := .bool ((y3.2 != 0))) rfl ?_
    refine nameL fun m5 k5 => ?_
    refine gs_at 3 fun K11 hK11 R6 hR6 => ?_
    have J1 : ∀ (m6 : FM), (∀ t, has [45, 46, 47] t = false → look m6 t = look m5 t) → look m6 47 = .bool ((bif (y3.2 != 0) then true else (y5.2 != 0))) → K11 m6 w10 := by
     intro m6 k6 q9
     have q10 : look m6 1 = str (x1) := (k6 1 rfl).trans ((k5 1).trans q6)
     have q11 : look m6 3 = .pointer (some ⟨b1, 0, none⟩) := (k6 3 rfl).trans ((k5 3).trans q8)
     have q12 : look m6 7 = .pointer (some ⟨b2, 0, none⟩) := (k6 7 rfl).trans (k5 7)
     have q13 : look m6 9 = .pointer (some ⟨b3, 0, none⟩) := (k6 9 rfl).trans (k5 9)
     refine hK11 _ _ ?_; clear hK11 hR6
     refine p_mv q9 ?_
     refine nameL fun m7 k7 => ?_
     refine gs_at 4 fun K12 hK12 R7 hR7 => ?_
     obtain ⟨t3, hE3, hF3⟩ := bnd hF2
     have J3 : ∀ (m8 : FM) (w12 : World), (∀ t, has [49, 50, 51, 52] t = false → look m8 t = look m7 t) → look m8 52 = .bool (t3) → HS ⟨S, [], w⟩ S w12 [.blk b3 ((cl24 y5.1)) 24, .blk b2 ((cl24 y3.1)) 24, .blk b1 ((cl29 x0)) 29] → K12 m8 w12 := by
      clear H; intro m8 w12 k8 q14 H
      have q15 : look m8 1 = str (x1) := (k8 1 rfl).trans ((k7 1).trans q10)
      have q16 : look m8 3 = .pointer (some ⟨b1, 0, none⟩) := (k8 3 rfl).trans ((k7 3).trans q11)
      have q17 : look m8 7 = .pointer (some ⟨b2, 0, none⟩) := (k8 7 rfl).trans ((k7 7).trans q12)
      have q18 : look m8 9 = .pointer (some ⟨b3, 0, none⟩) := (k8 9 rfl).trans ((k7 9).trans q13)
      refine hK12 _ _ ?_
      refine p_mv q14 ?_
      refine nameL fun m9 k9 => ?_
      refine gs_at 4 fun K13 hK13 R8 hR8 => ?_
      obtain ⟨t4, hE4, hF4⟩ := bnd hF3
      have J2 : ∀ (m10 : FM) (w14 : World), (∀ t, has [54, 55, 56, 57] t = false → look m10 t = look m9 t) → look m10 57 = .bool (t4) → HS ⟨S, [], w⟩ S w14 [.blk b3 ((cl24 y5.1)) 24, .blk b2 ((cl24 y3.1)) 24, .blk b1 ((cl29 x0)) 29] → K13 m10 w14 := by
       clear H; intro m10 w14 k10 q19 H
       have q20 : look m10 1 = str (x1) := (k10 1 rfl).trans ((k9 1).trans q15)
       have q21 : look m10 3 = .pointer (some ⟨b1, 0, none⟩) := (k10 3 rfl).trans ((k9 3).trans q16)
       have q22 : look m10 7 = .pointer (some ⟨b2, 0, none⟩) := (k10 7 rfl).trans ((k9 7).trans q17)
       have q23 : look m10 9 = .pointer (some ⟨b3, 0, none⟩) := (k10 9 rfl).trans ((k9 9).trans q18)
       refine hK13 _ _ ?_
       refine xk hK10 ?_; clear hK10
       refine c_split (t := t4) q19 (fun hc2 => ?_) (fun hc2 => ?_)
       ·replace hF4 := cnd_t hF4 hc2
        refine sr ?_; intro K14 hK14
        refine p_as (v := .bool (false)) rfl ?_
        refine xk hK14 ?_; clear hK14
        refine wp_ret ?_
        refine x_ret ?_
        obtain rfl := Option.some.inj hF4
        refine e_1 rfl (q_tmp (v := .bool (false)) rfl) ?_
        exact ⟨rfl, H.toExt⟩
       ·replace hF4 := cnd_f hF4 hc2
        refine wp_skip ?_
        refine xn hK9 ?_; clear hK9
        refine sr ?_; intro K15 hK15
        refine p_val (h_load (l := (cl24 y5.1)) tg24 H q23 (k := 0) rfl rfl rfl) ?_
        obtain ⟨y8, e8, hF4⟩ := bnd hF4
        refine p_call (l := [.int .i64 (1), .agg ((cl24 y5.1)).toArray]) is24 rfl ?_
        refine (field_Inv_c H.sub e8).mono ?_; rintro _ w15 ⟨rfl, hx⟩; replace H := H.ext hx; clear hx
        refine p_mv (v := .tuple #[.agg ((cl24 y8.1)).toArray, .int .i64 (y8.2)]) rfl ?_
        refine p_val (r_extract (v := .agg ((cl24 y8.1)).toArray) rfl rfl) ?_
        refine p_val (r_extract (v := .int .i64 (y8.2)) rfl rfl) ?_
        refine p_ofb (a_alloc (l := (cl24 ((0 : UInt64), (0 : UInt64), (0 : UInt64), (0 : UInt64)))) H tz24 rfl) ?_; clear H; intro w16 b4 H
        refine p_ofs (a_store (k := 0) (v := .agg ((cl24 y8.1)).toArray) (l := (cl24 y8.1)) tsz24 H rfl rfl rfl (cells_agg _) rfl (fun u hu => List.all_eq_true.1 (rfl : ((cl24 y8.1)).all (·.oneCell') = true) u hu) rfl) ?_; clear H; intro w17 H
        replace H : HS ⟨S, [], w⟩ S w17 [.blk b4 ((cl24 y8.1)) 24, .blk b3 ((cl24 y5.1)) 24, .blk b2 ((cl24 y3.1)) 24, .blk b1 ((cl29 x0)) 29] := H
        refine p_as (v := .int .i64 (y8.2)) rfl ?_
        refine xk hK15 ?_; clear hK15
        refine wp_seq_k ?_; intro K16 hK16
        obtain ⟨y9, e9, hF4⟩ := bnd hF4
        obtain ⟨y10, e10, hF4⟩ := bnd hF4
        obtain ⟨y11, e11, hF4⟩ := bnd hF4
        apply wp_region_ext 6 (kindsF [(1, .inl (.agg ((cl24 y9)).toArray)), (3, .inl (.agg ((cl24 y10)).toArray)), (4, .inl (.agg ((cl29 y11)).toArray)), (5, .inr (lowR (NewAt w17.drew ((cl29 (((0 : UInt64), (0 : UInt64), (0 : UInt64), (0 : UInt64)), ((0 : UInt64), (0 : UInt64), (0 : UInt64), (0 : UInt64)), false))) 29)))]) rfl rfl (by kernel_rfl); intro vs1
        simp only [List.take_succ_cons, List.take_zero, List.drop_succ_cons, List.drop_zero]
        replace H := H.drew
        refine t_v (fun w hx => r_move q20) ?_
        refine t_call (l := [str (x1)]) rfl rfl is18 rfl (fun w hx hF => (sign_sum_c (H.ext hx).sub e9).mono (fun _ _ ⟨he, hx⟩ => ⟨he, hx⟩)) ?_
        refine t_v (fun w hx => h_load (l := (cl24 y8.1)) tg24 (H.ext hx) rfl (k := 0) rfl rfl rfl) ?_
        refine t_call (l := [.int .i64 (1), .agg ((cl24 y9)).toArray, .agg ((cl24 y8.1)).toArray]) rfl rfl is25 rfl (fun w hx hF => (field_Mul_c (H.ext hx).sub e10).mono (fun _ _ ⟨he, hx⟩ => ⟨he, hx⟩)) ?_
        refine t_call (l := [.agg ((cl24 y10)).toArray]) rfl rfl is23 rfl (fun w hx hF => (sign_times_c (H.ext hx).sub e11).mono (fun _ _ ⟨he, hx⟩ => ⟨he, hx⟩)) ?_
        refine t_alloc rfl rfl tz29 rfl ?_
        refine t_nil (fun w18 hx hF hA => ?_)
        obtain ⟨F1, hd1, h01⟩ := depE hF
        obtain ⟨⟨b5, eq1, hb5, hh1⟩, hn1⟩ := fact_relF hF 5 rfl rfl
        have hle1 := gf_le (F := F1) (w := w18) H.sub; replace H := (HS.adopt (H.callF (F := F1) hx) (Nat.le_trans H.fr.size hb5) (gf_none hb5 (by rw [h01]; exact noF hA (by decide) rfl eq1 hn1)) hh1 (HS.keys_lt H hb5)); clear hx hF hA hd1 h01; generalize gf S w17.drew F1 w18 = S1 at hle1 H
        refine p_ofs (a_store (k := 0) (v := .agg ((cl29 y11)).toArray) (l := (cl29 y11)) tsz29 H eq1 rfl rfl (cells_agg _) rfl (fun u hu => List.all_eq_true.1 (rfl : ((cl29 y11)).all (·.oneCell') = true) u hu) rfl) ?_; clear H; intro w19 H
        replace H : HS ⟨S, [], w⟩ S1 w19 [.blk b5 ((cl29 y11)) 29, .blk b4 ((cl24 y8.1)) 24, .blk b3 ((cl24 y5.1)) 24, .blk b2 ((cl24 y3.1)) 24, .blk b1 ((cl29 x0)) 29] := H
        refine wpList_nil ?_; refine on_norm ?_
        refine xn hK16 ?_; clear hK16
        refine wp_seq_k ?_; intro K17 hK17
        obtain ⟨y12, e12, hF4⟩ := bnd hF4
        obtain ⟨y13, e13, hF4⟩ := bnd hF4
        apply wp_region_ext 9 (kindsF [(2, .inl (.agg ((cl24 y12)).toArray)), (4, .inl (.tuple #[.agg ((cl29 y13.1)).toArray, .int .i64 (y13.2)])), (8, .inr (lowR (NewAt w19.drew ((cl29 (((0 : UInt64), (0 : UInt64), (0 : UInt64), (0 : UInt64)), ((0 : UInt64), (0 : UInt64), (0 : UInt64), (0 : UInt64)), false))) 29)))]) rfl rfl (by kernel_rfl); intro vs2
        simp only [List.take_succ_cons, List.take_zero, List.drop_succ_cons, List.drop_zero]
        replace H := H.drew
        refine t_v (fun w hx => h_load (l := (cl24 y3.1)) tg24 (H.ext hx) q22 (k := 3) rfl rfl rfl) ?_
        refine t_v (fun w hx => h_load (l := (cl24 y8.1)) tg24 (H.ext hx) rfl (k := 1) rfl rfl rfl) ?_
        refine t_call (l := [.int .i64 (1), .agg ((cl24 y3.1)).toArray, .agg ((cl24 y8.1)).toArray]) rfl rfl is25 rfl (fun w hx hF => (field_Mul_c (H.ext hx).sub e12).mono (fun _ _ ⟨he, hx⟩ => ⟨he, hx⟩)) ?_
        refine t_v (fun w hx => h_load (l := (cl29 x0)) tg29 (H.ext hx) q21 (k := 4) rfl rfl rfl) ?_
        refine t_call (l := [.agg ((cl24 y12)).toArray, .agg ((cl29 x0)).toArray]) rfl rfl is31 rfl (fun w hx hF => (curve_Mul_c (H.ext hx).sub e13).mono (fun _ _ ⟨he, hx⟩ => ⟨he, hx⟩)) ?_
        refine t_v (fun w hx => r_move (v := .tuple #[.agg ((cl29 y13.1)).toArray, .int .i64 (y13.2)]) rfl) ?_
        refine t_v (fun w hx => r_extract (v := .agg ((cl29 y13.1)).toArray) rfl rfl) ?_
        refine t_float (fun w => r_extract (v := .int .i64 (y13.2)) rfl rfl) rfl rfl ?_
        refine t_alloc rfl rfl tz29 rfl ?_
        refine t_nil (fun w20 hx hF hA => ?_)
        obtain ⟨F2, hd2, h02⟩ := depE hF
        obtain ⟨⟨b6, eq2, hb6, hh2⟩, hn2⟩ := fact_relF hF 8 rfl rfl
        have hle2 := gf_le (F := F2) (w := w20) H.sub; replace H := (HS.adopt (H.callF (F := F2) hx) (Nat.le_trans H.fr.size hb6) (gf_none hb6 (by rw [h02]; exact noF hA (by decide) rfl eq2 hn2)) hh2 (HS.keys_lt H hb6)); clear hx hF hA hd2 h02; generalize gf S1 w19.drew F2 w20 = S2 at hle2 H
        refine p_ofs (a_store (k := 0) (v := .agg ((cl29 y13.1)).toArray) (l := (cl29 y13.1)) tsz29 H eq2 rfl rfl (cells_agg _) rfl (fun u hu => List.all_eq_true.1 (rfl : ((cl29 y13.1)).all (·.oneCell') = true) u hu) rfl) ?_; clear H; intro w21 H
        replace H : HS ⟨S, [], w⟩ S2 w21 [.blk b6 ((cl29 y13.1)) 29, .blk b5 ((cl29 y11)) 29, .blk b4 ((cl24 y8.1)) 24, .blk b3 ((cl24 y5.1)) 24, .blk b2 ((cl24 y3.1)) 24, .blk b1 ((cl29 x0)) 29] := H
        refine p_as (v := .int .i64 (y13.2)) rfl ?_
        refine wpList_nil ?_; refine on_norm ?_
        refine xn hK17 ?_; clear hK17
        refine sr ?_; intro K18 hK18
        refine p_val (h_load (l := (cl29 y11)) tg29 H eq1 (k := 1) rfl rfl rfl) ?_
        refine p_val (h_load (l := (cl29 y13.1)) tg29 H eq2 (k := 0) rfl rfl rfl) ?_
        obtain ⟨y14, e14, hF4⟩ := bnd hF4
        refine p_call (l := [.agg ((cl29 y11)).toArray, .agg ((cl29 y13.1)).toArray]) is32 rfl ?_
        refine (curve_Add_c H.sub e14).mono ?_; rintro _ w22 ⟨rfl, hx⟩; replace H := H.ext hx; clear hx
        refine p_mv (v := .tuple #[.agg ((cl29 y14.1)).toArray, .int .i64 (y14.2)]) rfl ?_
        refine p_val (r_extract (v := .agg ((cl29 y14.1)).toArray) rfl rfl) ?_
        refine p_val (r_extract (v := .int .i64 (y14.2)) rfl rfl) ?_
        refine p_ofb (a_alloc (l := (cl29 (((0 : UInt64), (0 : UInt64), (0 : UInt64), (0 : UInt64)), ((0 : UInt64), (0 : UInt64), (0 : UInt64), (0 : UInt64)), false))) H tz29 rfl) ?_; clear H; intro w23 b7 H
        refine p_ofs (a_store (k := 0) (v := .agg ((cl29 y14.1)).toArray) (l := (cl29 y14.1)) tsz29 H rfl rfl rfl (cells_agg _) rfl (fun u hu => List.all_eq_true.1 (rfl : ((cl29 y14.1)).all (·.oneCell') = true) u hu) rfl) ?_; clear H; intro w24 H
        replace H : HS ⟨S, [], w⟩ S2 w24 [.blk b7 ((cl29 y14.1)) 29, .blk b6 ((cl29 y13.1)) 29, .blk b5 ((cl29 y11)) 29, .blk b4 ((cl24 y8.1)) 24, .blk b3 ((cl24 y5.1)) 24, .blk b2 ((cl24 y3.1)) 24, .blk b1 ((cl29 x0)) 29] := H
        refine p_as (v := .int .i64 (y14.2)) rfl ?_
        refine xk hK18 ?_; clear hK18
        refine wp_seq_k ?_; intro K19 hK19
        rcases Bool.eq_false_or_eq_true ((!y14.1.2.2)) with hb7 | hb7
        ·replace hF4 := cnd_t hF4 hb7
         obtain ⟨y15, e15, hF4⟩ := bnd hF4
         obtain ⟨y16, e16, hF4⟩ := bnd hF4
         apply wp_region_ext 11 (kindsF [(6, .inl (.agg ((cl24 y15)).toArray)), (7, .inl (.agg ((cl24 y16)).toArray))]) rfl rfl (by kernel_rfl); intro vs3
         simp only [List.take_succ_cons, List.take_zero, List.drop_succ_cons, List.drop_zero]
         replace H := H.drew
         refine t_v (fun w hx => r_field fa29_2 rfl) ?_
         refine t_v (fun w hx => h_load1 (v := .bool (y14.1.2.2)) to4 (H.ext hx) rfl (k := 0) rfl rfl) ?_
         refine t_v (fun w hx => r_not (t := (!y14.1.2.2)) rfl rfl) ?_
         refine t_v (fun w hx => r_move (v := .bool ((!y14.1.2.2))) rfl) ?_
         refine t_valG rfl hb7 (fun w hx => r_field fa29_0 rfl) rfl rfl ?_
         refine t_valG rfl hb7 (fun w hx => h_load (l := (cl24 y14.1.1)) tg24 (H.ext hx) rfl (k := 0) rfl rfl rfl) rfl rfl ?_
         refine t_callG rfl hb7 (l := []) rfl rfl is21 rfl (fun w hx hF => (sign_zero_c (H.ext hx).sub e15).mono (fun _ _ ⟨he, hx⟩ => ⟨he, hx⟩)) ?_
         refine t_callG rfl hb7 (l := [.int .i64 (1), .agg ((cl24 y14.1.1)).toArray, .agg ((cl24 y15)).toArray]) rfl rfl is22 rfl (fun w hx hF => (field_Add_c (H.ext hx).sub e16).mono (fun _ _ ⟨he, hx⟩ => ⟨he, hx⟩)) ?_
         refine t_valG rfl hb7 (fun w hx => h_load (l := (cl24 y3.1)) tg24 (H.ext hx) q22 (k := 5) rfl rfl rfl) rfl rfl ?_
         refine t_valG rfl hb7 (fun w hx => r_eqR eg24 (by decide) (eqt24 y16 y3.1) rfl rfl) rfl rfl ?_
         refine t_v (fun w hx => r_pickt (v := .bool (((y16 : UInt64 × UInt64 × UInt64 × UInt64) == (y3.1 : UInt64 × UInt64 × UInt64 × UInt64)))) rfl hb7 rfl) ?_
         refine t_nil (fun w25 hx hF hA => ?_)
         replace H := H.ext hx; clear hx hF hA
         refine p_as (v := .bool (((y16 : UInt64 × UInt64 × UInt64 × UInt64) == (y3.1 : UInt64 × UInt64 × UInt64 × UInt64)))) rfl ?_
         refine wpList_nil ?_; refine on_norm ?_
         refine xn hK19 ?_; clear hK19
         refine wp_ret ?_
         obtain rfl := Option.some.inj hF4
         refine e_1 rfl (q_tmp (v := .bool (((y16 : UInt64 × UInt64 × UInt64 × UInt64) == (y3.1 : UInt64 × UInt64 × UInt64 × UInt64)))) rfl) ?_
         exact ⟨rfl, H.toExt⟩
        ·replace hF4 := cnd_f hF4 hb7
         apply wp_region_ext 11 (kindsF []) rfl rfl (by kernel_rfl); intro vs3
         simp only [List.take_succ_cons, List.take_zero, List.drop_succ_cons, List.drop_zero]
         replace H := H.drew
         refine t_v (fun w hx => r_field fa29_2 rfl) ?_
         refine t_v (fun w hx => h_load1 (v := .bool (y14.1.2.2)) to4 (H.ext hx) rfl (k := 0) rfl rfl) ?_
         refine t_v (fun w hx => r_not (t := (!y14.1.2.2)) rfl rfl) ?_
         refine t_v (fun w hx => r_move (v := .bool ((!y14.1.2.2))) rfl) ?_
         refine t_skip rfl hb7 rfl ?_
         rw [put_fr]
         refine t_skip rfl hb7 rfl ?_
         rw [put_fr]
         refine t_skip rfl hb7 rfl ?_
         rw [put_fr]
         refine t_skip rfl hb7 rfl ?_
         rw [put_fr]
         refine t_skip rfl hb7 rfl ?_
         rw [put_fr]
         refine t_skip rfl hb7 rfl ?_
         rw [put_fr]
         refine t_v (fun w hx => r_pickf (v := .bool (false)) rfl hb7 rfl) ?_
         refine t_nil (fun w26 hx hF hA => ?_)
         replace H := H.ext hx; clear hx hF hA
         refine p_as (v := .bool (false)) rfl ?_
         refine wpList_nil ?_; refine on_norm ?_
         refine xn hK19 ?_; clear hK19
         refine wp_ret ?_
         obtain rfl := Option.some.inj hF4
         refine e_1 rfl (q_tmp (v := .bool (false)) rfl) ?_
         exact ⟨rfl, H.toExt⟩
      refine p_gs (j := 11) (gvl_at rfl rfl (k9 53)) (fun hb4 => ?_) (fun hb4 => ?_)
      ·replace hE4 := cnd_t hE4 hb4
       refine p_skip (gvl_at rfl rfl (k9 53)) hb4 ?_
       rw [put_fr]
       refine p_skip (gvl_at rfl rfl (k9 53)) hb4 ?_
       rw [put_fr]
       refine p_skip (gvl_at rfl rfl (k9 53)) hb4 ?_
       rw [put_fr]
       refine p_val (r_pickt (v := .bool (true)) (k9 53) hb4 rfl) ?_
       refine hR8 _ _ ?_
       replace H : HS ⟨S, [], w⟩ S w12 [.blk b3 ((cl24 y5.1)) 24, .blk b2 ((cl24 y3.1)) 24, .blk b1 ((cl29 x0)) 29] := H
       obtain rfl := Option.some.inj hE4
       exact J2 _ _ (by (repeat (refine keep_cons rfl ?_)); exact fun _ _ => rfl) rfl H
      ·replace hE4 := cnd_f hE4 hb4
       refine p_want (gvl_at rfl rfl (k9 53)) hb4 ?_
       refine p_val (h_load (l := (cl24 y5.1)) tg24 H ((k9 9).trans q18) (k := 0) rfl rfl rfl) ?_
       refine p_want (gvl_at rfl rfl (k9 53)) hb4 ?_
       obtain ⟨y7, e7, hE4⟩ := bnd hE4
       refine p_call (l := [.agg ((cl24 y5.1)).toArray]) is17 rfl ?_
       refine (sign_fine_c H.sub e7).mono ?_; rintro _ w13 ⟨rfl, hx⟩; replace H := H.ext hx; clear hx
       refine p_want (gvl_at rfl rfl (k9 53)) hb4 ?_
       refine p_val (r_not (t := (!y7)) rfl rfl) ?_
       refine p_val (r_pickf (v := .bool ((!y7))) (k9 53) hb4 rfl) ?_
       refine hR8 _ _ ?_
       replace H : HS ⟨S, [], w⟩ S w13 [.blk b3 ((cl24 y5.1)) 24, .blk b2 ((cl24 y3.1)) 24, .blk b1 ((cl29 x0)) 29] := H
       obtain rfl := Option.some.inj hE4
       exact J2 _ _ (by (repeat (refine keep_cons rfl ?_)); exact fun _ _ => rfl) rfl H
     refine p_gs (j := 6) (gvl_at rfl rfl (k7 48)) (fun hb3 => ?_) (fun hb3 => ?_)
     ·replace hE3 := cnd_t hE3 hb3
      refine p_skip (gvl_at rfl rfl (k7 48)) hb3 ?_
      rw [put_fr]
      refine p_skip (gvl_at rfl rfl (k7 48)) hb3 ?_
      rw [put_fr]
      refine p_skip (gvl_at rfl rfl (k7 48)) hb3 ?_
      rw [put_fr]
      refine p_val (r_pickt (v := .bool (true)) (k7 48) hb3 rfl) ?_
      refine hR7 _ _ ?_
      replace H : HS ⟨S, [], w⟩ S w10 [.blk b3 ((cl24 y5.1)) 24, .blk b2 ((cl24 y3.1)) 24, .blk b1 ((cl29 x0)) 29] := H
      obtain rfl := Option.some.inj hE3
      exact J3 _ _ (by (repeat (refine keep_cons rfl ?_)); exact fun _ _ => rfl) rfl H
     ·replace hE3 := cnd_f hE3 hb3
      refine p_want (gvl_at rfl rfl (k7 48)) hb3 ?_
      refine p_val (h_load (l := (cl24 y3.1)) tg24 H ((k7 7).trans q12) (k := 1) rfl rfl rfl) ?_
      refine p_want (gvl_at rfl rfl (k7 48)) hb3 ?_
      obtain ⟨y6, e6, hE3⟩ := bnd hE3
      refine p_call (l := [.agg ((cl24 y3.1)).toArray]) is17 rfl ?_
      refine (sign_fine_c H.sub e6).mono ?_; rintro _ w11 ⟨rfl, hx⟩; replace H := H.ext hx; clear hx
      refine p_want (gvl_at rfl rfl (k7 48)) hb3 ?_
      refine p_val (r_not (t := (!y6)) rfl rfl) ?_
      refine p_val (r_pickf (v := .bool ((!y6))) (k7 48) hb3 rfl) ?_
      refine hR7 _ _ ?_
      replace H : HS ⟨S, [], w⟩ S w11 [.blk b3 ((cl24 y5.1)) 24, .blk b2 ((cl24 y3.1)) 24, .blk b1 ((cl29 x0)) 29] := H
      obtain rfl := Option.some.inj hE3
      exact J3 _ _ (by (repeat (refine keep_cons rfl ?_)); exact fun _ _ => rfl) rfl H
    refine p_gs (j := 2) (gvl_at rfl rfl (k5 44)) (fun hb8 => ?_) (fun hb8 => ?_)
    ·skip
     refine p_skip (gvl_at rfl rfl (k5 44)) hb8 ?_
     rw [put_fr]
     refine p_skip (gvl_at rfl rfl (k5 44)) hb8 ?_
     rw [put_fr]
     refine p_val (r_pickt (v := .bool (true)) (k5 44) hb8 rfl) ?_
     refine hR6 _ _ ?_
     exact J1 _ (by (repeat (refine keep_cons rfl ?_)); exact fun _ _ => rfl) (show (.bool (true) : Value) = .bool ((bif (y3.2 != 0) then true else (y5.2 != 0))) from congrArg Value.bool (by simp only [hb8, cond_true, cond_false]))
    ·skip
     refine p_want (gvl_at rfl rfl (k5 44)) hb8 ?_
     refine p_mv (k5 10) ?_
     refine p_want (gvl_at rfl rfl (k5 44)) hb8 ?_
     refine p_val (r_neqI rfl rfl) ?_
     refine p_val (r_pickf (v := .bool ((y5.2 != 0))) (k5 44) hb8 rfl) ?_
     refine hR6 _ _ ?_
     exact J1 _ (by (repeat (refine keep_cons rfl ?_)); exact fun _ _ => rfl) (show (.bool ((y5.2 != 0)) : Value) = .bool ((bif (y3.2 != 0) then true else (y5.2 != 0))) from congrArg Value.bool (by simp only [hb8, cond_true, cond_false]))
  refine p_gs (j := 7) (gvl_at rfl rfl (k3 25)) (fun hb2 => ?_) (fun hb2 => ?_)
  ·replace hE2 := cnd_t hE2 hb2
   refine p_skip (gvl_at rfl rfl (k3 25)) hb2 ?_
   rw [put_fr]
   refine p_skip (gvl_at rfl rfl (k3 25)) hb2 ?_
   rw [put_fr]
   refine p_skip (gvl_at rfl rfl (k3 25)) hb2 ?_
   rw [put_fr]
   refine p_val (r_pickt (v := .bool (true)) (k3 25) hb2 rfl) ?_
   refine hR3 _ _ ?_
   replace H : HS ⟨S, [], w⟩ S w2 [.blk b1 ((cl29 x0)) 29] := H
   obtain rfl := Option.some.inj hE2
   exact J4 _ _ (by (repeat (refine keep_cons rfl ?_)); exact fun _ _ => rfl) rfl H
  ·replace hE2 := cnd_f hE2 hb2
   refine p_want (gvl_at rfl rfl (k3 25)) hb2 ?_
   refine p_val (h_load (l := (cl29 x0)) tg29 H ((k3 3).trans q4) (k := 0) rfl rfl rfl) ?_
   refine p_want (gvl_at rfl rfl (k3 25)) hb2 ?_
   obtain ⟨y1, e1, hE2⟩ := bnd hE2
   refine p_call (l := [.agg ((cl29 x0)).toArray]) is30 rfl ?_
   refine (curve_On_c H.sub e1).mono ?_; rintro _ w3 ⟨rfl, hx⟩; replace H := H.ext hx; clear hx
   refine p_want (gvl_at rfl rfl (k3 25)) hb2 ?_
   refine p_val (r_not (t := (!y1)) rfl rfl) ?_
   refine p_val (r_pickf (v := .bool ((!y1))) (k3 25) hb2 rfl) ?_
   refine hR3 _ _ ?_
   replace H : HS ⟨S, [], w⟩ S w3 [.blk b1 ((cl29 x0)) 29] := H
   obtain rfl := Option.some.inj hE2
   exact J4 _ _ (by (repeat (refine keep_cons rfl ?_)); exact fun _ _ => rfl) rfl H
 refine p_gs (j := 3) (gvl_at rfl rfl (k1 21)) (fun hb1 => ?_) (fun hb1 => ?_)
 ·replace hE1 := cnd_t hE1 hb1
  refine p_skip (gvl_at rfl rfl (k1 21)) hb1 ?_
  rw [put_fr]
  refine p_skip (gvl_at rfl rfl (k1 21)) hb1 ?_
  rw [put_fr]
  refine p_val (r_pickt (v := .bool (true)) (k1 21) hb1 rfl) ?_
  refine hR2 _ _ ?_
  replace H : HS ⟨S, [], w⟩ S w1 [.blk b1 ((cl29 x0)) 29] := H
  obtain rfl := Option.some.inj hE1
  exact J5 _ _ (by (repeat (refine keep_cons rfl ?_)); exact fun _ _ => rfl) rfl H
 ·replace hE1 := cnd_f hE1 hb1
  refine p_want (gvl_at rfl rfl (k1 21)) hb1 ?_
  refine p_val (r_field fa29_2 (k1 3)) ?_
  refine p_want (gvl_at rfl rfl (k1 21)) hb1 ?_
  refine p_val (h_load1 (v := .bool (x0.2.2)) to4 H rfl (k := 0) rfl rfl) ?_
  refine p_val (r_pickf (v := .bool (x0.2.2)) (k1 21) hb1 rfl) ?_
  refine hR2 _ _ ?_
  replace H : HS ⟨S, [], w⟩ S w1 [.blk b1 ((cl29 x0)) 29] := H
  obtain rfl := Option.some.inj hE1
  exact J5 _ _ (by (repeat (refine keep_cons rfl ?_)); exact fun _ _ => rfl) rfl H
end Go.Proofs.Ytmbcolbbekbccaa
