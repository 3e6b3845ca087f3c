/- Steps of a walk: bytes copied into an own slice, a new row of whatever bytes, a slice's capacity cut. What some functions compute, and that they do. Plain laws of the words that walks are told in: loops, lists, bytes. Package hash: what its sums and macs are: plain laws. Package hash: are two texts the same: plain laws. strings.Builder: what its methods do to a builder of the call's own. Conditions: as each theorem says. -/
import Derived.Lib.MakeNoZero
import Derived.KernelRfl
import Derived.Test.YtmkomlbiaebddaaGreatDoorRows
import Derived.Lib.Builder
import Derived.Lib.UnsafeStr
import Derived.LaidEql
import Derived.Laws.Externs
import Derived.Test.YtmkomlbiaebddaaGreatDoorQsD
namespace Go.Proofs.YtmkomlbiaebddaaGreatDoor
open Go Go.RowKit
def putB (xs : List UInt8) (p : Nat) (ys : List UInt8) : List UInt8 := xs.take p ++ (ys.take (xs.length - p) ++ xs.drop (p + min ys.length (xs.length - p)))
theorem putB_len (xs : List UInt8) (p : Nat) (ys : List UInt8) (h : p ≤ xs.length) : (putB xs p ys).length = xs.length := by
  simp only [putB, List.length_append, List.length_take, List.length_drop]; omega
noncomputable def anyJ {α : Type} (n : Nat) (f : List UInt8 → Option α) : Option α := by
  classical exact if h : ∃ r, ∀ l : List UInt8, l.length = n → f l = some r then some (Classical.choose h) else none
theorem anyJ_some {α : Type} {n : Nat} {f : List UInt8 → Option α} {r : α} (h : anyJ n f = some r) (l : List UInt8) (hl : l.length = n) : f l = some r := by
  unfold anyJ at h
  split at h
  · rename_i hc
    obtain rfl := Option.some.inj h
    exact Classical.choose_spec hc l hl
  · cases h
theorem anyJ_intro {α : Type} {n : Nat} {f : List UInt8 → Option α} {r : α} (h : ∀ l : List UInt8, l.length = n → f l = some r) : anyJ n f = some r := by
  unfold anyJ
  have hc : ∃ r, ∀ l : List UInt8, l.length = n → f l = some r := ⟨r, h⟩
  rw [dif_pos hc]
  have h1 := Classical.choose_spec hc (List.replicate n 0) (by simp)
  rw [h _ (by simp)] at h1
  exact h1.symm
theorem RL.u8 {S : Mem} : ∀ {xs : List UInt8} {cs : List Value}, RL S cs xs → cs = u8s xs
  | [], _, h => h
  | x :: xs, _, ⟨c, d, e, h1, h2⟩ => by
    obtain rfl := elU8 h1
    rw [e, RL.u8 h2]; rfl
theorem digits_u8 : ∀ (n t : Nat) (acc : List UInt8), ∃ l : List UInt8, l.length = n ∧ Extern.BytealgMakeNoZero.digits n t (u8s acc).toArray = (u8s (acc ++ l)).toArray
  | 0, _, acc => ⟨[], rfl, by simp [Extern.BytealgMakeNoZero.digits]⟩
  | n + 1, t, acc => by
    obtain ⟨l, h1, h2⟩ := digits_u8 n (t / 256) (acc ++ [UInt8.ofNat (t % 256)])
    refine ⟨UInt8.ofNat (t % 256) :: l, by simp [h1], ?_⟩
    have e : ((u8s acc).toArray.push (.int .u8 (Int.ofNat (t % 256)))) = (u8s (acc ++ [UInt8.ofNat (t % 256)])).toArray := by
      simp [u8s]
    rw [Extern.BytealgMakeNoZero.digits, e, h2]; simp
section
variable {P : Program}
theorem run_mnz (w : World) (ps : Array TypeId) (t e : TypeId) (ht : P.underlying t = some (.slice e)) (n : Nat) (hn : n ≤ 281474976710656) :
    ∃ l : List UInt8, n ≤ l.length ∧ (Extern.BytealgMakeNoZero.makeNoZero ps #[t] #[.int .i64 n]).run P w = .ok (sl w.heap.size 0 n l.length) (w.drew.drew.alloc (.cells (u8s l).toArray e)) := by
  obtain ⟨l, h1, h2⟩ := digits_u8 (grownCap w n 0 e) ((Question.extern "internal/bytealg.MakeNoZero.bytes" 0).cut (w.tape (w.drawn + 1) (.extern "internal/bytealg.MakeNoZero.bytes" 0))) []
  refine ⟨l, by rw [h1]; simpa using grownCap_ge w n 0 e, ?_⟩
  have a1 : ¬ (n : Int) < 0 := by omega
  have a2 : ¬ (281474976710656 : Int) < (n : Int) := by omega
  rw [show (u8s l).toArray = Extern.BytealgMakeNoZero.digits (grownCap w n 0 e) _ #[] from h2.symm, h1]
  delta Extern.BytealgMakeNoZero.makeNoZero
  delta Extern.BytealgMakeNoZero.makeNoZero.match_3
  delta Extern.BytealgMakeNoZero.makeNoZero._sparseCasesOn_3 Extern.BytealgMakeNoZero.makeNoZero._sparseCasesOn_4
  dsimp [Array.getLit]
  simp [run_underlying ht, a1, a2, Question.forced, newRow, grownCap, sl]
end
section
variable {P : Program} {w : World} {B : Bas} {S : Mem} {L : List Res} {T T' E dT sT : TypeId} {e : Operand → Value} {x y lo hi mx : Operand} {dst : Option Tmp} {pos : String} {aft : Array Edge} {ty : TypeId} {g : Option (Nat × Bool)} {v : Value} {k1 k2 : IntKind}
theorem a_mnz {fn : Func} {f : FuncId} {at_ ps : Array TypeId} {t : TypeId} {a : Int} (hf : P.funcs[f]? = some fn) (hname : (fn.name == "runtime.NumGoroutine") = false) (hb : fn.body.isNone = true) (hn : Extern.findNext fn = none)
    (he : Extern.find fn = some (Extern.BytealgMakeNoZero.makeNoZero ps #[t])) (ht : P.underlying t = some (.slice E)) (he0 : e (.func f) = .func (.func f) #[] #[]) (H : HS B S w L) (hx : e x = .int .i64 a) (h0 : 0 ≤ a) (h1 : a ≤ (LIM : Int)) :
    ∃ w' v, (execOp e ⟨dst, .call ⟨.value (.func f), #[x], at_⟩, ty, pos, aft, g⟩).run P w = .ok (.value v) w' ∧ ∃ b c jk jr, v = sl b 0 jk.length c ∧ jk.length = a.toNat ∧ HS B S w' (.osl (sl b 0 jk.length c) jk.length 1 (u8s jk) (u8s jr) E :: L) := by
  have h1' : a ≤ 68719476736 := h1
  obtain ⟨n, rfl⟩ := Int.eq_ofNat_of_zero_le h0
  obtain ⟨l, hl, hrun⟩ := run_mnz w ps t E ht n (by omega)
  have hc : (callFunc f #[.int .i64 (n : Int)]).run P w = .ok (.value (sl w.heap.size 0 n l.length)) (w.drew.drew.alloc (.cells (u8s l).toArray E)) := by
    rw [run_callFunc_extern hf hname hb hn he, hrun]; rfl
  have hlen : (l.take n).length = n := by simp; omega
  have hop : (execOp e ⟨dst, .call ⟨.value (.func f), #[x], at_⟩, ty, pos, aft, g⟩).run P w = .ok (.value (sl w.heap.size 0 n l.length)) (w.drew.drew.alloc (.cells (u8s l).toArray E)) := by
    simp only [execOp, resolve, he0, Deferred.ofValue, Sem.run_bind, Sem.run_pure, Result.andThen, invoke]
    simpa [hx] using hc
  refine ⟨_, _, hop, w.heap.size, l.length, l.take n, l.drop n, by rw [hlen], by rw [hlen]; exact (Int.toNat_natCast n).symm, ?_⟩
  rw [hlen]
  refine H.push (Ext.trans (Ext.drew w) (Ext.trans (Ext.drew w.drew) (Ext.alloc w.drew.drew _))) (.inr ⟨w.heap.size, l.length, (0, 0), rfl, hl, by simp [u8s]; omega, by simp [u8s], ?_, .inl rfl⟩) fun b hb => by cases hb; exact Nat.le_refl _
  have : u8s (l.take n) ++ u8s (l.drop n) = u8s l := by simp only [u8s, ← List.map_append, List.take_append_drop]
  rw [this]
  exact heap_alloc_self w.drew.drew _
theorem r_sliceC {b c N sz : Nat} {a : Int} (hu : P.underlying T = some (.slice E)) (ts : TSz P E sz) (hx : e x = sl b 0 N c) (hy : e hi = .int k1 a) (hz : e mx = .int k2 a) (ha : a = (N : Int)) (hc : N ≤ c) :
    (execOp e ⟨dst, .slice T x none (some hi) (some mx), ty, pos, aft, g⟩).run P w = .ok (.value (sl b 0 N N)) w := by
  simp [execOp, Instr.sliceAt, Go.underlying, hu, Instr.slice, Instr.sliceBounds, hx, hy, hz, sl, run_bound (P := P) (w := w) ha hc, run_bound (P := P) (w := w) ha (Nat.le_refl _), ts w, Addr.add]
theorem HS.recap {k b c N sz : Nat} {cs rs : List Value} (H : HS B S w L) (hk : lkR L k = some (.osl (sl b 0 N c) N sz cs rs T')) : HS B S w (stR L k (.osl (sl b 0 N N) N sz cs rs T')) := by
  rcases H.own k _ hk with ⟨h, _⟩ | ⟨b', c', fz, hv', h1, h2, h3, h4, h5⟩
  · cases h
  · injection hv' with e1 e2 e3
    injection e1 with e1
    injection e1 with e1 _ _
    subst e1; subst e3
    exact H.upd hk (Nat.le_refl _) rfl rfl rfl (fun _ _ _ => rfl) (.inr ⟨b, N, fz, rfl, Nat.le_refl _, h2, Nat.le_trans (Nat.mul_le_mul_right sz h1) h3, h4, h5⟩) fun b' hb' => .inl hb'
theorem capOf {k b c N sz : Nat} {cs rs : List Value} (H : HS B S w L) (hk : lkR L k = some (.osl (sl b 0 N c) N sz cs rs T')) : N ≤ c := by
  rcases H.own k _ hk with ⟨h, _⟩ | ⟨b', c', fz, hv', h1, _⟩
  · cases h
  · injection hv' with e1 e2 e3
    subst e3; exact h1
theorem lay_u8s (xs ys : List UInt8) (p n : Nat) (rs : List Value) (hn : n = min ys.length (xs.length - p)) (hp : p ≤ xs.length) : lay (u8s xs ++ rs) p (u8s (ys.take n)) = u8s (putB xs p ys) ++ rs := by
  apply List.ext_getElem?
  intro j
  rw [lay_get]
  have h1 : (u8s (ys.take n)).length = n := by simp [u8s]; omega
  have h2 : (u8s (putB xs p ys)).length = xs.length := by rw [u8s, List.length_map, putB_len _ _ _ hp]
  have h3 : (u8s xs).length = xs.length := by simp [u8s]
  have h4 : (xs.take p).length = p := by simp; omega
  by_cases hj : p ≤ j ∧ j < p + n
  · rw [if_pos (by rw [h1, List.length_append, h3]; omega), List.getElem?_append_left (by rw [h2]; omega)]
    simp only [u8s, putB, List.map_append]
    rw [List.getElem?_append_right (by simp; omega), List.getElem?_append_left (by simp; omega)]
    simp only [List.length_map, h4, List.getElem?_map, List.getElem?_take]
    rw [if_pos (by omega), if_pos (by omega)]
  · rw [if_neg (by rw [h1]; omega)]
    by_cases hx : j < xs.length
    · rw [List.getElem?_append_left (by rw [h3]; omega), List.getElem?_append_left (by rw [h2]; omega)]
      simp only [u8s, putB, List.map_append]
      by_cases hq : j < p
      · rw [List.getElem?_append_left (by simp; omega)]
        simp only [List.getElem?_map, List.getElem?_take, if_pos hq]
      · rw [List.getElem?_append_right (by simp; omega), List.getElem?_append_right (by simp; omega)]
        simp only [List.length_map, h4, List.getElem?_map, List.getElem?_drop, List.length_take]
        congr 2; omega
    · rw [List.getElem?_append_right (by rw [h3]; omega), List.getElem?_append_right (by rw [h2]; omega), h2, h3]
theorem a_copyO {k p : Nat} {xs ys : List UInt8} {S2 : Mem} {cs rs : List Value} {v2 : Value} (hu : P.underlying dT = some (.slice E)) (ts : TSz P E 1) (H : HS B S w L) (hk : lkR L k = some (.osl v xs.length 1 cs rs T')) (h0 : RL S cs xs)
    (hx : e x = subN v 1 p xs.length) (hp : p ≤ xs.length) (h2 : RdS S2 v2 ys) (hs2 : Sub S2 w) (hy : e y = v2) :
    ∃ w' r, (execOp e ⟨dst, .call ⟨.builtin .copy, #[x, y], #[dT, sT]⟩, ty, pos, aft, g⟩).run P w = .ok (.value r) w' ∧ r = .int .i64 ((min ys.length (xs.length - p) : Nat) : Int) ∧ ∃ cs', HS B S w' (stR L k (.osl v (putB xs p ys).length 1 cs' rs T')) ∧ RL S cs' (putB xs p ys) := by
  obtain ⟨ds, k1, k2⟩ := h2
  obtain rfl := k2.u8
  obtain rfl := h0.u8
  have k1w := k1.w hs2
  have hsz : Rp.sz UInt8 = 1 := rfl
  rw [hsz] at k1w
  generalize hn : min ys.length (xs.length - p) = n
  have hlen : (u8s (ys.take n)).length = n := by simp [u8s]; omega
  have hone : ∀ u ∈ u8s (ys.take n), u.oneCell' = true := (RL.of_u8s (S := S) (ys.take n)).one
  have hcells : (Builtin.firstCells 1 n v2).run P w = .ok (u8s (ys.take n)).toArray w ∧ (Builtin.lenOf v2).run P w = .ok ys.length w := by
    rcases k1w with ⟨h, h0, _⟩ | ⟨b, o, c, dd, T2, fz, h, hc, hh, hl, hpc⟩
    · obtain rfl : ys = [] := List.length_eq_zero_iff.1 h0
      obtain rfl : n = 0 := by rw [← hn]; simp
      rw [h]; constructor <;> simp [Builtin.firstCells, Builtin.lenOf, u8s]
    · have := run_loadCells_list (P := P) w ⟨b, o, none⟩ (u8s (ys.take n)) (fun j v hj => by
        have hjn : j < n := by have := (List.getElem?_eq_some_iff.1 hj).1; rwa [hlen] at this
        rw [add_addr, cell_of_F hh, ← hj]
        have h3 : (u8s ys)[j]? = (u8s (ys.take n))[j]? := by simp only [u8s, List.getElem?_map, List.getElem?_take, if_pos hjn]
        rw [← h3, ← hpc, piece_eq, List.getElem?_take, if_pos (by omega), List.getElem?_drop])
      rw [hlen] at this
      rw [h]; constructor
      · simpa [Builtin.firstCells, sl] using this
      · simp [Builtin.lenOf, sl]
  have hmin : Nat.min ys.length (xs.length - p) = n := hn
  rcases H.own k _ hk with ⟨h, hN, hcs, hrs⟩ | ⟨b, c, fz, hv, hc1, hc2, hc3, hc4, hc5⟩
  · obtain rfl : xs = [] := List.length_eq_zero_iff.1 hN
    obtain rfl : p = 0 := by simpa using hp
    obtain rfl : n = 0 := by rw [← hn]; simp
    refine ⟨w, _, ?_, rfl, u8s [], ?_, ?_⟩
    · subst h
      simp [execOp, resolve, invoke, builtin, hx, hy, subN, Builtin.copy_, Go.underlying, hu, hcells.1, hcells.2, ts w, goInt, hmin]
    · have : putB [] 0 ys = [] := by simp [putB]
      rw [this]
      exact H.upd hk (Nat.le_refl _) rfl rfl rfl (fun _ _ _ => rfl) (.inl ⟨h, rfl, hcs, hrs⟩) fun b' hb' => .inl hb'
    · have : putB [] 0 ys = [] := by simp [putB]
      rw [this]; rfl
  · obtain ⟨w', he, hb, hs, h4, h5, h6, h7⟩ := run_storeCellsF (P := P) (o := p) (u8s (ys.take n)) 0 w (u8s xs ++ rs) hone hc4 hc5 (by rw [hlen, List.length_append]; simp [u8s]; omega)
    refine ⟨w', _, ?_, rfl, u8s (putB xs p ys), ?_, RL.of_u8s _⟩
    · subst hv
      by_cases hcp : c = p
      · have h0' : n = 0 := by omega
        subst h0'
        have hw : w = w' := by simpa [storeCells, u8s] using he
        subst hw
        simp [execOp, resolve, invoke, builtin, hx, hy, subN, sl, hcp, Builtin.copy_, Go.underlying, hu, hcells.1, hcells.2, ts w, goInt, hmin, storeCells, u8s]
      · simp [execOp, resolve, invoke, builtin, hx, hy, subN, sl, hcp, Builtin.copy_, Go.underlying, hu, hcells.1, hcells.2, ts w, goInt, hmin, add_addr, he]
    · rw [Nat.add_zero, lay_u8s xs ys p n rs hn.symm hp] at hb
      refine H.upd hk (by omega) h4 h5 h6 (fun i _ hne => h7 i fun e => hne (by rw [e, hv]; rfl)) (.inr ⟨b, c, fz, by rw [putB_len _ _ _ hp]; exact hv, by rw [putB_len _ _ _ hp]; exact hc1, by simp [u8s], ?_, hb, ?_⟩) fun b' hb' => .inl hb'
      · simp only [u8s, List.length_append, List.length_map, putB_len _ _ _ hp] at hc3 ⊢; exact hc3
      · simp only [u8s, List.length_append, List.length_map, putB_len _ _ _ hp] at hc5 ⊢; exact hc5
theorem r_min {a b r : Int} {ats : Array TypeId} (hx : e x = .int .i64 a) (hy : e y = .int .i64 b) (h : (bif decide (a ≤ b) then a else b) = r) :
    (execOp e ⟨dst, .call ⟨.builtin .min, #[x, y], ats⟩, ty, pos, aft, g⟩).run P w = .ok (.value (.int .i64 r)) w := by
  subst h
  by_cases hc : a ≤ b
  · have h2 : ¬ b < a := by omega
    simp [execOp, resolve, invoke, builtin, hx, hy, Builtin.min_, Builtin.min2, hc, h2]
  · have h2 : b < a := by omega
    simp [execOp, resolve, invoke, builtin, hx, hy, Builtin.min_, Builtin.min2, hc, h2]
theorem HS.subAll {k N sz : Nat} {cs rs : List Value} (H : HS B S w L) (hk : lkR L k = some (.osl v N sz cs rs T')) : subN v sz 0 N = v := by
  rcases H.own k _ hk with ⟨h, hN, _⟩ | ⟨b, c, fz, hv, _⟩
  · subst hN; rw [h]; rfl
  · rw [hv]; simp only [subN, sl, Nat.zero_mul, Nat.sub_zero]
    split <;> simp [Addr.add]
end
end Go.Proofs.YtmkomlbiaebddaaGreatDoor
namespace Go.Proofs.YtmkomlbiaebddaaGreatDoor
open Go Go.RowKit
attribute [local irreducible] wpList wpT Code.wp Calls Code.rounds
theorem to5 : TOne Tryz.prog 5 := ⟨fun _ => by kernel_rfl, fun _ => by kernel_rfl⟩
theorem is97 : IsFn Tryz.prog 97 := isFn Tryz.func97 (by kernel_rfl) (by kernel_rfl)
theorem is98 : IsFn Tryz.prog 98 := isFn Tryz.func98 (by kernel_rfl) (by kernel_rfl)
theorem is126 : IsFn Tryz.prog 126 := isFn Tryz.func126 (by kernel_rfl) (by kernel_rfl)
theorem is163 : IsFn Tryz.prog 163 := isFn Tryz.func163 (by kernel_rfl) (by kernel_rfl)
def math_bits_Mul64_p (x0 : UInt64) (x1 : UInt64) : Option (UInt64 × UInt64) :=
  some (((i64 ((((i64 ((((i64 ((((i64 (shrI .u64 ((x0).toNat : Int) 32))).toNat : Int) * (((i64 (shrI .u64 ((x1).toNat : Int) 32))).toNat : Int)))).toNat : Int) + (((i64 (shrI .u64 (((i64 ((((i64 ((((i64 (shrI .u64 ((x0).toNat : Int) 32))).toNat : Int) * (((x1 &&& (4294967295 : UInt64))).toNat : Int)))).toNat : Int) + (((i64 (shrI .u64 (((i64 ((((x0 &&& (4294967295 : UInt64))).toNat : Int) * (((x1 &&& (4294967295 : UInt64))).toNat : Int)))).toNat : Int) 32))).toNat : Int)))).toNat : Int) 32))).toNat : Int)))).toNat : Int) + (((i64 (shrI .u64 (((i64 (((((i64 ((((i64 ((((i64 (shrI .u64 ((x0).toNat : Int) 32))).toNat : Int) * (((x1 &&& (4294967295 : UInt64))).toNat : Int)))).toNat : Int) + (((i64 (shrI .u64 (((i64 ((((x0 &&& (4294967295 : UInt64))).toNat : Int) * (((x1 &&& (4294967295 : UInt64))).toNat : Int)))).toNat : Int) 32))).toNat : Int))) &&& (4294967295 : UInt64))).toNat : Int) + (((i64 ((((x0 &&& (4294967295 : UInt64))).toNat : Int) * (((i64 (shrI .u64 ((x1).toNat : Int) 32))).toNat : Int)))).toNat : Int)))).toNat : Int) 32))).toNat : Int))), (i64 (((x0).toNat : Int) * ((x1).toNat : Int)))))
theorem math_bits_Mul64_c {S : Mem} {w : World} (hS : Sub S w) {x0 : UInt64} {x1 : UInt64} {r : UInt64 × UInt64} (hF : math_bits_Mul64_p x0 x1 = some r) :
    Calls Tryz.prog 163 #[.int .u64 (((x0).toNat : Int)), .int .u64 (((x1).toNat : Int))] w fun e w' => e = .returned (.tuple #[.int .u64 (((r.1).toNat : Int)), .int .u64 (((r.2).toNat : Int))]) ∧ Ext w w' := by
 refine enter (n := 51) Tryz.func163 rfl rfl rfl ?_
 have H := HS.start hS
 unfold math_bits_Mul64_p at hF
 refine sr ?_; intro K1 hK1
 refine p_as (v := .int .u64 (0)) rfl ?_
 refine p_as (v := .int .u64 (0)) rfl ?_
 refine xk hK1 ?_; clear hK1
 refine sr ?_; intro K2 hK2
 refine p_mv (v := .int .u64 (((x0).toNat : Int))) rfl ?_
 refine p_val (r_bits (bo := .and) (by simp) rfl rfl (i64_and _ (4294967295 : UInt64))) ?_
 refine p_as (v := .int .u64 ((((x0 &&& (4294967295 : UInt64))).toNat : Int))) rfl ?_
 refine xk hK2 ?_; clear hK2
 refine sr ?_; intro K3 hK3
 refine p_mv (v := .int .u64 (((x0).toNat : Int))) rfl ?_
 refine p_val (r_shr rfl rfl (by decide) (i64_shr _ _)) ?_
 refine p_as (v := .int .u64 ((((i64 (shrI .u64 ((x0).toNat : Int) 32))).toNat : Int))) rfl ?_
 refine xk hK3 ?_; clear hK3
 refine sr ?_; intro K4 hK4
 refine p_mv (v := .int .u64 (((x1).toNat : Int))) rfl ?_
 refine p_val (r_bits (bo := .and) (by simp) rfl rfl (i64_and _ (4294967295 : UInt64))) ?_
 refine p_as (v := .int .u64 ((((x1 &&& (4294967295 : UInt64))).toNat : Int))) rfl ?_
 refine xk hK4 ?_; clear hK4
 refine sr ?_; intro K5 hK5
 refine p_mv (v := .int .u64 (((x1).toNat : Int))) rfl ?_
 refine p_val (r_shr rfl rfl (by decide) (i64_shr _ _)) ?_
 refine p_as (v := .int .u64 ((((i64 (shrI .u64 ((x1).toNat : Int) 32))).toNat : Int))) rfl ?_
 refine xk hK5 ?_; clear hK5
 refine sr ?_; intro K6 hK6
 refine p_mv (v := .int .u64 ((((x0 &&& (4294967295 : UInt64))).toNat : Int))) rfl ?_
 refine p_mv (v := .int .u64 ((((x1 &&& (4294967295 : UInt64))).toNat : Int))) rfl ?_
 refine p_val (r_mul rfl rfl (i64_wrap _)) ?_
 refine p_as (v := .int .u64 ((((i64 ((((x0 &&& (4294967295 : UInt64))).toNat : Int) * (((x1 &&& (4294967295 : UInt64))).toNat : Int)))).toNat : Int))) rfl ?_
 refine xk hK6 ?_; clear hK6
 refine sr ?_; intro K7 hK7
 refine p_mv (v := .int .u64 ((((i64 (shrI .u64 ((x0).toNat : Int) 32))).toNat : Int))) rfl ?_
 refine p_mv (v := .int .u64 ((((x1 &&& (4294967295 : UInt64))).toNat : Int))) rfl ?_
 refine p_val (r_mul rfl rfl (i64_wrap _)) ?_
 refine p_mv (v := .int .u64 ((((i64 ((((x0 &&& (4294967295 : UInt64))).toNat : Int) * (((x1 &&& (4294967295 : UInt64))).toNat : Int)))).toNat : Int))) rfl ?_
 refine p_val (r_shr rfl rfl (by decide) (i64_shr _ _)) ?_
 refine p_val (r_add rfl rfl (i64_wrap _)) ?_
 refine p_as (v := .int .u64 ((((i64 ((((i64 ((((i64 (shrI .u64 ((x0).toNat : Int) 32))).toNat : Int) * (((x1 &&& (4294967295 : UInt64))).toNat : Int)))).toNat : Int) + (((i64 (shrI .u64 (((i64 ((((x0 &&& (4294967295 : UInt64))).toNat : Int) * (((x1 &&& (4294967295 : UInt64))).toNat : Int)))).toNat : Int) 32))).toNat : Int)))).toNat : Int))) rfl ?_
 refine xk hK7 ?_; clear hK7
 refine sr ?_; intro K8 hK8
 refine p_mv (v := .int .u64 ((((i64 ((((i64 ((((i64 (shrI .u64 ((x0).toNat : Int) 32))).toNat : Int) * (((x1 &&& (4294967295 : UInt64))).toNat : Int)))).toNat : Int) + (((i64 (shrI .u64 (((i64 ((((x0 &&& (4294967295 : UInt64))).toNat : Int) * (((x1 &&& (4294967295 : UInt64))).toNat : Int)))).toNat : Int) 32))).toNat : Int)))).toNat : Int))) rfl ?_
 refine p_val (r_bits (bo := .and) (by simp) rfl rfl (i64_and _ (4294967295 : UInt64))) ?_
 refine p_as (v := .int .u64 (((((i64 ((((i64 ((((i64 (shrI .u64 ((x0).toNat : Int) 32))).toNat : Int) * (((x1 &&& (4294967295 : UInt64))).toNat : Int)))).toNat : Int) + (((i64 (shrI .u64 (((i64 ((((x0 &&& (4294967295 : UInt64))).toNat : Int) * (((x1 &&& (4294967295 : UInt64))).toNat : Int)))).toNat : Int) 32))).toNat : Int))) &&& (4294967295 : UInt64))).toNat : Int))) rfl ?_
 refine xk hK8 ?_; clear hK8
 refine sr ?_; intro K9 hK9
 refine p_mv (v := .int .u64 ((((i64 ((((i64 ((((i64 (shrI .u64 ((x0).toNat : Int) 32))).toNat : Int) * (((x1 &&& (4294967295 : UInt64))).toNat : Int)))).toNat : Int) + (((i64 (shrI .u64 (((i64 ((((x0 &&& (4294967295 : UInt64))).toNat : Int) * (((x1 &&& (4294967295 : UInt64))).toNat : Int)))).toNat : Int) 32))).toNat : Int)))).toNat : Int))) rfl ?_
 refine p_val (r_shr rfl rfl (by decide) (i64_shr _ _)) ?_
 refine p_as (v := .int .u64 ((((i64 (shrI .u64 (((i64 ((((i64 ((((i64 (shrI .u64 ((x0).toNat : Int) 32))).toNat : Int) * (((x1 &&& (4294967295 : UInt64))).toNat : Int)))).toNat : Int) + (((i64 (shrI .u64 (((i64 ((((x0 &&& (4294967295 : UInt64))).toNat : Int) * (((x1 &&& (4294967295 : UInt64))).toNat : Int)))).toNat : Int) 32))).toNat : Int)))).toNat : Int) 32))).toNat : Int))) rfl ?_
 refine xk hK9 ?_; clear hK9
 refine sr ?_; intro K10 hK10
 refine p_mv (v := .int .u64 (((((i64 ((((i64 ((((i64 (shrI .u64 ((x0).toNat : Int) 32))).toNat : Int) * (((x1 &&& (4294967295 : UInt64))).toNat : Int)))).toNat : Int) + (((i64 (shrI .u64 (((i64 ((((x0 &&& (4294967295 : UInt64))).toNat : Int) * (((x1 &&& (4294967295 : UInt64))).toNat : Int)))).toNat : Int) 32))).toNat : Int))) &&& (4294967295 : UInt64))).toNat : Int))) rfl ?_
 refine p_mv (v := .int .u64 ((((x0 &&& (4294967295 : UInt64))).toNat : Int))) rfl ?_
 refine p_mv (v := .int .u64 ((((i64 (shrI .u64 ((x1).toNat : Int) 32))).toNat : Int))) rfl ?_
 refine p_val (r_mul rfl rfl (i64_wrap _)) ?_
 refine p_val (r_add rfl rfl (i64_wrap _)) ?_
 refine p_as (v := .int .u64 ((((i64 (((((i64 ((((i64 ((((i64 (shrI .u64 ((x0).toNat : Int) 32))).toNat : Int) * (((x1 &&& (4294967295 : UInt64))).toNat : Int)))).toNat : Int) + (((i64 (shrI .u64 (((i64 ((((x0 &&& (4294967295 : UInt64))).toNat : Int) * (((x1 &&& (4294967295 : UInt64))).toNat : Int)))).toNat : Int) 32))).toNat : Int))) &&& (4294967295 : UInt64))).toNat : Int) + (((i64 ((((x0 &&& (4294967295 : UInt64))).toNat : Int) * (((i64 (shrI .u64 ((x1).toNat : Int) 32))).toNat : Int)))).toNat : Int)))).toNat : Int))) rfl ?_
 refine xk hK10 ?_; clear hK10
 refine sr ?_; intro K11 hK11
 refine p_mv (v := .int .u64 ((((i64 (shrI .u64 ((x0).toNat : Int) 32))).toNat : Int))) rfl ?_
 refine p_mv (v := .int .u64 ((((i64 (shrI .u64 ((x1).toNat : Int) 32))).toNat : Int))) rfl ?_
 refine p_val (r_mul rfl rfl (i64_wrap _)) ?_
 refine p_mv (v := .int .u64 ((((i64 (shrI .u64 (((i64 ((((i64 ((((i64 (shrI .u64 ((x0).toNat : Int) 32))).toNat : Int) * (((x1 &&& (4294967295 : UInt64))).toNat : Int)))).toNat : Int) + (((i64 (shrI .u64 (((i64 ((((x0 &&& (4294967295 : UInt64))).toNat : Int) * (((x1 &&& (4294967295 : UInt64))).toNat : Int)))).toNat : Int) 32))).toNat : Int)))).toNat : Int) 32))).toNat : Int))) rfl ?_
 refine p_val (r_add rfl rfl (i64_wrap _)) ?_
 refine p_mv (v := .int .u64 ((((i64 (((((i64 ((((i64 ((((i64 (shrI .u64 ((x0).toNat : Int) 32))).toNat : Int) * (((x1 &&& (4294967295 : UInt64))).toNat : Int)))).toNat : Int) + (((i64 (shrI .u64 (((i64 ((((x0 &&& (4294967295 : UInt64))).toNat : Int) * (((x1 &&& (4294967295 : UInt64))).toNat : Int)))).toNat : Int) 32))).toNat : Int))) &&& (4294967295 : UInt64))).toNat : Int) + (((i64 ((((x0 &&& (4294967295 : UInt64))).toNat : Int) * (((i64 (shrI .u64 ((x1).toNat : Int) 32))).toNat : Int)))).toNat : Int)))).toNat : Int))) rfl ?_
 refine p_val (r_shr rfl rfl (by decide) (i64_shr _ _)) ?_
 refine p_val (r_add rfl rfl (i64_wrap _)) ?_
 refine p_as (v := .int .u64 ((((i64 ((((i64 ((((i64 ((((i64 (shrI .u64 ((x0).toNat : Int) 32))).toNat : Int) * (((i64 (shrI .u64 ((x1).toNat : Int) 32))).toNat : Int)))).toNat : Int) + (((i64 (shrI .u64 (((i64 ((((i64 ((((i64 (shrI .u64 ((x0).toNat : Int) 32))).toNat : Int) * (((x1 &&& (4294967295 : UInt64))).toNat : Int)))).toNat : Int) + (((i64 (shrI .u64 (((i64 ((((x0 &&& (4294967295 : UInt64))).toNat : Int) * (((x1 &&& (4294967295 : UInt64))).toNat : Int)))).toNat : Int) 32))).toNat : Int)))).toNat : Int) 32))).toNat : Int)))).toNat : Int) + (((i64 (shrI .u64 (((i64 (((((i64 ((((i64 ((((i64 (shrI .u64 ((x0).toNat : Int) 32))).toNat : Int) * (((x1 &&& (4294967295 : UInt64))).toNat : Int)))).toNat : Int) + (((i64 (shrI .u64 (((i64 ((((x0 &&& (4294967295 : UInt64))).toNat : Int) * (((x1 &&& (4294967295 : UInt64))).toNat : Int)))).toNat : Int) 32))).toNat : Int))) &&& (4294967295 : UInt64))).toNat : Int) + (((i64 ((((x0 &&& (4294967295 : UInt64))).toNat : Int) * (((i64 (shrI .u64 ((x1).toNat : Int) 32))).toNat : Int)))).toNat : Int)))).toNat : Int) 32))).toNat : Int)))).toNat : Int))) rfl ?_
 refine xk hK11 ?_; clear hK11
 refine sr ?_; intro K12 hK12
 refine p_mv (v := .int .u64 (((x0).toNat : Int))) rfl ?_
 refine p_mv (v := .int .u64 (((x1).toNat : Int))) rfl ?_
 refine p_val (r_mul rfl rfl (i64_wrap _)) ?_
 refine p_as (v := .int .u64 ((((i64 (((x0).toNat : Int) * ((x1).toNat : Int)))).toNat : Int))) rfl ?_
 refine xk hK12 ?_; clear hK12
 refine wp_ret ?_
 obtain rfl := Option.some.inj hF
 refine e_2 rfl (q_tmp (v := .int .u64 ((((i64 ((((i64 ((((i64 ((((i64 (shrI .u64 ((x0).toNat : Int) 32))).toNat : Int) * (((i64 (shrI .u64 ((x1).toNat : Int) 32))).toNat : Int)))).toNat : Int) + (((i64 (shrI .u64 (((i64 ((((i64 ((((i64 (shrI .u64 ((x0).toNat : Int) 32))).toNat : Int) * (((x1 &&& (4294967295 : UInt64))).toNat : Int)))).toNat : Int) + (((i64 (shrI .u64 (((i64 ((((x0 &&& (4294967295 : UInt64))).toNat : Int) * (((x1 &&& (4294967295 : UInt64))).toNat : Int)))).toNat : Int) 32))).toNat : Int)))).toNat : Int) 32))).toNat : Int)))).toNat : Int) + (((i64 (shrI .u64 (((i64 (((((i64 ((((i64 ((((i64 (shrI .u64 ((x0).toNat : Int) 32))).toNat : Int) * (((x1 &&& (4294967295 : UInt64))).toNat : Int)))).toNat : Int) + (((i64 (shrI .u64 (((i64 ((((x0 &&& (4294967295 : UInt64))).toNat : Int) * (((x1 &&& (4294967295 : UInt64))).toNat : Int)))).toNat : Int) 32))).toNat : Int))) &&& (4294967295 : UInt64))).toNat : Int) + (((i64 ((((x0 &&& (4294967295 : UInt64))).toNat : Int) * (((i64 (shrI .u64 ((x1).toNat : Int) 32))).toNat : Int)))).toNat : Int)))).toNat : Int) 32))).toNat : Int)))).toNat : Int))) rfl) (q_tmp (v := .int .u64 ((((i64 (((x0).toNat : Int) * ((x1).toNat : Int)))).toNat : Int))) rfl) ?_
 exact ⟨rfl, H.toExt⟩
def math_bits_Mul_p (x0 : UInt64) (x1 : UInt64) : Option (UInt64 × UInt64) :=
  Option.bind (math_bits_Mul64_p x0 x1) fun y1 => some ((y1.1, y1.2))
theorem math_bits_Mul_c {S : Mem} {w : World} (hS : Sub S w) {x0 : UInt64} {x1 : UInt64} {r : UInt64 × UInt64} (hF : math_bits_Mul_p x0 x1 = some r) :
    Calls Tryz.prog 126 #[.int .u64 (((x0).toNat : Int)), .int .u64 (((x1).toNat : Int))] w fun e w' => e = .returned (.tuple #[.int .u64 (((r.1).toNat : Int)), .int .u64 (((r.2).toNat : Int))]) ∧ Ext w w' := by
 refine enter (n := 30) Tryz.func126 rfl rfl rfl ?_
 have H := HS.start hS
 unfold math_bits_Mul_p at hF
 refine sr ?_; intro K1 hK1
 refine p_as (v := .int .u64 (0)) rfl ?_
 refine p_as (v := .int .u64 (0)) rfl ?_
 refine xk hK1 ?_; clear hK1
 refine wp_seq_k ?_; intro K2 hK2
 refine c_false (t := false) rfl rfl ?_
 refine wp_skip ?_
 refine xn hK2 ?_; clear hK2
 refine sr ?_; intro K3 hK3
 refine p_mv (v := .int .u64 (((x0).toNat : Int))) rfl ?_
 refine p_mv (v := .int .u64 (((x1).toNat : Int))) rfl ?_
 obtain ⟨y1, e1, hF⟩ := bnd hF
 refine p_call (l := [.int .u64 (((x0).toNat : Int)), .int .u64 (((x1).toNat : Int))]) is163 rfl ?_
 refine (math_bits_Mul64_c H.sub e1).mono ?_; rintro _ w1 ⟨rfl, hx⟩; replace H := H.ext hx; clear hx
 refine p_mv (v := .tuple #[.int .u64 (((y1.1).toNat : Int)), .int .u64 (((y1.2).toNat : Int))]) rfl ?_
 refine p_val (r_extract (v := .int .u64 (((y1.1).toNat : Int))) rfl rfl) ?_
 refine p_val (r_extract (v := .int .u64 (((y1.2).toNat : Int))) rfl rfl) ?_
 refine p_as (v := .int .u64 (((y1.1).toNat : Int))) rfl ?_
 refine p_as (v := .int .u64 (((y1.2).toNat : Int))) rfl ?_
 refine xk hK3 ?_; clear hK3
 refine sr ?_; intro K4 hK4
 refine p_mv (v := .int .u64 (((y1.1).toNat : Int))) rfl ?_
 refine p_mv (v := .int .u64 (((y1.2).toNat : Int))) rfl ?_
 refine p_as (v := .int .u64 (((y1.1).toNat : Int))) rfl ?_
 refine p_as (v := .int .u64 (((y1.2).toNat : Int))) rfl ?_
 refine xk hK4 ?_; clear hK4
 refine wp_ret ?_
 obtain rfl := Option.some.inj hF
 refine e_2 rfl (q_tmp (v := .int .u64 (((y1.1).toNat : Int))) rfl) (q_tmp (v := .int .u64 (((y1.2).toNat : Int))) rfl) ?_
 exact ⟨rfl, H.toExt⟩
noncomputable def bytes_Repeat_b0 (y1 : UInt64 × UInt64) (t1 : Int) (s1 : Int × (List UInt8)) : Option ((Int × (List UInt8)) ⊕ ((List UInt8))) :=
  bif decide (s1.1 < (w64 ((y1.2).toNat : Int))) then (Option.bind (subL s1.2 s1.1) fun y4 => Option.bind (subH s1.2 (bif decide (s1.1 ≤ t1) then s1.1 else t1)) fun y5 => some (.inl (((w64 (s1.1 + ((min (y5).length ((s1.2).length - (s1.1 : Int).toNat) : Nat) : Int))), (putB s1.2 ((s1.1 : Int).toNat) y5))))) else (some (.inr (s1.2)))
noncomputable def bytes_Repeat_p (x0 : List UInt8) (x1 : Int) : Option ((List UInt8)) :=
  bif (x1 == 0) then (some (([] : List UInt8))) else (bif decide (x1 < 0) then (none) else (Option.bind (math_bits_Mul_p (i64 ((x0).length : Int)) (i64 x1)) fun y1 => bif (bif decide ((0 : Int) < ((y1.1).toNat : Int)) then true else decide ((9223372036854775807 : Int) < ((y1.2).toNat : Int))) then (none) else (bif (((x0).length : Int) == 0) then (some (([] : List UInt8))) else (Option.bind (bif decide ((8192 : Int) < (w64 ((y1.2).toNat : Int))) then (Option.bind (chk (decide (((x0).length : Int) ≠ 0))) fun y2 => bif ((w64 ((w64 (Int.tdiv 8192 ((x0).length : Int))) * ((x0).length : Int))) == 0) then (some (((x0).length : Int))) else (some ((w64 ((w64 (Int.tdiv 8192 ((x0).length : Int))) * ((x0).length : Int)))))) else (some ((w64 ((y1.2).toNat : Int))))) (fun t1 => Option.bind (chk (decide (0 ≤ (w64 ((y1.2).toNat : Int))) && decide ((w64 ((y1.2).toNat : Int)) ≤ (LIM : Int)))) fun y3 => anyJ ((w64 ((y1.2).toNat : Int)) : Int).toNat fun jk1 => Option.bind (Option.bind (iter (bytes_Repeat_b0 y1 t1) ((((min (x0).length ((jk1).length - 0) : Nat) : Int), (putB jk1 0 x0)))) (fun e => some (e))) (fun t2 => some (t2)))))))
theorem bytes_Repeat_c {S : Mem} {w : World} (H : HS ⟨S, keysR [], w⟩ S w []) {v0_ : Value} {x0 : List UInt8} (h0_ : RdS S v0_ x0) {x1 : Int} {r : (List UInt8)} (hF : bytes_Repeat_p x0 x1 = some r) :
    Calls Tryz.prog 98 #[v0_, .int .i64 (x1)] w fun e w' => ∃ (S2 : Mem) (pv4 : Value) (pcs4 prs4 : List Value), e = .returned (pv4) ∧ HS ⟨S, keysR [], w⟩ S2 w' [.osl (pv4) (r).length 1 pcs4 prs4 5] ∧ RL S2 pcs4 r := by
 refine enter (n := 77) Tryz.func98 rfl rfl rfl ?_
 unfold bytes_Repeat_p at hF
 refine sr ?_; intro K1 hK1
 refine p_as (v := .slice none 0 0) rfl ?_
 refine xk hK1 ?_; clear hK1
 refine wp_seq_k ?_; intro K2 hK2
 refine sr ?_; intro K3 hK3
 refine p_mv (v := .int .i64 (x1)) rfl ?_
 refine p_val (r_eqlI rfl rfl) ?_
 refine xk hK3 ?_; clear hK3
 refine c_split (t := (x1 == 0)) rfl (fun hc1 => ?_) (fun hc1 => ?_)
 ·replace hF := cnd_t hF hc1
  refine sr ?_; intro K4 hK4
  have g1 : RL S ([] : List Value) ([] : List UInt8) := RL.nil
  refine p_of1 (a_bslice (N := 0) (vals := []) (l := ([] : List Value)) tn100 H rfl rfl rfl g1.len) ?_; clear H; intro w1 v1 H
  replace H : HS ⟨S, keysR [], w⟩ S w1 [.osl (v1) (([] : List UInt8)).length 1 ([] : List Value) [] 5] := H
  refine p_as (v := v1) rfl ?_
  refine xk hK4 ?_; clear hK4
  refine wp_ret ?_
  refine x_ret ?_
  obtain rfl := Option.some.inj hF
  refine e_1 rfl (q_tmp (v := v1) rfl) ?_
  replace H : HS ⟨S, keysR [], w⟩ S w1 [.osl (v1) (([] : List UInt8)).length 1 ([] : List Value) [] 5] := H
  exact ⟨_, _, _, _, rfl, H, g1⟩
 ·replace hF := cnd_f hF hc1
  refine wp_skip ?_
  refine xn hK2 ?_; clear hK2
  refine wp_seq_k ?_; intro K5 hK5
  refine sr ?_; intro K6 hK6
  refine p_mv (v := .int .i64 (x1)) rfl ?_
  refine p_val (r_lssI rfl rfl) ?_
  refine xk hK6 ?_; clear hK6
  refine c_split (t := decide (x1 < 0)) rfl (fun hc2 => ?_) (fun hc2 => ?_)
  ·replace hF := cnd_t hF hc2
   exact nomatch hF
  ·replace hF := cnd_f hF hc2
   refine wp_skip ?_
   refine xn hK5 ?_; clear hK5
   refine sr ?_; intro K7 hK7
   refine p_mv (v := v0_) rfl ?_
   refine p_val (r_lenR' u100 rfl h0_ H.sub) ?_
   refine p_val (r_conv u3 u139 rfl (i64_wrap _)) ?_
   refine p_mv (v := .int .i64 (x1)) rfl ?_
   refine p_val (r_conv u3 u139 rfl (i64_wrap _)) ?_
   obtain ⟨y1, e1, hF⟩ := bnd hF
   refine p_call (l := [.int .u64 ((((i64 ((x0).length : Int))).toNat : Int)), .int .u64 ((((i64 x1)).toNat : Int))]) is126 rfl ?_
   refine (math_bits_Mul_c H.sub e1).mono ?_; rintro _ w2 ⟨rfl, hx⟩; replace H := H.ext hx; clear hx
   refine p_mv (v := .tuple #[.int .u64 (((y1.1).toNat : Int)), .int .u64 (((y1.2).toNat : Int))]) rfl ?_
   refine p_val (r_extract (v := .int .u64 (((y1.1).toNat : Int))) rfl rfl) ?_
   refine p_val (r_extract (v := .int .u64 (((y1.2).toNat : Int))) rfl rfl) ?_
   refine p_as (v := .int .u64 (((y1.1).toNat : Int))) rfl ?_
   refine p_as (v := .int .u64 (((y1.2).toNat : Int))) rfl ?_
   refine xk hK7 ?_; clear hK7
   refine wp_seq_k ?_; intro K8 hK8
   refine sr ?_; intro K9 hK9
   refine p_mv (v := .int .u64 (((y1.1).toNat : Int))) rfl ?_
   refine p_val (r_gtrI rfl rfl) ?_
   refine p_mv (v := .bool (decide ((0 : Int) < ((y1.1).toNat : Int)))) rfl ?_
   refine nameL fun m1 k1 => ?_
   refine gs_at 3 fun K10 hK10 R2 hR2 => ?_
   have J1 : ∀ (m2 : FM), (∀ t, has [30, 31, 32] t = false → look m2 t = look m1 t) → look m2 32 = .bool ((bif decide ((0 : Int) < ((y1.1).toNat : Int)) then true else decide ((9223372036854775807 : Int) < ((y1.2).toNat : Int)))) → K10 m2 w2 := by
    intro m2 k2 q1
    have q2 : look m2 0 = v0_ := (k2 0 rfl).trans (k1 0)
    have q3 : look m2 6 = .int .u64 (((y1.2).toNat : Int)) := (k2 6 rfl).trans (k1 6)
    refine hK10 _ _ ?_; clear hK10 hR2
    refine xk hK9 ?_; clear hK9
    refine c_split (t := (bif decide ((0 : Int) < ((y1.1).toNat : Int)) then true else decide ((9223372036854775807 : Int) < ((y1.2).toNat : Int)))) q1 (fun hc3 => ?_) (fun hc3 => ?_)
    ·replace hF := cnd_t hF hc3
     exact nomatch hF
    ·replace hF := cnd_f hF hc3
     refine wp_skip ?_
     refine xn hK8 ?_; clear hK8
     refine sr ?_; intro K11 hK11
     refine p_mv q3 ?_
     refine p_val (r_conv (r := (w64 ((y1.2).toNat : Int))) u139 u3 rfl (rfl)) ?_
     refine p_as (v := .int .i64 ((w64 ((y1.2).toNat : Int)))) rfl ?_
     refine xk hK11 ?_; clear hK11
     refine wp_seq_k ?_; intro K12 hK12
     refine sr ?_; intro K13 hK13
     refine p_mv (v := v0_) q2 ?_
     refine p_val (r_lenR' u100 rfl h0_ H.sub) ?_
     refine p_val (r_eqlI rfl rfl) ?_
     refine xk hK13 ?_; clear hK13
     refine c_split (t := (((x0).length : Int) == 0)) rfl (fun hc4 => ?_) (fun hc4 => ?_)
     ·replace hF := cnd_t hF hc4
      refine sr ?_; intro K14 hK14
      have g2 : RL S ([] : List Value) ([] : List UInt8) := RL.nil
      refine p_of1 (a_bslice (N := 0) (vals := []) (l := ([] : List Value)) tn100 H rfl rfl rfl g2.len) ?_; clear H; intro w3 v2 H
      replace H : HS ⟨S, keysR [], w⟩ S w3 [.osl (v2) (([] : List UInt8)).length 1 ([] : List Value) [] 5] := H
      refine p_as (v := v2) rfl ?_
      refine xk hK14 ?_; clear hK14
      refine wp_ret ?_
      refine x_ret ?_
      obtain rfl := Option.some.inj hF
      refine e_1 rfl (q_tmp (v := v2) rfl) ?_
      replace H : HS ⟨S, keysR [], w⟩ S w3 [.osl (v2) (([] : List UInt8)).length 1 ([] : List Value) [] 5] := H
      exact ⟨_, _, _, _, rfl, H, g2⟩
     ·replace hF := cnd_f hF hc4
      refine wp_skip ?_
      refine xn hK12 ?_; clear hK12
      refine sr ?_; intro K15 hK15
      refine p_mv (v := .int .i64 ((w64 ((y1.2).toNat : Int)))) rfl ?_
      refine p_as (v := .int .i64 ((w64 ((y1.2).toNat : Int)))) rfl ?_
      refine xk hK15 ?_; clear hK15
      refine wp_seq_k ?_; intro K16 hK16
      refine nameF fun m3 k3 => ?_
      obtain ⟨t1, hE1, hF1⟩ := bnd hF
      have J3 : ∀ (m4 : FM) (w4 : World), (∀ t, has [8, 41, 42, 43, 44, 45, 46, 47, 48, 49, 50, 51, 52] t = false → look m4 t = look m3 t) → look m4 8 = .int .i64 (t1) → HS ⟨S, keysR [], w⟩ S w4 [] → K16 (fr 77 m4) w4 := by
       clear H; intro m4 w4 k4 q4 H
       have q5 : look m4 0 = v0_ := (k4 0 rfl).trans ((k3 0).trans q2)
       have q6 : look m4 7 = .int .i64 ((w64 ((y1.2).toNat : Int))) := (k4 7 rfl).trans (k3 7)
       refine hK16 _ _ ?_
       refine sr ?_; intro K20 hK20
       refine p_mv q6 ?_
       obtain ⟨y3, e3, hF1⟩ := bnd hF1
       refine p_of1 (a_mnz (ps := #[3]) (t := 100) (a := (w64 ((y1.2).toNat : Int))) Tryz.func127 (by kernel_rfl) (by kernel_rfl) (by kernel_rfl) (by kernel_rfl) u100 rfl H rfl (of_decide_eq_true (and_l (chk_some e3))) (of_decide_eq_true (and_r (chk_some e3)))) ?_; clear H; rintro w5 _ ⟨b1, c1, jk1, jr1, rfl, hjk1, H⟩
       replace hF1 := anyJ_some hF1 jk1 hjk1
       have g3 : RL S (u8s jk1) jk1 := RL.of_u8s _
       replace H : HS ⟨S, keysR [], w⟩ S w5 [.osl (sl b1 0 (jk1).length c1) (jk1).length 1 (u8s jk1) (u8s jr1) 5] := H
       refine p_mv q6 ?_
       refine p_mv q6 ?_
       refine p_val (r_sliceC (N := (jk1).length) u100 tsz5 rfl rfl rfl (by have h0_ := of_decide_eq_true (and_l (chk_some e3)); omega) (capOf H (k := 0) rfl)) ?_
       have H1 := H.recap (k := 0) rfl; clear H; have H := H1; clear H1
       replace H : HS ⟨S, keysR [], w⟩ S w5 [.osl (sl b1 0 (jk1).length (jk1).length) (jk1).length 1 (u8s jk1) (u8s jr1) 5] := H
       refine p_as (v := sl b1 0 (jk1).length (jk1).length) rfl ?_
       refine xk hK20 ?_; clear hK20
       refine sr ?_; intro K21 hK21
       refine p_mv (v := sl b1 0 (jk1).length (jk1).length) rfl ?_
       refine p_mv (v := v0_) q5 ?_
       refine p_of1 (a_copyO (k := 0) (p := 0) (xs := jk1) (ys := x0) u100 tsz5 H rfl g3 (Eq.trans rfl (HS.subAll H (k := 0) rfl).symm) (Nat.zero_le _) h0_ H.sub rfl) ?_; clear H; rintro w6 _ ⟨rfl, cs3, H, g4⟩
       replace H : HS ⟨S, keysR [], w⟩ S w6 [.osl (sl b1 0 (jk1).length (jk1).length) ((putB jk1 0 x0)).length 1 cs3 (u8s jr1) 5] := H
       refine p_as (v := .int .i64 (((min (x0).length ((jk1).length - 0) : Nat) : Int))) rfl ?_
       refine xk hK21 ?_; clear hK21
       refine wp_seq_k ?_; intro K22 hK22
       refine nameF fun m5 k5 => ?_
       obtain ⟨t2, hE2, hF2⟩ := bnd hF1
       have J2 : ∀ (cs6 rs2 : List Value) (m8 : FM) (w10 : World), (∀ t, has [10, 11, 61, 62, 63, 64, 65, 66, 67, 68, 69, 70, 71, 72, 73, 74, 75] t = false → look m8 t = look m5 t) → HS ⟨S, keysR [], w⟩ S w10 [.osl (sl b1 0 (jk1).length (jk1).length) (t2).length 1 cs6 rs2 5] → RL S cs6 t2 → K22 (fr 77 m8) w10 := by
        clear H; intro cs6 rs2 m8 w10 k9 H g9
        have q11 : look m8 9 = sl b1 0 (jk1).length (jk1).length := (k9 9 rfl).trans (k5 9)
        refine hK22 _ _ ?_
        refine sr ?_; intro K26 hK26
        refine p_mv (v := sl b1 0 (jk1).length (jk1).length) q11 ?_
        refine p_as (v := sl b1 0 (jk1).length (jk1).length) rfl ?_
        refine xk hK26 ?_; clear hK26
        refine wp_ret ?_
        obtain rfl := Option.some.inj hF2
        refine e_1 rfl (q_tmp (v := sl b1 0 (jk1).length (jk1).length) rfl) ?_
        replace H : HS ⟨S, keysR [], w⟩ S w10 [.osl (sl b1 0 (jk1).length (jk1).length) (t2).length 1 cs6 rs2 5] := H
        exact ⟨_, _, _, _, rfl, H, g9⟩
       refine wp_block ?_
       refine nameF fun m6 k6 => ?_
       obtain ⟨out1, hL1, hE3⟩ := bnd hE2
       replace H : HS ⟨S, keysR [], w⟩ S w6 [.osl (sl b1 0 (jk1).length (jk1).length) ((putB jk1 0 x0)).length 1 cs3 (u8s jr1) 5] := H
       refine loopI [10, 11, 61, 62, 63, 64, 65, 66, 67, 68, 69, 70, 71, 72, 73, 74, 75] (fun (s1 : Int × (List UInt8)) (m7 : FM) (w7 : World) => ∃ (cs4 rs1 : List Value), look m7 10 = .int .i64 (s1.1) ∧ HS ⟨S, keysR [], w⟩ S w7 [.osl (sl b1 0 (jk1).length (jk1).length) (s1.2).length 1 cs4 rs1 5] ∧ RL S cs4 s1.2) hL1 ⟨_, _, ((k6 10).trans (k5 10)), H, g4⟩ ?_
       clear H; intro k8 s1 m7 w7 k7 hI1 o3 hb1 hh1; obtain ⟨cs4, rs1, q7, H, g5⟩ := hI1
       have q8 : look m7 7 = .int .i64 ((w64 ((y1.2).toNat : Int))) := (k7 7 rfl).trans ((k6 7).trans ((k5 7).trans q6))
       have q9 : look m7 8 = .int .i64 (t1) := (k7 8 rfl).trans ((k6 8).trans ((k5 8).trans q4))
       have q10 : look m7 9 = sl b1 0 (jk1).length (jk1).length := (k7 9 rfl).trans ((k6 9).trans (k5 9))
       unfold bytes_Repeat_b0 at hb1
       refine wp_seq_k ?_; intro K23 hK23
       refine sr ?_; intro K24 hK24
       refine p_mv q7 ?_
       refine p_mv q8 ?_
       refine p_val (r_lssI rfl rfl) ?_
       refine xk hK24 ?_; clear hK24
       refine c_split (t := decide (s1.1 < (w64 ((y1.2).toNat : Int)))) rfl (fun hc7 => ?_) (fun hc7 => ?_)
       ·replace hb1 := cnd_t hb1 hc7
        refine wp_skip ?_
        refine xn hK23 ?_; clear hK23
        refine wp_block ?_
        refine sr ?_; intro K25 hK25
        refine p_mv q7 ?_
        refine p_mv q9 ?_
        refine p_val (r_min (r := (bif decide (s1.1 ≤ t1) then s1.1 else t1)) rfl rfl rfl) ?_
        refine p_as (v := .int .i64 ((bif decide (s1.1 ≤ t1) then s1.1 else t1))) rfl ?_
        refine xk hK25 ?_; clear hK25
        obtain ⟨y4, e4, hb1⟩ := bnd hb1
        obtain ⟨y5, e5, hb1⟩ := bnd hb1
        apply wp_region_ext 7 (kindsF []) rfl rfl (by kernel_rfl); intro vs1
        simp only [List.take_succ_cons, List.take_zero, List.drop_succ_cons, List.drop_zero]
        replace H := H.drew
        refine t_float (fun w => r_move q7) rfl rfl ?_
        refine t_v (fun w hx => r_move (v := sl b1 0 (jk1).length (jk1).length) q10) ?_
        refine t_v (fun w hx => r_move q7) ?_
        refine t_v (fun w hx => r_subL (p := (s1.1 : Int).toNat) u100 tsz5 rfl rfl (subL_some e4).1 (RdS.ofOwn (H.ext hx) (k := 0) rfl g5) (subL_some e4).2.1) ?_
        refine t_v (fun w hx => r_move (v := sl b1 0 (jk1).length (jk1).length) q10) ?_
        refine t_v (fun w hx => r_move (v := .int .i64 ((bif decide (s1.1 ≤ t1) then s1.1 else t1))) rfl) ?_
        refine t_v (fun w hx => r_subH (h := ((bif decide (s1.1 ≤ t1) then s1.1 else t1) : Int).toNat) u100 tsz5 rfl rfl (subH_some e5).1 (RdS.ofOwn (H.ext hx) (k := 0) rfl g5) (subH_some e5).2.1) ?_
        refine t_nil (fun w8 hx hF hA => ?_)
        replace H := H.ext hx; clear hx hF hA
        refine p_of1 (a_copyO (k := 0) (p := (s1.1 : Int).toNat) (xs := s1.2) (ys := y5) u100 tsz5 H rfl g5 rfl (subL_some e4).2.1 (RdS.subH (RdS.ofOwn H (k := 0) rfl g5) e5) (subMem _) rfl) ?_; clear H; rintro w9 _ ⟨rfl, cs5, H, g8⟩
        replace H : HS ⟨S, keysR [], w⟩ S w9 [.osl (sl b1 0 (jk1).length (jk1).length) ((putB s1.2 ((s1.1 : Int).toNat) y5)).length 1 cs5 rs1 5] := H
        refine p_val (r_addI rfl rfl) ?_
        refine p_as (v := .int .i64 ((w64 (s1.1 + ((min (y5).length ((s1.2).length - (s1.1 : Int).toNat) : Nat) : Int))))) rfl ?_
        refine wpList_nil ?_; refine on_norm ?_
        refine b_norm ?_
        refine x_norm ?_
        replace H : HS ⟨S, keysR [], w⟩ S w9 [.osl (sl b1 0 (jk1).length (jk1).length) ((putB s1.2 ((s1.1 : Int).toNat) y5)).length 1 cs5 rs1 5] := H
        obtain rfl := Option.some.inj hb1
        exact ⟨((w64 (s1.1 + ((min (y5).length ((s1.2).length - (s1.1 : Int).toNat) : Nat) : Int))), (putB s1.2 ((s1.1 : Int).toNat) y5)), _, rfl, (by (repeat (refine keep_cons rfl ?_)); refine keep_sub k7 rfl ?_; (repeat (refine keep_cons rfl ?_)); exact fun _ _ => rfl), ⟨_, _, rfl, H, g8⟩, hh1⟩
       ·replace hb1 := cnd_f hb1 hc7
        refine wp_exit ?_
        refine x_exit ?_
        refine x_exit ?_
        refine b_hit ?_
        refine x_norm ?_
        replace H : HS ⟨S, keysR [], w⟩ S w7 [.osl (sl b1 0 (jk1).length (jk1).length) (s1.2).length 1 cs4 rs1 5] := H
        obtain rfl := Option.some.inj hb1
        obtain rfl := Option.some.inj hh1
        obtain rfl := Option.some.inj hE3
        exact J2 _ _ _ _ (by (repeat (refine keep_cons rfl ?_)); refine keep_sub k7 rfl ?_; (repeat (refine keep_cons rfl ?_)); refine keep_name k6 ?_; (repeat (refine keep_cons rfl ?_)); exact fun _ _ => rfl) H g5
      refine sr ?_; intro K17 hK17
      refine p_mv (k3 8) ?_
      refine p_val (r_gtrI rfl rfl) ?_
      refine xk hK17 ?_; clear hK17
      refine c_split (t := decide ((8192 : Int) < (w64 ((y1.2).toNat : Int)))) rfl (fun hc5 => ?_) (fun hc5 => ?_)
      ·replace hE1 := cnd_t hE1 hc5
       refine sr ?_; intro K18 hK18
       refine p_mv (v := v0_) ((k3 0).trans q2) ?_
       refine p_val (r_lenR' u100 rfl h0_ H.sub) ?_
       obtain ⟨y2, e2, hE1⟩ := bnd hE1
       refine p_val (r_quo (r := w64 (Int.tdiv 8192 ((x0).length : Int))) rfl rfl (of_decide_eq_true (chk_some e2)) rfl) ?_
       refine p_mv (v := v0_) ((k3 0).trans q2) ?_
       refine p_val (r_lenR' u100 rfl h0_ H.sub) ?_
       refine p_val (r_mulI rfl rfl) ?_
       refine p_as (v := .int .i64 ((w64 ((w64 (Int.tdiv 8192 ((x0).length : Int))) * ((x0).length : Int))))) rfl ?_
       refine xk hK18 ?_; clear hK18
       refine sr ?_; intro K19 hK19
       refine p_mv (v := .int .i64 ((w64 ((w64 (Int.tdiv 8192 ((x0).length : Int))) * ((x0).length : Int))))) rfl ?_
       refine p_val (r_eqlI rfl rfl) ?_
       refine xk hK19 ?_; clear hK19
       refine c_split (t := ((w64 ((w64 (Int.tdiv 8192 ((x0).length : Int))) * ((x0).length : Int))) == 0)) rfl (fun hc6 => ?_) (fun hc6 => ?_)
       ·replace hE1 := cnd_t hE1 hc6
        refine wp_region_lit ?_
        refine p_mv (v := v0_) ((k3 0).trans q2) ?_
        refine p_val (r_lenR' u100 rfl h0_ H.sub) ?_
        refine p_as (v := .int .i64 (((x0).length : Int))) rfl ?_
        refine wpList_nil ?_
        refine x_norm ?_
        replace H : HS ⟨S, keysR [], w⟩ S w2 [] := H
        obtain rfl := Option.some.inj hE1
        exact J3 _ _ (by (repeat (refine keep_cons rfl ?_)); exact fun _ _ => rfl) rfl H
       ·replace hE1 := cnd_f hE1 hc6
        refine wp_skip ?_
        refine x_norm ?_
        replace H : HS ⟨S, keysR [], w⟩ S w2 [] := H
        obtain rfl := Option.some.inj hE1
        exact J3 _ _ (by (repeat (refine keep_cons rfl ?_)); exact fun _ _ => rfl) rfl H
      ·replace hE1 := cnd_f hE1 hc5
       refine wp_skip ?_
       refine x_norm ?_
       replace H : HS ⟨S, keysR [], w⟩ S w2 [] := H
       obtain rfl := Option.some.inj hE1
       exact J3 _ _ (by (repeat (refine keep_cons rfl ?_)); exact fun _ _ => rfl) (k3 8) H
   refine p_gs (j := 2) (gvl_at rfl rfl (k1 29)) (fun hb2 => ?_) (fun hb2 => ?_)
   ·skip
    refine p_skip (gvl_at rfl rfl (k1 29)) hb2 ?_
    rw [put_fr]
    refine p_skip (gvl_at rfl rfl (k1 29)) hb2 ?_
    rw [put_fr]
    refine p_val (r_pickt (v := .bool (true)) (k1 29) hb2 rfl) ?_
    refine hR2 _ _ ?_
    exact J1 _ (by (repeat (refine keep_cons rfl ?_)); exact fun _ _ => rfl) (show (.bool (true) : Value) = .bool ((bif decide ((0 : Int) < ((y1.1).toNat : Int)) then true else decide ((9223372036854775807 : Int) < ((y1.2).toNat : Int)))) from congrArg Value.bool (by simp only [hb2, cond_true, cond_false]))
   ·skip
    refine p_want (gvl_at rfl rfl (k1 29)) hb2 ?_
    refine p_mv (k1 6) ?_
    refine p_want (gvl_at rfl rfl (k1 29)) hb2 ?_
    refine p_val (r_gtrI rfl rfl) ?_
    refine p_val (r_pickf (v := .bool (decide ((9223372036854775807 : Int) < ((y1.2).toNat : Int)))) (k1 29) hb2 rfl) ?_
    refine hR2 _ _ ?_
    exact J1 _ (by (repeat (refine keep_cons rfl ?_)); exact fun _ _ => rfl) (show (.bool (decide ((9223372036854775807 : Int) < ((y1.2).toNat : Int))) : Value) = .bool ((bif decide ((0 : Int) < ((y1.1).toNat : Int)) then true else decide ((9223372036854775807 : Int) < ((y1.2).toNat : Int)))) from congrArg Value.bool (by simp only [hb2, cond_true, cond_false]))
noncomputable def hash_Mac_b0 (t1 : (List UInt8)) (s1 : Int × (List UInt8) × (List UInt8)) : Option ((Int × (List UInt8) × (List UInt8)) ⊕ ((List UInt8) × (List UInt8))) :=
  bif decide (s1.1 < ((t1).length : Int)) then (Option.bind (idx s1.2.2 s1.1) fun y4 => Option.bind (idx t1 s1.1) fun y5 => Option.bind (idx s1.2.2 s1.1) fun y6 => Option.bind (setL s1.2.2 (s1.1 : Int) (y4 ^^^ y5)) fun y7 => Option.bind (idx s1.2.1 s1.1) fun y8 => Option.bind (idx t1 s1.1) fun y9 => Option.bind (idx s1.2.1 s1.1) fun y10 => Option.bind (setL s1.2.1 (s1.1 : Int) (y8 ^^^ y9)) fun y11 => some (.inl (((w64 (s1.1 + 1)), y11, y7)))) else (some (.inr ((s1.2.1, s1.2.2))))
noncomputable def hash_Mac_p (x0 : List UInt8) (x1 : List UInt8) : Option ((List UInt8)) :=
  Option.bind (bif decide ((64 : Int) < ((x0).length : Int)) then (Option.bind (hash_Sum_p x0) fun y1 => some (y1)) else (some (x0))) (fun t1 => Option.bind (bytes_Repeat_p ([(54 : UInt8)] : List UInt8) 64) fun y2 => Option.bind (bytes_Repeat_p ([(92 : UInt8)] : List UInt8) 64) fun y3 => Option.bind (Option.bind (iter (hash_Mac_b0 t1) ((0, y3, y2))) (fun e => some (e))) (fun t2 => Option.bind (app t2.2 x1) fun y12 => Option.bind (hash_Sum_p y12) fun y13 => Option.bind (app t2.1 y13) fun y14 => Option.bind (hash_Sum_p y14) fun y15 => some (y15)))
theorem hash_Mac_c {S : Mem} {w : World} (hS : Sub S w) {x0 : List UInt8} {x1 : List UInt8} {r : (List UInt8)} (hF : hash_Mac_p x0 x1 = some r) :
    Calls Tryz.prog 53 #[str (x0), str (x1)] w fun e w' => e = .returned (str (r)) ∧ Ext w w' := by
 refine enter (n := 50) Tryz.func53 rfl rfl rfl ?_
 have H := HS.start hS
 unfold hash_Mac_p at hF
 refine sr ?_; intro K1 hK1
 refine p_as (v := str (([] : List UInt8))) rfl ?_
 refine xk hK1 ?_; clear hK1
 refine wp_seq_k ?_; intro K2 hK2
 refine nameF fun m1 k1 => ?_
 obtain ⟨t1, hE1, hF1⟩ := bnd hF
 have J2 : ∀ (m2 : FM) (w2 : World), (∀ t, has [0, 8, 9, 10, 11, 12] t = false → look m2 t = look m1 t) → look m2 0 = str (t1) → HS ⟨S, [], w⟩ S w2 [] → K2 (fr 50 m2) w2 := by
  clear H; intro m2 w2 k2 q1 H
  have q2 : look m2 1 = str (x1) := (k2 1 rfl).trans (k1 1)
  refine hK2 _ _ ?_
  refine sr ?_; intro K4 hK4
  have g1 : RL S ([Value.int .u8 (54)] ++ ([] : List Value)) ([(54 : UInt8)] : List UInt8) := (RL.cons (rpU8c (x := (54 : UInt8)) rfl) RL.nil)
  refine p_of1 (a_bslice (N := 1) (vals := [(0, .int .u8 (54))]) (l := ([Value.int .u8 (54)] ++ ([] : List Value))) tn100 H rfl rfl rfl g1.len) ?_; clear H; intro w3 v1 H
  generalize ([Value.int .u8 (54)] ++ ([] : List Value)) = cs1 at H g1
  replace H : HS ⟨S, [], w⟩ S w3 [.osl (v1) (([(54 : UInt8)] : List UInt8)).length 1 cs1 [] 5] := H
  obtain ⟨S1, hle1, g2, H1⟩ := H.fixX (k := 0) rfl g1; clear H; have H := H1; clear H1
  replace H : HS ⟨S, [], w⟩ S1 w3 [] := H
  obtain ⟨y2, e2, hF1⟩ := bnd hF1
  refine p_call (l := [v1, .int .i64 (64)]) is98 rfl ?_
  refine (bytes_Repeat_c (H.hand [] rfl) g2 e2).mono ?_; rintro _ w4 ⟨S2, pv1, pcs1, prs1, rfl, H2, pg1⟩
  obtain ⟨H1, hle2⟩ := H.frame [] [] rfl H2; clear H H2; have H := H1; clear H1
  replace g2 := RdS.mono g2 hle2
  replace H : HS ⟨S, [], w⟩ S2 w4 [.osl (pv1) (y2).length 1 pcs1 prs1 5] := H
  have g3 : RL S2 ([Value.int .u8 (92)] ++ ([] : List Value)) ([(92 : UInt8)] : List UInt8) := (RL.cons (rpU8c (x := (92 : UInt8)) rfl) RL.nil)
  refine p_of1 (a_bslice (N := 1) (vals := [(0, .int .u8 (92))]) (l := ([Value.int .u8 (92)] ++ ([] : List Value))) tn100 H rfl rfl rfl g3.len) ?_; clear H; intro w5 v2 H
  generalize ([Value.int .u8 (92)] ++ ([] : List Value)) = cs2 at H g3
  replace H : HS ⟨S, [], w⟩ S2 w5 [.osl (v2) (([(92 : UInt8)] : List UInt8)).length 1 cs2 [] 5, .osl (pv1) (y2).length 1 pcs1 prs1 5] := H
  obtain ⟨S3, hle3, g4, H1⟩ := H.fixX (k := 0) rfl g3; clear H; have H := H1; clear H1
  replace pg1 := RL.mono pg1 hle3
  replace H : HS ⟨S, [], w⟩ S3 w5 [.osl (pv1) (y2).length 1 pcs1 prs1 5] := H
  obtain ⟨y3, e3, hF1⟩ := bnd hF1
  refine p_call (l := [v2, .int .i64 (64)]) is98 rfl ?_
  refine (bytes_Repeat_c (H.hand [] rfl) g4 e3).mono ?_; rintro _ w6 ⟨S4, pv2, pcs2, prs2, rfl, H2, pg2⟩
  obtain ⟨H1, hle4⟩ := H.frame [] [0] rfl H2; clear H H2; have H := H1; clear H1
  replace pg1 := RL.mono pg1 hle4
  replace g4 := RdS.mono g4 hle4
  replace H : HS ⟨S, [], w⟩ S4 w6 [.osl (pv2) (y3).length 1 pcs2 prs2 5, .osl (pv1) (y2).length 1 pcs1 prs1 5] := H
  refine p_as (v := pv1) rfl ?_
  refine p_as (v := pv2) rfl ?_
  refine xk hK4 ?_; clear hK4
  refine wp_seq_k ?_; intro K5 hK5
  refine nameF fun m3 k3 => ?_
  obtain ⟨t2, hE2, hF2⟩ := bnd hF1
  have J1 : ∀ (cs9 rs3 : List Value) (cs10 rs4 : List Value) (m6 : FM) (w12 : World), (∀ t, has [7, 17, 18, 19, 20, 21, 22, 23, 24, 25, 26, 27, 28, 29, 30, 31, 32, 33, 34, 35, 36, 37, 38, 39, 40] t = false → look m6 t = look m3 t) → HS ⟨S, [], w⟩ S4 w12 [.osl (pv2) (t2.1).length 1 cs9 rs3 5, .osl (pv1) (t2.2).length 1 cs10 rs4 5] → RL S4 cs9 t2.1 → RL S4 cs10 t2.2 → K5 (fr 50 m6) w12 := by
   clear H; intro cs9 rs3 cs10 rs4 m6 w12 k7 H g9 g10
   have q9 : look m6 1 = str (x1) := (k7 1 rfl).trans ((k3 1).trans q2)
   have q10 : look m6 5 = pv1 := (k7 5 rfl).trans (k3 5)
   have q11 : look m6 6 = pv2 := (k7 6 rfl).trans (k3 6)
   refine hK5 _ _ ?_
   refine wp_seq_k ?_; intro K12 hK12
   obtain ⟨y12, e12, hF2⟩ := bnd hF2
   obtain ⟨y13, e13, hF2⟩ := bnd hF2
   obtain ⟨y14, e14, hF2⟩ := bnd hF2
   obtain ⟨y15, e15, hF2⟩ := bnd hF2
   apply wp_region_ext 9 (kindsF [(6, .inl (str (y13))), (8, .inl (str (y15)))]) rfl rfl (by kernel_rfl); intro vs3
   simp only [List.take_succ_cons, List.take_zero, List.drop_succ_cons, List.drop_zero]
   replace H := H.drew
   refine t_v (fun w hx => r_move (v := pv2) q11) ?_
   refine t_v (fun w hx => r_strO u100 u5 u9 rfl (H.ext hx) (k := 0) rfl g9) ?_
   refine t_v (fun w hx => r_move (v := pv1) q10) ?_
   refine t_v (fun w hx => r_strO u100 u5 u9 rfl (H.ext hx) (k := 1) rfl g10) ?_
   refine t_v (fun w hx => r_move q9) ?_
   refine t_v (fun w hx => r_cat (r := y12) rfl rfl (by have := (app_some e12).1; omega) (app_some e12).2) ?_
   refine t_call (l := [str (y12)]) rfl rfl is97 rfl (fun w hx hF => (hash_Sum_c (H.ext hx).sub e13).mono (fun _ _ ⟨he, hx⟩ => ⟨he, hx⟩)) ?_
   refine t_v (fun w hx => r_cat (r := y14) rfl rfl (by have := (app_some e14).1; omega) (app_some e14).2) ?_
   refine t_call (l := [str (y14)]) rfl rfl is97 rfl (fun w hx hF => (hash_Sum_c (H.ext hx).sub e15).mono (fun _ _ ⟨he, hx⟩ => ⟨he, hx⟩)) ?_
   refine t_nil (fun w13 hx hF hA => ?_)
   replace H := H.ext hx; clear hx hF hA
   refine p_as (v := str (y15)) rfl ?_
   refine wpList_nil ?_; refine on_norm ?_
   refine xn hK12 ?_; clear hK12
   refine wp_ret ?_
   obtain rfl := Option.some.inj hF2
   refine e_1 rfl (q_tmp (v := str (y15)) rfl) ?_
   exact ⟨rfl, H.toExt⟩
  refine sr ?_; intro K6 hK6
  refine p_mv ((k3 0).trans q1) ?_
  refine p_val (r_lenT (N := (t1).length) u9 rfl rfl) ?_
  refine p_mv (v := .int .i64 (0)) rfl ?_
  refine xk hK6 ?_; clear hK6
  refine wp_block ?_
  refine nameF fun m4 k4 => ?_
  obtain ⟨out1, hL1, hE3⟩ := bnd hE2
  replace H : HS ⟨S, [], w⟩ S4 w6 [.osl (pv2) (y3).length 1 pcs2 prs2 5, .osl (pv1) (y2).length 1 pcs1 prs1 5] := H
  refine loopI [7, 19, 20, 21, 22, 23, 24, 25, 26, 27, 28, 29, 30, 31, 32, 33, 34, 35, 36, 37, 38, 39, 40] (fun (s1 : Int × (List UInt8) × (List UInt8)) (m5 : FM) (w7 : World) => ∃ (cs3 rs1 : List Value) (cs4 rs2 : List Value), look m5 19 = .int .i64 (s1.1) ∧ HS ⟨S, [], w⟩ S4 w7 [.osl (pv2) (s1.2.1).length 1 cs3 rs1 5, .osl (pv1) (s1.2.2).length 1 cs4 rs2 5] ∧ RL S4 cs3 s1.2.1 ∧ RL S4 cs4 s1.2.2) hL1 ⟨_, _, _, _, (k4 19), H, pg2, pg1⟩ ?_
  clear H; intro k6 s1 m5 w7 k5 hI1 o3 hb1 hh1; obtain ⟨cs3, rs1, cs4, rs2, q3, H, g5, g6⟩ := hI1
  have q4 : look m5 1 = str (x1) := (k5 1 rfl).trans ((k4 1).trans ((k3 1).trans q2))
  have q5 : look m5 0 = str (t1) := (k5 0 rfl).trans ((k4 0).trans ((k3 0).trans q1))
  have q6 : look m5 5 = pv1 := (k5 5 rfl).trans ((k4 5).trans (k3 5))
  have q7 : look m5 6 = pv2 := (k5 6 rfl).trans ((k4 6).trans (k3 6))
  have q8 : look m5 18 = .int .i64 (((t1).length : Int)) := (k5 18 rfl).trans (k4 18)
  unfold hash_Mac_b0 at hb1
  refine sr ?_; intro K7 hK7
  refine p_val (r_lssI q3 q8) ?_
  refine xk hK7 ?_; clear hK7
  refine wp_seq_k ?_; intro K8 hK8
  refine c_split (t := decide (s1.1 < ((t1).length : Int))) rfl (fun hc2 => ?_) (fun hc2 => ?_)
  ·replace hb1 := cnd_t hb1 hc2
   refine wp_skip ?_
   refine xn hK8 ?_; clear hK8
   refine wp_seq_k ?_; intro K9 hK9
   refine wp_block ?_
   refine sr ?_; intro K10 hK10
   refine p_mv q3 ?_
   refine p_as (v := .int .i64 (s1.1)) rfl ?_
   refine xk hK10 ?_; clear hK10
   refine wp_seq_k ?_; intro K11 hK11
   obtain ⟨y4, e4, hb1⟩ := bnd hb1
   obtain ⟨b1, c1, hv1⟩ := H.ownAt (k := 1) rfl (idx_lt e4)
   subst hv1
   have hr1 := RL.get g6 (idx_some e4).2; generalize hghr1 : piece cs4 _ _ = cs5 at hr1
   obtain rfl := elU8 hr1
   obtain ⟨y5, e5, hb1⟩ := bnd hb1
   obtain ⟨y6, e6, hb1⟩ := bnd hb1
   apply wp_region_ext 9 (kindsF []) rfl rfl (by kernel_rfl); intro vs1
   simp only [List.take_succ_cons, List.take_zero, List.drop_succ_cons, List.drop_zero]
   replace H := H.drew
   refine t_v (fun w hx => r_move (v := (sl b1 0 (s1.2.2).length c1)) q6) ?_
   refine t_v (fun w hx => r_move (v := .int .i64 (s1.1)) rfl) ?_
   refine t_v (fun w hx => r_addrV (i := (s1.1 : Int).toNat) u100 tsz5 rfl rfl rfl (idx_some e4).1 (idx_lt e4)) ?_
   refine t_v (fun w hx => o_load1 (v := .int .u8 (((y4).toNat : Int))) to5 (H.ext hx) (k := 1) rfl rfl (idx_lt e4) hghr1) ?_
   refine t_v (fun w hx => r_move q5) ?_
   refine t_v (fun w hx => r_move (v := .int .i64 (s1.1)) rfl) ?_
   refine t_v (fun w hx => r_idxT (i := (s1.1 : Int).toNat) (u := y5) u9 rfl rfl (idx_some e5).1 (idx_some e5).2) ?_
   refine t_v (fun w hx => r_bits (bo := .xor) (by simp) rfl rfl (i8_xor _ _)) ?_
   refine t_v (fun w hx => r_addrV (i := (s1.1 : Int).toNat) u100 tsz5 rfl (HS.ownV H (k := 1) rfl) rfl (idx_some e6).1 (idx_lt e6)) ?_
   refine t_nil (fun w8 hx hF hA => ?_)
   replace H := H.ext hx; clear hx hF hA
   obtain ⟨y7, e7, hb1⟩ := bnd hb1
   refine p_ofs (a_storeX (k := 1) (v := .int .u8 ((((y4 ^^^ y5)).toNat : Int))) (l := [Value.int .u8 ((((y4 ^^^ y5)).toNat : Int))]) tsz5 rfl H rfl g6 rfl rfl (cells_one rfl) rpU8 e7) ?_; clear H; rintro w9 ⟨cs6, H, g7⟩
   replace H : HS ⟨S, [], w⟩ S4 w9 [.osl (pv2) (s1.2.1).length 1 cs3 rs1 5, .osl (sl b1 0 (s1.2.2).length c1) (y7).length 1 cs6 rs2 5] := H
   refine wpList_nil ?_; refine on_norm ?_
   refine xn hK11 ?_; clear hK11
   obtain ⟨y8, e8, hb1⟩ := bnd hb1
   obtain ⟨b3, c3, hv3⟩ := H.ownAt (k := 0) rfl (idx_lt e8)
   subst hv3
   have hr2 := RL.get g5 (idx_some e8).2; generalize hghr2 : piece cs3 _ _ = cs7 at hr2
   obtain rfl := elU8 hr2
   obtain ⟨y9, e9, hb1⟩ := bnd hb1
   obtain ⟨y10, e10, hb1⟩ := bnd hb1
   apply wp_region_ext 9 (kindsF []) rfl rfl (by kernel_rfl); intro vs2
   simp only [List.take_succ_cons, List.take_zero, List.drop_succ_cons, List.drop_zero]
   replace H := H.drew
   refine t_v (fun w hx => r_move (v := (sl b3 0 (s1.2.1).length c3)) q7) ?_
   refine t_v (fun w hx => r_move (v := .int .i64 (s1.1)) rfl) ?_
   refine t_v (fun w hx => r_addrV (i := (s1.1 : Int).toNat) u100 tsz5 rfl rfl rfl (idx_some e8).1 (idx_lt e8)) ?_
   refine t_v (fun w hx => o_load1 (v := .int .u8 (((y8).toNat : Int))) to5 (H.ext hx) (k := 0) rfl rfl (idx_lt e8) hghr2) ?_
   refine t_v (fun w hx => r_move q5) ?_
   refine t_v (fun w hx => r_move (v := .int .i64 (s1.1)) rfl) ?_
   refine t_v (fun w hx => r_idxT (i := (s1.1 : Int).toNat) (u := y9) u9 rfl rfl (idx_some e9).1 (idx_some e9).2) ?_
   refine t_v (fun w hx => r_bits (bo := .xor) (by simp) rfl rfl (i8_xor _ _)) ?_
   refine t_v (fun w hx => r_addrV (i := (s1.1 : Int).toNat) u100 tsz5 rfl (HS.ownV H (k := 0) rfl) rfl (idx_some e10).1 (idx_lt e10)) ?_
   refine t_nil (fun w10 hx hF hA => ?_)
   replace H := H.ext hx; clear hx hF hA
   obtain ⟨y11, e11, hb1⟩ := bnd hb1
   refine p_ofs (a_storeX (k := 0) (v := .int .u8 ((((y8 ^^^ y9)).toNat : Int))) (l := [Value.int .u8 ((((y8 ^^^ y9)).toNat : Int))]) tsz5 rfl H rfl g5 rfl rfl (cells_one rfl) rpU8 e11) ?_; clear H; rintro w11 ⟨cs8, H, g8⟩
   replace H : HS ⟨S, [], w⟩ S4 w11 [.osl (sl b3 0 (s1.2.1).length c3) (y11).length 1 cs8 rs1 5, .osl (sl b1 0 (s1.2.2).length c1) (y7).length 1 cs6 rs2 5] := H
   refine wpList_nil ?_; refine on_norm ?_
   refine b_norm ?_
   refine xn hK9 ?_; clear hK9
   refine wp_region_lit ?_
   refine p_val (r_addI q3 rfl) ?_
   refine p_mv (v := .int .i64 ((w64 (s1.1 + 1)))) rfl ?_
   refine wpList_nil ?_
   refine x_norm ?_
   replace H : HS ⟨S, [], w⟩ S4 w11 [.osl (sl b3 0 (s1.2.1).length c3) (y11).length 1 cs8 rs1 5, .osl (sl b1 0 (s1.2.2).length c1) (y7).length 1 cs6 rs2 5] := H
   obtain rfl := Option.some.inj hb1
   exact ⟨((w64 (s1.1 + 1)), y11, y7), _, rfl, (by (repeat (refine keep_cons rfl ?_)); refine keep_sub k5 rfl ?_; (repeat (refine keep_cons rfl ?_)); exact fun _ _ => rfl), ⟨_, _, _, _, rfl, H, g8, g7⟩, hh1⟩
  ·replace hb1 := cnd_f hb1 hc2
   refine wp_exit ?_
   refine x_exit ?_
   refine x_exit ?_
   refine b_hit ?_
   refine x_norm ?_
   replace H : HS ⟨S, [], w⟩ S4 w7 [.osl (pv2) (s1.2.1).length 1 cs3 rs1 5, .osl (pv1) (s1.2.2).length 1 cs4 rs2 5] := H
   obtain rfl := Option.some.inj hb1
   obtain rfl := Option.some.inj hh1
   obtain rfl := Option.some.inj hE3
   exact J1 _ _ _ _ _ _ (by (repeat (refine keep_cons rfl ?_)); refine keep_sub k5 rfl ?_; (repeat (refine keep_cons rfl ?_)); refine keep_name k4 ?_; (repeat (refine keep_cons rfl ?_)); exact fun _ _ => rfl) H g5 g6
 refine sr ?_; intro K3 hK3
 refine p_mv (k1 0) ?_
 refine p_val (r_lenT (N := (x0).length) u9 rfl rfl) ?_
 refine p_val (r_gtrI rfl rfl) ?_
 refine xk hK3 ?_; clear hK3
 refine c_split (t := decide ((64 : Int) < ((x0).length : Int))) rfl (fun hc1 => ?_) (fun hc1 => ?_)
 ·replace hE1 := cnd_t hE1 hc1
  refine wp_region_lit ?_
  refine p_mv (k1 0) ?_
  obtain ⟨y1, e1, hE1⟩ := bnd hE1
  refine p_call (l := [str (x0)]) is97 rfl ?_
  refine (hash_Sum_c H.sub e1).mono ?_; rintro _ w1 ⟨rfl, hx⟩; replace H := H.ext hx; clear hx
  refine p_as (v := str (y1)) rfl ?_
  refine wpList_nil ?_
  refine x_norm ?_
  replace H : HS ⟨S, [], w⟩ S w1 [] := H
  obtain rfl := Option.some.inj hE1
  exact J2 _ _ (by (repeat (refine keep_cons rfl ?_)); exact fun _ _ => rfl) rfl H
 ·replace hE1 := cnd_f hE1 hc1
  refine wp_skip ?_
  refine x_norm ?_
  replace H : HS ⟨S, [], w⟩ S w [] := H
  obtain rfl := Option.some.inj hE1
  exact J2 _ _ (by (repeat (refine keep_cons rfl ?_)); exact fun _ _ => rfl) (k1 0) H
end Go.Proofs.YtmkomlbiaebddaaGreatDoor
namespace Go.Proofs.YtmkomlbiaebddaaGreatDoor
open Go Go.RowKit
section
variable {α β γ σ : Type}
theorem some_bind (x : α) (f : α → Option β) : (some x).bind f = f x := rfl
theorem w64_of {x : Int} (h : -9223372036854775808 ≤ x) (h2 : x ≤ 9223372036854775807) : w64 x = x := wr64 h (by omega)
theorem idx_ok {l : List α} {i : Nat} {j : Int} (hj : j = (i : Int)) (h : i < l.length) : idx l j = some l[i] := by
  subst hj; rw [idx_nat]; exact List.getElem?_eq_getElem h
theorem chk_ok {c : Bool} (h : c = true) : chk c = some () := by subst h; rfl
theorem cond_t {c : Bool} {a b : α} (h : c = true) : (bif c then a else b) = a := by subst h; rfl
theorem cond_f {c : Bool} {a b : α} (h : c = false) : (bif c then a else b) = b := by subst h; rfl
theorem dec_t {p : Prop} [Decidable p] {a b : α} (h : p) : (bif decide p then a else b) = a := by simp [h]
theorem dec_f {p : Prop} [Decidable p] {a b : α} (h : ¬ p) : (bif decide p then a else b) = b := by simp [h]
theorem iter_run {body : σ → Option (σ ⊕ β)} (st : Nat → σ) (n : Nat) (hn : n < 1099511627776) (b : β) (h : ∀ k, k < n → body (st k) = some (.inl (st (k + 1)))) (he : body (st n) = some (.inr b)) : iter body (st 0) = some b := by
  have key : ∀ j k, k ≤ n → n - k < j → iterN body j (st k) = some b := by
    intro j
    induction j with
    | zero => intro k _ h; omega
    | succ j ih =>
      intro k hk hj
      by_cases e : k = n
      · subst e; exact iterN_end he
      · rw [iterN_step (h k (by omega))]; exact ih (k + 1) (by omega) (by omega)
  exact key FU 0 (by omega) (by unfold FU; omega)
theorem take_succ {l : List α} {k : Nat} (h : k < l.length) : l.take (k + 1) = l.take k ++ [l[k]] := by
  rw [List.take_add_one, List.getElem?_eq_getElem h]; rfl
end
end Go.Proofs.YtmkomlbiaebddaaGreatDoor
namespace Go.Proofs.YtmkomlbiaebddaaGreatDoor
open Go Go.RowKit
section
variable {α : Type} {n : Nat}
def vset (x : Vec α n) (i : Nat) (u : α) : Vec α n := ⟨x.l.set i u, by simp [x.h]⟩
def gv (x : Vec UInt32 64) (i : Nat) : UInt32 := x.l.getD i 0
theorem setV_ok {x : Vec α n} {i : Nat} {j : Int} {u : α} (hj : j = (i : Int)) (h : i < n) : setV x j u = some (vset x i u) := by
  subst hj
  unfold setV
  rw [show (decide (0 ≤ (i : Int)) && decide ((i : Int) < (n : Int))) = true by simp; exact h]
  exact congrArg some (Vec.eq (by rw [vset]; simp))
theorem idxV_ok {x : Vec UInt32 64} {i : Nat} {j : Int} (hj : j = (i : Int)) (h : i < 64) : idx x.l j = some (gv x i) := by
  have h' : i < x.l.length := by rw [x.h]; exact h
  rw [idx_ok hj h', gv, List.getD_eq_getElem?_getD, List.getElem?_eq_getElem h']; rfl
theorem w64n {n : Nat} (h : n < 9223372036854775808) : w64 (n : Int) = (n : Int) := w64_of (by omega) (by omega)
theorem w64s (n : Nat) (h : n < 9223372036854775807) : w64 ((n : Int) + 1) = ((n + 1 : Nat) : Int) := w64_of (by omega) (by omega)
def rr (x : UInt32) (n : Nat) : UInt32 := i32 (shlI .u32 (x.toNat : Int) ((32 - n : Nat) : Int)) ||| i32 (shrI .u32 (x.toNat : Int) (n : Int))
theorem ror_ok (x : UInt32) (n : Nat) {m : Int} (h1 : ((((i64 (w64 (0 - m))) &&& (31 : UInt64))).toNat : Int) = ((32 - n : Nat) : Int)) (h2 : (((i64 ((32 : Int) - ((32 - n : Nat) : Int)))).toNat : Int) = (n : Int)) : hash_state_next_1_p x m = some (rr x n) := by
  unfold hash_state_next_1_p math_bits_RotateLeft32_p
  simp only [some_bind]
  rw [h1, h2]; rfl
def valF (l : List UInt8) : UInt64 := l.foldl (fun s b => (i64 (shlI .u64 (s.toNat : Int) 8)) ||| (i64 (b.toNat : Int))) 0
theorem value_ok {l : List UInt8} (h : l.length < 1000000) : hash_value_p l = some (valF l) := by
  have key : iter (hash_value_b0 l) ((0 : UInt64), 0) = some (valF l) := by
    refine iter_run (fun k => (valF (l.take k), (k : Int))) l.length (by omega) _ (fun k hk => ?_) ?_
    · unfold hash_value_b0
      rw [dec_t (by omega), idx_ok rfl hk]
      simp only [some_bind]
      rw [w64s k (by omega), take_succ hk]
      simp only [valF, List.foldl_append, List.foldl_cons, List.foldl_nil]
    · unfold hash_value_b0
      rw [dec_f (by omega), List.take_length]
  unfold hash_value_p
  rw [key]; rfl
end
abbrev St8 : Type := UInt32 × UInt32 × UInt32 × UInt32 × UInt32 × UInt32 × UInt32 × UInt32
def W1 (blk : List UInt8) : Nat → Vec UInt32 64
  | 0 => vrep 64 0
  | k + 1 => vset (W1 blk k) k (i32 (((valF ((blk.take (4 * k + 4)).drop (4 * k))).toNat : Int)))
def extW (a b c d : UInt32) : UInt32 := i32 ((((i32 ((((i32 (((c).toNat : Int) + ((((rr a 7 ^^^ rr a 18) ^^^ (i32 (shrI .u32 ((a).toNat : Int) 3)))).toNat : Int)))).toNat : Int) + ((d).toNat : Int)))).toNat : Int) + ((((rr b 17 ^^^ rr b 19) ^^^ (i32 (shrI .u32 ((b).toNat : Int) 10)))).toNat : Int))
def W2 (w : Vec UInt32 64) : Nat → Vec UInt32 64
  | 0 => w
  | k + 1 => vset (W2 w k) (16 + k) (extW (gv (W2 w k) (k + 1)) (gv (W2 w k) (k + 14)) (gv (W2 w k) k) (gv (W2 w k) (k + 9)))
def t1F (s : St8) (K w : UInt32) : UInt32 := i32 ((((i32 ((((i32 ((((i32 (((s.2.2.2.2.2.2.2).toNat : Int) + ((((rr s.2.2.2.2.1 6 ^^^ rr s.2.2.2.2.1 11) ^^^ rr s.2.2.2.2.1 25)).toNat : Int)))).toNat : Int) + ((((s.2.2.2.2.1 &&& s.2.2.2.2.2.1) ^^^ (((4294967295 : UInt32) ^^^ s.2.2.2.2.1) &&& s.2.2.2.2.2.2.1))).toNat : Int)))).toNat : Int) + ((K).toNat : Int)))).toNat : Int) + ((w).toNat : Int))
def t2F (s : St8) : UInt32 := i32 (((((rr s.1 2 ^^^ rr s.1 13) ^^^ rr s.1 22)).toNat : Int) + (((((s.1 &&& s.2.1) ^^^ (s.1 &&& s.2.2.1)) ^^^ (s.2.1 &&& s.2.2.1))).toNat : Int))
def rnd (K w : UInt32) (s : St8) : St8 := (i32 (((t1F s K w).toNat : Int) + ((t2F s).toNat : Int)), s.1, s.2.1, s.2.2.1, i32 (((s.2.2.2.1).toNat : Int) + ((t1F s K w).toNat : Int)), s.2.2.2.2.1, s.2.2.2.2.2.1, s.2.2.2.2.2.2.1)
def R3 (K w : Vec UInt32 64) (s : St8) : Nat → St8
  | 0 => s
  | k + 1 => rnd (gv K k) (gv w k) (R3 K w s k)
def ad8 (a b : UInt32) : UInt32 := i32 (((a).toNat : Int) + ((b).toNat : Int))
def add8 (v s : St8) : St8 := (ad8 v.1 s.1, ad8 v.2.1 s.2.1, ad8 v.2.2.1 s.2.2.1, ad8 v.2.2.2.1 s.2.2.2.1, ad8 v.2.2.2.2.1 s.2.2.2.2.1, ad8 v.2.2.2.2.2.1 s.2.2.2.2.2.1, ad8 v.2.2.2.2.2.2.1 s.2.2.2.2.2.2.1, ad8 v.2.2.2.2.2.2.2 s.2.2.2.2.2.2.2)
def nextF (s : St8) (blk : List UInt8) (K : Vec UInt32 64) : St8 := add8 (R3 K (W2 (W1 blk 16) 48) s 64) s
theorem l0_ok {blk : List UInt8} (h : blk.length = 64) : iter (hash_state_next_b0 blk) (0, vrep 64 (0 : UInt32)) = some (W1 blk 16) := by
  refine iter_run (fun k => ((k : Int), W1 blk k)) 16 (by decide) _ (fun k hk => ?_) ?_
  · unfold hash_state_next_b0
    have e1 : w64 ((4 : Int) * (k : Int)) = ((4 * k : Nat) : Int) := w64_of (by omega) (by omega)
    have e2 : w64 (((4 * k : Nat) : Int) + 4) = ((4 * k + 4 : Nat) : Int) := w64_of (by omega) (by omega)
    rw [dec_t (by omega)]
    simp only [e1, e2]
    rw [sub3_ok (by omega) (by omega), some_bind, value_ok (by simp; omega), some_bind, idxV_ok rfl (by omega), some_bind, setV_ok rfl (by omega), some_bind, w64s k (by omega)]
    rfl
  · unfold hash_state_next_b0
    rw [dec_f (by omega)]
theorem l1_ok (w : Vec UInt32 64) : iter hash_state_next_b1 (16, w) = some (W2 w 48) := by
  refine iter_run (fun k => (((16 + k : Nat) : Int), W2 w k)) 48 (by decide) _ (fun k hk => ?_) ?_
  · unfold hash_state_next_b1
    have e : ∀ (a : Int) (b : Nat), a = (b : Int) → b < 64 → w64 a = (b : Int) := fun a b e h => by rw [e]; exact w64n (by omega)
    rw [dec_t (by omega)]
    simp only [e (((16 + k : Nat) : Int) - 15) (k + 1) (by omega) (by omega), e (((16 + k : Nat) : Int) - 2) (k + 14) (by omega) (by omega), e (((16 + k : Nat) : Int) - 16) k (by omega) (by omega), e (((16 + k : Nat) : Int) - 7) (k + 9) (by omega) (by omega)]
    simp only [idxV_ok (x := W2 w k) (i := k + 1) rfl (by omega), idxV_ok (x := W2 w k) (i := k + 14) rfl (by omega), idxV_ok (x := W2 w k) (i := k) rfl (by omega), idxV_ok (x := W2 w k) (i := k + 9) rfl (by omega), idxV_ok (x := W2 w k) (i := 16 + k) rfl (by omega), some_bind, ror_ok _ 7 (m := 7) (by decide) (by decide), ror_ok _ 18 (m := 18) (by decide) (by decide), ror_ok _ 17 (m := 17) (by decide) (by decide), ror_ok _ 19 (m := 19) (by decide) (by decide), setV_ok (x := W2 w k) (i := 16 + k) rfl (by omega)]
    rw [w64s (16 + k) (by omega)]
    rfl
  · unfold hash_state_next_b1
    rw [dec_f (by omega)]
theorem l2_ok (K w : Vec UInt32 64) (s : St8) : iter (hash_state_next_b2 K w) (0, s) = some (R3 K w s 64) := by
  refine iter_run (fun k => ((k : Int), R3 K w s k)) 64 (by decide) _ (fun k hk => ?_) ?_
  · unfold hash_state_next_b2
    rw [dec_t (by omega)]
    simp only [idxV_ok (x := K) (i := k) rfl hk, idxV_ok (x := w) (i := k) rfl hk, some_bind, ror_ok _ 6 (m := 6) (by decide) (by decide), ror_ok _ 11 (m := 11) (by decide) (by decide), ror_ok _ 25 (m := 25) (by decide) (by decide), ror_ok _ 2 (m := 2) (by decide) (by decide), ror_ok _ 13 (m := 13) (by decide) (by decide), ror_ok _ 22 (m := 22) (by decide) (by decide)]
    rw [w64s k (by omega)]
    rfl
  · unfold hash_state_next_b2
    rw [dec_f (by omega)]
def pt8 (v s : St8) (k : Nat) : St8 := (if 0 < k then ad8 v.1 s.1 else v.1, if 1 < k then ad8 v.2.1 s.2.1 else v.2.1, if 2 < k then ad8 v.2.2.1 s.2.2.1 else v.2.2.1, if 3 < k then ad8 v.2.2.2.1 s.2.2.2.1 else v.2.2.2.1, if 4 < k then ad8 v.2.2.2.2.1 s.2.2.2.2.1 else v.2.2.2.2.1, if 5 < k then ad8 v.2.2.2.2.2.1 s.2.2.2.2.2.1 else v.2.2.2.2.2.1, if 6 < k then ad8 v.2.2.2.2.2.2.1 s.2.2.2.2.2.2.1 else v.2.2.2.2.2.2.1, if 7 < k then ad8 v.2.2.2.2.2.2.2 s.2.2.2.2.2.2.2 else v.2.2.2.2.2.2.2)
theorem l3_ok (s v : St8) : iter (hash_state_next_b3 s) (0, v) = some (add8 v s) := by
  refine iter_run (fun k => ((k : Int), pt8 v s k)) 8 (by decide) _ (fun k hk => ?_) ?_
  · rcases (by omega : k = 0 ∨ k = 1 ∨ k = 2 ∨ k = 3 ∨ k = 4 ∨ k = 5 ∨ k = 6 ∨ k = 7) with rfl | rfl | rfl | rfl | rfl | rfl | rfl | rfl <;> rfl
  · rfl
theorem next_ok (s : St8) {blk : List UInt8} (K : Vec UInt32 64) (h : blk.length = 64) : hash_state_next_p s blk K = some (nextF s blk K, K) := by
  unfold hash_state_next_p
  rw [l0_ok h, some_bind, some_bind, l1_ok, some_bind, some_bind]
  rw [show (0, s.1, s.2.1, s.2.2.1, s.2.2.2.1, s.2.2.2.2.1, s.2.2.2.2.2.1, s.2.2.2.2.2.2.1, s.2.2.2.2.2.2.2) = ((0 : Int), s) from rfl, l2_ok, some_bind, some_bind]
  rw [show ∀ t : St8, (0, t.1, t.2.1, t.2.2.1, t.2.2.2.1, t.2.2.2.2.1, t.2.2.2.2.2.1, t.2.2.2.2.2.2.1, t.2.2.2.2.2.2.2) = ((0 : Int), t) from fun _ => rfl, l3_ok, some_bind, some_bind]
  rfl
def byF (x : UInt64) (i : Nat) : UInt8 := i8 (((i64 (shrI .u64 ((x).toNat : Int) ((8 * i : Nat) : Int)))).toNat : Int)
def beF (x : UInt64) : Nat → List UInt8
  | 0 => []
  | i + 1 => byF x i :: beF x i
theorem beF_len (x : UInt64) : ∀ n, (beF x n).length = n
  | 0 => rfl
  | n + 1 => by rw [beF, List.length_cons, beF_len x n]
theorem beF_take (x : UInt64) (n : Nat) : ∀ k, k < n → (beF x n).take (k + 1) = (beF x n).take k ++ [byF x (n - 1 - k)] := by
  have get : ∀ n k (h : k < (beF x n).length), (beF x n)[k] = byF x (n - 1 - k) := by
    intro n
    induction n with
    | zero => intro k h; simp [beF] at h
    | succ n ih =>
      intro k h
      cases k with
      | zero => simp [beF]
      | succ k =>
        simp only [beF, List.getElem_cons_succ]
        rw [ih k (by simpa [beF] using h)]
        congr 1; omega
  intro k hk
  have h : k < (beF x n).length := by rw [beF_len]; exact hk
  rw [take_succ h, get n k h]
theorem big_ok {l : List UInt8} {x : UInt64} {n : Nat} (hn : n ≤ 8) (h : l.length ≤ 68719476000) : hash_big_p l x (n : Int) = some (l ++ beF x n) := by
  have e0 : w64 ((n : Int) - 1) = (n : Int) - 1 := w64_of (by omega) (by omega)
  have key : iter (hash_big_b0 x) ((n : Int) - 1, l) = some (l ++ beF x n) := by
    have := iter_run (body := hash_big_b0 x) (fun k => ((n : Int) - 1 - (k : Int), l ++ (beF x n).take k)) n (by omega) (l ++ beF x n) (fun k hk => by
      unfold hash_big_b0
      have e1 : (n : Int) - 1 - (k : Int) = ((n - 1 - k : Nat) : Int) := by omega
      rw [dec_t (by omega)]
      simp only [e1]
      have e2 : w64 ((8 : Int) * ((n - 1 - k : Nat) : Int)) = ((8 * (n - 1 - k) : Nat) : Int) := w64_of (by omega) (by omega)
      have e3 : w64 (((n - 1 - k : Nat) : Int) - 1) = (n : Int) - 1 - ((k + 1 : Nat) : Int) := by rw [w64_of (by omega) (by omega)]; omega
      rw [e2, chk_ok (decide_eq_true (by omega)), some_bind, app_ok (by simp [List.length_take, beF_len]; omega), some_bind, e3, beF_take x n k hk]
      simp only [List.append_assoc]
      rfl) (by
      unfold hash_big_b0
      rw [dec_f (by omega), List.take_of_length_le (by rw [beF_len]; exact Nat.le_refl _)])
    simpa using this
  unfold hash_big_p
  rw [e0, key]; rfl
def bodyF (l : List UInt8) : List UInt8 := (l ++ [128]) ++ List.replicate ((119 - l.length % 64) % 64) 0
def msgF (l : List UInt8) : List UInt8 := bodyF l ++ beF (i64 ((8 : Int) * (((i64 ((l.length : Int)))).toNat : Int))) 8
theorem bodyF_len (l : List UInt8) : (bodyF l).length % 64 = 56 := by simp only [bodyF, List.length_append, List.length_replicate, List.length_cons, List.length_nil]; omega
theorem bodyF_le (l : List UInt8) : (bodyF l).length ≤ l.length + 64 := by simp only [bodyF, List.length_append, List.length_replicate, List.length_cons, List.length_nil]; omega
theorem msgF_len (l : List UInt8) : (msgF l).length % 64 = 0 := by have := bodyF_len l; simp only [msgF, List.length_append, beF_len]; omega
theorem msgF_le (l : List UInt8) : (msgF l).length ≤ l.length + 72 := by have := bodyF_le l; simp only [msgF, List.length_append, beF_len]; omega
theorem tmod64 (n : Nat) : Int.tmod (n : Int) 64 = ((n % 64 : Nat) : Int) := (Int.ofNat_tmod n 64).symm
theorem pad_ok {l : List UInt8} (h : l.length ≤ 68719470000) : iter hash_Sum_b0 (l ++ [128]) = some (bodyF l) := by
  have := iter_run (body := hash_Sum_b0) (fun k => (l ++ [128]) ++ List.replicate k (0 : UInt8)) ((119 - l.length % 64) % 64) (by omega) (bodyF l) (fun k hk => by
    unfold hash_Sum_b0
    have hl : ((l ++ [128]) ++ List.replicate k (0 : UInt8)).length = l.length + 1 + k := by simp; omega
    rw [hl, cond_t (by rw [tmod64]; simp only [bne_iff_ne, ne_eq]; omega), app_ok (by rw [hl, List.length_cons, List.length_nil]; omega), some_bind, List.append_assoc, ← List.replicate_succ']) (by
    unfold hash_Sum_b0
    rw [show (l ++ [128]) ++ List.replicate ((119 - l.length % 64) % 64) (0 : UInt8) = bodyF l from rfl]
    have := bodyF_len l
    rw [cond_f (by rw [tmod64, this]; rfl)])
  simpa using this
def ini8 : St8 := (1779033703, 3144134277, 1013904242, 2773480762, 1359893119, 2600822924, 528734635, 1541459225)
def chainF (K : Vec UInt32 64) (b : List UInt8) : Nat → St8
  | 0 => ini8
  | k + 1 => nextF (chainF K b k) ((b.drop (64 * k)).take 64) K
def outF (s : St8) : List UInt8 := beF (i64 (s.1.toNat : Int)) 4 ++ (beF (i64 (s.2.1.toNat : Int)) 4 ++ (beF (i64 (s.2.2.1.toNat : Int)) 4 ++ (beF (i64 (s.2.2.2.1.toNat : Int)) 4 ++ (beF (i64 (s.2.2.2.2.1.toNat : Int)) 4 ++ (beF (i64 (s.2.2.2.2.2.1.toNat : Int)) 4 ++ (beF (i64 (s.2.2.2.2.2.2.1.toNat : Int)) 4 ++ beF (i64 (s.2.2.2.2.2.2.2.toNat : Int)) 4))))))
def at8 (s : St8) (k : Nat) : UInt32 := ([s.1, s.2.1, s.2.2.1, s.2.2.2.1, s.2.2.2.2.1, s.2.2.2.2.2.1, s.2.2.2.2.2.2.1, s.2.2.2.2.2.2.2] : List UInt32).getD k 0
def outN (s : St8) : Nat → List UInt8
  | 0 => []
  | k + 1 => outN s k ++ beF (i64 ((at8 s k).toNat : Int)) 4
theorem outN_len (s : St8) : ∀ k, (outN s k).length = 4 * k
  | 0 => rfl
  | k + 1 => by rw [outN, List.length_append, outN_len s k, beF_len]; omega
theorem outF_eq (s : St8) : outN s 8 = outF s := by simp only [outN, outF, at8, List.nil_append, List.append_assoc]; rfl
theorem outF_len (s : St8) : (outF s).length = 32 := by rw [← outF_eq, outN_len]
def keysF : Vec UInt32 64 := (hash_keys_p).getD (vrep 64 0)
theorem keys_ok : hash_keys_p = some keysF := rfl
def shaF (l : List UInt8) : List UInt8 := outF (chainF keysF (msgF l) ((msgF l).length / 64))
theorem shaF_len (l : List UInt8) : (shaF l).length = 32 := outF_len _
theorem chain_ok (K : Vec UInt32 64) {b : List UInt8} (h : b.length % 64 = 0) (hl : b.length ≤ 68719476736) : iter hash_Sum_b1 (b, 1779033703, 3144134277, 1013904242, 2773480762, 1359893119, 2600822924, 528734635, 1541459225, K) =
    some ((chainF K b (b.length / 64)).1, (chainF K b (b.length / 64)).2.1, (chainF K b (b.length / 64)).2.2.1, (chainF K b (b.length / 64)).2.2.2.1, (chainF K b (b.length / 64)).2.2.2.2.1, (chainF K b (b.length / 64)).2.2.2.2.2.1, (chainF K b (b.length / 64)).2.2.2.2.2.2.1, (chainF K b (b.length / 64)).2.2.2.2.2.2.2, K) := by
  refine iter_run (fun k => (b.drop (64 * k), (chainF K b k).1, (chainF K b k).2.1, (chainF K b k).2.2.1, (chainF K b k).2.2.2.1, (chainF K b k).2.2.2.2.1, (chainF K b k).2.2.2.2.2.1, (chainF K b k).2.2.2.2.2.2.1, (chainF K b k).2.2.2.2.2.2.2, K)) (b.length / 64) (by omega) _ (fun k hk => ?_) ?_
  · unfold hash_Sum_b1
    have hd : (b.drop (64 * k)).length = b.length - 64 * k := by simp
    rw [dec_t (by simp only [hd]; omega)]
    simp only []
    rw [show (64 : Int) = ((64 : Nat) : Int) from rfl, subH_ok (by rw [hd]; omega), some_bind, next_ok _ _ (by simp only [List.length_take, hd]; omega), some_bind, subL_ok (by rw [hd]; omega), some_bind, List.drop_drop]
    rfl
  · unfold hash_Sum_b1
    rw [dec_f (by simp only [List.length_drop]; omega)]
theorem out_ok2 (s : St8) (K : Vec UInt32 64) : iter (hash_Sum_b2 (s.1, s.2.1, s.2.2.1, s.2.2.2.1, s.2.2.2.2.1, s.2.2.2.2.2.1, s.2.2.2.2.2.2.1, s.2.2.2.2.2.2.2, K)) (([] : List UInt8), 0) = some (outF s) := by
  rw [← outF_eq]
  refine iter_run (fun k => (outN s k, (k : Int))) 8 (by decide) _ (fun k hk => ?_) ?_
  · unfold hash_Sum_b2
    have e : idx ([s.1, s.2.1, s.2.2.1, s.2.2.2.1, s.2.2.2.2.1, s.2.2.2.2.2.1, s.2.2.2.2.2.2.1, s.2.2.2.2.2.2.2] : List UInt32) (k : Int) = some (at8 s k) := by
      rcases (by omega : k = 0 ∨ k = 1 ∨ k = 2 ∨ k = 3 ∨ k = 4 ∨ k = 5 ∨ k = 6 ∨ k = 7) with rfl | rfl | rfl | rfl | rfl | rfl | rfl | rfl <;> rfl
    rw [dec_t (by omega)]
    simp only []
    rw [e, some_bind, show (4 : Int) = ((4 : Nat) : Int) from rfl, big_ok (by decide) (by rw [outN_len]; omega), some_bind, w64s k (by omega)]
    rfl
  · unfold hash_Sum_b2
    rw [dec_f (by omega)]
theorem sum_ok4 {l : List UInt8} (h : l.length ≤ 68719470000) : hash_Sum_p l = some (shaF l) := by
  unfold hash_Sum_p
  rw [app_ok (by rw [List.length_cons, List.length_nil]; omega), some_bind, pad_ok h, some_bind, some_bind, show (8 : Int) = ((8 : Nat) : Int) from rfl, big_ok (by decide) (by have := bodyF_le l; omega), some_bind, keys_ok, some_bind]
  rw [show bodyF l ++ beF (i64 (((8 : Nat) : Int) * (((i64 ((l.length : Int)))).toNat : Int))) 8 = msgF l from rfl, chain_ok keysF (msgF_len l) (by have := msgF_le l; omega), some_bind, some_bind, out_ok2]
  rfl
theorem mul1 (c : UInt8) : math_bits_Mul_p (i64 ((([c] : List UInt8)).length : Int)) (i64 64) = some ((0 : UInt64), (64 : UInt64)) := by
  rw [show ((([c] : List UInt8)).length : Int) = 1 from rfl]; decide +kernel
theorem rep_step (c : UInt8) {n : Nat} (h0 : 0 < n) (h : n ≤ 32) {r : List UInt8} (hr : r.length = 64 - n) : bytes_Repeat_b0 ((0 : UInt64), (64 : UInt64)) 64 ((n : Int), List.replicate n c ++ r) = some (.inl (((2 * n : Nat) : Int), List.replicate (2 * n) c ++ r.drop n)) := by
  unfold bytes_Repeat_b0
  have e64 : w64 (((64 : UInt64)).toNat : Int) = 64 := by decide
  have hl : (List.replicate n c ++ r).length = 64 := by simp [hr]; omega
  simp only [e64]
  rw [dec_t (by omega), subL_ok (by omega), some_bind, dec_t (by omega), subH_ok (by omega), some_bind]
  have h1 : (List.replicate n c ++ r).drop n = r := by rw [List.drop_left' (by simp)]
  have h2 : (List.replicate n c ++ r).take n = List.replicate n c := by rw [List.take_left' (by simp)]
  rw [h2, hl, show (((n : Int)).toNat) = n from rfl, List.length_replicate]
  have h4 : min n (64 - n) = n := by omega
  rw [h4, w64_of (by omega) (by omega)]
  have h5 : putB (List.replicate n c ++ r) n (List.replicate n c) = List.replicate (2 * n) c ++ r.drop n := by
    unfold putB
    rw [h2, hl, List.length_replicate, h4, List.take_of_length_le (by simp; omega), List.drop_append, List.length_replicate, List.drop_eq_nil_of_le (by simp), List.nil_append, ← List.append_assoc, List.replicate_append_replicate]
    congr 2 <;> omega
  rw [h5]
  congr 4
  omega
theorem rep_ok (c : UInt8) : bytes_Repeat_p [c] 64 = some (List.replicate 64 c) := by
  unfold bytes_Repeat_p
  have e64 : w64 (((64 : UInt64)).toNat : Int) = 64 := by decide
  rw [cond_f (by rfl), dec_f (by decide), mul1, some_bind]
  simp only [e64]
  rw [cond_f (by decide), cond_f (by rfl), dec_f (by decide), some_bind, chk_ok (by decide), some_bind]
  refine anyJ_intro fun jk hj => ?_
  have hj' : jk.length = 64 := hj
  have h0 : putB jk 0 [c] = List.replicate 1 c ++ jk.drop 1 := by
    unfold putB
    rw [hj']; rfl
  have key : iter (bytes_Repeat_b0 ((0 : UInt64), (64 : UInt64)) 64) (((1 : Nat) : Int), List.replicate 1 c ++ jk.drop 1) = some (List.replicate 64 c) := by
    refine iter_run (fun k => (((2 ^ k : Nat) : Int), List.replicate (2 ^ k) c ++ jk.drop (2 ^ k))) 6 (by decide) _ (fun k hk => ?_) ?_
    · have hp : 2 ^ k ≤ 32 := by rcases (by omega : k = 0 ∨ k = 1 ∨ k = 2 ∨ k = 3 ∨ k = 4 ∨ k = 5) with rfl | rfl | rfl | rfl | rfl | rfl <;> decide
      rw [rep_step c (Nat.pos_of_ne_zero (by simp)) hp (by rw [List.length_drop, hj']), List.drop_drop, ← Nat.two_mul, Nat.pow_succ, Nat.mul_comm]
    · unfold bytes_Repeat_b0
      simp only [e64]
      rw [dec_f (by decide), List.drop_eq_nil_of_le (by rw [hj']; decide), List.append_nil]
  rw [show (((min (([c] : List UInt8)).length (jk.length - 0) : Nat)) : Int) = ((1 : Nat) : Int) by rw [hj']; rfl, h0, key]; rfl
def overF (c : UInt8) (key : List UInt8) : Nat → List UInt8
  | 0 => List.replicate 64 c
  | k + 1 => (overF c key k).set k ((overF c key k).getD k 0 ^^^ key.getD k 0)
theorem overF_len (c : UInt8) (key : List UInt8) : ∀ k, (overF c key k).length = 64
  | 0 => by simp [overF]
  | k + 1 => by rw [overF, List.length_set, overF_len c key k]
theorem idxD {l : List UInt8} {k : Nat} (h : k < l.length) : idx l (k : Int) = some (l.getD k 0) := by
  rw [idx_ok rfl h, List.getD_eq_getElem?_getD, List.getElem?_eq_getElem h]; rfl
theorem setL8_ok {l : List UInt8} {k : Nat} {u : UInt8} (h : k < l.length) : setL l (k : Int) u = some (l.set k u) := by
  unfold setL
  rw [show (decide (0 ≤ (k : Int)) && decide ((k : Int) < (l.length : Int))) = true by simp; exact h]; rfl
theorem over_ok {key : List UInt8} (h : key.length ≤ 64) : iter (hash_Mac_b0 key) (0, List.replicate 64 (92 : UInt8), List.replicate 64 (54 : UInt8)) = some (overF 92 key key.length, overF 54 key key.length) := by
  refine iter_run (fun k => ((k : Int), overF 92 key k, overF 54 key k)) key.length (by omega) _ (fun k hk => ?_) ?_
  · unfold hash_Mac_b0
    rw [dec_t (by omega)]
    simp only []
    have hi : k < (overF 54 key k).length := by rw [overF_len]; omega
    have ho : k < (overF 92 key k).length := by rw [overF_len]; omega
    rw [idxD hi, some_bind, idxD hk, some_bind, some_bind, setL8_ok hi, some_bind, idxD ho, some_bind, some_bind, some_bind, setL8_ok ho, some_bind, w64s k (by omega)]
    rfl
  · unfold hash_Mac_b0
    rw [dec_f (by omega)]
def keyF (key : List UInt8) : List UInt8 := bif decide (64 < key.length) then shaF key else key
def macF (key s : List UInt8) : List UInt8 := shaF (overF 92 (keyF key) (keyF key).length ++ shaF (overF 54 (keyF key) (keyF key).length ++ s))
theorem keyF_len (key : List UInt8) : (keyF key).length ≤ 64 := by
  unfold keyF
  by_cases h : 64 < key.length
  · rw [dec_t h, shaF_len]; decide
  · rw [dec_f h]; omega
theorem macF_len (key s : List UInt8) : (macF key s).length = 32 := shaF_len _
theorem mac_ok4 {key s : List UInt8} (hk : key.length ≤ 68719470000) (hs : s.length ≤ 68719460000) : hash_Mac_p key s = some (macF key s) := by
  unfold hash_Mac_p
  have e : (bif decide ((64 : Int) < ((key).length : Int)) then (Option.bind (hash_Sum_p key) fun y1 => some (y1)) else (some (key))) = some (keyF key) := by
    unfold keyF
    by_cases h : 64 < key.length
    · rw [dec_t (by omega), dec_t h, sum_ok4 hk]; rfl
    · rw [dec_f (by omega), dec_f h]
  have l2 := overF_len 92 (keyF key) (keyF key).length
  have l1 := overF_len 54 (keyF key) (keyF key).length
  have hi : (overF 54 (keyF key) (keyF key).length ++ s).length ≤ 68719470000 := by rw [List.length_append, l1]; omega
  have ho : (overF 92 (keyF key) (keyF key).length ++ shaF (overF 54 (keyF key) (keyF key).length ++ s)).length ≤ 68719470000 := by rw [List.length_append, l2, shaF_len]; omega
  rw [e, some_bind, rep_ok, some_bind, rep_ok, some_bind, over_ok (keyF_len key), some_bind, some_bind, app_ok (by rw [← List.length_append]; show (overF 54 (keyF key) (keyF key).length ++ s).length ≤ _; omega), some_bind, sum_ok4 hi, some_bind, app_ok (by rw [← List.length_append]; show (overF 92 (keyF key) (keyF key).length ++ shaF (overF 54 (keyF key) (keyF key).length ++ s)).length ≤ _; omega), some_bind, sum_ok4 ho]
  rfl
end Go.Proofs.YtmkomlbiaebddaaGreatDoor
namespace Go.Proofs.YtmkomlbiaebddaaGreatDoor
open Go Go.RowKit
theorem or63 {a b : Nat} (ha : a < 2 ^ 63) (hb : b < 2 ^ 63) : bits .or .i64 (a : Int) (b : Int) = ((a ||| b : Nat) : Int) := by
  have h1 : a < 2 ^ IntKind.i64.bits := by show a < 2 ^ 64; omega
  have h2 : b < 2 ^ IntKind.i64.bits := by show b < 2 ^ 64; omega
  simp only [bits, BitVec.toNat_or, ofNatBV .i64 a h1, ofNatBV .i64 b h2]
  have := Nat.or_lt_two_pow ha hb
  exact wr64 (by omega) (by omega)
theorem xor63 {a b : Nat} (ha : a < 2 ^ 63) (hb : b < 2 ^ 63) : bits .xor .i64 (a : Int) (b : Int) = ((a ^^^ b : Nat) : Int) := by
  have h1 : a < 2 ^ IntKind.i64.bits := by show a < 2 ^ 64; omega
  have h2 : b < 2 ^ IntKind.i64.bits := by show b < 2 ^ 64; omega
  simp only [bits, BitVec.toNat_xor, ofNatBV .i64 a h1, ofNatBV .i64 b h2]
  have := Nat.xor_lt_two_pow ha hb
  exact wr64 (by omega) (by omega)
def unlike (x y : List UInt8) : Nat → Nat
  | 0 => x.length ^^^ y.length
  | k + 1 => unlike x y k ||| (x.getD k 0 ^^^ y.getD k 0).toNat
theorem unlike_lt {x y : List UInt8} (hx : x.length < 2 ^ 63) (hy : y.length < 2 ^ 63) : ∀ k, unlike x y k < 2 ^ 63
  | 0 => Nat.xor_lt_two_pow hx hy
  | k + 1 => Nat.or_lt_two_pow (unlike_lt hx hy k) (Nat.lt_of_lt_of_le (UInt8.toNat_lt _) (by decide))
theorem orz0 {a b : Nat} : a ||| b = 0 ↔ a = 0 ∧ b = 0 := by
  constructor
  · intro h
    have h1 : a ≤ a ||| b := Nat.left_le_or
    have h2 : b ≤ a ||| b := Nat.right_le_or
    omega
  · rintro ⟨rfl, rfl⟩; rfl
theorem xorz08 {a b : UInt8} : (a ^^^ b).toNat = 0 ↔ a = b := by
  rw [UInt8.toNat_xor]
  constructor
  · intro h
    apply UInt8.toNat_inj.1
    have := congrArg (· ^^^ b.toNat) h
    simpa [Nat.xor_assoc] using this
  · rintro rfl; simp
theorem unlike_zero {x y : List UInt8} : ∀ k, unlike x y k = 0 ↔ x.length = y.length ∧ ∀ j, j < k → x.getD j 0 = y.getD j 0
  | 0 => by
    simp only [unlike, Nat.not_lt_zero, false_imp_iff, implies_true, and_true]
    constructor
    · intro h
      have := congrArg (· ^^^ y.length) h
      simpa [Nat.xor_assoc] using this
    · intro h; rw [h]; simp
  | k + 1 => by
    rw [unlike, orz0, unlike_zero k, xorz08]
    constructor
    · rintro ⟨⟨h1, h2⟩, h3⟩
      exact ⟨h1, fun j hj => by
        rcases (by omega : j < k ∨ j = k) with h | rfl
        · exact h2 j h
        · exact h3⟩
    · rintro ⟨h1, h2⟩
      exact ⟨⟨h1, fun j hj => h2 j (by omega)⟩, h2 k (by omega)⟩
theorem hsame_ok {x y : List UInt8} (hx : x.length ≤ 68719476736) (hy : y.length ≤ 68719476736) : hash_Same_p x y = some (x == y) := by
  have hx2 : x.length < 2 ^ 63 := by omega
  have hy2 : y.length < 2 ^ 63 := by omega
  have key : iter (hash_Same_b0 x y) ((((x.length ^^^ y.length : Nat)) : Int), 0) = some ((unlike x y x.length : Nat) : Int) := by
    refine iter_run (fun k => (((unlike x y k : Nat) : Int), (k : Int))) x.length (by omega) _ (fun k hk => ?_) ?_
    · unfold hash_Same_b0
      rw [dec_t (by omega)]
      simp only []
      have e : (bif decide ((k : Int) < ((y).length : Int)) then (Option.bind (idx y (k : Int)) fun y1 => some (y1)) else (some ((0 : UInt8)))) = some (y.getD k 0) := by
        by_cases h : k < y.length
        · rw [dec_t (by omega), idxD h]; rfl
        · rw [dec_f (by omega), List.getD_eq_getElem?_getD, List.getElem?_eq_none (by omega)]; rfl
      rw [e, some_bind, idxD hk, some_bind, or63 (unlike_lt hx2 hy2 k) (Nat.lt_of_lt_of_le (UInt8.toNat_lt _) (by decide)), w64s k (by omega)]
      rfl
    · unfold hash_Same_b0
      rw [dec_f (by omega)]
  unfold hash_Same_p
  rw [xor63 hx2 hy2, key, some_bind, some_bind]
  congr 1
  have hz := unlike_zero (x := x) (y := y) x.length
  by_cases h : x = y
  · subst h
    rw [hz.2 ⟨rfl, fun _ _ => rfl⟩]; simp
  · rw [beq_false_of_ne h]
    have : ¬ unlike x y x.length = 0 := fun e => h (by
      obtain ⟨h1, h2⟩ := hz.1 e
      apply List.ext_getElem h1
      intro i hi hi'
      have := h2 i hi
      simpa [List.getD_eq_getElem?_getD, List.getElem?_eq_getElem hi, List.getElem?_eq_getElem hi'] using this)
    rw [beq_eq_false_iff_ne]; omega
end Go.Proofs.YtmkomlbiaebddaaGreatDoor
namespace Go.Proofs.YtmkomlbiaebddaaGreatDoor
open Go Go.RowKit
attribute [local irreducible] wpList wpT Code.wp Calls Code.rounds
theorem bu1 : Tryz.prog.underlying 121 = some (.pointer 123) := by kernel_rfl
theorem bu2 : Tryz.prog.underlying 187 = some .unsafePointer := by kernel_rfl
theorem bi1 : (Tryz.prog.info? 123).map (·.size) = some 2 := by kernel_rfl
theorem bl1 : liesAt Tryz.prog Tryz.prog.depth 123 (2 / Tryz.prog.cellsOf 123) 0 123 1 = true := by kernel_rfl
theorem bf0 : TField Tryz.prog 123 0 0 := fun _ _ _ => by kernel_rfl
theorem bf1 : TField Tryz.prog 123 1 1 := fun _ _ _ => by kernel_rfl
theorem bto : TOne Tryz.prog 121 := ⟨fun _ => by kernel_rfl, fun _ => by kernel_rfl⟩
theorem bto2 : TOne Tryz.prog 100 := ⟨fun _ => by kernel_rfl, fun _ => by kernel_rfl⟩
theorem btz : TSz Tryz.prog 121 1 := fun _ => by kernel_rfl
theorem bnoEsc (x : Value) (w : World) : (callFunc 155 [x].toArray).run Tryz.prog w = .ok (.value x) w := by
  have h := run_callFunc_extern (P := Tryz.prog) (w := w) (args := #[x]) Tryz.func155 (by kernel_rfl) (by kernel_rfl) (by kernel_rfl) (e := Extern.AbiNoEscape.same) (by kernel_rfl)
  show (callFunc 155 #[x]).run Tryz.prog w = _
  rw [h, Lib.run_noEscape]; rfl
def Builder_copyCheck_p (x0 : List UInt8) : Option (List UInt8) := some x0
section
variable {P : Program} {w : World} {B : Bas} {S : Mem} {L : List Res} {e : Operand → Value} {dst : Option Tmp} {g : Option (Nat × Bool)} {ty : TypeId} {pos : String} {aft : Array Edge} {x y : Operand} {T T1 T2 T' : TypeId} {a : Addr}
theorem r_eqPN (hu : P.underlying T = some (.pointer T1)) (hx : e x = .pointer none) (hy : e y = .pointer none) : (execOp e ⟨dst, .binOp .eql T x y T', ty, pos, aft, g⟩).run P w = .ok (.value (.bool true)) w := by
  have h : (Op.equal T (.pointer none) (.pointer none)).run P w = .ok true w := by
    have h : ∀ d, (Op.equalIn (d + 1) T (.pointer none) (.pointer none)).run P w = .ok true w := fun d => by simp [Op.equalIn, Go.underlying, hu]
    exact h 9999
  simp [execOp, eqGuard, binOp, hx, hy, h]
theorem r_eqPS (hu : P.underlying T = some (.pointer T1)) (hx : e x = .pointer (some a)) (hy : e y = .pointer none) : (execOp e ⟨dst, .binOp .eql T x y T', ty, pos, aft, g⟩).run P w = .ok (.value (.bool false)) w := by
  have h : (Op.equal T (.pointer (some a)) (.pointer none)).run P w = .ok false w := by
    have h : ∀ d, (Op.equalIn (d + 1) T (.pointer (some a)) (.pointer none)).run P w = .ok false w := fun d => by simp [Op.equalIn, Go.underlying, hu]
    exact h 9999
  simp [execOp, eqGuard, binOp, hx, hy, h]
theorem r_nePP {j : TypeInfo} (hu : P.underlying T = some (.pointer T1)) (hj : P.info? T1 = some j) (hx : e x = .pointer (some a)) (hy : e y = .pointer (some a)) : (execOp e ⟨dst, .binOp .neq T x y T', ty, pos, aft, g⟩).run P w = .ok (.value (.bool false)) w := by
  have h := Lib.run_neq_ptr_same (P := P) w a hu hj
  simp [execOp, eqGuard, hx, hy, h]
end
theorem Builder_copyCheck_c {S : Mem} {w : World} {b0_ : Nat} {x0 : List UInt8} {pv1 : Value} {pcs1 prs1 : List Value} {pa1 : Value} (H : HS ⟨S, keysR [.blk b0_ ([pa1] ++ ([pv1])) 123, .osl (pv1) (x0).length 1 pcs1 prs1 5], w⟩ S w [.blk b0_ ([pa1] ++ ([pv1])) 123, .osl (pv1) (x0).length 1 pcs1 prs1 5])
    (pg1 : RL S pcs1 x0) (pg2 : BA b0_ pa1) {r : List UInt8} (hF : Builder_copyCheck_p x0 = some r) :
    Calls Tryz.prog 117 #[.pointer (some ⟨b0_, 0, none⟩)] w fun e w' => ∃ (S2 : Mem) (pv2 : Value) (pcs2 prs2 : List Value) (pa2 : Value), e = .returned (.tuple #[]) ∧ HS ⟨S, keysR [.blk b0_ ([pa1] ++ ([pv1])) 123, .osl (pv1) (x0).length 1 pcs1 prs1 5], w⟩ S2 w' [.blk b0_ ([pa2] ++ ([pv2])) 123, .osl (pv2) (r).length 1 pcs2 prs2 5] ∧ RL S2 pcs2 r ∧ BA b0_ pa2 := by
  obtain rfl := Option.some.inj hF
  obtain ⟨j, hj, hjs⟩ := Option.map_eq_some_iff.1 bi1
  have hblk : w.heap[b0_]? = some (.cells ([pa1] ++ ([pv1])).toArray 123 (0, 0)) := H.own 0 _ rfl
  have hsh : w.shape? (⟨b0_, 0, none⟩ : Addr).block = some (123, 2) := by simp [World.shape?, hblk]
  refine enter (n := 20) Tryz.func117 rfl rfl rfl ?_
  rcases pg2 with rfl | rfl
  · refine wp_seq_k ?_; intro K1 hK1
    refine wp_region_lit ?_
    refine p_val (r_move (v := .pointer (some ⟨b0_, 0, none⟩)) rfl) ?_
    refine p_val (r_nilck rfl) ?_
    refine p_val (r_field bf0 rfl) ?_
    refine p_val (h_load1 (v := .pointer none) bto H rfl (k := 0) rfl rfl) ?_
    refine p_val (r_eqPN bu1 rfl rfl) ?_
    refine wpList_nil ?_
    refine x_norm ?_; refine hK1 _ _ ?_
    refine c_true rfl rfl ?_
    refine wp_region_lit ?_
    refine p_val (r_move (v := .pointer (some ⟨b0_, 0, none⟩)) rfl) ?_
    refine p_val (r_move (v := .pointer (some ⟨b0_, 0, none⟩)) rfl) ?_
    refine p_val (c := .pointer (some ⟨b0_, 0, none⟩)) (by
      have h := Lib.run_to_unsafe (P := Tryz.prog) w ⟨b0_, 0, none⟩ bu1 bu2 hj (by rw [hjs]; decide) hsh (Nat.zero_lt_succ 1)
      simp only [execOp]
      exact (by rw [Sem.run_bind]; erw [h]; rfl)) ?_
    refine p_callv (l := [.pointer (some ⟨b0_, 0, none⟩)]) rfl (bnoEsc _ _) ?_
    refine p_val (c := .pointer (some ⟨b0_, 0, none⟩)) (by
      have h := Lib.run_from_unsafe (P := Tryz.prog) w ⟨b0_, 0, none⟩ bu2 bu1 hj hsh bl1
      simp only [execOp]
      exact (by rw [Sem.run_bind]; erw [h]; rfl)) ?_
    refine p_val (r_nilck rfl) ?_
    refine p_val (r_field bf0 rfl) ?_
    refine p_ofs (a_store (k := 0) (v := .pointer (some ⟨b0_, 0, none⟩)) (l := [.pointer (some ⟨b0_, 0, none⟩)]) btz H rfl rfl rfl (cells_one rfl) rfl (fun u hu => List.all_eq_true.1 (rfl : ([Value.pointer (some ⟨b0_, 0, none⟩)]).all (·.oneCell') = true) u hu) rfl) ?_; clear H; intro w2 H
    refine wpList_nil ?_
    refine e_00 rfl ?_
    exact ⟨S, pv1, pcs1, prs1, .pointer (some ⟨b0_, 0, none⟩), rfl, H, pg1, .inr rfl⟩
  · refine wp_seq_k ?_; intro K1 hK1
    refine wp_region_lit ?_
    refine p_val (r_move (v := .pointer (some ⟨b0_, 0, none⟩)) rfl) ?_
    refine p_val (r_nilck rfl) ?_
    refine p_val (r_field bf0 rfl) ?_
    refine p_val (h_load1 (v := .pointer (some ⟨b0_, 0, none⟩)) bto H rfl (k := 0) rfl rfl) ?_
    refine p_val (r_eqPS bu1 rfl rfl) ?_
    refine wpList_nil ?_
    refine x_norm ?_; refine hK1 _ _ ?_
    refine c_false rfl rfl ?_
    refine wp_seq_k ?_; intro K2 hK2
    refine wp_region_lit ?_
    refine p_val (r_move (v := .pointer (some ⟨b0_, 0, none⟩)) rfl) ?_
    refine p_val (r_nilck rfl) ?_
    refine p_val (r_field bf0 rfl) ?_
    refine p_val (h_load1 (v := .pointer (some ⟨b0_, 0, none⟩)) bto H rfl (k := 0) rfl rfl) ?_
    refine p_val (r_move (v := .pointer (some ⟨b0_, 0, none⟩)) rfl) ?_
    refine p_val (r_nePP bu1 hj rfl rfl) ?_
    refine wpList_nil ?_
    refine x_norm ?_; refine hK2 _ _ ?_
    refine c_false rfl rfl ?_
    refine wp_skip ?_
    refine e_00 rfl ?_
    exact ⟨S, pv1, pcs1, prs1, .pointer (some ⟨b0_, 0, none⟩), rfl, H, pg1, .inr rfl⟩
theorem bus : Tryz.prog.underlying 100 = some (.slice 5) := by kernel_rfl
theorem bup : Tryz.prog.underlying 151 = some (.pointer 5) := by kernel_rfl
theorem buc : Tryz.prog.cellsOf 5 = 1 := by kernel_rfl
section
variable {P : Program} {w : World} {e : Operand → Value} {dst : Option Tmp} {g : Option (Nat × Bool)} {ty : TypeId} {pos : String} {aft : Array Edge} {x y : Operand} {T T1 : TypeId}
theorem r_usd {r : Value} {v : Value} {w' : World} (hx : e x = v) (h : (Builtin.unsafeSliceData_ #[T] ty #[v]).run P w = .ok r w') : (execOp e ⟨dst, .call ⟨.builtin .unsafeSliceData, #[x], #[T]⟩, ty, pos, aft, g⟩).run P w = .ok (.value r) w' := by
  simp [execOp, resolve, invoke, builtin, hx, h]
theorem r_ust {r : Value} {v u : Value} {w' : World} (hx : e x = v) (hy : e y = u) (h : (Builtin.unsafeString_ #[T, T1] ty #[v, u]).run P w = .ok r w') : (execOp e ⟨dst, .call ⟨.builtin .unsafeString, #[x, y], #[T, T1]⟩, ty, pos, aft, g⟩).run P w = .ok (.value r) w' := by
  simp [execOp, resolve, invoke, builtin, hx, hy, h]
theorem stR_rm : ∀ {L : List Res} {k : Nat} {x : Res}, rmR (stR L k x) k = rmR L k
  | [], _, _ => rfl
  | _ :: _, 0, _ => rfl
  | y :: l, k + 1, x => by simp only [stR, rmR, stR_rm (L := l) (k := k)]
end
theorem Builder_String_c {B : Bas} {S : Mem} {w : World} {L : List Res} {k1 k2 b : Nat} {a v : Value} {cs rs : List Value} {xs : List UInt8} (H : HS B S w L) (h1 : lkR L k1 = some (.blk b ([a] ++ ([v])) 123)) (h2 : lkR L k2 = some (.osl v xs.length 1 cs rs 5)) (h0 : RL S cs xs) (hl : xs.length ≤ 9223372036854775807) :
    Calls Tryz.prog 90 #[.pointer (some ⟨b, 0, none⟩)] w fun e w' => e = .returned (str xs) ∧ HS B S w' (rmR L k2) := by
  have hown := H.own k2 _ h2
  refine enter (n := 14) Tryz.func90 rfl rfl rfl ?_
  rcases hown with ⟨rfl, hn, hcs, hrs⟩ | ⟨gb, c, fz, rfl, hnc, hlen, hcap, hblk, hfz⟩
  · obtain rfl : xs = [] := List.eq_nil_of_length_eq_zero hn
    refine wp_seq_k ?_; intro K1 hK1
    refine wp_region_lit ?_
    refine p_val (r_assign (v := str ([] : List UInt8)) rfl) ?_
    refine wpList_nil ?_
    refine x_norm ?_; refine hK1 _ _ ?_
    refine wp_seq_k ?_; intro K2 hK2
    apply wp_region_ext 10 (kinds []) rfl rfl (by kernel_rfl); intro vs
    simp only [List.take_succ_cons, List.take_zero, List.drop_succ_cons, List.drop_zero]
    replace H := H.drew
    refine t_val (fun w hx => r_move (v := .pointer (some ⟨b, 0, none⟩)) rfl) rfl rfl ?_
    refine t_val (fun w hx => r_nilck rfl) rfl rfl ?_
    refine t_val (fun w hx => r_field bf1 rfl) rfl rfl ?_
    refine t_val (fun w hx => h_load1 (v := .slice none 0 0) bto2 (H.ext hx) rfl h1 rfl) rfl rfl ?_
    refine t_val (fun w hx => r_usd (r := .pointer none) rfl (Lib.run_unsafeSliceData_nil _ _ _ _ _)) rfl rfl ?_
    refine t_val (fun w hx => r_move (v := .pointer (some ⟨b, 0, none⟩)) rfl) rfl rfl ?_
    refine t_val (fun w hx => r_nilck rfl) rfl rfl ?_
    refine t_val (fun w hx => r_field bf1 rfl) rfl rfl ?_
    refine t_val (fun w hx => h_load1 (v := .slice none 0 0) bto2 (H.ext hx) rfl h1 rfl) rfl rfl ?_
    refine t_val (fun w hx => r_lenO bus rfl (H.ext hx) h2 rfl) rfl rfl ?_
    refine t_nil (fun w2 hx hF hA => ?_)
    replace H := H.ext hx; clear hx hF hA
    refine p_val (c := str ([] : List UInt8)) (r_ust rfl rfl (Lib.run_unsafeString_none _ _ _ _ _)) ?_
    replace H := H.rm k2
    refine p_val (r_assign (v := str ([] : List UInt8)) rfl) ?_
    refine wpList_nil ?_; refine on_norm ?_
    refine x_norm ?_; refine hK2 _ _ ?_
    refine wp_ret ?_
    refine e_1 rfl (q_tmp (v := str ([] : List UInt8)) rfl) ?_
    exact ⟨rfl, H⟩
  · by_cases hc : c = 0
    · subst hc
      obtain rfl : xs = [] := List.eq_nil_of_length_eq_zero (by omega)
      refine wp_seq_k ?_; intro K1 hK1
      refine wp_region_lit ?_
      refine p_val (r_assign (v := str ([] : List UInt8)) rfl) ?_
      refine wpList_nil ?_
      refine x_norm ?_; refine hK1 _ _ ?_
      refine wp_seq_k ?_; intro K2 hK2
      apply wp_region_ext 10 (kinds [(4, .inr (fun v _ => ∃ a, v = .pointer (some a)))]) rfl rfl (by kernel_rfl); intro vs
      simp only [List.take_succ_cons, List.take_zero, List.drop_succ_cons, List.drop_zero]
      replace H := H.drew
      refine t_val (fun w hx => r_move (v := .pointer (some ⟨b, 0, none⟩)) rfl) rfl rfl ?_
      refine t_val (fun w hx => r_nilck rfl) rfl rfl ?_
      refine t_val (fun w hx => r_field bf1 rfl) rfl rfl ?_
      refine t_val (fun w hx => h_load1 (v := sl gb 0 0 0) bto2 (H.ext hx) rfl h1 rfl) rfl rfl ?_
      refine wpT_low (φ := fun v _ => ∃ a, v = .pointer (some a)) rfl rfl (fun _ _ _ h _ => h) rfl (fun h => by cases h) (fun w hx hF R hR => by
        have hsh : w.shape? (⟨gb, 0, none⟩ : Addr).block = some (5, (cs ++ rs).toArray.size) := by
          have hb2 : w.heap[gb]? = some (.cells (cs ++ rs).toArray 5 fz) := by rw [hx.block gb (lt_of_heap hblk)]; exact hblk
          simp [World.shape?, hb2]
        have hrun := Lib.run_unsafeSliceData_zero (P := Tryz.prog) w #[100] 151 5 bup ⟨gb, 0, none⟩ 0 _ hsh
        rw [eval_fr, r_usd rfl hrun, outcome_value]
        exact hR (.pointer (some ⟨w.heap.size, 0, none⟩)) (w.alloc (.view ⟨gb, 0, none⟩ 5)) (Ext.alloc w _) ⟨_, rfl⟩ (fun h => by cases h)) ?_
      rw [put_fr]
      refine t_val (fun w hx => r_move (v := .pointer (some ⟨b, 0, none⟩)) rfl) rfl rfl ?_
      refine t_val (fun w hx => r_nilck rfl) rfl rfl ?_
      refine t_val (fun w hx => r_field bf1 rfl) rfl rfl ?_
      refine t_val (fun w hx => h_load1 (v := sl gb 0 0 0) bto2 (H.ext hx) rfl h1 rfl) rfl rfl ?_
      refine t_val (fun w hx => r_lenO bus rfl (H.ext hx) h2 rfl) rfl rfl ?_
      refine t_nil (fun w2 hx hF hA => ?_)
      obtain ⟨ad, had⟩ := fact_rel hF 4 rfl rfl
      replace H := H.ext hx; clear hx hF hA
      refine p_val (c := str ([] : List UInt8)) (r_ust (by exact had) rfl (Lib.run_unsafeString_none _ _ _ _ _)) ?_
      replace H := H.rm k2
      refine p_val (r_assign (v := str ([] : List UInt8)) rfl) ?_
      refine wpList_nil ?_; refine on_norm ?_
      refine x_norm ?_; refine hK2 _ _ ?_
      refine wp_ret ?_
      refine e_1 rfl (q_tmp (v := str ([] : List UInt8)) rfl) ?_
      exact ⟨rfl, H⟩
    · skip
      refine wp_seq_k ?_; intro K1 hK1
      refine wp_region_lit ?_
      refine p_val (r_assign (v := str ([] : List UInt8)) rfl) ?_
      refine wpList_nil ?_
      refine x_norm ?_; refine hK1 _ _ ?_
      refine wp_seq_k ?_; intro K2 hK2
      apply wp_region_ext 10 (kinds []) rfl rfl (by kernel_rfl); intro vs
      simp only [List.take_succ_cons, List.take_zero, List.drop_succ_cons, List.drop_zero]
      replace H := H.drew
      refine t_val (fun w hx => r_move (v := .pointer (some ⟨b, 0, none⟩)) rfl) rfl rfl ?_
      refine t_val (fun w hx => r_nilck rfl) rfl rfl ?_
      refine t_val (fun w hx => r_field bf1 rfl) rfl rfl ?_
      refine t_val (fun w hx => h_load1 (v := sl gb 0 xs.length c) bto2 (H.ext hx) rfl h1 rfl) rfl rfl ?_
      refine t_val (fun w hx => r_usd (r := .pointer (some ⟨gb, 0, none⟩)) rfl (Lib.run_unsafeSliceData_row _ _ _ _ _ _ hc)) rfl rfl ?_
      refine t_val (fun w hx => r_move (v := .pointer (some ⟨b, 0, none⟩)) rfl) rfl rfl ?_
      refine t_val (fun w hx => r_nilck rfl) rfl rfl ?_
      refine t_val (fun w hx => r_field bf1 rfl) rfl rfl ?_
      refine t_val (fun w hx => h_load1 (v := sl gb 0 xs.length c) bto2 (H.ext hx) rfl h1 rfl) rfl rfl ?_
      refine t_val (fun w hx => r_lenO bus rfl (H.ext hx) h2 rfl) rfl rfl ?_
      refine t_nil (fun w2 hx hF hA => ?_)
      have hb2 : w2.heap[gb]? = some (.cells (cs ++ rs).toArray 5 fz) := by rw [hx.block gb (lt_of_heap hblk)]; exact hblk
      replace H := H.ext hx; clear hx hF hA
      refine p_ofc (c := str xs) (φ := fun w' => HS B S w' (rmR L k2)) ?_ ?_
      · by_cases hx0 : xs = []
        · subst hx0
          exact ⟨w2, r_ust rfl rfl (Lib.run_unsafeString_none _ _ _ _ _), H.rm k2⟩
        · have hsh : w2.shape? gb = some (5, (cs ++ rs).toArray.size) := by simp [World.shape?, hb2]
          have hcs := RL.is_u8s h0
          have hxl : xs.length ≤ (cs ++ rs).length := by rw [List.length_append, hlen]; omega
          have hrun := Lib.run_unsafeString_row (P := Tryz.prog) w2 151 3 9 5 bup buc gb _ hsh xs hx0 (by simpa using hxl) hl (fun j x hj => by
            rw [add_addr, cell_of_F hb2, Nat.zero_add, List.getElem?_append_left (by have := (List.getElem?_eq_some_iff.1 hj).1; omega), hcs]
            exact u8s_get hj)
          refine ⟨_, r_ust rfl rfl hrun, ?_⟩
          have H2 := H.upd (w' := w2.freeze ⟨gb, 0, none⟩ xs.length) (r' := .osl (.slice none 0 0) 0 1 [] [] 5) h2 (by unfold World.freeze; split <;> simp) (by unfold World.freeze; split <;> rfl) (by unfold World.freeze; split <;> rfl) (by unfold World.freeze; split <;> rfl) (fun i hi hne => by
            have hig : gb ≠ i := fun e => hne (by rw [e]; rfl)
            unfold World.freeze; split
            · rfl
            · simp [Array.getElem?_modify, hig]) (.inl ⟨rfl, rfl, rfl, rfl⟩) (fun b hb => by cases hb)
          have H3 := H2.rm k2
          rw [stR_rm] at H3
          exact H3
      clear H; intro w3 H
      refine p_val (r_assign (v := str xs) rfl) ?_
      refine wpList_nil ?_; refine on_norm ?_
      refine x_norm ?_; refine hK2 _ _ ?_
      refine wp_ret ?_
      refine e_1 rfl (q_tmp (v := str xs) rfl) ?_
      exact ⟨rfl, H⟩
end Go.Proofs.YtmkomlbiaebddaaGreatDoor
