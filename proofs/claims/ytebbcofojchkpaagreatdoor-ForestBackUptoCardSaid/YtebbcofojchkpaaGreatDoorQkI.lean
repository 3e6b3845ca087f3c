/- strings.Builder: what its methods do to a builder of the call's own. What some functions compute, and that they do. A machine over plain values: contracts of some functions of Go's library. A machine over plain values: contract of people.Form. strings.Repeat: what it computes, and that it does. What is left open: operations that laws speak of. Conditions: none; definitions, and that they are there. A machine over plain values: library functions told by hand. A machine over plain values: slices.Sorted of maps.Keys, the keys numbers. DERIVED: THE SHELF's CONTRACTS AT THIS DUMP, IN PLAIN WORDS (tools/lay-plain.mjs out of 'TryzSrtlI.lean', which tools/lay-shelf.mjs wrote): THE SAME DECLARATIONS UNDER THE SAME NAMES: 'import', 'namespace', 'open', 'def', 'theorem' AND NOTHING ELSE: no command of the shelf's: FOR A HAND-IN. Each laying: the table of numbers ('.._ren') and one theorem, a field a fact of the dump's own or the kernel's comparison; each contract: ONE APPLICATION. slices.Sorted of maps.Keys at this program: the kit's contracts laid. A machine over plain values: slices.Grow of nil. DERIVED: THE SHELF's CONTRACTS AT THIS DUMP, IN PLAIN WORDS (tools/lay-plain.mjs out of 'TryzGrwl.lean', which tools/lay-shelf.mjs wrote): THE SAME DECLARATIONS UNDER THE SAME NAMES: 'import', 'namespace', 'open', 'def', 'theorem' AND NOTHING ELSE: no command of the shelf's: FOR A HAND-IN. Each laying: the table of numbers ('.._ren') and one theorem, a field a fact of the dump's own or the kernel's comparison; each contract: ONE APPLICATION. slices.Grow of nil at this program: the kit's contract laid. Conditions: as each theorem says. -/
import Derived.Test.YtebbcofojchkpaaGreatDoorRows
import Derived.Lib.Builder
import Derived.Lib.UnsafeStr
import Derived.LaidEql
import Derived.Laws.Externs
import Derived.Lib.SlKeysI
import Derived.Sort.Walk0
import Derived.Shelf.SlIterI.Nil
import Derived.Shelf.SortM.Plain
import Derived.Shelf.SortM.SortNone
import Derived.Ground.GgzProg
import Derived.Ground.SlgmProg
import Derived.Test.YtebbcofojchkpaaGreatDoorProg
import Derived.Shelf.Spec.SlicesGrow
import Derived.Ground.Names8Prog
import Derived.Test.YtebbcofojchkpaaGreatDoorQkH
namespace Go.Proofs.YtebbcofojchkpaaGreatDoor
open Go Go.RowKit
section
attribute [local irreducible] wpList wpT Code.wp Calls Code.rounds
variable {S : Mem} {w : World}
theorem bu1 : Tryz.prog.underlying 131 = some (.pointer 134) := by kernel_rfl
theorem bu2 : Tryz.prog.underlying 195 = some .unsafePointer := by kernel_rfl
theorem bi1 : (Tryz.prog.info? 134).map (·.size) = some 2 := by kernel_rfl
theorem bl1 : liesAt Tryz.prog Tryz.prog.depth 134 (2 / Tryz.prog.cellsOf 134) 0 134 1 = true := by kernel_rfl
theorem bf0 : yqM Tryz.prog 134 0 0 := fun _ _ _ => by kernel_rfl
theorem bf1 : yqM Tryz.prog 134 1 1 := fun _ _ _ => by kernel_rfl
theorem bto : TOne Tryz.prog 131 := ⟨fun _ => by kernel_rfl, fun _ => by kernel_rfl⟩
theorem bto2 : TOne Tryz.prog 132 := ⟨fun _ => by kernel_rfl, fun _ => by kernel_rfl⟩
theorem btz : TSz Tryz.prog 131 1 := fun _ => by kernel_rfl
theorem bnoEsc (x : Value) (w : World) : (callFunc 180 [x].toArray).run Tryz.prog w = .ok (.value x) w := by
 have h := run_callFunc_extern (P := Tryz.prog) (w := w) (args := #[x]) Tryz.func180 (by kernel_rfl) (by kernel_rfl) (by kernel_rfl) (e := Extern.AbiNoEscape.same) (by kernel_rfl)
 show (callFunc 180 #[x]).run Tryz.prog w = _
 rw [h, Lib.run_noEscape]; rfl
def zlT (x0 : Bs) : Option Bs := some x0
section
variable {P : Program} {w : World} {B : Bas} {S : Mem} {L : List Res} {e : Operand → Value} {dst : Option Tmp} {g : Option (Nat × Bool)} {ty : TypeId} {pos : String} {aft : Array Edge} {x y : Operand} {T T1 T2 T' : TypeId} {a : Addr}
theorem xeR (hu : P.underlying T = some (.pointer T1)) (hx : e x = .pointer none) (hy : e y = .pointer none) : (execOp e ⟨dst, .binOp .eql T x y T', ty, pos, aft, g⟩).run P w = .ok (.value (.bool true)) w := by
 have h : (Op.equal T (.pointer none) (.pointer none)).run P w = .ok true w := by
  have h : ∀ d, (Op.equalIn (d + 1) T (.pointer none) (.pointer none)).run P w = .ok true w := fun d => by simp [Op.equalIn, Go.underlying, hu]
  exact h 9999
 simp [execOp, eqGuard, binOp, hx, hy, h]
theorem r_eqPS (hu : P.underlying T = some (.pointer T1)) (hx : e x = .pointer (some a)) (hy : e y = .pointer none) : (execOp e ⟨dst, .binOp .eql T x y T', ty, pos, aft, g⟩).run P w = .ok (.value (.bool false)) w := by
 have h : (Op.equal T (.pointer (some a)) (.pointer none)).run P w = .ok false w := by
  have h : ∀ d, (Op.equalIn (d + 1) T (.pointer (some a)) (.pointer none)).run P w = .ok false w := fun d => by simp [Op.equalIn, Go.underlying, hu]
  exact h 9999
 simp [execOp, eqGuard, binOp, hx, hy, h]
theorem xfG {j : TypeInfo} (hu : P.underlying T = some (.pointer T1)) (hj : P.info? T1 = some j) (hx : e x = .pointer (some a)) (hy : e y = .pointer (some a)) : (execOp e ⟨dst, .binOp .neq T x y T', ty, pos, aft, g⟩).run P w = .ok (.value (.bool false)) w := by
 have h := Lib.run_neq_ptr_same (P := P) w a hu hj
 simp [execOp, eqGuard, hx, hy, h]
end
theorem zwV {b0_ : Nat} {x0 : Bs} {pv1 : Value} {pcs1 prs1 : LV} {pa1 : Value} (H : HS ⟨S, zcX [.blk b0_ ([pa1] ++ ([pv1])) 134, .osl (pv1) (x0).length 1 pcs1 prs1 5], w⟩ S w [.blk b0_ ([pa1] ++ ([pv1])) 134, .osl (pv1) (x0).length 1 pcs1 prs1 5])
  (pg1 : RL S pcs1 x0) (pg2 : BA b0_ pa1) {r : Bs} (hF : zlT x0 = some r) :
  Calls Tryz.prog 146 #[.pointer (some ⟨b0_, 0, none⟩)] w fun e w' => ∃ (S2 : Mem) (pv2 : Value) (pcs2 prs2 : LV) (pa2 : Value), e = .returned (.tuple #[]) ∧ HS ⟨S, zcX [.blk b0_ ([pa1] ++ ([pv1])) 134, .osl (pv1) (x0).length 1 pcs1 prs1 5], w⟩ S2 w' [.blk b0_ ([pa2] ++ ([pv2])) 134, .osl (pv2) (r).length 1 pcs2 prs2 5] ∧ RL S2 pcs2 r ∧ BA b0_ pa2 := by
 obtain rfl := osi hF
 obtain ⟨j, hj, hjs⟩ := Option.map_eq_some_iff.1 bi1
 have hblk : w.heap[b0_]? = some (.cells ([pa1] ++ ([pv1])).toArray 134 (0, 0)) := H.own 0 _ rfl
 have hsh : w.shape? (⟨b0_, 0, none⟩ : Addr).block = some (134, 2) := by simp [World.shape?, hblk]
 refine enter (n := 20) Tryz.func146 rfl rfl rfl ?_
 rcases pg2 with rfl | rfl
 ·refine wp_seq_k ?_; intro K1 hK1
  refine wp_region_lit ?_
  refine zfS (zrN (v := .pointer (some ⟨b0_, 0, none⟩)) rfl) ?_
  refine zfS (zoR rfl) ?_
  refine zfS (zqD bf0 rfl) ?_
  refine zfS (zsG (v := .pointer none) bto H rfl (k := 0) rfl rfl) ?_
  refine zfS (xeR bu1 rfl rfl) ?_
  refine wpList_nil ?_
  refine zsR ?_; refine hK1 _ _ ?_
  refine xfP rfl rfl ?_
  refine wp_region_lit ?_
  refine zfS (zrN (v := .pointer (some ⟨b0_, 0, none⟩)) rfl) ?_
  refine zfS (zrN (v := .pointer (some ⟨b0_, 0, none⟩)) rfl) ?_
  refine zfS (c := .pointer (some ⟨b0_, 0, none⟩)) (by
   have h := Lib.run_to_unsafe (P := Tryz.prog) w ⟨b0_, 0, none⟩ bu1 bu2 hj (by rw [hjs]; decide) hsh (Nat.zero_lt_succ 1)
   simp only [execOp]
   exact (by rw [Sem.run_bind]; erw [h]; rfl)) ?_
  refine xbA (l := [.pointer (some ⟨b0_, 0, none⟩)]) rfl (bnoEsc _ _) ?_
  refine zfS (c := .pointer (some ⟨b0_, 0, none⟩)) (by
   have h := Lib.run_from_unsafe (P := Tryz.prog) w ⟨b0_, 0, none⟩ bu2 bu1 hj hsh bl1
   simp only [execOp]
   exact (by rw [Sem.run_bind]; erw [h]; rfl)) ?_
  refine zfS (zoR rfl) ?_
  refine zfS (zqD bf0 rfl) ?_
  refine xdO (yeG (k := 0) (v := .pointer (some ⟨b0_, 0, none⟩)) (l := [.pointer (some ⟨b0_, 0, none⟩)]) btz H rfl rfl rfl (cells_one rfl) rfl (fun u hu => List.all_eq_true.1 (rfl : ([Value.pointer (some ⟨b0_, 0, none⟩)]).all (·.oneCell') = true) u hu) rfl) ?_; clear H; intro w2 H
  refine wpList_nil ?_
  refine e_00 rfl ?_
  exact ⟨S, pv1, pcs1, prs1, .pointer (some ⟨b0_, 0, none⟩), rfl, H, pg1, .inr rfl⟩
 ·refine wp_seq_k ?_; intro K1 hK1
  refine wp_region_lit ?_
  refine zfS (zrN (v := .pointer (some ⟨b0_, 0, none⟩)) rfl) ?_
  refine zfS (zoR rfl) ?_
  refine zfS (zqD bf0 rfl) ?_
  refine zfS (zsG (v := .pointer (some ⟨b0_, 0, none⟩)) bto H rfl (k := 0) rfl rfl) ?_
  refine zfS (r_eqPS bu1 rfl rfl) ?_
  refine wpList_nil ?_
  refine zsR ?_; refine hK1 _ _ ?_
  refine yoQ rfl rfl ?_
  refine wp_seq_k ?_; intro K2 hK2
  refine wp_region_lit ?_
  refine zfS (zrN (v := .pointer (some ⟨b0_, 0, none⟩)) rfl) ?_
  refine zfS (zoR rfl) ?_
  refine zfS (zqD bf0 rfl) ?_
  refine zfS (zsG (v := .pointer (some ⟨b0_, 0, none⟩)) bto H rfl (k := 0) rfl rfl) ?_
  refine zfS (zrN (v := .pointer (some ⟨b0_, 0, none⟩)) rfl) ?_
  refine zfS (xfG bu1 hj rfl rfl) ?_
  refine wpList_nil ?_
  refine zsR ?_; refine hK2 _ _ ?_
  refine yoQ rfl rfl ?_
  refine wp_skip ?_
  refine e_00 rfl ?_
  exact ⟨S, pv1, pcs1, prs1, .pointer (some ⟨b0_, 0, none⟩), rfl, H, pg1, .inr rfl⟩
theorem bus : Tryz.prog.underlying 132 = some (.slice 5) := by kernel_rfl
theorem bup : Tryz.prog.underlying 162 = some (.pointer 5) := by kernel_rfl
theorem buc : Tryz.prog.cellsOf 5 = 1 := by kernel_rfl
section
variable {P : Program} {w : World} {e : Operand → Value} {dst : Option Tmp} {g : Option (Nat × Bool)} {ty : TypeId} {pos : String} {aft : Array Edge} {x y : Operand} {T T1 : TypeId}
theorem xbX {r : Value} {v : Value} {w' : World} (hx : e x = v) (h : (Builtin.unsafeSliceData_ #[T] ty #[v]).run P w = .ok r w') : (execOp e ⟨dst, .call ⟨.builtin .unsafeSliceData, #[x], #[T]⟩, ty, pos, aft, g⟩).run P w = .ok (.value r) w' := by
 simp [execOp, resolve, invoke, builtin, hx, h]
theorem ywO {r : Value} {v u : Value} {w' : World} (hx : e x = v) (hy : e y = u) (h : (Builtin.unsafeString_ #[T, T1] ty #[v, u]).run P w = .ok r w') : (execOp e ⟨dst, .call ⟨.builtin .unsafeString, #[x, y], #[T, T1]⟩, ty, pos, aft, g⟩).run P w = .ok (.value r) w' := by
 simp [execOp, resolve, invoke, builtin, hx, hy, h]
theorem yxT : ∀ {L : List Res} {k : Nat} {x : Res}, rmR (stR L k x) k = rmR L k
 | [], _, _ => rfl
 | _ :: _, 0, _ => rfl
 | y :: l, k + 1, x => by simp only [stR, rmR, yxT (L := l) (k := k)]
end
theorem zzG {B : Bas} {S : Mem} {w : World} {L : List Res} {k1 k2 b : Nat} {a v : Value} {cs rs : LV} {xs : Bs} (H : HS B S w L) (h1 : lkR L k1 = some (.blk b ([a] ++ ([v])) 134)) (h2 : lkR L k2 = some (.osl v xs.length 1 cs rs 5)) (h0 : RL S cs xs) (hl : xs.length ≤ 9223372036854775807) :
  Calls Tryz.prog 100 #[.pointer (some ⟨b, 0, none⟩)] w fun e w' => e = .returned (str xs) ∧ HS B S w' (rmR L k2) := by
 have hown := H.own k2 _ h2
 refine enter (n := 14) Tryz.func100 rfl rfl rfl ?_
 rcases hown with ⟨rfl, hn, hcs, hrs⟩ | ⟨gb, c, fz, rfl, hnc, hlen, hcap, hblk, hfz⟩
 ·obtain rfl : xs = [] := List.eq_nil_of_length_eq_zero hn
  refine wp_seq_k ?_; intro K1 hK1
  refine wp_region_lit ?_
  refine zfS (zqV (v := str ([] : Bs)) rfl) ?_
  refine wpList_nil ?_
  refine zsR ?_; refine hK1 _ _ ?_
  refine wp_seq_k ?_; intro K2 hK2
  apply ztA 10 (kinds []) rfl rfl (by kernel_rfl); intro vs
  simp only [tkS, tkZ, drS, drZ]
  replace H := H.drew
  refine zmM (fun w hx => zrN (v := .pointer (some ⟨b, 0, none⟩)) rfl) rfl rfl ?_
  refine zmM (fun w hx => zoR rfl) rfl rfl ?_
  refine zmM (fun w hx => zqD bf1 rfl) rfl rfl ?_
  refine zmM (fun w hx => zsG (v := .slice none 0 0) bto2 (H.ext hx) rfl h1 rfl) rfl rfl ?_
  refine zmM (fun w hx => xbX (r := .pointer none) rfl (Lib.run_unsafeSliceData_nil _ _ _ _ _)) rfl rfl ?_
  refine zmM (fun w hx => zrN (v := .pointer (some ⟨b, 0, none⟩)) rfl) rfl rfl ?_
  refine zmM (fun w hx => zoR rfl) rfl rfl ?_
  refine zmM (fun w hx => zqD bf1 rfl) rfl rfl ?_
  refine zmM (fun w hx => zsG (v := .slice none 0 0) bto2 (H.ext hx) rfl h1 rfl) rfl rfl ?_
  refine zmM (fun w hx => ysR bus rfl (H.ext hx) h2 rfl) rfl rfl ?_
  refine yzW (fun w2 hx hF hA => ?_)
  replace H := H.ext hx; clear hx hF hA
  refine zfS (c := str ([] : Bs)) (ywO rfl rfl (Lib.run_unsafeString_none _ _ _ _ _)) ?_
  replace H := H.rm k2
  refine zfS (zqV (v := str ([] : Bs)) rfl) ?_
  refine wpList_nil ?_; refine yeX ?_
  refine zsR ?_; refine hK2 _ _ ?_
  refine wp_ret ?_
  refine e_1 rfl (yjC (v := str ([] : Bs)) rfl) ?_
  exact ⟨rfl, H⟩
 ·by_cases hc : c = 0
  ·subst hc
   obtain rfl : xs = [] := List.eq_nil_of_length_eq_zero (by omega)
   refine wp_seq_k ?_; intro K1 hK1
   refine wp_region_lit ?_
   refine zfS (zqV (v := str ([] : Bs)) rfl) ?_
   refine wpList_nil ?_
   refine zsR ?_; refine hK1 _ _ ?_
   refine wp_seq_k ?_; intro K2 hK2
   apply ztA 10 (kinds [(4, .inr (fun v _ => ∃ a, v = .pointer (some a)))]) rfl rfl (by kernel_rfl); intro vs
   simp only [tkS, tkZ, drS, drZ]
   replace H := H.drew
   refine zmM (fun w hx => zrN (v := .pointer (some ⟨b, 0, none⟩)) rfl) rfl rfl ?_
   refine zmM (fun w hx => zoR rfl) rfl rfl ?_
   refine zmM (fun w hx => zqD bf1 rfl) rfl rfl ?_
   refine zmM (fun w hx => zsG (v := sl gb 0 0 0) bto2 (H.ext hx) rfl h1 rfl) rfl rfl ?_
   refine yyO (φ := fun v _ => ∃ a, v = .pointer (some a)) rfl rfl (fun _ _ _ h _ => h) rfl (fun h => by cases h) (fun w hx hF R hR => by
    have hsh : w.shape? (⟨gb, 0, none⟩ : Addr).block = some (5, (cs ++ rs).toArray.size) := by
     have hb2 : w.heap[gb]? = some (.cells (cs ++ rs).toArray 5 fz) := by rw [hx.block gb (lt_of_heap hblk)]; exact hblk
     simp [World.shape?, hb2]
    have hrun := Lib.run_unsafeSliceData_zero (P := Tryz.prog) w #[132] 162 5 bup ⟨gb, 0, none⟩ 0 _ hsh
    rw [zmZ, xbX rfl hrun, yeW]
    exact hR (.pointer (some ⟨w.heap.size, 0, none⟩)) (w.alloc (.view ⟨gb, 0, none⟩ 5)) (Ext.alloc w _) ⟨_, rfl⟩ (fun h => by cases h)) ?_
   rw [ybV]
   refine zmM (fun w hx => zrN (v := .pointer (some ⟨b, 0, none⟩)) rfl) rfl rfl ?_
   refine zmM (fun w hx => zoR rfl) rfl rfl ?_
   refine zmM (fun w hx => zqD bf1 rfl) rfl rfl ?_
   refine zmM (fun w hx => zsG (v := sl gb 0 0 0) bto2 (H.ext hx) rfl h1 rfl) rfl rfl ?_
   refine zmM (fun w hx => ysR bus rfl (H.ext hx) h2 rfl) rfl rfl ?_
   refine yzW (fun w2 hx hF hA => ?_)
   obtain ⟨ad, had⟩ := ywE hF 4 rfl rfl
   replace H := H.ext hx; clear hx hF hA
   refine zfS (c := str ([] : Bs)) (ywO (by exact had) rfl (Lib.run_unsafeString_none _ _ _ _ _)) ?_
   replace H := H.rm k2
   refine zfS (zqV (v := str ([] : Bs)) rfl) ?_
   refine wpList_nil ?_; refine yeX ?_
   refine zsR ?_; refine hK2 _ _ ?_
   refine wp_ret ?_
   refine e_1 rfl (yjC (v := str ([] : Bs)) rfl) ?_
   exact ⟨rfl, H⟩
  ·skip
   refine wp_seq_k ?_; intro K1 hK1
   refine wp_region_lit ?_
   refine zfS (zqV (v := str ([] : Bs)) rfl) ?_
   refine wpList_nil ?_
   refine zsR ?_; refine hK1 _ _ ?_
   refine wp_seq_k ?_; intro K2 hK2
   apply ztA 10 (kinds []) rfl rfl (by kernel_rfl); intro vs
   simp only [tkS, tkZ, drS, drZ]
   replace H := H.drew
   refine zmM (fun w hx => zrN (v := .pointer (some ⟨b, 0, none⟩)) rfl) rfl rfl ?_
   refine zmM (fun w hx => zoR rfl) rfl rfl ?_
   refine zmM (fun w hx => zqD bf1 rfl) rfl rfl ?_
   refine zmM (fun w hx => zsG (v := sl gb 0 xs.length c) bto2 (H.ext hx) rfl h1 rfl) rfl rfl ?_
   refine zmM (fun w hx => xbX (r := .pointer (some ⟨gb, 0, none⟩)) rfl (Lib.run_unsafeSliceData_row _ _ _ _ _ _ hc)) rfl rfl ?_
   refine zmM (fun w hx => zrN (v := .pointer (some ⟨b, 0, none⟩)) rfl) rfl rfl ?_
   refine zmM (fun w hx => zoR rfl) rfl rfl ?_
   refine zmM (fun w hx => zqD bf1 rfl) rfl rfl ?_
   refine zmM (fun w hx => zsG (v := sl gb 0 xs.length c) bto2 (H.ext hx) rfl h1 rfl) rfl rfl ?_
   refine zmM (fun w hx => ysR bus rfl (H.ext hx) h2 rfl) rfl rfl ?_
   refine yzW (fun w2 hx hF hA => ?_)
   have hb2 : w2.heap[gb]? = some (.cells (cs ++ rs).toArray 5 fz) := by rw [hx.block gb (lt_of_heap hblk)]; exact hblk
   replace H := H.ext hx; clear hx hF hA
   refine p_ofc (c := str xs) (φ := fun w' => HS B S w' (rmR L k2)) ?_ ?_
   ·by_cases hx0 : xs = []
    ·subst hx0
     exact ⟨w2, ywO rfl rfl (Lib.run_unsafeString_none _ _ _ _ _), H.rm k2⟩
    ·have hsh : w2.shape? gb = some (5, (cs ++ rs).toArray.size) := by simp [World.shape?, hb2]
     have hcs := RL.is_u8s h0
     have hxl : xs.length ≤ (cs ++ rs).length := by rw [List.length_append, hlen]; omega
     have hrun := Lib.run_unsafeString_row (P := Tryz.prog) w2 162 3 9 5 bup buc gb _ hsh xs hx0 (by simpa using hxl) hl (fun j x hj => by
      rw [zeV, zhE hb2, Nat.zero_add, List.getElem?_append_left (by have := (List.getElem?_eq_some_iff.1 hj).1; omega), hcs]
      exact xbO hj)
     refine ⟨_, ywO rfl rfl hrun, ?_⟩
     have H2 := H.upd (w' := w2.freeze ⟨gb, 0, none⟩ xs.length) (r' := .osl (.slice none 0 0) 0 1 [] [] 5) h2 (by unfold World.freeze; split <;> simp) (by unfold World.freeze; split <;> rfl) (by unfold World.freeze; split <;> rfl) (by unfold World.freeze; split <;> rfl) (fun i hi hne => by
      have hig : gb ≠ i := fun e => hne (by rw [e]; rfl)
      unfold World.freeze; split
      ·rfl
      ·simp [Array.getElem?_modify, hig]) (.inl ⟨rfl, rfl, rfl, rfl⟩) (fun b hb => by cases hb)
     have H3 := H2.rm k2
     rw [yxT] at H3
     exact H3
   clear H; intro w3 H
   refine zfS (zqV (v := str xs) rfl) ?_
   refine wpList_nil ?_; refine yeX ?_
   refine zsR ?_; refine hK2 _ _ ?_
   refine wp_ret ?_
   refine e_1 rfl (yjC (v := str xs) rfl) ?_
   exact ⟨rfl, H⟩
theorem to9 : TOne Tryz.prog 9 := ⟨fun _ => by kernel_rfl, fun _ => by kernel_rfl⟩
theorem to132 : TOne Tryz.prog 132 := ⟨fun _ => by kernel_rfl, fun _ => by kernel_rfl⟩
theorem tz134 : yjP Tryz.prog 134 (.agg #[.pointer none, .slice none 0 0]) := fun _ => by kernel_rfl
theorem u9 : Tryz.prog.underlying 9 = some .string := by kernel_rfl
theorem u45 : Tryz.prog.underlying 45 = some (.slice 9) := by kernel_rfl
theorem is46 : IsFn Tryz.prog 46 := isFn Tryz.func46 (by kernel_rfl) (by kernel_rfl)
theorem is99 : IsFn Tryz.prog 99 := isFn Tryz.func99 (by kernel_rfl) (by kernel_rfl)
theorem is100 : IsFn Tryz.prog 100 := isFn Tryz.func100 (by kernel_rfl) (by kernel_rfl)
theorem is146 : IsFn Tryz.prog 146 := isFn Tryz.func146 (by kernel_rfl) (by kernel_rfl)
theorem yoJ : yqM Tryz.prog 134 1 1 := fun _ _ _ => by kernel_rfl
theorem tn132 : TSn Tryz.prog 132 5 (.int .u8 0) [.int .u8 0] 1 1 := TSn.mk' (by kernel_rfl) (by kernel_rfl) rfl rfl rfl rfl
theorem tsz9 : TSz Tryz.prog 9 1 := fun _ => by kernel_rfl
theorem xeS : TSz Tryz.prog 132 1 := fun _ => by kernel_rfl
def zgN (x0 : Bs) (x1 : Bs) : Option (Int × Bs) :=
 Option.bind (zlT x0) fun y1 => Option.bind (app y1 x1) fun y2 => some ((((x1).length : Int), y2))
theorem zvI {b0_ : Nat} {x0 : Bs} {pv1 : Value} {pcs1 prs1 : LV} {pa1 : Value} (H : HS ⟨S, zcX [.blk b0_ (([pa1] ++ ([pv1]))) 134, .osl (pv1) (x0).length 1 pcs1 prs1 5], w⟩ S w [.blk b0_ (([pa1] ++ ([pv1]))) 134, .osl (pv1) (x0).length 1 pcs1 prs1 5]) (pg1 : RL S pcs1 x0) (pg2 : BA b0_ pa1) {x1 : Bs} {r : Int × Bs} (hF : zgN x0 x1 = some r) :
  Calls Tryz.prog 99 #[.pointer (some ⟨b0_, 0, none⟩), str (x1)] w fun e w' => ∃ (S2 : Mem) (pv4 : Value) (pcs4 prs4 : LV) (pa4 : Value), e = .returned (.tuple #[.int .i64 (r.1), .nilIface]) ∧ HS ⟨S, zcX [.blk b0_ (([pa1] ++ ([pv1]))) 134, .osl (pv1) (x0).length 1 pcs1 prs1 5], w⟩ S2 w' [.blk b0_ (([pa4] ++ ([pv4]))) 134, .osl (pv4) (r.2).length 1 pcs4 prs4 5] ∧ RL S2 pcs4 r.2 ∧ BA b0_ pa4 := by
 refine enter (n := 19) Tryz.func99 rfl rfl rfl ?_
 unfold zgN at hF
 refine sr ?_; intro K1 hK1
 refine p_as (v := .int .i64 (0)) rfl ?_
 refine p_as (v := .nilIface) rfl ?_
 refine xk hK1 ?_; clear hK1
 refine sr ?_; intro K2 hK2
 refine p_mv (v := .pointer (some ⟨b0_, 0, none⟩)) rfl ?_
 obtain ⟨y1, e1, hF⟩ := bnd hF
 refine ylO (l := [.pointer (some ⟨b0_, 0, none⟩)]) is146 rfl ?_
 refine (zwV (H.hand [0, 1] rfl) pg1 pg2 e1).mono ?_; rintro _ w1 ⟨S1, pv2, pcs2, prs2, pa2, rfl, H2, pg3, pg4⟩
 obtain ⟨H1, hle1⟩ := H.frame [0, 1] [] rfl H2; clear H H2; have H := H1; clear H1
 replace H : HS ⟨S, zcX [.blk b0_ (([pa1] ++ ([pv1]))) 134, .osl (pv1) (x0).length 1 pcs1 prs1 5], w⟩ S1 w1 [.blk b0_ (([pa2] ++ ([pv2]))) 134, .osl (pv2) (y1).length 1 pcs2 prs2 5] := H
 refine xk hK2 ?_; clear hK2
 refine sr ?_; intro K3 hK3
 refine p_mv (v := .pointer (some ⟨b0_, 0, none⟩)) rfl ?_
 refine p_mv (v := .pointer (some ⟨b0_, 0, none⟩)) rfl ?_
 refine zfS (zoR rfl) ?_
 refine zfS (zqD yoJ rfl) ?_
 refine zfS (zsG (v := pv2) to132 H rfl (k := 0) rfl rfl) ?_
 refine p_mv (v := str (x1)) rfl ?_
 obtain ⟨y2, e2, hF⟩ := bnd hF
 refine p_of1 (ytE (k := 1) (l := x1) tn132 u9 H rfl rfl pg3 rfl e2) ?_; clear H; rintro w2 v1 ⟨cs1, rs1, H, g1⟩
 replace H : HS ⟨S, zcX [.blk b0_ (([pa1] ++ ([pv1]))) 134, .osl (pv1) (x0).length 1 pcs1 prs1 5], w⟩ S1 w2 [.blk b0_ (([pa2] ++ ([pv2]))) 134, .osl (v1) (y2).length 1 cs1 rs1 5] := H
 refine zfS (zoR rfl) ?_
 refine zfS (zqD yoJ rfl) ?_
 refine xdO (yeG (k := 0) (v := v1) (l := [v1]) xeS H rfl rfl rfl (cells_one (HS.ownOne H (k := 1) rfl)) rfl (fun u hu => by rw [List.mem_singleton] at hu; rw [hu]; exact HS.ownOne H (k := 1) rfl) rfl) ?_; clear H; intro w3 H
 replace H : HS ⟨S, zcX [.blk b0_ (([pa1] ++ ([pv1]))) 134, .osl (pv1) (x0).length 1 pcs1 prs1 5], w⟩ S1 w3 [.blk b0_ (([pa2] ++ ([v1]))) 134, .osl (v1) (y2).length 1 cs1 rs1 5] := H
 refine xk hK3 ?_; clear hK3
 refine sr ?_; intro K4 hK4
 refine p_mv (v := str (x1)) rfl ?_
 refine zfS (yrO (N := (x1).length) u9 rfl rfl) ?_
 refine p_as (v := .int .i64 (((x1).length : Int))) rfl ?_
 refine p_as (v := .nilIface) rfl ?_
 refine xk hK4 ?_; clear hK4
 refine wp_ret ?_
 obtain rfl := osi hF
 refine e_2 rfl (yjC (v := .int .i64 (((x1).length : Int))) rfl) (yjC (v := .nilIface) rfl) ?_
 replace H : HS ⟨S, zcX [.blk b0_ (([pa1] ++ ([pv1]))) 134, .osl (pv1) (x0).length 1 pcs1 prs1 5], w⟩ S1 w3 [.blk b0_ (([pa2] ++ ([v1]))) 134, .osl (v1) (y2).length 1 cs1 rs1 5] := H
 exact ⟨_, _, _, _, _, rfl, H, g1, pg4⟩
def zjD (x0 : List Bs) (s1 : Int × Bs) : Option ((Int × Bs) ⊕ (Bs)) :=
 bif decide (s1.1 < ((x0).length : Int)) then (Option.bind (idx x0 s1.1) fun y1 => Option.bind (yiJ ((y1).length : Int)) fun y2 => Option.bind (app y2 ([58] : Bs)) fun y3 => Option.bind (app y3 y1) fun y4 => Option.bind (zgN s1.2 y4) fun y5 => some (.inl (((w64 (s1.1 + 1)), y5.2)))) else (some (.inr (s1.2)))
def zkY (x0 : List Bs) : Option (Bs) :=
 Option.bind (Option.bind (iter (zjD x0) ((0, ([] : Bs)))) (fun e => some (e))) (fun t1 => Option.bind (chk (decide ((t1).length ≤ 68719476736))) fun y6 => some (t1))
theorem yeY (hS : Sub S w) (hG : GV S) {v0_ : Value} {x0 : List Bs} (h0_ : RdS S v0_ x0) {r : Bs} (hF : zkY x0 = some r) :
  Calls Tryz.prog 45 #[v0_] w fun e w' => e = .returned (str (r)) ∧ Ext w w' := by
 refine enter (n := 21) Tryz.func45 rfl rfl rfl ?_
 have H := HS.start hS
 unfold zkY at hF
 refine sr ?_; intro K1 hK1
 refine p_as (v := str (([] : Bs))) rfl ?_
 refine xk hK1 ?_; clear hK1
 refine sr ?_; intro K2 hK2
 refine p_ofb (yiW (l := ([Value.pointer none] ++ ([Value.slice none 0 0]))) H tz134 rfl) ?_; clear H; intro w1 b1 H
 refine xk hK2 ?_; clear hK2
 refine wp_seq_k ?_; intro K3 hK3
 refine xeD fun m1 k1 => ?_
 obtain ⟨t1, hE1, hF1⟩ := bnd hF
 have J1 : ∀ (a2 : Value) (v2 : Value) (cs3 rs2 : LV) (S3 : Mem) (m4 : FM) (w5 : World), (∀ t, has [5, 6, 7, 8, 9, 10, 11, 12, 13, 14, 15, 16, 17, 18, 19] t = false → look m4 t = look m1 t) → Mem.le S S3 → HS ⟨S, [], w⟩ S3 w5 [.osl (v2) (t1).length 1 cs3 rs2 5, .blk b1 (([a2] ++ ([v2]))) 134] → BA b1 a2 → RL S3 cs3 t1 → K3 (fr 21 m4) w5 := by
  clear H; intro a2 v2 cs3 rs2 S3 m4 w5 k5 hle3 H g4 g5
  replace hG := GV.mono hG hle3
  replace h0_ := RdS.mono h0_ hle3
  have q5 : look m4 3 = .pointer (some ⟨b1, 0, none⟩) := (k5 3 rfl).trans (k1 3)
  refine hK3 _ _ ?_
  refine sr ?_; intro K9 hK9
  obtain ⟨y6, e6, hF1⟩ := bnd hF1
  refine ylO (l := [.pointer (some ⟨b1, 0, none⟩)]) is100 (yaJ q5 ylU) ?_
  refine (zzG (k1 := 1) (k2 := 0) H rfl rfl g5 (Nat.le_trans (of_decide_eq_true (zrU e6)) (by decide))).mono ?_; clear H; rintro _ w6 ⟨rfl, H⟩
  replace H : HS ⟨S, [], w⟩ S3 w6 [.blk b1 (([a2] ++ ([v2]))) 134] := H
  refine p_as (v := str (t1)) rfl ?_
  refine xk hK9 ?_; clear hK9
  refine wp_ret ?_
  obtain rfl := osi hF1
  refine e_1 rfl (yjC (v := str (t1)) rfl) ?_
  exact ⟨rfl, H.toExt⟩
 refine sr ?_; intro K4 hK4
 refine p_mv (v := v0_) (k1 0) ?_
 refine zfS (r_lenR' u45 rfl h0_ H.sub) ?_
 refine p_mv (v := .int .i64 (0)) rfl ?_
 refine xk hK4 ?_; clear hK4
 refine wp_block ?_
 refine xeD fun m2 k2 => ?_
 obtain ⟨out1, hL1, hE2⟩ := bnd hE1
 replace H := H.nilOwn 1 5; have g3 : RL S [] ([] : Bs) := RL.nil
 replace H : HS ⟨S, [], w⟩ S w1 [.osl (.slice none 0 0) (([] : Bs)).length 1 [] [] 5, .blk b1 (([Value.pointer none] ++ ([Value.slice none 0 0]))) 134] := H
 refine loopI [5, 8, 9, 10, 11, 12, 13, 14, 15, 16, 17, 18, 19] (fun (s1 : Int × Bs) (m3 : FM) (w2 : World) => ∃ (S1 : Mem) (a1 : Value) (v1 : Value) (cs1 rs1 : LV), look m3 8 = .int .i64 (s1.1) ∧ Mem.le S S1 ∧ HS ⟨S, [], w⟩ S1 w2 [.osl (v1) (s1.2).length 1 cs1 rs1 5, .blk b1 (([a1] ++ ([v1]))) 134] ∧ BA b1 a1 ∧ RL S1 cs1 s1.2) hL1 ⟨_, _, _, _, _, (k2 8), (Mem.le_refl _), H, (Or.inl rfl), g3⟩ ?_
 clear H; intro k4 s1 m3 w2 k3 hI1 o2 hb1 hh1; obtain ⟨S1, a1, v1, cs1, rs1, q1, hle1, H, g1, g2⟩ := hI1
 replace hG := GV.mono hG hle1
 replace h0_ := RdS.mono h0_ hle1
 have q2 : look m3 3 = .pointer (some ⟨b1, 0, none⟩) := (k3 3 rfl).trans ((k2 3).trans (k1 3))
 have q3 : look m3 6 = v0_ := (k3 6 rfl).trans (k2 6)
 have q4 : look m3 7 = .int .i64 (((x0).length : Int)) := (k3 7 rfl).trans (k2 7)
 unfold zjD at hb1
 refine sr ?_; intro K5 hK5
 refine zfS (xfL q1 q4) ?_
 refine xk hK5 ?_; clear hK5
 refine wp_seq_k ?_; intro K6 hK6
 refine yoE (t := decide (s1.1 < ((x0).length : Int))) rfl (fun hc1 => ?_) (fun hc1 => ?_)
 ·replace hb1 := cnd_t hb1 hc1
  refine wp_skip ?_
  refine xn hK6 ?_; clear hK6
  refine wp_seq_k ?_; intro K7 hK7
  refine wp_block ?_
  refine sr ?_; intro K8 hK8
  obtain ⟨y1, e1, hb1⟩ := bnd hb1
  obtain ⟨b2, o3, N1, c1, cs2, hv1, hi1, hc2, hr1⟩ := h0_.get (zvT e1).2
  refine zfS (yjF (i := (s1.1 : Int).toNat) u45 tsz9 q3 hv1 q1 (zvT e1).1 hi1) ?_
  obtain rfl := elT hr1
  refine zfS (xaL (p := (o3 + (s1.1 : Int).toNat * 1)) (o := 0) (v := str (y1)) to9 H.sub rfl hc2 rfl) ?_
  refine p_as (v := str (y1)) rfl ?_
  refine xk hK8 ?_; clear hK8
  refine wp_region_lit ?_
  refine p_mv (v := str (y1)) rfl ?_
  refine zfS (yrO (N := (y1).length) u9 rfl rfl) ?_
  obtain ⟨y2, e2, hb1⟩ := bnd hb1
  refine ylO (l := [.int .i64 (((y1).length : Int))]) is46 rfl ?_
  refine (yyF H.sub hG e2).mono ?_; rintro _ w3 ⟨rfl, hx⟩; replace H := H.ext hx; clear hx
  obtain ⟨y3, e3, hb1⟩ := bnd hb1
  refine zfS (yzG (r := y3) rfl rfl (by have := (zlQ e3).1; omega) (zlQ e3).2) ?_
  refine p_mv (v := str (y1)) rfl ?_
  obtain ⟨y4, e4, hb1⟩ := bnd hb1
  refine zfS (yzG (r := y4) rfl rfl (by have := (zlQ e4).1; omega) (zlQ e4).2) ?_
  obtain ⟨y5, e5, hb1⟩ := bnd hb1
  refine ylO (l := [.pointer (some ⟨b1, 0, none⟩), str (y4)]) is99 (yaJ q2 (yaJ rfl ylU)) ?_
  refine (zvI (H.hand [1, 0] rfl) g2 g1 e5).mono ?_; rintro _ w4 ⟨S2, pv1, pcs1, prs1, pa1, rfl, H2, pg1, pg2⟩
  obtain ⟨H1, hle2⟩ := H.frame [1, 0] [] rfl H2; clear H H2; have H := H1; clear H1
  replace hG := GV.mono hG hle2
  replace h0_ := RdS.mono h0_ hle2
  replace H : HS ⟨S, [], w⟩ S2 w4 [.blk b1 (([pa1] ++ ([pv1]))) 134, .osl (pv1) (y5.2).length 1 pcs1 prs1 5] := H
  refine wpList_nil ?_
  refine xeJ ?_
  refine xn hK7 ?_; clear hK7
  refine wp_region_lit ?_
  refine zfS (r_addI q1 rfl) ?_
  refine p_mv (v := .int .i64 ((w64 (s1.1 + 1)))) rfl ?_
  refine wpList_nil ?_
  refine zsR ?_
  replace H := H.sel [1, 0] rfl
  replace H : HS ⟨S, [], w⟩ S2 w4 [.osl (pv1) (y5.2).length 1 pcs1 prs1 5, .blk b1 (([pa1] ++ ([pv1]))) 134] := H
  obtain rfl := osi hb1
  exact ⟨((w64 (s1.1 + 1)), y5.2), _, rfl, (by (repeat (refine zxR rfl ?_)); refine ylW k3 rfl ?_; exact kcx), ⟨_, _, _, _, _, rfl, (Mem.le_trans hle1 hle2), H, pg2, pg1⟩, hh1⟩
 ·replace hb1 := cnd_f hb1 hc1
  refine wp_exit ?_
  refine yxK ?_
  refine yxK ?_
  refine yyN ?_
  refine zsR ?_
  replace H : HS ⟨S, [], w⟩ S1 w2 [.osl (v1) (s1.2).length 1 cs1 rs1 5, .blk b1 (([a1] ++ ([v1]))) 134] := H
  obtain rfl := osi hb1
  obtain rfl := osi hh1
  obtain rfl := osi hE2
  exact J1 _ _ _ _ _ _ _ (by (repeat (refine zxR rfl ?_)); refine ylW k3 rfl ?_; (repeat (refine zxR rfl ?_)); refine yqU k2 ?_; exact kcx) hle1 H g1 g2
end
end Go.Proofs.YtebbcofojchkpaaGreatDoor
namespace Go.Proofs.YtebbcofojchkpaaGreatDoor.Am
open Go Go.RowKit
class zsN (G : List (Nat × Obj)) : Prop where
 gv : ∀ S, GS G S → GV S
theorem wit {p : Prop} {G : List (Nat × Obj)} [zsN G] (h : p) : p := h
section
variable {G : List (Nat × Obj)} [zsN G]
def zzX : PC := ⟨[.h (.i .i64)], [.s], yiJ, false⟩
theorem ybJ : PCok Tryz.prog G 46 zzX := pc1 (t1 := .i .i64) (rts := [.s]) rfl rfl (isFn Tryz.func46 (by kernel_rfl) (by kernel_rfl)) fun S _ _ _ hG hS h => yyF hS (zsN.gv S hG) h
def yaM : PC := ⟨[.h .s, .h .s], [.s], fun x => ycS x.1 x.2, false⟩
omit [zsN G] in
theorem ycA : PCok Tryz.prog G 82 yaM := pc2 (t1 := .s) (t2 := .s) (rts := [.s]) rfl rfl rfl (isFn Tryz.func82 (by kernel_rfl) (by kernel_rfl)) fun _ _ _ _ _ _ hS h => xfO hS h
def ycO : PC := ⟨[.h .s, .h .s], [.s, .s, .b], fun x => cutP x.1 x.2, false⟩
theorem ycD : PCok Tryz.prog G 79 ycO := pc2 (t1 := .s) (t2 := .s) (rts := [.s, .s, .b]) rfl rfl rfl (isFn Tryz.func79 (by kernel_rfl) (by kernel_rfl)) fun S _ _ _ _ hG hS h => Cut_c hS (zsN.gv S hG) h
def yaK : PC := ⟨[.h .s], [.i .i64, .er], ygU, false⟩
omit [zsN G] in
theorem ybC : PCok Tryz.prog G 83 yaK := by
 refine ⟨isFn Tryz.func83 (by kernel_rfl) (by kernel_rfl), fun S0 w0 us (x : Bs) (y : Int × Bool) hG hS ha hy => ?_⟩
 have ha : A2 (VR S0 []) [svOf .s x] us := ha
 cases ha with
 | cons q1 q2 =>
  cases q2
  rw [yfN (t := .s) rfl q1]
  obtain ⟨h1, h2⟩ := xeX hS (r := y) hy
  refine h2.mono fun e w' ⟨he, hx⟩ => ⟨hx, _, he, ⟨_, rfl, _, _, rfl, (rfl : [_] = [_]), _, rfl, ?_⟩, fun h => by cases h⟩
  exact ⟨_, rfl, .inl ⟨h1, rfl⟩⟩
end
section
variable {G : List (Nat × Obj)}
def ycE : PC := ⟨[.h (.sl .s)], [.s], zkY, false⟩
theorem ycL [zsN G] : PCok Tryz.prog G 45 ycE := by
 refine ⟨isFn Tryz.func45 (by kernel_rfl) (by kernel_rfl), fun S0 w0 us (x : List Bs) (y : Bs) hG hS ha hy => ?_⟩
 have ha : A2 (VR S0 []) [svOf (.sl .s) x] us := ha
 cases ha with
 | cons q1 q2 =>
  cases q2
  rename_i u
  have q1 : rep (.sl .s) S0 [u] x := q1
  obtain ⟨u', hu, hr⟩ := q1
  cases hu
  exact (yeY hS (zsN.gv S0 hG) hr hy).mono fun e w' ⟨he, hx⟩ => ⟨hx, _, he, yfD (l := [.s]) rfl, fun h => by cases h⟩
end
end Go.Proofs.YtebbcofojchkpaaGreatDoor.Am
namespace Go.Proofs.YtebbcofojchkpaaGreatDoor
open Go Go.RowKit
def zyJ (s : Bs) (n : Int) : Option Bs := bif decide (0 ≤ n) && decide (n ≤ 1048576) && decide (s.length ≤ 1048576) then some (Lib.repeatL s n.toNat) else none
theorem yvO {S : Mem} {w : World} (_ : Sub S w) {x0 : Bs} {x1 : Int} {r : Bs} (hF : zyJ x0 x1 = some r) :
  Calls Tryz.prog 50 #[str x0, .int .i64 x1] w fun e w' => e = .returned (str r) ∧ Ext w w' := by
 unfold zyJ at hF
 obtain ⟨h, hF⟩ := Am.zaD hF
 simp only [Bool.and_eq_true, decide_eq_true_eq] at h
 cases hF
 obtain ⟨n, rfl⟩ := Int.eq_ofNat_of_zero_le h.1.1
 have hn : n ≤ 1048576 := by have := h.1.2; omega
 rcases Nat.lt_or_ge n 2 with h2 | h2
 ·rcases (by omega : n = 0 ∨ n = 1) with rfl | rfl
  ·refine (Tryz.strings_Repeat_zero ⟨x0.toArray⟩ w).mono ?_
   rintro _ _ ⟨rfl, rfl⟩; exact ⟨rfl, Ext.refl _⟩
  ·refine (Tryz.strings_Repeat_one ⟨x0.toArray⟩ w).mono ?_
   rintro _ _ ⟨rfl, rfl⟩
   refine ⟨?_, Ext.refl _⟩
   show Ending.returned (str x0) = .returned (str (Lib.repeatL x0 1))
   simp [Lib.repeatL]
 ·rcases Nat.eq_zero_or_pos x0.length with h0 | h0
  ·have hx : x0 = [] := List.eq_nil_of_length_eq_zero h0
   subst hx
   refine (Tryz.strings_Repeat_empty ⟨#[]⟩ n w h2 (by omega) rfl).mono ?_
   rintro _ _ ⟨rfl, rfl⟩
   refine ⟨?_, Ext.refl _⟩
   show Ending.returned (str []) = .returned (str (Lib.repeatL [] n))
   rw [List.eq_nil_of_length_eq_zero (show (Lib.repeatL [] n).length = 0 by rw [Lib.repeatL_length]; rfl)]
  ·refine (Tryz.strings_Repeat_main ⟨x0.toArray⟩ n w h2 (by omega) ?_ (by rw [zgU]; exact h0)).mono ?_
   ·rw [zgU]
    have := Nat.mul_le_mul h.2 hn
    omega
   ·rintro _ w' ⟨rfl, hb⟩
    exact ⟨rfl, hb⟩
end Go.Proofs.YtebbcofojchkpaaGreatDoor
namespace Go.Proofs.YtebbcofojchkpaaGreatDoor.Am
open Go Go.RowKit
def zxX : PC := ⟨[.h .s, .h (.i .i64)], [.s], fun x => zyJ x.1 x.2, false⟩
theorem zyN {G : List (Nat × Obj)} : PCok Tryz.prog G 50 zxX := pc2 (t1 := .s) (t2 := .i .i64) (rts := [.s]) rfl rfl rfl (isFn Tryz.func50 (by kernel_rfl) (by kernel_rfl)) fun _ _ _ _ _ _ hS h => yvO hS h
structure Ops where
 itoa : Int → Option Bs
 atoi : Bs → Option (Int × Bool)
 trim : Bs → Bs → Option Bs
 cut : Bs → Bs → Option (Bs × Bs × Bool)
 rep : Bs → Int → Option Bs
 form : (List Bs) → Option Bs
def yiO (o : Ops) : PC := ⟨[(.h (.i .i64))], [.s], fun x => o.itoa x, false⟩
def yfM (o : Ops) : PC := ⟨[(.h .s)], [(.i .i64), .er], fun x => o.atoi x, false⟩
def yaA (o : Ops) : PC := ⟨[(.h .s), (.h .s)], [.s], fun x => o.trim x.1 x.2, false⟩
def ywZ (o : Ops) : PC := ⟨[(.h .s), (.h .s)], [.s, .s, .b], fun x => o.cut x.1 x.2, false⟩
def yxG (o : Ops) : PC := ⟨[(.h .s), (.h (.i .i64))], [.s], fun x => o.rep x.1 x.2, false⟩
def yrV (o : Ops) : PC := ⟨[(.h (.sl .s))], [.s], fun x => o.form x, false⟩
class zrD (G : List (Nat × Obj)) (o : Ops) : Prop where
 itoa : PCok Tryz.prog G 46 (yiO o)
 atoi : PCok Tryz.prog G 83 (yfM o)
 trim : PCok Tryz.prog G 82 (yaA o)
 cut : PCok Tryz.prog G 79 (ywZ o)
 rep : PCok Tryz.prog G 50 (yxG o)
 form : PCok Tryz.prog G 45 (yrV o)
theorem witO {p : Prop} {G : List (Nat × Obj)} {o : Ops} [zsN G] [zrD G o] (h : p) : p := h
def zaB : Ops := ⟨yiJ, ygU, ycS, cutP, zyJ, zkY⟩
instance realOk {G : List (Nat × Obj)} [zsN G] : zrD G zaB := ⟨ybJ, ybC, ycA, ycD, zyN, ycL⟩
section
variable {τ : TE} {P : Program} {G : List (Nat × Obj)}
theorem yuV {f : FuncId} {fn : Func} {c : Code} {e : Ty} {T : TypeId} (hm : P.follows .mixedOrders = true) (hτ : TEok P τ) (hf : P.funcs[f]? = some fn) (hfn : IsFn P f) (hb : fn.body = some c) (hl : Nat.ble 1 fn.ntmps = true) (hr : Nat.beq fn.results.toList.length 1 = true)
  (h1 : run 0 fn.ntmps τ ⟨[], [], false⟩ [] c ⟨[(0, .nils)], []⟩ (finS τ fn 0 [(none, ⟨[(0, .nils)], []⟩)]) = some ())
  (h2 : ∀ xs : List (den e), run 0 fn.ntmps τ ⟨[], [], false⟩ [] c ⟨[(0, .nn e xs)], []⟩ (finS τ fn 0 [(none, ⟨[(0, .own 0)], [.osl e T]⟩)]) = Option.bind (app [] xs) fun r => some r) :
  SCok P G f ⟨⟨[(0, .h (.sl e))], []⟩, 1, [(none, ⟨[(0, .own 0)], [.osl e T]⟩)], fun xs => app [] xs⟩ := by
 refine ⟨hfn, fun S0 w0 us E0 L0 (xs : List (den e)) (d : List (den e)) _ hul R hy => ?_⟩
 have hy : app [] xs = some d := hy
 have hul : us.length = 1 := hul
 have hle : us.length ≤ fn.ntmps := by rw [hul]; exact Nat.le_of_ble_eq_true hl
 obtain ⟨u, rfl⟩ : ∃ u, us = [u] := by
  match us, hul with
  | [u], _ => exact ⟨u, rfl⟩
 have hu : VB S0 E0 (.v (.sl e) xs) u := R.sl 0
 obtain ⟨v, hv, hrd⟩ := hu
 injection hv with hv
 subst hv
 have re : ∀ {x : SV}, VR S0 E0 x u → RelV ⟨S0, zcX L0, w0⟩ S0 E0 L0 ⟨[(0, x)], []⟩ (fun t => [u].getD t undef) w0 := fun {x} hx => ⟨R.hs, R.lL, R.lE, R.obj, fun t => by
  cases t with
  | zero => exact hx
  | succ t => trivial⟩
 by_cases hn : ∃ n c, u = .slice none n c
 ·have hu0 : u = .slice none 0 0 ∧ xs = [] := by
   obtain ⟨cs, k1, k2⟩ := hrd
   obtain ⟨n, c', hn⟩ := hn
   rcases k1 with ⟨⟨a0, k1⟩, k3, _⟩ | ⟨b', o, c2, ds, T2, fz, k1, _⟩
   ·rw [hn] at k1; injection k1 with _ e2 e3
    exact ⟨by rw [hn, e2, e3], List.eq_nil_of_length_eq_zero k3⟩
   ·rw [hn] at k1; cases k1
  obtain ⟨rfl, rfl⟩ := hu0
  have hd : d = [] := yiP hy
  subst hd
  refine (yiX hm hτ (ctok (G := []) (pc := []) (sc := []) (k := false) trivial trivial _ (fun _ h => by cases h)) hf hb hle hr (re (x := .nils) rfl) h1).mono fun e' w' ⟨v, he, S', E', L', σo, V', ho, hS, hP, R', hv0, hn0, hres⟩ => ?_
  have hσ : σo = ⟨[(0, .nils)], []⟩ := by
   have := ho (γ := St) fun _ σ => some σ
   exact (osi this).symm
  subst hσ
  have hl' : L'.length = 0 := R'.lL
  have hE' : E'.length = 0 := R'.lE
  have e1 : L' = [] := List.eq_nil_of_length_eq_zero hl'
  have e2 : E' = [] := List.eq_nil_of_length_eq_zero hE'
  subst e1; subst e2
  have h0 : V' 0 = .slice none 0 0 := R'.sl 0
  refine ⟨v, he, S', [.osl 0 (.slice none 0 0) (tsz e)], [.osl (.slice none 0 0) 0 (tsz e) [] [] T], ⟨[(0, .own 0 0)], [.osl 0 e T []]⟩, V', fun k => ?_, hS, fun k e hk => absurd hk (Nat.not_lt_zero k), ⟨HS.nil R'.hs _ _, rfl, rfl, fun i o h => ?_, fun t => ?_⟩, ?_, Nat.zero_le _, hres⟩
  ·show k (exOf none) _ = _
   have : (Shp.put (⟨[(0, .own 0)], [.osl e T]⟩ : Shp) ([] : List (den e))) = ⟨[(0, .own 0 0)], [.osl 0 e T []]⟩ := by
    obtain ⟨q, hq⟩ := zgE e
    have e0 : ∀ y : den (.sl e), ziT [.osl e T] [.v (.sl e) y] = [.osl 0 e T y] := fun y => by
     rw [ziT, hq]; rfl
    have e1 : ziT [.osl e T] [.v (.sl e) ([] : List (den e))] = [.osl 0 e T []] := e0 _
    exact congrArg (fun hp => (⟨[(0, .own 0 0)], hp⟩ : St)) e1
   rw [this]; rfl
  ·cases i with
   | zero => cases h; exact ⟨_, _, rfl, rfl, .slice none 0 0, .slice none 0 0, [], [], rfl, rfl, rfl, .inl rfl⟩
   | succ i => cases h
  ·cases t with
   | zero => exact VR.ofC (show VC S' _ (.own 0 0) (V' 0) by rw [h0]; exact ⟨rfl, _, rfl, fun r v s he => by cases he; exact ⟨Nat.le_refl 0, fun _ => rfl⟩⟩)
   | succ t => trivial
  ·intro i ver e' T' xs h
   cases i with
   | zero => cases h; rfl
   | succ i => cases h
 ·exact (yiX hm hτ (ctok (G := []) (pc := []) (sc := []) (k := false) trivial trivial _ (fun _ h => by cases h)) hf hb hle hr (re (x := .nn e xs) ⟨hrd, fun n c h => hn ⟨n, c, h⟩⟩) ((h2 xs).trans (by rw [hy]; rfl))).mono fun _ _ h => h
theorem ysO {e : Ty} (he : zyE e = false) {S S2 : Mem} : ∀ {xs : List (den e)} {cs : LV}, @RL (den e) (rpD e) S cs xs → @RL (den e) (rpD e) S2 cs xs
 | [], _, h => h
 | _ :: _, _, ⟨c, d, h1, h2, h3⟩ => ⟨c, d, h1, zxW e he h2, ysO he h3⟩
theorem yrW {f : FuncId} {e : Ty} {T : TypeId} (he : zyE e = false) (h : SCok P G f ⟨⟨[(0, .h (.sl e))], []⟩, 1, [(none, ⟨[(0, .own 0)], [.osl e T]⟩)], fun (xs : List (den e)) => app [] xs⟩) :
  SCok P G f ⟨⟨[(0, .own 0)], [.osl e T]⟩, 1, [(none, ⟨[(0, .own 1)], [.osl e T, .osl e T]⟩)], fun (xs : List (den e)) => Option.bind (app [] xs) fun r => some (xs, r)⟩ := by
 obtain ⟨q, hq⟩ := zgE e
 have e0 : ∀ y : den (.sl e), ziT [.osl e T] [.v (.sl e) y] = [.osl 0 e T y] := fun y => by rw [ziT, hq]; rfl
 refine ⟨h.fn, fun S0 w0 us E0 L0 (xs : List (den e)) (d : List (den e) × List (den e)) hG hul R hy => ?_⟩
 have hy : (Option.bind (app [] xs) fun r => some (xs, r)) = some d := hy
 obtain ⟨ys, hys, hd⟩ := bnd hy
 cases hd
 have hul : us.length = 1 := hul
 obtain ⟨u, rfl⟩ : ∃ u, us = [u] := by
  match us, hul with
  | [u], _ => exact ⟨u, rfl⟩
 have hput : (Shp.put (⟨[(0, .own 0)], [.osl e T]⟩ : Shp) xs) = ⟨[(0, .own 0 0)], [.osl 0 e T xs]⟩ := congrArg (fun hp => (⟨[(0, .own 0 0)], hp⟩ : St)) (e0 xs)
 have R : RelV ⟨S0, zcX L0, w0⟩ S0 E0 L0 ⟨[(0, .own 0 0)], [.osl 0 e T xs]⟩ (fun t => [u].getD t undef) w0 := by rw [← hput]; exact R
 obtain ⟨r0, ee0, g1, g2, v, v', cs, rs, rfl, rfl, hrl, hsm⟩ := R.obj 0 _ rfl
 have hL : L0.length = 1 := R.lL
 have hE : E0.length = 1 := R.lE
 obtain ⟨h7, e1, h8, h9⟩ := (show VB S0 E0 (.own 0 0) u from R.sl 0)
 rw [g2] at h8; cases h8
 have hu : u = v' := (h9 _ _ _ rfl).2 rfl
 subst hu
 have hle : Mem.le S0 (zqP w0) := R.hs.sub
 have hk : lkR L0 0 = some (.osl v xs.length (tsz e) cs rs T) := by rw [zbF]; exact g1
 have hrd : @RdS (den e) (rpD e) (zqP w0) u xs := ⟨cs, by rw [show Rp.sz (den e) = tsz e from zmC e]; exact hsm.slW R.hs.sub (R.hs.slW hk), hrl.mono hle⟩
 refine (h.ok (zqP w0) w0 [u] [] [] xs ys (fun p hp => hle _ _ (hG p hp)) rfl ⟨HS.start (ylI w0), rfl, rfl, fun i o ho => by simp [Shp.put, ziT] at ho, fun t => ?_⟩ hys).mono ?_
 ·cases t with
  | zero => exact (⟨u, rfl, hrd⟩ : VB (zqP w0) [] (.v (.sl e) xs) u)
  | succ t => trivial
 rintro e' w' ⟨v1, hv1, S', E', L', σo, V', hout, hS, _, R2, _, _, hres⟩
 have hσ : σo = ⟨[(0, .own 0 0)], [.osl 0 e T ys]⟩ := by
  have h1 := hout (γ := St) fun _ σ => some σ
  have h2 : (Shp.put (⟨[(0, .own 0)], [.osl e T]⟩ : Shp) ys) = ⟨[(0, .own 0 0)], [.osl 0 e T ys]⟩ := congrArg (fun hp => (⟨[(0, .own 0 0)], hp⟩ : St)) (e0 ys)
  have h3 : (some ((Shp.put (⟨[(0, .own 0)], [.osl e T]⟩ : Shp) ys).app []) : Option St) = some σo := h1
  rw [h2] at h3
  exact (osi h3).symm
 subst hσ
 obtain ⟨r2, ee2, k1, k2, vv, vv', cs2, rs2, rfl, rfl, hrl2, hsm2⟩ := R2.obj 0 _ rfl
 obtain ⟨k3, e2, k4, k5⟩ := (show VB S' E' (.own 0 0) (V' 0) from R2.sl 0)
 rw [k2] at k4; cases k4
 have hV : V' 0 = vv' := (k5 _ _ _ rfl).2 rfl
 have hk2 : lkR L' 0 = some (.osl vv ys.length (tsz e) cs2 rs2 T) := by rw [zbF]; exact k1
 have hx : Ext w0 w' := R2.hs.toExt
 have H : HS ⟨S0, zcX L0, w0⟩ S0 w' (.osl vv ys.length (tsz e) cs2 rs2 T :: L0) := R.hs.push hx (R2.hs.own 0 _ hk2) fun b hb => by
  rcases (R2.hs.old 0 _ b hk2 hb).1 with h1 | h1
  ·exact h1
  ·cases h1
 refine ⟨v1, hv1, S0, E0 ++ [.osl 0 vv' (tsz e)], L0 ++ [.osl vv ys.length (tsz e) cs2 rs2 T], ⟨[(0, .own 1 0)], [.osl 0 e T xs, .osl 0 e T ys]⟩, V', fun k => ?_, Mem.le_refl _, Pin.of (ELe.push _ _), ⟨HS.snoc H, by simp [hL], by simp [hE], fun i o ho => ?_, fun t => ?_⟩, ?_, by simp, hres⟩
 ·show k (exOf none) _ = _
  have h2 : (Shp.put (⟨[(0, .own 1)], [.osl e T, .osl e T]⟩ : Shp) ((xs, ys) : List (den e) × List (den e))) = ⟨[(0, .own 1 0)], [.osl 0 e T xs, .osl 0 e T ys]⟩ := by
   have e2 : ∀ y z : den (.sl e), ziT [.osl e T, .osl e T] [.v (.sl e) y, .v (.sl e) z] = [.osl 0 e T y, .osl 0 e T z] := fun y z => by
    rw [ziT, hq]
    simp only []
    rw [e0]; rfl
   exact congrArg (fun hp => (⟨[(0, .own 1 0)], hp⟩ : St)) (e2 xs ys)
  rw [h2]; rfl
 ·cases i with
  | zero =>
   cases ho
   exact ⟨_, _, by rw [List.getElem?_append_left (by omega)]; exact g1, by rw [List.getElem?_append_left (by omega)]; exact g2, v, u, cs, rs, rfl, rfl, hrl, hsm⟩
  | succ i =>
   cases i with
   | zero =>
    cases ho
    refine ⟨_, _, by rw [List.getElem?_append_right (by omega), hL]; rfl, by rw [List.getElem?_append_right (by omega), hE]; rfl, vv, vv', cs2, rs2, rfl, rfl, ysO he hrl2, ?_⟩
    rcases hsm2 with h1 | ⟨h1, h2, _, h3⟩
    ·exact .inl h1
    ·exact .inr ⟨h1, h2, .inl ⟨h3, rfl, rfl⟩, h3⟩
   | succ i => simp at ho
 ·cases t with
  | zero => exact VR.ofC (show VC S0 _ (.own 1 0) (V' 0) from ⟨k3, .osl 0 vv' (tsz e), by rw [List.getElem?_append_right (by omega), hE]; rfl, fun r v s he => by cases he; exact ⟨Nat.le_refl 0, fun _ => hV⟩⟩)
  | succ t => trivial
 ·intro i ver e' T' xs' hi
  cases i with
  | zero => cases hi; rfl
  | succ i =>
   cases i with
   | zero => cases hi; rfl
   | succ i => simp at hi
def finC (τ : TE) (f : Func) (e : Ty) (ex : Ex) (σ : St) : Option (List (den e)) := match ex with
 | .exit _ => none
 | _ => match zyB τ σ f.results.toList with
  | some [.cl e' xs] => match tyEq e' e with
   | some ⟨h⟩ => some (zmG (by rw [h] : Ty.sl e' = Ty.sl e) (show den (.sl e') from xs))
   | none => none
  | _ => none
theorem yeU {f : FuncId} {fn : Func} {c : Code} {e : Ty} (hm : P.follows .mixedOrders = true) (hτ : TEok P τ) (hf : P.funcs[f]? = some fn) (hfn : IsFn P f) (hb : fn.body = some c) (hl : Nat.ble 1 fn.ntmps = true)
  (h1 : ∀ xs : List (den e), run 0 fn.ntmps τ ⟨[], [], false⟩ [] c ⟨[(0, .v (.sl e) xs)], []⟩ (finC τ fn e) = Option.bind (chk (decide ((xs.length : Int) = (xs.length : Int)))) fun _ => Option.bind (subH xs (xs.length : Int)) fun r => some r) :
  PCok P G f ⟨[.h (.sl e)], [.sl e], fun xs => some xs, true⟩ := by
 refine ⟨hfn, fun S0 w0 us (xs : List (den e)) (y : List (den e)) _ hS ha hy => ?_⟩
 have hxy : xs = y := osi hy
 subst hxy
 have ha : A2 (VR S0 []) [SV.v (.sl e) xs] us := ha
 have h2 : run 0 fn.ntmps τ ⟨[], [], false⟩ [] c ⟨[(0, .v (.sl e) xs)], []⟩ (finC τ fn e) = some xs := by
  rw [h1 xs]
  have h3 : subH xs (xs.length : Int) = some xs := by
   unfold subH
   simp
  simp [chk, h3]
 have hul : us.length = 1 := by rw [← ha.len]; rfl
 refine enter hf hb rfl (by rw [hul]; exact hl) ?_
 have R0 : Rel fn.ntmps ⟨S0, [], w0⟩ S0 [] [] ⟨argS 0 [SV.v (.sl e) xs], []⟩ (argm us 0) w0 := by
  refine ⟨HS.start hS, rfl, rfl, fun i o h => by simp at h, fun t => ?_⟩
  show VR S0 [] (lkS (argS 0 [SV.v (.sl e) xs]) t) (bif Nat.blt t fn.ntmps then look (argm us 0) t else undef)
  cases ht : Nat.blt t fn.ntmps with
  | true => exact ypE 0 t ha
  | false =>
   rw [znI] at ht
   have h1 := of_decide_eq_false ht
   have h2 := Nat.le_of_ble_eq_true hl
   rw [ybL (by simp; omega)]
   trivial
 refine zuH hm hτ (ctok (G := []) (pc := []) (sc := []) (k := false) trivial trivial _ (fun _ h => by cases h)) c R0 (finC τ fn e) xs _ h2 fun ex σ' S' E' L' m' w' h1 _ _ _ R1 => ?_
 have key : ∀ (_ : (match zyB τ σ' fn.results.toList with
   | some [.cl e' xs] => match tyEq e' e with
    | some ⟨h⟩ => some (zmG (by rw [h] : Ty.sl e' = Ty.sl e) (show den (.sl e') from xs))
    | none => none
   | _ => none) = some xs), (fr fn.ntmps m').defers = [] ∧ ∃ v, (results fn (fr fn.ntmps m').tmps).run P w' = .ok v w' ∧ Ext w0 w' ∧ repR (gr S0 w0 w') [.sl e] v xs ∧ ∃ a n, v = .slice a n n := fun h1 => by
  split at h1
  ·rename_i e' ys hl1
   split at h1
   ·rename_i hh _
    subst hh
    have hys : ys = xs := osi h1
    subst hys
    obtain ⟨vs, h3, h4⟩ := zzS (P := P) hτ R1 hl1
    obtain ⟨v, rfl, h5⟩ := h3.one
    obtain ⟨h5, a, h6⟩ := (show VB S' E' (.cl e' ys) v from h5)
    refine ⟨rfl, v, ?_, R1.hs.toExt, ⟨v, rfl, RdS.mono h5 R1.hs.gr⟩, a, _, h6⟩
    rw [zsJ, Array.mapM_eq_mapM_toList]
    simp only [Sem.run_bind, Sem.run_map, h4, Result.andThen_ok, Sem.run_pure]
    rfl
   ·cases h1
  ·cases h1
 cases ex with
 | normal =>
  obtain ⟨h2, v, h3, h4, h5, h6⟩ := key h1
  exact ⟨h2, v, h3, h4, v, rfl, h5, fun _ => h6⟩
 | ret =>
  obtain ⟨h2, v, h3, h4, h5, h6⟩ := key h1
  exact ⟨h2, v, h3, h4, v, rfl, h5, fun _ => h6⟩
 | exit i => cases h1
end
end Go.Proofs.YtebbcofojchkpaaGreatDoor.Am
namespace Go.Proofs.YtebbcofojchkpaaGreatDoor.Am
open Go Go.RowKit Go.Maps Go.Sort
open Go.WideElems (Fit rd rg)
def anyVI : Value → Option (DataW Unit × List MemPlace) := fun _ => some (.nil, [])
def zyW : List Int → Bool
 | x :: y :: l => decide (x < y) && zyW (y :: l)
 | _ => true
def zvF {α : Type} (es : List (Int × α)) : Bool := decide (es.length ≤ 1048576) && (es.all (fun p => decide (-9223372036854775808 ≤ p.1) && decide (p.1 ≤ 9223372036854775807)) && zyW (es.map (·.1)))
def zzL {α : Type} (es : List (Int × α)) : Option (List Int × List (Int × α)) := bif zvF es then some (es.map (·.1), es) else none
theorem yaR : ∀ {l : List Int}, zyW l = true → l.Pairwise fun x y => x < y
 | [], _ => .nil
 | [x], _ => List.pairwise_singleton _ _
 | x :: y :: l, h => by
  unfold zyW at h
  rw [Bool.and_eq_true, decide_eq_true_eq] at h
  have ih := yaR (l := y :: l) h.2
  refine List.pairwise_cons.2 ⟨fun z hz => ?_, ih⟩
  rcases List.mem_cons.1 hz with rfl | hz
  ·exact h.1
  ·exact Int.lt_trans h.1 ((List.pairwise_cons.1 ih).1 z hz)
theorem yhZ {l : List Int} (h : zyW l = true) : l.mergeSort (fun x y => decide (x ≤ y)) = l := by
 refine List.mergeSort_of_pairwise ((yaR h).imp fun {a b} hab => ?_)
 simp only [decide_eq_true_eq]
 exact Int.le_of_lt hab
section
variable {P : Program} {S : Mem}
theorem yhH {V : Ty} {kT : TypeId} (hk : P.underlying kT = some (.int .i64)) : ∀ {l : List (Int × den V)} {ents : List MapEntry}, A2 (fun (p : Int × den V) en => rep1 (.i .i64) S en.key p.1 ∧ rep1 V S en.val p.2) l ents → (∀ p ∈ l, -9223372036854775808 ≤ p.1 ∧ p.1 ≤ 9223372036854775807) → ents.map (·.key) = l.map (fun p => Value.int .i64 p.1) ∧ (∀ x ∈ ents, ∃ y, Go.WideElems.rd P kT anyVI x = some y) ∧ (ents.map (Go.WideElems.rg P kT anyVI)).map (fun p => Go.intOf p.1) = l.map (·.1)
 | _, _, .nil, _ => ⟨rfl, fun _ h => (by cases h), rfl⟩
 | p :: l, en :: ents, .cons a r, hs => by
  obtain ⟨i1, i2, i3⟩ := yhH hk r fun q hq => hs q (List.mem_cons_of_mem _ hq)
  have hkey : en.key = .int .i64 p.1 := by have h : [en.key] = [Value.int .i64 p.1] := a.1; injection h
  have hp := hs p List.mem_cons_self
  have hr : Go.WideElems.rd P kT anyVI en = some (.int .i64 p.1, .nil) := by
   unfold Go.WideElems.rd
   rw [hkey]
   have : keyOf P kT (.int .i64 p.1) = some (.int .i64 p.1) := by
    have hw : (Lit.int .i64 p.1).wf = true := by
     show (decide (IntKind.i64.min ≤ p.1) && decide (p.1 ≤ IntKind.i64.max)) = true
     rw [show IntKind.i64.min = -9223372036854775808 from rfl, show IntKind.i64.max = 9223372036854775807 from rfl]
     simp [hp]
    simp [keyOf, hk, mapKey, hw]
   show (keyOf P kT (.int .i64 p.1)).bind _ = _
   rw [this]
   rfl
  refine ⟨by rw [List.map_cons, List.map_cons, i1, hkey], fun x hx => ?_, ?_⟩
  ·rcases List.mem_cons.1 hx with rfl | hx
   ·exact ⟨_, hr⟩
   ·exact i2 x hx
  ·rw [List.map_cons, List.map_cons, List.map_cons, i3]
   congr 1
   unfold Go.WideElems.rg
   rw [hr]
   rfl
theorem yrG {V : Ty} {kT : TypeId} {w : World} {b ck : Nat} {es : List (Int × den V)} {ents : List MapEntry} (hk : P.underlying kT = some (.int .i64)) (hm : MR S (.i .i64) V es ents) (hb : ∀ en ∈ ents, en.born < ck) (hh : w.heap[b]? = some (.map ents.toArray ck)) (ho : zvF es = true) :
  ∃ D0 : DataW Unit, w.ownsMap P kT anyVI b es.length D0 ∧ Maps.size D0 = es.length ∧ (intKeys D0).Perm (es.map (·.1)) := by
 obtain ⟨(l : List (Int × den V)), (hl : l.Perm es), hA⟩ := hm.perm
 unfold zvF at ho
 simp only [Bool.and_eq_true, decide_eq_true_eq, List.all_eq_true] at ho
 obtain ⟨h1, h2, h3⟩ := ho
 have hlen : ents.length = es.length := by rw [← hA.len]; exact hl.length_eq
 obtain ⟨k1, k2, k3⟩ := yhH hk hA fun p hp => h2 p (hl.mem_iff.1 hp)
 have hnd : (es.map (·.1)).Nodup := (yaR h3).imp fun {a b} hab e => by subst e; exact Int.lt_irrefl _ hab
 refine ⟨_, ⟨ents.toArray, ck, hh, ⟨by simp [maxLen]; omega, ⟨by simpa using hb, by simpa using hm.nd, ?_⟩, by simpa using k2⟩, by simp [hlen], rfl⟩, ?_, ?_⟩
 ·have e1 : l.map (fun p => Value.int .i64 p.1) = (l.map (·.1)).map (Value.int .i64) := by rw [List.map_map]; rfl
  simp only []
  rw [k1, e1]
  refine List.Pairwise.map _ (fun a b hab e => hab (by injection e)) ((hl.map _).nodup_iff.2 hnd)
 ·show ((ents.map (Go.WideElems.rg P kT anyVI)).foldr DataW.insert []).length = _
  rw [length_sorted, List.length_map, hlen]
 ·show (((ents.map (Go.WideElems.rg P kT anyVI)).foldr DataW.insert []).map fun p => Go.intOf p.1).Perm _
  refine ((Go.WideShapes.sorted_perm _).map _).trans ?_
  rw [k3]
  exact hl.map _
theorem ynU : ∀ (l : List Int), @RL (den (.i .i64)) (rpD (.i .i64)) S (l.map encZ) l
 | [] => rfl
 | x :: l => ⟨[.int .i64 x], l.map encZ, rfl, (rfl : [_] = [_]), ynU l⟩
theorem xbZ {w' : World} {base n : Nat} {sT : TypeId} {v : Value} {ks : List Int} (hn : ks.length = n) (hrow : w'.ownsRow base sT 1 v n (ks.map encZ)) (hm : ∀ b, base ≤ b → S b = w'.heap[b]?) : @RdS (den (.i .i64)) (rpD (.i .i64)) S v ks := by
 subst hn
 refine ⟨ks.map encZ, ?_, ynU ks⟩
 obtain ⟨g1, g2⟩ := hrow
 show SlS S v ks.length 1 (ks.map encZ)
 rcases g2 with ⟨rfl, g3⟩ | ⟨gb, cap, cur, rfl, g3, g4, g5, g6, g7, g8⟩
 ·have : ks = [] := List.eq_nil_of_length_eq_zero g3
  subst this
  exact .inl ⟨⟨_, rfl⟩, rfl, rfl⟩
 ·refine .inr ⟨gb, 0, cap, cur.toList, sT, (0, 0), rfl, g5, ?_, ?_, ?_⟩
  ·rw [hm gb g3, g4]
  ·have : cur.toList.length = cap * 1 := by simpa using g7
   rw [this]; omega
  ·rw [zaI, List.drop_zero]; exact g8
theorem ynO {G : List (Nat × Obj)} {f g : FuncId} {mT kT sT : TypeId} {V : Ty} (hfn : IsFn P f) (hk : P.underlying kT = some (.int .i64))
  (hS : ∀ (Bm b nn : Nat) (D0 : DataW Unit) (w : World), Bm < w.heap.size → w.cell? ⟨Bm, 0, none⟩ = some (.map (some b)) → w.ownsMap P kT anyVI b nn D0 → Maps.size D0 ≤ maxLen → Maps.size D0 * 8 ≤ 140737488355328 →
   Calls P f #[.func (.func g) #[] #[.pointer (some ⟨Bm, 0, none⟩)]] w fun e w' => ∃ (v : Value) (ss : List Int), e = .returned v ∧ ss.Perm (intKeys D0) ∧ w'.ownsRow w.heap.size sT 1 v ss.length ((ss.mergeSort (fun x y => decide (x ≤ y))).map encZ) ∧ (v = .slice none 0 0 ↔ ss = []) ∧ Below w.heap.size w w') :
  SCok P G f ⟨⟨[(0, .fn g [] [.ptr 0 0])], [.blk mT [.mpr 1], .mp true (.i .i64) V]⟩, 1, [(none, ⟨[(0, .h (.sl (.i .i64)))], [.blk mT [.mpr 1], .mp true (.i .i64) V]⟩)], fun (es : List (Int × den V)) => zzL es⟩ := by
 refine ⟨hfn, fun S0 w0 us E0 L0 (es : List (Int × den V)) d _ hul R hy => ?_⟩
 have hy : (bif zvF es then some (es.map (·.1), es) else none) = some d := hy
 obtain ⟨hok, hy⟩ := zaD hy
 have hd : d = (es.map (·.1), es) := (osi hy).symm
 subst hd
 have hul : us.length = 1 := hul
 obtain ⟨u, rfl⟩ : ∃ u, us = [u] := by
  match us, hul with
  | [u], _ => exact ⟨u, rfl⟩
 obtain ⟨q, hq⟩ := zgE (.mp (.i .i64) V)
 have hput : (Shp.put (⟨[(0, .fn g [] [.ptr 0 0])], [.blk mT [.mpr 1], .mp true (.i .i64) V]⟩ : Shp) es) = ⟨[(0, .fn g [] [.ptr 0 0])], [.blk mT [.mpr 1], .mp 0 (.i .i64) V es]⟩ := by
  have e0 : ∀ y : den (.mp (.i .i64) V), ziT [.blk mT [.mpr 1], .mp true (.i .i64) V] [.v (.mp (.i .i64) V) y] = [.blk mT [.mpr 1], .mp 0 (.i .i64) V y] := fun y => by
   simp only [ziT, ybP, Sh.putC, Sh.putB, hq]
   rfl
  exact congrArg (fun hp => (⟨[(0, .fn g [] [.ptr 0 0])], hp⟩ : St)) (e0 es)
 have hput2 : (Shp.put (⟨[(0, .h (.sl (.i .i64)))], [.blk mT [.mpr 1], .mp true (.i .i64) V]⟩ : Shp) ((es.map (·.1), es) : List Int × List (Int × den V))) = ⟨[(0, .v (.sl (.i .i64)) (es.map (·.1)))], [.blk mT [.mpr 1], .mp 0 (.i .i64) V es]⟩ := by
  have e0 : ∀ y : den (.mp (.i .i64) V), ziT [.blk mT [.mpr 1], .mp true (.i .i64) V] [.v (.mp (.i .i64) V) y] = [.blk mT [.mpr 1], .mp 0 (.i .i64) V y] := fun y => by
   simp only [ziT, ybP, Sh.putC, Sh.putB, hq]
   rfl
  exact congrArg (fun hp => (⟨[(0, .v (.sl (.i .i64)) (es.map (·.1)))], hp⟩ : St)) (e0 es)
 have R : RelV ⟨S0, zcX L0, w0⟩ S0 E0 L0 ⟨[(0, .fn g [] [.ptr 0 0])], [.blk mT [.mpr 1], .mp 0 (.i .i64) V es]⟩ (fun t => [u].getD t undef) w0 := by rw [← hput]; exact R
 obtain ⟨r0, e0, a1, a2, b0, cs, rfl, rfl, a3⟩ := R.objN (i := 0) rfl
 obtain ⟨c, rfl, a4⟩ := a3.one
 obtain ⟨_, e1, a5, a6⟩ := (show VB S0 E0 (.mpr 1) c from a4)
 obtain ⟨r1, e1', c1, c2, b, ents, ck, rfl, rfl, c3, c4⟩ := R.objN (i := 1) rfl
 rw [c2] at a5; cases a5
 have hc := a6 _ _ _ _ rfl
 subst hc
 have hh0 : w0.heap[b0]? = some (.cells [Value.map (some b)].toArray mT (0, 0)) := R.hs.own 0 _ a1
 have hh1 : w0.heap[b]? = some (.map ents.toArray ck) := R.hs.own 1 _ c1
 have hu : u = .func (.func g) #[] #[.pointer (some ⟨b0, 0, none⟩)] := by
  obtain ⟨xs, ys, hu, h1, h2⟩ := (show VC S0 E0 (.fn g [] [.ptr 0 0]) u from R.sl 0)
  cases h1
  obtain ⟨y, rfl, h3⟩ := h2.one
  obtain ⟨b1, hy, e2, h4, h5⟩ := (show VB S0 E0 (.ptr 0 0) y from h3)
  rw [a2] at h4; cases h4
  cases h5 _ rfl
  rw [hu, hy]
 subst hu
 obtain ⟨D0, d1, d2, d3⟩ := yrG (S := S0) hk c3 c4 hh1 hok
 have hlen : es.length ≤ 1048576 := by unfold zvF at hok; simp only [Bool.and_eq_true, decide_eq_true_eq] at hok; exact hok.1
 have hrise : zyW (es.map (·.1)) = true := by unfold zvF at hok; simp only [Bool.and_eq_true] at hok; exact hok.2.2
 have hcell : w0.cell? ⟨b0, 0, none⟩ = some (.map (some b)) := by simp [World.cell?, hh0]
 refine (hS b0 b es.length D0 w0 (Array.getElem?_eq_some_iff.1 hh0).1 hcell d1 (by rw [d2]; simp [maxLen]; omega) (by rw [d2]; omega)).mono fun e w' ⟨v, ss, he, hp, hrow, hnil, hx⟩ => ?_
 have hx : Ext w0 w' := hx
 have hss : ss.mergeSort (fun x y => decide (x ≤ y)) = es.map (·.1) := by
  rw [← yhZ hrise]
  exact mergeSort_of_perm_i (hp.trans d3)
 have hsl : ss.length = es.length := by rw [hp.length_eq, d3.length_eq, List.length_map]
 rw [hss, hsl] at hrow
 have R' := R.call hx
 have hv : VB (gr S0 w0 w') E0 (.v (.sl (.i .i64)) (es.map (·.1))) v :=
  ⟨v, rfl, xbZ (List.length_map _) hrow fun b hb => by unfold Go.Proofs.YtebbcofojchkpaaGreatDoor.gr; rw [if_neg (by omega)]⟩
 refine ⟨v, he, gr S0 w0 w', E0, L0, ⟨[(0, .v (.sl (.i .i64)) (es.map (·.1)))], [.blk mT [.mpr 1], .mp 0 (.i .i64) V es]⟩, fun _ => v, fun k => ?_, yiB R.hs.sub, Pin.refl _ _, ⟨R'.hs, R'.lL, R'.lE, R'.obj, fun t => ?_⟩, ?_, Nat.le_refl _, rfl⟩
 ·show k (exOf none) ((Shp.put _ _).app []) = _
  rw [hput2]; rfl
 ·cases t with
  | zero => exact VR.ofC (show VC _ _ (.v (.sl (.i .i64)) (es.map (·.1))) v from hv)
  | succ t => trivial
 ·intro i ver e' T' xs h
  cases i with
  | zero => cases h
  | succ i =>
   cases i with
   | zero => cases h
   | succ i => cases h
end
end Go.Proofs.YtebbcofojchkpaaGreatDoor.Am
namespace Go.Proofs
open Go.Shelf
def Tryz.keysA_ren : Go.Shelf.Ren := ⟨fun | 7 => 43 | 10 => 97 | n => n, fun | 23 => 73 | 26 => 3 | 3 => 81 | 28 => 88 | 0 => 0 | 27 => 87 | 33 => 101 | 4 => 4 | n => n, fun | n => n⟩
theorem Tryz.keysA : Go.Proofs.SlLaysZI.n7 Tryz.prog Tryz.keysA_ren := {
  mixed := by kernel_rfl
  f7 := ⟨Tryz.f43.name, by decide, Tryz.func43.trans (congrArg some (by kernel_rfl))⟩
  f10 := ⟨Tryz.f97.name, by decide, Tryz.func97.trans (congrArg some (by kernel_rfl))⟩
  t0 := Tryz.underlying0
  a0 := Tryz.isAgg0
  z0 := Tryz.sizeOf0
  v0 := Tryz.zeroValue0
  t4 := Tryz.underlying4
  a4 := Tryz.isAgg4
  z4 := Tryz.sizeOf4
  v4 := Tryz.zeroValue4
  t23 := Tryz.underlying73
  a23 := Tryz.isAgg73
  z23 := Tryz.sizeOf73
  v23 := Tryz.zeroValue73
  t26 := Tryz.underlying3
  a26 := Tryz.isAgg3
  z26 := Tryz.sizeOf3
  v26 := Tryz.zeroValue3
  t27 := Tryz.underlying87
  a27 := Tryz.isAgg87
  z27 := Tryz.sizeOf87
  v27 := Tryz.zeroValue87
  t28 := Tryz.underlying88
  a28 := Tryz.isAgg88
  z28 := Tryz.sizeOf88
  v28 := Tryz.zeroValue88
  t33 := Tryz.underlying101
  a33 := Tryz.isAgg101
  z33 := Tryz.sizeOf101
  v33 := Tryz.zeroValue101 }
def Tryz.sortedA_ren : Go.Shelf.Ren := ⟨fun | 6 => 42 | 8 => 95 | 9 => 96 | 11 => 143 | 13 => 145 | 12 => 144 | 23 => 178 | 24 => 179 | 14 => 169 | 15 => 170 | 16 => 171 | 17 => 172 | 18 => 173 | 19 => 174 | 20 => 175 | 21 => 176 | 22 => 177 | 25 => 197 | 26 => 198 | 27 => 199 | 28 => 200 | 29 => 201 | 30 => 202 | 31 => 214 | n => n, fun | 26 => 3 | 28 => 88 | 24 => 44 | 0 => 0 | 3 => 3 | 37 => 137 | 48 => 164 | 50 => 167 | 4 => 4 | 40 => 188 | 39 => 187 | 45 => 71 | 5 => 5 | 9 => 9 | 51 => 211 | 55 => 215 | 57 => 230 | 58 => 231 | 33 => 101 | n => n, fun | n => n⟩
theorem Tryz.sortedA : Go.Proofs.SlLaysZI.n6 Tryz.prog Tryz.sortedA_ren := {
  mixed := by kernel_rfl
  f6 := ⟨Tryz.f42.name, by decide, Tryz.func42.trans (congrArg some (by kernel_rfl))⟩
  f8 := ⟨Tryz.f95.name, by decide, Tryz.func95.trans (congrArg some (by kernel_rfl))⟩
  f11 := ⟨Tryz.f143.name, by decide, Tryz.func143.trans (congrArg some (by kernel_rfl))⟩
  t0 := Tryz.underlying0
  a0 := Tryz.isAgg0
  z0 := Tryz.sizeOf0
  v0 := Tryz.zeroValue0
  t24 := Tryz.underlying44
  a24 := Tryz.isAgg44
  z24 := Tryz.sizeOf44
  v24 := Tryz.zeroValue44
  t26 := Tryz.underlying3
  a26 := Tryz.isAgg3
  z26 := Tryz.sizeOf3
  v26 := Tryz.zeroValue3
  t28 := Tryz.underlying88
  a28 := Tryz.isAgg88
  z28 := Tryz.sizeOf88
  v28 := Tryz.zeroValue88
  i26 := by kernel_rfl }
def Tryz.sortA_ren : Go.Shelf.Ren := ⟨fun | 5 => 96 | 8 => 145 | 7 => 144 | 19 => 178 | 20 => 179 | 10 => 169 | 11 => 170 | 12 => 171 | 13 => 172 | 14 => 173 | 15 => 174 | 16 => 175 | 17 => 176 | 18 => 177 | 30 => 197 | 31 => 198 | 32 => 199 | 33 => 200 | 34 => 201 | 35 => 202 | 40 => 214 | n => n, fun | 23 => 44 | 25 => 3 | 3 => 3 | 32 => 137 | 22 => 44 | 0 => 0 | 44 => 164 | 46 => 167 | 4 => 4 | 36 => 188 | 35 => 187 | 41 => 71 | 5 => 5 | 9 => 9 | 53 => 211 | 57 => 215 | 63 => 230 | 64 => 231 | n => n, fun | n => n⟩
theorem Tryz.sortA : Go.Proofs.SlLaysM.n5 Tryz.prog Tryz.sortA_ren := {
  mixed := by kernel_rfl
  f5 := ⟨Tryz.f96.name, by decide, Tryz.func96.trans (congrArg some (by kernel_rfl))⟩
  f7 := ⟨Tryz.f144.name, by decide, Tryz.func144.trans (congrArg some (by kernel_rfl))⟩
  f8 := Tryz.func145.trans (congrArg some (by kernel_rfl))
  f10 := ⟨Tryz.f169.name, by decide, Tryz.func169.trans (congrArg some (by kernel_rfl))⟩
  f11 := ⟨Tryz.f170.name, by decide, Tryz.func170.trans (congrArg some (by kernel_rfl))⟩
  f12 := ⟨Tryz.f171.name, by decide, Tryz.func171.trans (congrArg some (by kernel_rfl))⟩
  f13 := ⟨Tryz.f172.name, by decide, Tryz.func172.trans (congrArg some (by kernel_rfl))⟩
  f14 := ⟨Tryz.f173.name, by decide, Tryz.func173.trans (congrArg some (by kernel_rfl))⟩
  f15 := ⟨Tryz.f174.name, by decide, Tryz.func174.trans (congrArg some (by kernel_rfl))⟩
  f16 := ⟨Tryz.f175.name, by decide, Tryz.func175.trans (congrArg some (by kernel_rfl))⟩
  f17 := ⟨Tryz.f176.name, by decide, Tryz.func176.trans (congrArg some (by kernel_rfl))⟩
  f18 := ⟨Tryz.f177.name, by decide, Tryz.func177.trans (congrArg some (by kernel_rfl))⟩
  f19 := Tryz.func178.trans (congrArg some (by kernel_rfl))
  f20 := Tryz.func179.trans (congrArg some (by kernel_rfl))
  f30 := ⟨Tryz.f197.name, by decide, Tryz.func197.trans (congrArg some (by kernel_rfl))⟩
  f31 := Tryz.func198.trans (congrArg some (by kernel_rfl))
  f32 := Tryz.func199.trans (congrArg some (by kernel_rfl))
  f33 := ⟨Tryz.f200.name, by decide, Tryz.func200.trans (congrArg some (by kernel_rfl))⟩
  f34 := ⟨Tryz.f201.name, by decide, Tryz.func201.trans (congrArg some (by kernel_rfl))⟩
  f35 := ⟨Tryz.f202.name, by decide, Tryz.func202.trans (congrArg some (by kernel_rfl))⟩
  f40 := ⟨Tryz.f214.name, by decide, Tryz.func214.trans (congrArg some (by kernel_rfl))⟩
  t0 := Tryz.underlying0
  a0 := Tryz.isAgg0
  z0 := Tryz.sizeOf0
  v0 := Tryz.zeroValue0
  t3 := Tryz.underlying3
  a3 := Tryz.isAgg3
  z3 := Tryz.sizeOf3
  v3 := Tryz.zeroValue3
  t4 := Tryz.underlying4
  a4 := Tryz.isAgg4
  z4 := Tryz.sizeOf4
  v4 := Tryz.zeroValue4
  t5 := Tryz.underlying5
  a5 := Tryz.isAgg5
  z5 := Tryz.sizeOf5
  v5 := Tryz.zeroValue5
  t9 := Tryz.underlying9
  a9 := Tryz.isAgg9
  z9 := Tryz.sizeOf9
  v9 := Tryz.zeroValue9
  t22 := Tryz.underlying44
  a22 := Tryz.isAgg44
  z22 := Tryz.sizeOf44
  v22 := Tryz.zeroValue44
  t23 := Tryz.underlying44
  a23 := Tryz.isAgg44
  z23 := Tryz.sizeOf44
  v23 := Tryz.zeroValue44
  t25 := Tryz.underlying3
  a25 := Tryz.isAgg3
  z25 := Tryz.sizeOf3
  v25 := Tryz.zeroValue3
  t32 := Tryz.underlying137
  a32 := Tryz.isAgg137
  z32 := Tryz.sizeOf137
  v32 := Tryz.zeroValue137
  t35 := Tryz.underlying187
  a35 := Tryz.isAgg187
  z35 := Tryz.sizeOf187
  v35 := Tryz.zeroValue187
  t36 := Tryz.underlying188
  a36 := Tryz.isAgg188
  z36 := Tryz.sizeOf188
  v36 := Tryz.zeroValue188
  t41 := Tryz.underlying71
  a41 := Tryz.isAgg71
  z41 := Tryz.sizeOf71
  v41 := Tryz.zeroValue71
  t44 := Tryz.underlying164
  a44 := Tryz.isAgg164
  z44 := Tryz.sizeOf164
  v44 := Tryz.zeroValue164
  t46 := Tryz.underlying167
  a46 := Tryz.isAgg167
  z46 := Tryz.sizeOf167
  v46 := Tryz.zeroValue167
  t53 := Tryz.underlying211
  a53 := Tryz.isAgg211
  z53 := Tryz.sizeOf211
  v53 := Tryz.zeroValue211
  t57 := Tryz.underlying215
  a57 := Tryz.isAgg215
  z57 := Tryz.sizeOf215
  v57 := Tryz.zeroValue215
  t63 := Tryz.underlying230
  a63 := Tryz.isAgg230
  z63 := Tryz.sizeOf230
  v63 := Tryz.zeroValue230
  t64 := Tryz.underlying231
  a64 := Tryz.isAgg231
  z64 := Tryz.sizeOf231
  v64 := Tryz.zeroValue231 }
end Go.Proofs
namespace Go.Proofs
open Go.RowKit Go.Maps Go.Sort Go.Shelf
theorem YtebbcofojchkpaaGreatDoor.sortsA (m : Nat) : AnyZI.SortsIn Tryz.prog Tryz.sortedA_ren Fence.wide m :=
 ⟨fun blk off cap ss W hH hblk hsz => callsIn_wide.2 (AnyM.slices_Sort_int Tryz.sortA blk off cap ss W hH hblk hsz),
  fun p cap W => callsIn_wide.2 (AnyM.slices_Sort_int_none Tryz.sortA p cap W)⟩
theorem YtebbcofojchkpaaGreatDoor.sortedIK (Bm b nn : Nat) (D0 : DataW Unit) (w : World) (hB : Bm < w.heap.size) (hc : w.cell? ⟨Bm, 0, none⟩ = some (.map (some b))) (ho : w.ownsMap Tryz.prog 3 YtebbcofojchkpaaGreatDoor.Am.anyVI b nn D0) (hmax : Maps.size D0 ≤ maxLen) (hb : Maps.size D0 * 8 ≤ 140737488355328) :
  Calls Tryz.prog 42 #[.func (.func 97) #[] #[.pointer (some ⟨Bm, 0, none⟩)]] w fun e w' => ∃ (v : Value) (ss : List Int), e = .returned v ∧ ss.Perm (intKeys D0) ∧ w'.ownsRow w.heap.size 3 1 v ss.length ((ss.mergeSort (fun x y => decide (x ≤ y))).map encZ) ∧ (v = .slice none 0 0 ↔ ss = []) ∧ Below w.heap.size w w' := by
 have hseq : SeqGives Fence.wide 2 Tryz.prog 97 #[.pointer (some ⟨Bm, 0, none⟩)] encZ (fun ss => ss.Perm (intKeys D0)) (Maps.size D0) w :=
  AnyZI.keys_gives (ρ := Tryz.keysA_ren) { Tryz.keysA with } Fence.wide _ trivial rfl (by omega) Bm b nn D0 _ hB hc ho
 have cS := AnyZI.sorted_in Tryz.sortedA Fence.wide 5 trivial trivial trivial trivial rfl (by omega) (YtebbcofojchkpaaGreatDoor.sortsA _) (enters_of Tryz.func96 (by kernel_rfl) rfl) 97 #[.pointer (some ⟨Bm, 0, none⟩)] trivial (enters_of Tryz.func97 (by kernel_rfl) rfl) _ _ hmax hb _ hseq
 exact (callsIn_wide (n := 5)).1 cS
end Go.Proofs
namespace Go.Proofs.YtebbcofojchkpaaGreatDoor.Am
open Go Go.RowKit
section
variable {P : Program} {G : List (Nat × Obj)}
def ymP (e : Ty) (n : Int) : Option (List (den e)) := bif decide (0 ≤ n) && decide (n ≤ 1048576) then some [] else none
theorem yvZ {f : FuncId} {e : Ty} {E : TypeId} (hfn : IsFn P f)
  (hc : ∀ (n : Nat) (w : World), n ≤ 1048576 → Calls P f #[.slice none 0 0, .int .i64 (n : Int)] w fun x w' => ∃ v, x = .returned v ∧ ((v = .slice none 0 0 ∧ w' = w) ∨ ∃ cap arr, v = .slice (some ⟨w.heap.size, 0, none⟩) 0 cap ∧ w' = w.drew.alloc (.cells arr E) ∧ cap * tsz e ≤ arr.size)) :
  SCok P G f ⟨⟨[(0, .nils), (1, .h (.i .i64))], []⟩, 1, [(none, ⟨[(0, .own 0)], [.osl e E]⟩)], fun (n : Int) => ymP e n⟩ := by
 obtain ⟨q, hq⟩ := zgE e
 have e0 : ∀ y : den (.sl e), ziT [.osl e E] [.v (.sl e) y] = [.osl 0 e E y] := fun y => by rw [ziT, hq]; rfl
 refine ⟨hfn, fun S0 w0 us E0 L0 (x : Int) (d : List (den e)) _ hul R hy => ?_⟩
 have hy : ymP e x = some d := hy
 unfold ymP at hy
 obtain ⟨hb, hy⟩ := zaD hy
 cases hy
 simp only [Bool.and_eq_true, decide_eq_true_eq] at hb
 obtain ⟨n, rfl⟩ := Int.eq_ofNat_of_zero_le hb.1
 have hul : us.length = 2 := hul
 obtain ⟨u, u2, rfl⟩ : ∃ u u2, us = [u, u2] := by
  match us, hul with
  | [u, u2], _ => exact ⟨u, u2, rfl⟩
 have hu : u = .slice none 0 0 := R.sl 0
 have hu2 : rep (.i .i64) S0 [u2] (n : Int) := R.sl 1
 have hu2 : u2 = .int .i64 (n : Int) := by have h : [u2] = [Value.int .i64 (n : Int)] := hu2; injection h
 subst hu; subst hu2
 have hL : L0 = [] := List.eq_nil_of_length_eq_zero R.lL
 have hE : E0 = [] := List.eq_nil_of_length_eq_zero R.lE
 subst hL; subst hE
 have fin : ∀ {v : Value} {w' : World} {q : Res}, HS ⟨S0, zcX [], w0⟩ S0 w' [q] → (∃ cs rs, q = .osl v 0 (tsz e) cs rs E ∧ cs = []) → v.oneCell' = true → ∃ v', Ending.returned v = .returned v' ∧ ∃ S' E' L' σo V', (∀ {γ : Type} (k : Ex → St → Option γ), out [] [(none, (⟨[(0, .own 0)], [.osl e E]⟩ : Shp))] ([] : List (den e)) k = k .normal σo) ∧ Mem.le S0 S' ∧ Pin 0 [] E' ∧ RelV ⟨S0, zcX [], w0⟩ S' E' L' σo V' w' ∧ Ver0 σo.hp ∧ 0 ≤ σo.hp.length ∧ v' = ycR (ybM V' 0 1) := fun {v w' q} H hq0 h1 => by
  obtain ⟨cs, rs, rfl, rfl⟩ := hq0
  refine ⟨v, rfl, S0, [.osl 0 v (tsz e)], [.osl v 0 (tsz e) [] rs E], ⟨[(0, .own 0 0)], [.osl 0 e E []]⟩, fun _ => v, fun k => ?_, Mem.le_refl _, fun k e hk => absurd hk (Nat.not_lt_zero k), ⟨H, rfl, rfl, fun i o h => ?_, fun t => ?_⟩, ?_, Nat.zero_le _, rfl⟩
  ·show k (exOf none) ((Shp.put _ _).app []) = _
   rw [show (Shp.put (⟨[(0, .own 0)], [.osl e E]⟩ : Shp) ([] : List (den e))) = ⟨[(0, .own 0 0)], [.osl 0 e E []]⟩ from congrArg (fun hp => (⟨[(0, .own 0 0)], hp⟩ : St)) (e0 _)]
   rfl
  ·cases i with
   | zero => cases h; exact ⟨_, _, rfl, rfl, v, v, [], rs, rfl, rfl, rfl, .inl rfl⟩
   | succ i => simp at h
  ·cases t with
   | zero => exact VR.ofC (show VC S0 _ (.own 0 0) v from ⟨h1, _, rfl, fun r v' s he => by cases he; exact ⟨Nat.le_refl 0, fun _ => rfl⟩⟩)
   | succ t => trivial
  ·intro i ver e' T' xs' hi
   cases i with
   | zero => cases hi; rfl
   | succ i => simp at hi
 refine (hc n w0 (by have := hb.2; omega)).mono ?_
 rintro x w' ⟨v, rfl, ⟨rfl, rfl⟩ | ⟨cap, arr, rfl, rfl, hcap⟩⟩
 ·exact fin (HS.nil R.hs _ _) ⟨[], [], rfl, rfl⟩ rfl
 ·refine fin (R.hs.push (Ext.trans (Ext.drew w0) (Ext.alloc w0.drew _)) (r := .osl (sl w0.heap.size 0 0 cap) 0 (tsz e) [] arr.toList E) (.inr ⟨w0.heap.size, cap, (0, 0), rfl, Nat.zero_le _, by simp, by simpa using hcap, by simpa using zaG w0.drew _, .inl rfl⟩) fun b hb => by cases hb; exact Nat.le_refl _) ⟨[], arr.toList, rfl, rfl⟩ rfl
end
end Go.Proofs.YtebbcofojchkpaaGreatDoor.Am
namespace Go.Proofs
open Go.Shelf
def Tryz.growS_ren : Go.Shelf.Ren := ⟨fun | 4 => 102 | n => n, fun | 22 => 45 | 25 => 9 | 3 => 3 | 4 => 4 | 9 => 9 | 20 => 20 | 0 => 0 | n => n, fun | n => n⟩
theorem Tryz.growS : Go.Proofs.Lays8.n4 Tryz.prog Tryz.growS_ren := {
  mixed := by kernel_rfl
  f4 := ⟨Tryz.f102.name, by decide, Tryz.func102.trans (congrArg some (by kernel_rfl))⟩
  t0 := Tryz.underlying0
  a0 := Tryz.isAgg0
  z0 := Tryz.sizeOf0
  v0 := Tryz.zeroValue0
  t3 := Tryz.underlying3
  a3 := Tryz.isAgg3
  z3 := Tryz.sizeOf3
  v3 := Tryz.zeroValue3
  t4 := Tryz.underlying4
  a4 := Tryz.isAgg4
  z4 := Tryz.sizeOf4
  v4 := Tryz.zeroValue4
  t9 := Tryz.underlying9
  a9 := Tryz.isAgg9
  z9 := Tryz.sizeOf9
  v9 := Tryz.zeroValue9
  t20 := Tryz.underlying20
  a20 := Tryz.isAgg20
  z20 := Tryz.sizeOf20
  v20 := Tryz.zeroValue20
  t22 := Tryz.underlying45
  a22 := Tryz.isAgg45
  z22 := Tryz.sizeOf45
  v22 := Tryz.zeroValue45 }
end Go.Proofs
namespace Go.Proofs.YtebbcofojchkpaaGreatDoor.Am
open Go Go.RowKit
theorem growK (n : Nat) (w : World) (hn : n ≤ 1048576) : Calls Tryz.prog 102 #[.slice none 0 0, .int .i64 (n : Int)] w fun x w' => ∃ v, x = .returned v ∧ ((v = .slice none 0 0 ∧ w' = w) ∨ ∃ cap arr, v = .slice (some ⟨w.heap.size, 0, none⟩) 0 cap ∧ w' = w.drew.alloc (.cells arr 9) ∧ cap * tsz .s ≤ arr.size) := by
 obtain ⟨i0, hi, hz, hs, hb⟩ := (yoH (P := Tryz.prog) (τ := [(9, ⟨.s, 1, [.v .s (show Bs from [])], .s, 16⟩)]) (by kernel_rfl) (by kernel_rfl) 9 _ rfl).i
 have hs : i0.size = 1 := hs
 have hb : i0.bytes = 16 := hb
 rcases Nat.eq_zero_or_pos n with rfl | h0
 ·refine (Any8.slices_Grow_room Tryz.growS none 0 0 0 w (by omega) (by omega) (by omega) (by omega)).mono ?_
  rintro _ _ ⟨rfl, rfl⟩; exact ⟨_, rfl, .inl ⟨rfl, rfl⟩⟩
 ·refine (Any8.slices_Grow_grow Tryz.growS i0 _ hi hz (by omega) none 0 0 n [] w (by omega) (by omega) (by rw [hb]; omega) (by omega) (by simp) (fun _ => rfl) (fun a h => by cases h)).mono ?_
  rintro _ _ ⟨rfl, rfl⟩
  refine ⟨_, rfl, .inr ⟨_, _, rfl, rfl, ?_⟩⟩
  have hge := grownCap_ge w (0 + n) 0 9
  simp only [Array.size_append, size_zeroCells, List.size_toArray, List.length_nil]
  have h1 : (Value.cells (zV (⟨.s, 1, [.v .s (show Bs from [])], .s, 16⟩ : TI))).size = 1 := rfl
  rw [h1]
  show _ * 1 ≤ _
  have h2 : grownCap w (0 + n) 0 9 = grownCap w (0 + n) 0 (Tryz.growS_ren.t 25) := rfl
  rw [← h2]
  omega
end Go.Proofs.YtebbcofojchkpaaGreatDoor.Am
