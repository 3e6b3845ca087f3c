/- strings.Builder: what its methods do to a builder of the call's own. DERIVED: THE SHELF's CONTRACTS AT THIS DUMP, IN PLAIN WORDS (tools/lay-plain.mjs out of 'TryzShelf.lean', which tools/lay-shelf.mjs wrote): THE SAME DECLARATIONS UNDER THE SAME NAMES: 'import', 'namespace', 'open', 'def', 'theorem' AND NOTHING ELSE: no command of the shelf's: FOR A HAND-IN. Each laying: the table of numbers ('.._ren') and one theorem, a field a fact of the dump's own or the kernel's comparison; each contract: ONE APPLICATION. A region that draws its order, walked in the order of the text, where zhU of the head read what the tail leaves alone. A region that draws its order, its operations told in another order. A region that draws its order, told by a schedule: what changes memory goes in one order, what only looks at memory runs at any time, and so does what lays a new block. A machine over plain values: what the program's code computes, in the order of its text, as a function. Conditions: none; these are definitions. Conditions: as each theorem says. -/
import Derived.Test.YtebbcofojchkpaaGreatDoorRows
import Derived.Lib.Builder
import Derived.Lib.UnsafeStr
import Derived.LaidEql
import Derived.Laws.Externs
import Derived.Shelf.Strings.Builder1
import Derived.Shelf.Strings.Builder2
import Derived.Shelf.Strings.Trim
import Derived.Shelf.Small.Utf8
import Derived.Shelf.Small.Bits
import Derived.Shelf.Small.Strs
import Derived.Shelf.Small.Wraps
import Derived.Shelf.Strings.BuilderF
import Derived.Shelf.Strings.BuilderK
import Derived.Shelf.Strconv.Atoi
import Derived.Shelf.Strconv.Itoa0
import Derived.Shelf.Strconv.Itoa1
import Derived.Shelf.LaysM
import Derived.Shelf.Strconv.Itoa2
import Derived.Shelf.Strconv.Itoa3
import Derived.Shelf.Strconv.AtoiErrFast
import Derived.Shelf.Strconv.ParseIntEmpty
import Derived.Shelf.Strconv.AtoiFail
import Derived.Shelf.Strconv.Clone
import Derived.Shelf.Strconv.SyntaxError
import Derived.Shelf.LaysC
import Derived.Shelf.Strconv.ToError
import Derived.Shelf.Strconv.Lower
import Derived.Shelf.Strconv.ParseUint10
import Derived.Shelf.Strconv.ParseUint10Empty
import Derived.Shelf.Strconv.ParseUint10Any
import Derived.Shelf.Strconv.ParseInt10
import Derived.Shelf.Strconv.AtoiLong
import Derived.Shelf.Strconv.AtoiInnerAll
import Derived.Shelf.Strconv.RangeError
import Derived.Shelf.Strconv.ToErrorRange
import Derived.Shelf.Strconv.AtoiAll
import Derived.Shelf.Strings.Search1
import Derived.Shelf.Strings.Search2
import Derived.Shelf.Strings.Cut
import Derived.Shelf.Strings.Shaped
import Derived.Shelf.Strings.Prefix
import Derived.Shelf.Strings.Runes
import Derived.Shelf.Strings.AsciiSet
import Derived.Shelf.Bits.Mul64
import Derived.Shelf.Strings.Repeat
import Derived.Shelf.Unicode.DecodeSlow
import Derived.Ground.SlgmProg
import Derived.Shelf.SortM.Plain
import Derived.Shelf.SortM.SortNone
import Derived.Test.YtebbcofojchkpaaGreatDoorProg
import Derived.Test.YtebbcofojchkpaaGreatDoorQdB
namespace Go.Proofs.YtebbcofojchkpaaGreatDoor
open Go Go.RowKit
section
attribute [local irreducible] wpList wpT Code.wp Calls Code.rounds
variable {S : Mem} {w : World}
theorem bu1 : Tryz.prog.underlying 131 = some (.pointer 134) := by kernel_rfl
theorem bu2 : Tryz.prog.underlying 195 = some .unsafePointer := by kernel_rfl
theorem bi1 : (Tryz.prog.info? 134).map (·.size) = some 2 := by kernel_rfl
theorem bl1 : liesAt Tryz.prog Tryz.prog.depth 134 (2 / Tryz.prog.cellsOf 134) 0 134 1 = true := by kernel_rfl
theorem bf0 : ynQ Tryz.prog 134 0 0 := fun _ _ _ => by kernel_rfl
theorem bf1 : ynQ Tryz.prog 134 1 1 := fun _ _ _ => by kernel_rfl
theorem bto : TOne Tryz.prog 131 := ⟨fun _ => by kernel_rfl, fun _ => by kernel_rfl⟩
theorem bto2 : TOne Tryz.prog 132 := ⟨fun _ => by kernel_rfl, fun _ => by kernel_rfl⟩
theorem btz : TSz Tryz.prog 131 1 := fun _ => by kernel_rfl
theorem bnoEsc (x : Value) (w : World) : (callFunc 180 [x].toArray).run Tryz.prog w = .ok (.value x) w := by
 have h := run_callFunc_extern (P := Tryz.prog) (w := w) (args := #[x]) Tryz.func180 (by kernel_rfl) (by kernel_rfl) (by kernel_rfl) (e := Extern.AbiNoEscape.same) (by kernel_rfl)
 show (callFunc 180 #[x]).run Tryz.prog w = _
 rw [h, Lib.run_noEscape]; rfl
def zkR (x0 : Bs) : Option Bs := some x0
section
variable {P : Program} {w : World} {B : Bas} {S : Mem} {L : List Res} {e : Operand → Value} {dst : Option Tmp} {g : Option (Nat × Bool)} {ty : TypeId} {pos : String} {aft : Array Edge} {x y : Operand} {T T1 T2 T' : TypeId} {a : Addr}
theorem xeB (hu : P.underlying T = some (.pointer T1)) (hx : e x = .pointer none) (hy : e y = .pointer none) : (execOp e ⟨dst, .binOp .eql T x y T', ty, pos, aft, g⟩).run P w = .ok (.value (.bool true)) w := by
 have h : (Op.equal T (.pointer none) (.pointer none)).run P w = .ok true w := by
  have h : ∀ d, (Op.equalIn (d + 1) T (.pointer none) (.pointer none)).run P w = .ok true w := fun d => by simp [Op.equalIn, Go.underlying, hu]
  exact h 9999
 simp [execOp, eqGuard, binOp, hx, hy, h]
theorem xfK (hu : P.underlying T = some (.pointer T1)) (hx : e x = .pointer (some a)) (hy : e y = .pointer none) : (execOp e ⟨dst, .binOp .eql T x y T', ty, pos, aft, g⟩).run P w = .ok (.value (.bool false)) w := by
 have h : (Op.equal T (.pointer (some a)) (.pointer none)).run P w = .ok false w := by
  have h : ∀ d, (Op.equalIn (d + 1) T (.pointer (some a)) (.pointer none)).run P w = .ok false w := fun d => by simp [Op.equalIn, Go.underlying, hu]
  exact h 9999
 simp [execOp, eqGuard, binOp, hx, hy, h]
theorem xeV {j : TypeInfo} (hu : P.underlying T = some (.pointer T1)) (hj : P.info? T1 = some j) (hx : e x = .pointer (some a)) (hy : e y = .pointer (some a)) : (execOp e ⟨dst, .binOp .neq T x y T', ty, pos, aft, g⟩).run P w = .ok (.value (.bool false)) w := by
 have h := Lib.run_neq_ptr_same (P := P) w a hu hj
 simp [execOp, eqGuard, hx, hy, h]
end
theorem zvR {b0_ : Nat} {x0 : Bs} {pv1 : Value} {pcs1 prs1 : LV} {pa1 : Value} (H : HS ⟨S, zcA [.blk b0_ ([pa1] ++ ([pv1])) 134, .osl (pv1) (x0).length 1 pcs1 prs1 5], w⟩ S w [.blk b0_ ([pa1] ++ ([pv1])) 134, .osl (pv1) (x0).length 1 pcs1 prs1 5])
  (pg1 : RL S pcs1 x0) (pg2 : BA b0_ pa1) {r : Bs} (hF : zkR x0 = some r) :
  Calls Tryz.prog 146 #[.pointer (some ⟨b0_, 0, none⟩)] w fun e w' => ∃ (S2 : Mem) (pv2 : Value) (pcs2 prs2 : LV) (pa2 : Value), e = .returned (.tuple #[]) ∧ HS ⟨S, zcA [.blk b0_ ([pa1] ++ ([pv1])) 134, .osl (pv1) (x0).length 1 pcs1 prs1 5], w⟩ S2 w' [.blk b0_ ([pa2] ++ ([pv2])) 134, .osl (pv2) (r).length 1 pcs2 prs2 5] ∧ RL S2 pcs2 r ∧ BA b0_ pa2 := by
 obtain rfl := osi hF
 obtain ⟨j, hj, hjs⟩ := Option.map_eq_some_iff.1 bi1
 have hblk : w.heap[b0_]? = some (.cells ([pa1] ++ ([pv1])).toArray 134 (0, 0)) := H.own 0 _ rfl
 have hsh : w.shape? (⟨b0_, 0, none⟩ : Addr).block = some (134, 2) := by simp [World.shape?, hblk]
 refine enter (n := 20) Tryz.func146 rfl rfl rfl ?_
 rcases pg2 with rfl | rfl
 ·refine wp_seq_k ?_; intro K1 hK1
  refine wp_region_lit ?_
  refine zeR (zpV (v := .pointer (some ⟨b0_, 0, none⟩)) rfl) ?_
  refine zeR (znH rfl) ?_
  refine zeR (zoI bf0 rfl) ?_
  refine zeR (zqM (v := .pointer none) bto H rfl (k := 0) rfl rfl) ?_
  refine zeR (xeB bu1 rfl rfl) ?_
  refine wpList_nil ?_
  refine zqT ?_; refine hK1 _ _ ?_
  refine c_true rfl rfl ?_
  refine wp_region_lit ?_
  refine zeR (zpV (v := .pointer (some ⟨b0_, 0, none⟩)) rfl) ?_
  refine zeR (zpV (v := .pointer (some ⟨b0_, 0, none⟩)) rfl) ?_
  refine zeR (c := .pointer (some ⟨b0_, 0, none⟩)) (by
   have h := Lib.run_to_unsafe (P := Tryz.prog) w ⟨b0_, 0, none⟩ bu1 bu2 hj (by rw [hjs]; decide) hsh (Nat.zero_lt_succ 1)
   simp only [execOp]
   exact (by rw [Sem.run_bind]; erw [h]; rfl)) ?_
  refine yzG (l := [.pointer (some ⟨b0_, 0, none⟩)]) rfl (bnoEsc _ _) ?_
  refine zeR (c := .pointer (some ⟨b0_, 0, none⟩)) (by
   have h := Lib.run_from_unsafe (P := Tryz.prog) w ⟨b0_, 0, none⟩ bu2 bu1 hj hsh bl1
   simp only [execOp]
   exact (by rw [Sem.run_bind]; erw [h]; rfl)) ?_
  refine zeR (znH rfl) ?_
  refine zeR (zoI bf0 rfl) ?_
  refine xdN (ydS (k := 0) (v := .pointer (some ⟨b0_, 0, none⟩)) (l := [.pointer (some ⟨b0_, 0, none⟩)]) btz H rfl rfl rfl (cells_one rfl) rfl (fun u hu => List.all_eq_true.1 (rfl : ([Value.pointer (some ⟨b0_, 0, none⟩)]).all (·.oneCell') = true) u hu) rfl) ?_; clear H; intro w2 H
  refine wpList_nil ?_
  refine e_00 rfl ?_
  exact ⟨S, pv1, pcs1, prs1, .pointer (some ⟨b0_, 0, none⟩), rfl, H, pg1, .inr rfl⟩
 ·refine wp_seq_k ?_; intro K1 hK1
  refine wp_region_lit ?_
  refine zeR (zpV (v := .pointer (some ⟨b0_, 0, none⟩)) rfl) ?_
  refine zeR (znH rfl) ?_
  refine zeR (zoI bf0 rfl) ?_
  refine zeR (zqM (v := .pointer (some ⟨b0_, 0, none⟩)) bto H rfl (k := 0) rfl rfl) ?_
  refine zeR (xfK bu1 rfl rfl) ?_
  refine wpList_nil ?_
  refine zqT ?_; refine hK1 _ _ ?_
  refine ysF rfl rfl ?_
  refine wp_seq_k ?_; intro K2 hK2
  refine wp_region_lit ?_
  refine zeR (zpV (v := .pointer (some ⟨b0_, 0, none⟩)) rfl) ?_
  refine zeR (znH rfl) ?_
  refine zeR (zoI bf0 rfl) ?_
  refine zeR (zqM (v := .pointer (some ⟨b0_, 0, none⟩)) bto H rfl (k := 0) rfl rfl) ?_
  refine zeR (zpV (v := .pointer (some ⟨b0_, 0, none⟩)) rfl) ?_
  refine zeR (xeV bu1 hj rfl rfl) ?_
  refine wpList_nil ?_
  refine zqT ?_; refine hK2 _ _ ?_
  refine ysF rfl rfl ?_
  refine wp_skip ?_
  refine e_00 rfl ?_
  exact ⟨S, pv1, pcs1, prs1, .pointer (some ⟨b0_, 0, none⟩), rfl, H, pg1, .inr rfl⟩
theorem bus : Tryz.prog.underlying 132 = some (.slice 5) := by kernel_rfl
theorem bup : Tryz.prog.underlying 162 = some (.pointer 5) := by kernel_rfl
theorem buc : Tryz.prog.cellsOf 5 = 1 := by kernel_rfl
section
variable {P : Program} {w : World} {e : Operand → Value} {dst : Option Tmp} {g : Option (Nat × Bool)} {ty : TypeId} {pos : String} {aft : Array Edge} {x y : Operand} {T T1 : TypeId}
theorem xbT {r : Value} {v : Value} {w' : World} (hx : e x = v) (h : (Builtin.unsafeSliceData_ #[T] ty #[v]).run P w = .ok r w') : (execOp e ⟨dst, .call ⟨.builtin .unsafeSliceData, #[x], #[T]⟩, ty, pos, aft, g⟩).run P w = .ok (.value r) w' := by
 simp [execOp, resolve, invoke, builtin, hx, h]
theorem ywW {r : Value} {v u : Value} {w' : World} (hx : e x = v) (hy : e y = u) (h : (Builtin.unsafeString_ #[T, T1] ty #[v, u]).run P w = .ok r w') : (execOp e ⟨dst, .call ⟨.builtin .unsafeString, #[x, y], #[T, T1]⟩, ty, pos, aft, g⟩).run P w = .ok (.value r) w' := by
 simp [execOp, resolve, invoke, builtin, hx, hy, h]
theorem yyR : ∀ {L : List Res} {k : Nat} {x : Res}, rmR (stR L k x) k = rmR L k
 | [], _, _ => rfl
 | _ :: _, 0, _ => rfl
 | y :: l, k + 1, x => by simp only [stR, rmR, yyR (L := l) (k := k)]
end
theorem zyB {B : Bas} {S : Mem} {w : World} {L : List Res} {k1 k2 b : Nat} {a v : Value} {cs rs : LV} {xs : Bs} (H : HS B S w L) (h1 : lkR L k1 = some (.blk b ([a] ++ ([v])) 134)) (h2 : lkR L k2 = some (.osl v xs.length 1 cs rs 5)) (h0 : RL S cs xs) (hl : xs.length ≤ 9223372036854775807) :
  Calls Tryz.prog 100 #[.pointer (some ⟨b, 0, none⟩)] w fun e w' => e = .returned (str xs) ∧ HS B S w' (rmR L k2) := by
 have hown := H.own k2 _ h2
 refine enter (n := 14) Tryz.func100 rfl rfl rfl ?_
 rcases hown with ⟨rfl, hn, hcs, hrs⟩ | ⟨gb, c, fz, rfl, hnc, hlen, hcap, hblk, hfz⟩
 ·obtain rfl : xs = [] := List.eq_nil_of_length_eq_zero hn
  refine wp_seq_k ?_; intro K1 hK1
  refine wp_region_lit ?_
  refine zeR (zpD (v := str ([] : Bs)) rfl) ?_
  refine wpList_nil ?_
  refine zqT ?_; refine hK1 _ _ ?_
  refine wp_seq_k ?_; intro K2 hK2
  apply zrW 10 (kinds []) rfl rfl (by kernel_rfl); intro vs
  simp only [tkS, tkZ, drS, drZ]
  replace H := H.drew
  refine zlM (fun w hx => zpV (v := .pointer (some ⟨b, 0, none⟩)) rfl) rfl rfl ?_
  refine zlM (fun w hx => znH rfl) rfl rfl ?_
  refine zlM (fun w hx => zoI bf1 rfl) rfl rfl ?_
  refine zlM (fun w hx => zqM (v := .slice none 0 0) bto2 (H.ext hx) rfl h1 rfl) rfl rfl ?_
  refine zlM (fun w hx => xbT (r := .pointer none) rfl (Lib.run_unsafeSliceData_nil _ _ _ _ _)) rfl rfl ?_
  refine zlM (fun w hx => zpV (v := .pointer (some ⟨b, 0, none⟩)) rfl) rfl rfl ?_
  refine zlM (fun w hx => znH rfl) rfl rfl ?_
  refine zlM (fun w hx => zoI bf1 rfl) rfl rfl ?_
  refine zlM (fun w hx => zqM (v := .slice none 0 0) bto2 (H.ext hx) rfl h1 rfl) rfl rfl ?_
  refine zlM (fun w hx => yoA bus rfl (H.ext hx) h2 rfl) rfl rfl ?_
  refine xbW (fun w2 hx hF hA => ?_)
  replace H := H.ext hx; clear hx hF hA
  refine zeR (c := str ([] : Bs)) (ywW rfl rfl (Lib.run_unsafeString_none _ _ _ _ _)) ?_
  replace H := H.rm k2
  refine zeR (zpD (v := str ([] : Bs)) rfl) ?_
  refine wpList_nil ?_; refine yeF ?_
  refine zqT ?_; refine hK2 _ _ ?_
  refine wp_ret ?_
  refine e_1 rfl (yiD (v := str ([] : Bs)) rfl) ?_
  exact ⟨rfl, H⟩
 ·by_cases hc : c = 0
  ·subst hc
   obtain rfl : xs = [] := List.eq_nil_of_length_eq_zero (by omega)
   refine wp_seq_k ?_; intro K1 hK1
   refine wp_region_lit ?_
   refine zeR (zpD (v := str ([] : Bs)) rfl) ?_
   refine wpList_nil ?_
   refine zqT ?_; refine hK1 _ _ ?_
   refine wp_seq_k ?_; intro K2 hK2
   apply zrW 10 (kinds [(4, .inr (fun v _ => ∃ a, v = .pointer (some a)))]) rfl rfl (by kernel_rfl); intro vs
   simp only [tkS, tkZ, drS, drZ]
   replace H := H.drew
   refine zlM (fun w hx => zpV (v := .pointer (some ⟨b, 0, none⟩)) rfl) rfl rfl ?_
   refine zlM (fun w hx => znH rfl) rfl rfl ?_
   refine zlM (fun w hx => zoI bf1 rfl) rfl rfl ?_
   refine zlM (fun w hx => zqM (v := sl gb 0 0 0) bto2 (H.ext hx) rfl h1 rfl) rfl rfl ?_
   refine yzO (φ := fun v _ => ∃ a, v = .pointer (some a)) rfl rfl (fun _ _ _ h _ => h) rfl (fun h => by cases h) (fun w hx hF R hR => by
    have hsh : w.shape? (⟨gb, 0, none⟩ : Addr).block = some (5, (cs ++ rs).toArray.size) := by
     have hb2 : w.heap[gb]? = some (.cells (cs ++ rs).toArray 5 fz) := by rw [hx.block gb (lt_of_heap hblk)]; exact hblk
     simp [World.shape?, hb2]
    have hrun := Lib.run_unsafeSliceData_zero (P := Tryz.prog) w #[132] 162 5 bup ⟨gb, 0, none⟩ 0 _ hsh
    rw [zlY, xbT rfl hrun, ydP]
    exact hR (.pointer (some ⟨w.heap.size, 0, none⟩)) (w.alloc (.view ⟨gb, 0, none⟩ 5)) (Ext.alloc w _) ⟨_, rfl⟩ (fun h => by cases h)) ?_
   rw [zzV]
   refine zlM (fun w hx => zpV (v := .pointer (some ⟨b, 0, none⟩)) rfl) rfl rfl ?_
   refine zlM (fun w hx => znH rfl) rfl rfl ?_
   refine zlM (fun w hx => zoI bf1 rfl) rfl rfl ?_
   refine zlM (fun w hx => zqM (v := sl gb 0 0 0) bto2 (H.ext hx) rfl h1 rfl) rfl rfl ?_
   refine zlM (fun w hx => yoA bus rfl (H.ext hx) h2 rfl) rfl rfl ?_
   refine xbW (fun w2 hx hF hA => ?_)
   obtain ⟨ad, had⟩ := yvA hF 4 rfl rfl
   replace H := H.ext hx; clear hx hF hA
   refine zeR (c := str ([] : Bs)) (ywW (by exact had) rfl (Lib.run_unsafeString_none _ _ _ _ _)) ?_
   replace H := H.rm k2
   refine zeR (zpD (v := str ([] : Bs)) rfl) ?_
   refine wpList_nil ?_; refine yeF ?_
   refine zqT ?_; refine hK2 _ _ ?_
   refine wp_ret ?_
   refine e_1 rfl (yiD (v := str ([] : Bs)) rfl) ?_
   exact ⟨rfl, H⟩
  ·skip
   refine wp_seq_k ?_; intro K1 hK1
   refine wp_region_lit ?_
   refine zeR (zpD (v := str ([] : Bs)) rfl) ?_
   refine wpList_nil ?_
   refine zqT ?_; refine hK1 _ _ ?_
   refine wp_seq_k ?_; intro K2 hK2
   apply zrW 10 (kinds []) rfl rfl (by kernel_rfl); intro vs
   simp only [tkS, tkZ, drS, drZ]
   replace H := H.drew
   refine zlM (fun w hx => zpV (v := .pointer (some ⟨b, 0, none⟩)) rfl) rfl rfl ?_
   refine zlM (fun w hx => znH rfl) rfl rfl ?_
   refine zlM (fun w hx => zoI bf1 rfl) rfl rfl ?_
   refine zlM (fun w hx => zqM (v := sl gb 0 xs.length c) bto2 (H.ext hx) rfl h1 rfl) rfl rfl ?_
   refine zlM (fun w hx => xbT (r := .pointer (some ⟨gb, 0, none⟩)) rfl (Lib.run_unsafeSliceData_row _ _ _ _ _ _ hc)) rfl rfl ?_
   refine zlM (fun w hx => zpV (v := .pointer (some ⟨b, 0, none⟩)) rfl) rfl rfl ?_
   refine zlM (fun w hx => znH rfl) rfl rfl ?_
   refine zlM (fun w hx => zoI bf1 rfl) rfl rfl ?_
   refine zlM (fun w hx => zqM (v := sl gb 0 xs.length c) bto2 (H.ext hx) rfl h1 rfl) rfl rfl ?_
   refine zlM (fun w hx => yoA bus rfl (H.ext hx) h2 rfl) rfl rfl ?_
   refine xbW (fun w2 hx hF hA => ?_)
   have hb2 : w2.heap[gb]? = some (.cells (cs ++ rs).toArray 5 fz) := by rw [hx.block gb (lt_of_heap hblk)]; exact hblk
   replace H := H.ext hx; clear hx hF hA
   refine p_ofc (c := str xs) (φ := fun w' => HS B S w' (rmR L k2)) ?_ ?_
   ·by_cases hx0 : xs = []
    ·subst hx0
     exact ⟨w2, ywW rfl rfl (Lib.run_unsafeString_none _ _ _ _ _), H.rm k2⟩
    ·have hsh : w2.shape? gb = some (5, (cs ++ rs).toArray.size) := by simp [World.shape?, hb2]
     have hcs := RL.is_u8s h0
     have hxl : xs.length ≤ (cs ++ rs).length := by rw [List.length_append, hlen]; omega
     have hrun := Lib.run_unsafeString_row (P := Tryz.prog) w2 162 3 9 5 bup buc gb _ hsh xs hx0 (by simpa using hxl) hl (fun j x hj => by
      rw [zeD, zgR hb2, Nat.zero_add, List.getElem?_append_left (by have := (List.getElem?_eq_some_iff.1 hj).1; omega), hcs]
      exact xcC hj)
     refine ⟨_, ywW rfl rfl hrun, ?_⟩
     have H2 := H.upd (w' := w2.freeze ⟨gb, 0, none⟩ xs.length) (r' := .osl (.slice none 0 0) 0 1 [] [] 5) h2 (by unfold World.freeze; split <;> simp) (by unfold World.freeze; split <;> rfl) (by unfold World.freeze; split <;> rfl) (by unfold World.freeze; split <;> rfl) (fun i hi hne => by
      have hig : gb ≠ i := fun e => hne (by rw [e]; rfl)
      unfold World.freeze; split
      ·rfl
      ·simp [Array.getElem?_modify, hig]) (.inl ⟨rfl, rfl, rfl, rfl⟩) (fun b hb => by cases hb)
     have H3 := H2.rm k2
     rw [yyR] at H3
     exact H3
   clear H; intro w3 H
   refine zeR (zpD (v := str xs) rfl) ?_
   refine wpList_nil ?_; refine yeF ?_
   refine zqT ?_; refine hK2 _ _ ?_
   refine wp_ret ?_
   refine e_1 rfl (yiD (v := str xs) rfl) ?_
   exact ⟨rfl, H⟩
end
end Go.Proofs.YtebbcofojchkpaaGreatDoor
namespace Go.Proofs
open Go.Shelf
def Tryz.lays160_ren : Go.Shelf.Ren := ⟨fun | 160 => 82 | 232 => 131 | 231 => 130 | 227 => 132 | 234 => 134 | 233 => 133 | 236 => 136 | 235 => 135 | 228 => 158 | 271 => 161 | 151 => 160 | 197 => 159 | 120 => 193 | 152 => 192 | 260 => 191 | 137 => 210 | 119 => 211 | 224 => 189 | 225 => 188 | 217 => 187 | 266 => 208 | n => n, fun | 9 => 9 | 4 => 4 | 3 => 3 | 5 => 5 | 117 => 153 | 116 => 152 | 0 => 0 | 124 => 156 | 21 => 21 | 105 => 177 | 46 => 137 | 119 => 222 | 139 => 225 | 138 => 224 | n => n, fun | 3 => 4 | 4 => 5 | n => n⟩
theorem Tryz.lays160 : Go.Proofs.Lays.n160 Tryz.prog Tryz.lays160_ren := {
  mixed := by kernel_rfl
  f119 := Tryz.func211.trans (congrArg some (by kernel_rfl))
  f120 := Tryz.func193.trans (congrArg some (by kernel_rfl))
  f137 := Tryz.func210.trans (congrArg some (by kernel_rfl))
  f151 := Tryz.func160.trans (congrArg some (by kernel_rfl))
  f152 := Tryz.func192.trans (congrArg some (by kernel_rfl))
  f160 := Tryz.func82.trans (congrArg some (by kernel_rfl))
  f197 := Tryz.func159.trans (congrArg some (by kernel_rfl))
  f217 := Tryz.func187.trans (congrArg some (by kernel_rfl))
  f224 := Tryz.func189.trans (congrArg some (by kernel_rfl))
  f225 := Tryz.func188.trans (congrArg some (by kernel_rfl))
  f227 := Tryz.func132.trans (congrArg some (by kernel_rfl))
  f228 := Tryz.func158.trans (congrArg some (by kernel_rfl))
  f231 := Tryz.func130.trans (congrArg some (by kernel_rfl))
  f232 := Tryz.func131.trans (congrArg some (by kernel_rfl))
  f233 := Tryz.func133.trans (congrArg some (by kernel_rfl))
  f234 := Tryz.func134.trans (congrArg some (by kernel_rfl))
  f235 := Tryz.func135.trans (congrArg some (by kernel_rfl))
  f236 := Tryz.func136.trans (congrArg some (by kernel_rfl))
  f260 := Tryz.func191.trans (congrArg some (by kernel_rfl))
  f266 := Tryz.func208.trans (congrArg some (by kernel_rfl))
  f271 := Tryz.func161.trans (congrArg some (by kernel_rfl))
  t0 := Tryz.underlying0
  a0 := Tryz.isAgg0
  z0 := Tryz.sizeOf0
  v0 := Tryz.zeroValue0
  t3 := Tryz.underlying3
  a3 := Tryz.isAgg3
  z3 := Tryz.sizeOf3
  v3 := Tryz.zeroValue3
  t4 := Tryz.underlying4
  a4 := Tryz.isAgg4
  z4 := Tryz.sizeOf4
  v4 := Tryz.zeroValue4
  t5 := Tryz.underlying5
  a5 := Tryz.isAgg5
  z5 := Tryz.sizeOf5
  v5 := Tryz.zeroValue5
  t9 := Tryz.underlying9
  a9 := Tryz.isAgg9
  z9 := Tryz.sizeOf9
  v9 := Tryz.zeroValue9
  t21 := Tryz.underlying21
  a21 := Tryz.isAgg21
  z21 := Tryz.sizeOf21
  v21 := Tryz.zeroValue21
  t46 := Tryz.underlying137
  a46 := Tryz.isAgg137
  z46 := Tryz.sizeOf137
  v46 := Tryz.zeroValue137
  t105 := Tryz.underlying177
  a105 := Tryz.isAgg177
  z105 := Tryz.sizeOf177
  v105 := Tryz.zeroValue177
  t116 := Tryz.underlying152
  a116 := Tryz.isAgg152
  z116 := Tryz.sizeOf152
  t117 := Tryz.underlying153
  a117 := Tryz.isAgg153
  z117 := Tryz.sizeOf153
  v117 := Tryz.zeroValue153
  t119 := Tryz.underlying222
  a119 := Tryz.isAgg222
  z119 := Tryz.sizeOf222
  t124 := Tryz.underlying156
  a124 := Tryz.isAgg156
  z124 := Tryz.sizeOf156
  v124 := Tryz.zeroValue156
  t138 := Tryz.underlying224
  a138 := Tryz.isAgg224
  z138 := Tryz.sizeOf224
  v138 := Tryz.zeroValue224
  t139 := Tryz.underlying225
  a139 := Tryz.isAgg225
  z139 := Tryz.sizeOf225
  v139 := Tryz.zeroValue225
  g3 := by kernel_rfl
  g4 := by kernel_rfl }
def Tryz.laysM171_ren : Go.Shelf.Ren := ⟨fun | 171 => 46 | 243 => 101 | 246 => 147 | 283 => 181 | 284 => 182 | 285 => 183 | 286 => 184 | 129 => 179 | 317 => 203 | 318 => 204 | 319 => 205 | 320 => 206 | 337 => 215 | 338 => 216 | n => n, fun | 3 => 3 | 9 => 9 | 2 => 2 | 4 => 4 | 171 => 197 | 0 => 0 | 53 => 167 | 37 => 132 | 5 => 5 | 173 => 199 | 212 => 218 | 51 => 164 | 20 => 20 | 213 => 219 | 46 => 137 | 232 => 233 | 233 => 234 | n => n, fun | 17 => 3 | 18 => 6 | 19 => 7 | n => n⟩
theorem Tryz.laysM171 : Go.Proofs.LaysM.n171 Tryz.prog Tryz.laysM171_ren := {
  mixed := by kernel_rfl
  f129 := Tryz.func179.trans (congrArg some (by kernel_rfl))
  f171 := Tryz.func46.trans (congrArg some (by kernel_rfl))
  f243 := Tryz.func101.trans (congrArg some (by kernel_rfl))
  f246 := Tryz.func147.trans (congrArg some (by kernel_rfl))
  f283 := Tryz.func181.trans (congrArg some (by kernel_rfl))
  f284 := Tryz.func182.trans (congrArg some (by kernel_rfl))
  f285 := Tryz.func183.trans (congrArg some (by kernel_rfl))
  f286 := Tryz.func184.trans (congrArg some (by kernel_rfl))
  f317 := Tryz.func203.trans (congrArg some (by kernel_rfl))
  f318 := Tryz.func204.trans (congrArg some (by kernel_rfl))
  f319 := Tryz.func205.trans (congrArg some (by kernel_rfl))
  f320 := Tryz.func206.trans (congrArg some (by kernel_rfl))
  f337 := Tryz.func215.trans (congrArg some (by kernel_rfl))
  f338 := Tryz.func216.trans (congrArg some (by kernel_rfl))
  t0 := Tryz.underlying0
  a0 := Tryz.isAgg0
  z0 := Tryz.sizeOf0
  v0 := Tryz.zeroValue0
  t2 := Tryz.underlying2
  a2 := Tryz.isAgg2
  z2 := Tryz.sizeOf2
  v2 := Tryz.zeroValue2
  t3 := Tryz.underlying3
  a3 := Tryz.isAgg3
  z3 := Tryz.sizeOf3
  v3 := Tryz.zeroValue3
  t4 := Tryz.underlying4
  a4 := Tryz.isAgg4
  z4 := Tryz.sizeOf4
  v4 := Tryz.zeroValue4
  t5 := Tryz.underlying5
  a5 := Tryz.isAgg5
  z5 := Tryz.sizeOf5
  v5 := Tryz.zeroValue5
  t9 := Tryz.underlying9
  a9 := Tryz.isAgg9
  z9 := Tryz.sizeOf9
  v9 := Tryz.zeroValue9
  t20 := Tryz.underlying20
  a20 := Tryz.isAgg20
  z20 := Tryz.sizeOf20
  v20 := Tryz.zeroValue20
  t37 := Tryz.underlying132
  a37 := Tryz.isAgg132
  z37 := Tryz.sizeOf132
  v37 := Tryz.zeroValue132
  t46 := Tryz.underlying137
  a46 := Tryz.isAgg137
  z46 := Tryz.sizeOf137
  v46 := Tryz.zeroValue137
  t51 := Tryz.underlying164
  a51 := Tryz.isAgg164
  z51 := Tryz.sizeOf164
  v51 := Tryz.zeroValue164
  t53 := Tryz.underlying167
  a53 := Tryz.isAgg167
  z53 := Tryz.sizeOf167
  v53 := Tryz.zeroValue167
  t171 := Tryz.underlying197
  a171 := Tryz.isAgg197
  z171 := Tryz.sizeOf197
  v171 := Tryz.zeroValue197
  t173 := Tryz.underlying199
  a173 := Tryz.isAgg199
  z173 := Tryz.sizeOf199
  v173 := Tryz.zeroValue199
  t212 := Tryz.underlying218
  a212 := Tryz.isAgg218
  z212 := Tryz.sizeOf218
  v212 := Tryz.zeroValue218
  t213 := Tryz.underlying219
  a213 := Tryz.isAgg219
  z213 := Tryz.sizeOf219
  t232 := Tryz.underlying233
  a232 := Tryz.isAgg233
  z232 := Tryz.sizeOf233
  v232 := Tryz.zeroValue233
  t233 := Tryz.underlying234
  a233 := Tryz.isAgg234
  z233 := Tryz.sizeOf234
  v233 := Tryz.zeroValue234
  g17 := by kernel_rfl
  g18 := by kernel_rfl
  g19 := by kernel_rfl
  i0 := by kernel_rfl
  i2 := by kernel_rfl
  i3 := by kernel_rfl
  i4 := by kernel_rfl
  i5 := by kernel_rfl
  i9 := by kernel_rfl
  i20 := by kernel_rfl
  i37 := by kernel_rfl
  i46 := by kernel_rfl
  i51 := by kernel_rfl
  i53 := by kernel_rfl
  i171 := by kernel_rfl
  i173 := by kernel_rfl
  i212 := by kernel_rfl
  i232 := by kernel_rfl
  i233 := by kernel_rfl
  m17 := by kernel_rfl
  m18 := by kernel_rfl
  m19 := by kernel_rfl }
open Go.RowKit Go.Sort Go.Lib in
theorem Tryz.strconv_Itoa (n : Int) (h0 : -9223372036854775808 ≤ n) (h1 : n ≤ 9223372036854775807) (w : World) (htab : Lib.TabIs Tryz.prog w "internal/strconv.uint64pow10" .u64 Lib.pow10Tab) :
  Calls Tryz.prog 46 #[.int .i64 n] w fun e w' => e = .returned (.string ⟨(Lib.itoa n).toArray⟩) ∧ ∃ k os, w' = grow (w.drewN k) os := Any.strconv_Itoa Tryz.laysM171 n h0 h1 w htab
def Tryz.laysC172_ren : Go.Shelf.Ren := ⟨fun | 172 => 83 | 244 => 137 | 245 => 138 | 247 => 162 | 279 => 163 | 280 => 164 | 281 => 165 | 282 => 166 | 287 => 194 | 316 => 195 | 171 => 46 | 205 => 196 | 321 => 212 | 322 => 213 | 243 => 101 | 246 => 147 | 283 => 181 | 284 => 182 | 285 => 183 | 286 => 184 | 129 => 179 | 317 => 203 | 318 => 204 | 319 => 205 | 320 => 206 | 337 => 215 | 338 => 216 | n => n, fun | 9 => 9 | 3 => 3 | 75 => 120 | 76 => 121 | 4 => 4 | 5 => 5 | 167 => 180 | 37 => 132 | 0 => 0 | 85 => 181 | 2 => 2 | 168 => 183 | 53 => 167 | 175 => 205 | 46 => 137 | 210 => 209 | 127 => 162 | 145 => 229 | 143 => 227 | 21 => 21 | 171 => 197 | 173 => 199 | 212 => 218 | 51 => 164 | 20 => 20 | 213 => 219 | 232 => 233 | 233 => 234 | 80 => 127 | n => n, fun | 15 => 1 | 16 => 2 | 17 => 3 | 18 => 6 | 19 => 7 | n => n⟩
theorem Tryz.laysC172 : Go.Proofs.LaysC.n172 Tryz.prog Tryz.laysC172_ren := {
  mixed := by kernel_rfl
  f129 := Tryz.func179.trans (congrArg some (by kernel_rfl))
  f171 := Tryz.func46.trans (congrArg some (by kernel_rfl))
  f172 := Tryz.func83.trans (congrArg some (by kernel_rfl))
  f205 := Tryz.func196.trans (congrArg some (by kernel_rfl))
  f243 := Tryz.func101.trans (congrArg some (by kernel_rfl))
  f244 := Tryz.func137.trans (congrArg some (by kernel_rfl))
  f245 := Tryz.func138.trans (congrArg some (by kernel_rfl))
  f246 := Tryz.func147.trans (congrArg some (by kernel_rfl))
  f247 := Tryz.func162.trans (congrArg some (by kernel_rfl))
  f279 := Tryz.func163.trans (congrArg some (by kernel_rfl))
  f280 := Tryz.func164.trans (congrArg some (by kernel_rfl))
  f281 := Tryz.func165.trans (congrArg some (by kernel_rfl))
  f282 := Tryz.func166.trans (congrArg some (by kernel_rfl))
  f283 := Tryz.func181.trans (congrArg some (by kernel_rfl))
  f284 := Tryz.func182.trans (congrArg some (by kernel_rfl))
  f285 := Tryz.func183.trans (congrArg some (by kernel_rfl))
  f286 := Tryz.func184.trans (congrArg some (by kernel_rfl))
  f287 := Tryz.func194.trans (congrArg some (by kernel_rfl))
  f316 := Tryz.func195.trans (congrArg some (by kernel_rfl))
  f317 := Tryz.func203.trans (congrArg some (by kernel_rfl))
  f318 := Tryz.func204.trans (congrArg some (by kernel_rfl))
  f319 := Tryz.func205.trans (congrArg some (by kernel_rfl))
  f320 := Tryz.func206.trans (congrArg some (by kernel_rfl))
  f321 := Tryz.func212.trans (congrArg some (by kernel_rfl))
  f322 := Tryz.func213.trans (congrArg some (by kernel_rfl))
  f337 := Tryz.func215.trans (congrArg some (by kernel_rfl))
  f338 := Tryz.func216.trans (congrArg some (by kernel_rfl))
  t0 := Tryz.underlying0
  a0 := Tryz.isAgg0
  z0 := Tryz.sizeOf0
  v0 := Tryz.zeroValue0
  t2 := Tryz.underlying2
  a2 := Tryz.isAgg2
  z2 := Tryz.sizeOf2
  v2 := Tryz.zeroValue2
  t3 := Tryz.underlying3
  a3 := Tryz.isAgg3
  z3 := Tryz.sizeOf3
  v3 := Tryz.zeroValue3
  t4 := Tryz.underlying4
  a4 := Tryz.isAgg4
  z4 := Tryz.sizeOf4
  v4 := Tryz.zeroValue4
  t5 := Tryz.underlying5
  a5 := Tryz.isAgg5
  z5 := Tryz.sizeOf5
  v5 := Tryz.zeroValue5
  t9 := Tryz.underlying9
  a9 := Tryz.isAgg9
  z9 := Tryz.sizeOf9
  v9 := Tryz.zeroValue9
  t20 := Tryz.underlying20
  a20 := Tryz.isAgg20
  z20 := Tryz.sizeOf20
  v20 := Tryz.zeroValue20
  t21 := Tryz.underlying21
  a21 := Tryz.isAgg21
  z21 := Tryz.sizeOf21
  v21 := Tryz.zeroValue21
  t37 := Tryz.underlying132
  a37 := Tryz.isAgg132
  z37 := Tryz.sizeOf132
  v37 := Tryz.zeroValue132
  t46 := Tryz.underlying137
  a46 := Tryz.isAgg137
  z46 := Tryz.sizeOf137
  v46 := Tryz.zeroValue137
  t51 := Tryz.underlying164
  a51 := Tryz.isAgg164
  z51 := Tryz.sizeOf164
  v51 := Tryz.zeroValue164
  t53 := Tryz.underlying167
  a53 := Tryz.isAgg167
  z53 := Tryz.sizeOf167
  v53 := Tryz.zeroValue167
  t75 := Tryz.underlying120
  a75 := Tryz.isAgg120
  z75 := Tryz.sizeOf120
  v75 := Tryz.zeroValue120
  t76 := Tryz.underlying121
  a76 := Tryz.isAgg121
  z76 := Tryz.sizeOf121
  v76 := Tryz.zeroValue121
  t85 := Tryz.underlying181
  a85 := Tryz.isAgg181
  z85 := Tryz.sizeOf181
  v85 := Tryz.zeroValue181
  t127 := Tryz.underlying162
  a127 := Tryz.isAgg162
  z127 := Tryz.sizeOf162
  v127 := Tryz.zeroValue162
  t143 := Tryz.underlying227
  a143 := Tryz.isAgg227
  z143 := Tryz.sizeOf227
  v143 := Tryz.zeroValue227
  t145 := Tryz.underlying229
  a145 := Tryz.isAgg229
  z145 := Tryz.sizeOf229
  v145 := Tryz.zeroValue229
  t167 := Tryz.underlying180
  a167 := Tryz.isAgg180
  z167 := Tryz.sizeOf180
  v167 := Tryz.zeroValue180
  t168 := Tryz.underlying183
  a168 := Tryz.isAgg183
  z168 := Tryz.sizeOf183
  v168 := Tryz.zeroValue183
  t171 := Tryz.underlying197
  a171 := Tryz.isAgg197
  z171 := Tryz.sizeOf197
  v171 := Tryz.zeroValue197
  t173 := Tryz.underlying199
  a173 := Tryz.isAgg199
  z173 := Tryz.sizeOf199
  v173 := Tryz.zeroValue199
  t175 := Tryz.underlying205
  a175 := Tryz.isAgg205
  z175 := Tryz.sizeOf205
  v175 := Tryz.zeroValue205
  t210 := Tryz.underlying209
  a210 := Tryz.isAgg209
  z210 := Tryz.sizeOf209
  v210 := Tryz.zeroValue209
  t212 := Tryz.underlying218
  a212 := Tryz.isAgg218
  z212 := Tryz.sizeOf218
  v212 := Tryz.zeroValue218
  t213 := Tryz.underlying219
  a213 := Tryz.isAgg219
  z213 := Tryz.sizeOf219
  t232 := Tryz.underlying233
  a232 := Tryz.isAgg233
  z232 := Tryz.sizeOf233
  v232 := Tryz.zeroValue233
  t233 := Tryz.underlying234
  a233 := Tryz.isAgg234
  z233 := Tryz.sizeOf234
  v233 := Tryz.zeroValue234
  g15 := by kernel_rfl
  g16 := by kernel_rfl
  g17 := by kernel_rfl
  g18 := by kernel_rfl
  g19 := by kernel_rfl
  t80 := Tryz.underlying127
  a80 := Tryz.isAgg127
  z80 := Tryz.sizeOf127
  v80 := Tryz.zeroValue127
  i0 := by kernel_rfl
  i2 := by kernel_rfl
  i3 := by kernel_rfl
  i4 := by kernel_rfl
  i5 := by kernel_rfl
  i9 := by kernel_rfl
  i20 := by kernel_rfl
  i21 := by kernel_rfl
  i37 := by kernel_rfl
  i46 := by kernel_rfl
  i51 := by kernel_rfl
  i53 := by kernel_rfl
  i75 := by kernel_rfl
  i76 := by kernel_rfl
  i80 := by kernel_rfl
  i85 := by kernel_rfl
  i127 := by kernel_rfl
  i143 := by kernel_rfl
  i145 := by kernel_rfl
  i167 := by kernel_rfl
  i168 := by kernel_rfl
  i171 := by kernel_rfl
  i173 := by kernel_rfl
  i175 := by kernel_rfl
  i210 := by kernel_rfl
  i212 := by kernel_rfl
  i232 := by kernel_rfl
  i233 := by kernel_rfl
  m15 := by kernel_rfl
  m16 := by kernel_rfl
  m17 := by kernel_rfl
  m18 := by kernel_rfl
  m19 := by kernel_rfl
  c0 := by kernel_rfl
  c2 := by kernel_rfl
  c3 := by kernel_rfl
  c4 := by kernel_rfl
  c5 := by kernel_rfl
  c9 := by kernel_rfl
  c20 := by kernel_rfl
  c21 := by kernel_rfl
  c37 := by kernel_rfl
  c46 := by kernel_rfl
  c51 := by kernel_rfl
  c53 := by kernel_rfl
  c75 := by kernel_rfl
  c76 := by kernel_rfl
  c80 := by kernel_rfl
  c85 := by kernel_rfl
  c127 := by kernel_rfl
  c143 := by kernel_rfl
  c145 := by kernel_rfl
  c167 := by kernel_rfl
  c168 := by kernel_rfl
  c171 := by kernel_rfl
  c173 := by kernel_rfl
  c175 := by kernel_rfl
  c210 := by kernel_rfl
  c212 := by kernel_rfl
  c213 := by kernel_rfl
  c232 := by kernel_rfl
  c233 := by kernel_rfl }
open Go.RowKit in
theorem Tryz.strconv_Atoi_ok (s : ByteArray) (hmax : s.size ≤ 9223372036854775806) (v : Int) (h : Lib.atoiAll s.data.toList = .ok v) (w : World) :
  Calls Tryz.prog 83 #[.string s] w fun e w' => e = .returned (.tuple #[.int .i64 v, .nilIface]) ∧ (w' = w ∨ ∃ t, w' = Lib.bytesWorld w 5 t) := Any.strconv_Atoi_ok Tryz.laysC172 s hmax v h w
def Tryz.lays145_ren : Go.Shelf.Ren := ⟨fun | 145 => 79 | 220 => 129 | 219 => 157 | 217 => 187 | 225 => 188 | 224 => 189 | 267 => 190 | 266 => 208 | 314 => 209 | n => n, fun | 9 => 9 | 4 => 4 | 59 => 116 | 3 => 3 | 5 => 5 | 46 => 137 | 146 => 165 | 51 => 164 | n => n, fun | 1 => 0 | n => n⟩
theorem Tryz.lays145 : Go.Proofs.Lays.n145 Tryz.prog Tryz.lays145_ren := {
  mixed := by kernel_rfl
  f145 := Tryz.func79.trans (congrArg some (by kernel_rfl))
  f217 := Tryz.func187.trans (congrArg some (by kernel_rfl))
  f219 := Tryz.func157.trans (congrArg some (by kernel_rfl))
  f220 := Tryz.func129.trans (congrArg some (by kernel_rfl))
  f224 := Tryz.func189.trans (congrArg some (by kernel_rfl))
  f225 := Tryz.func188.trans (congrArg some (by kernel_rfl))
  f266 := Tryz.func208.trans (congrArg some (by kernel_rfl))
  f267 := Tryz.func190.trans (congrArg some (by kernel_rfl))
  f314 := Tryz.func209.trans (congrArg some (by kernel_rfl))
  t3 := Tryz.underlying3
  a3 := Tryz.isAgg3
  z3 := Tryz.sizeOf3
  v3 := Tryz.zeroValue3
  t4 := Tryz.underlying4
  a4 := Tryz.isAgg4
  z4 := Tryz.sizeOf4
  v4 := Tryz.zeroValue4
  t5 := Tryz.underlying5
  a5 := Tryz.isAgg5
  z5 := Tryz.sizeOf5
  v5 := Tryz.zeroValue5
  t9 := Tryz.underlying9
  a9 := Tryz.isAgg9
  z9 := Tryz.sizeOf9
  v9 := Tryz.zeroValue9
  t46 := Tryz.underlying137
  a46 := Tryz.isAgg137
  z46 := Tryz.sizeOf137
  v46 := Tryz.zeroValue137
  t51 := Tryz.underlying164
  a51 := Tryz.isAgg164
  z51 := Tryz.sizeOf164
  v51 := Tryz.zeroValue164
  t59 := Tryz.underlying116
  a59 := Tryz.isAgg116
  z59 := Tryz.sizeOf116
  v59 := Tryz.zeroValue116
  t146 := Tryz.underlying165
  a146 := Tryz.isAgg165
  z146 := Tryz.sizeOf165
  v146 := Tryz.zeroValue165
  g1 := by kernel_rfl }
open Go.RowKit Go.Lib in
theorem Tryz.strings_Cut (s sep : ByteArray) (m : Int) (w : World) (hs : s.size < 4294967281) (hm : w.cell? ⟨0, 0, none⟩ = some (.int .i64 m)) :
  Calls Tryz.prog 79 #[.string s, .string sep] w fun e w' => e = .returned (.tuple #[.string ⟨(Lib.cut s.data.toList sep.data.toList).1.toArray⟩, .string ⟨(Lib.cut s.data.toList sep.data.toList).2.1.toArray⟩, .bool (Lib.cut s.data.toList sep.data.toList).2.2]) ∧ ∃ n, w' = w.drewN n := Any.strings_Cut Tryz.lays145 s sep m w hs hm
def Tryz.laysM219_ren : Go.Shelf.Ren := ⟨fun | 219 => 157 | 217 => 187 | 225 => 188 | 224 => 189 | 267 => 190 | 266 => 208 | 314 => 209 | n => n, fun | 9 => 9 | 3 => 3 | 4 => 4 | 5 => 5 | 46 => 137 | 146 => 165 | 51 => 164 | n => n, fun | 1 => 0 | n => n⟩
theorem Tryz.laysM219 : Go.Proofs.LaysM.n219 Tryz.prog Tryz.laysM219_ren := {
  mixed := by kernel_rfl
  f217 := Tryz.func187.trans (congrArg some (by kernel_rfl))
  f219 := Tryz.func157.trans (congrArg some (by kernel_rfl))
  f224 := Tryz.func189.trans (congrArg some (by kernel_rfl))
  f225 := Tryz.func188.trans (congrArg some (by kernel_rfl))
  f266 := Tryz.func208.trans (congrArg some (by kernel_rfl))
  f267 := Tryz.func190.trans (congrArg some (by kernel_rfl))
  f314 := Tryz.func209.trans (congrArg some (by kernel_rfl))
  t3 := Tryz.underlying3
  a3 := Tryz.isAgg3
  z3 := Tryz.sizeOf3
  v3 := Tryz.zeroValue3
  t4 := Tryz.underlying4
  a4 := Tryz.isAgg4
  z4 := Tryz.sizeOf4
  v4 := Tryz.zeroValue4
  t5 := Tryz.underlying5
  a5 := Tryz.isAgg5
  z5 := Tryz.sizeOf5
  v5 := Tryz.zeroValue5
  t9 := Tryz.underlying9
  a9 := Tryz.isAgg9
  z9 := Tryz.sizeOf9
  v9 := Tryz.zeroValue9
  t46 := Tryz.underlying137
  a46 := Tryz.isAgg137
  z46 := Tryz.sizeOf137
  v46 := Tryz.zeroValue137
  t51 := Tryz.underlying164
  a51 := Tryz.isAgg164
  z51 := Tryz.sizeOf164
  v51 := Tryz.zeroValue164
  t146 := Tryz.underlying165
  a146 := Tryz.isAgg165
  z146 := Tryz.sizeOf165
  v146 := Tryz.zeroValue165
  g1 := by kernel_rfl
  i3 := by kernel_rfl
  i4 := by kernel_rfl
  i5 := by kernel_rfl
  i9 := by kernel_rfl
  i46 := by kernel_rfl
  i51 := by kernel_rfl
  i146 := by kernel_rfl
  m1 := by kernel_rfl
  s1_3 := fun w h => Go.Proofs.cell_of_shapedOpen_int (zero := #[.int .i64 0]) (t := 3) h (of_decide_eq_true (by kernel_rfl)) (by kernel_rfl) rfl (by kernel_rfl) (by kernel_rfl) Tryz.underlying3 }
def Tryz.lays105_ren : Go.Shelf.Ren := ⟨fun | 105 => 50 | 212 => 103 | 99 => 104 | 165 => 105 | 166 => 99 | 170 => 106 | 169 => 100 | 263 => 148 | 264 => 149 | 206 => 150 | 240 => 146 | 241 => 151 | 276 => 180 | 277 => 185 | n => n, fun | 9 => 9 | 3 => 3 | 4 => 4 | 20 => 20 | 0 => 0 | 46 => 137 | 109 => 138 | 5 => 5 | 72 => 134 | 76 => 121 | 51 => 164 | 146 => 165 | 53 => 167 | 148 => 168 | 70 => 131 | 37 => 132 | 75 => 120 | 127 => 162 | 164 => 195 | 80 => 127 | n => n, fun | n => n⟩
theorem Tryz.lays105 : Go.Proofs.Lays.n105 Tryz.prog Tryz.lays105_ren := {
  mixed := by kernel_rfl
  f99 := Tryz.func104.trans (congrArg some (by kernel_rfl))
  f105 := Tryz.func50.trans (congrArg some (by kernel_rfl))
  f165 := Tryz.func105.trans (congrArg some (by kernel_rfl))
  f166 := Tryz.func99.trans (congrArg some (by kernel_rfl))
  f169 := Tryz.func100.trans (congrArg some (by kernel_rfl))
  f170 := Tryz.func106.trans (congrArg some (by kernel_rfl))
  f206 := Tryz.func150.trans (congrArg some (by kernel_rfl))
  f212 := Tryz.func103.trans (congrArg some (by kernel_rfl))
  f240 := Tryz.func146.trans (congrArg some (by kernel_rfl))
  f241 := Tryz.func151.trans (congrArg some (by kernel_rfl))
  f263 := Tryz.func148.trans (congrArg some (by kernel_rfl))
  f264 := Tryz.func149.trans (congrArg some (by kernel_rfl))
  f276 := Tryz.func180.trans (congrArg some (by kernel_rfl))
  f277 := Tryz.func185.trans (congrArg some (by kernel_rfl))
  t0 := Tryz.underlying0
  a0 := Tryz.isAgg0
  z0 := Tryz.sizeOf0
  v0 := Tryz.zeroValue0
  t3 := Tryz.underlying3
  a3 := Tryz.isAgg3
  z3 := Tryz.sizeOf3
  v3 := Tryz.zeroValue3
  t4 := Tryz.underlying4
  a4 := Tryz.isAgg4
  z4 := Tryz.sizeOf4
  v4 := Tryz.zeroValue4
  t5 := Tryz.underlying5
  a5 := Tryz.isAgg5
  z5 := Tryz.sizeOf5
  v5 := Tryz.zeroValue5
  t9 := Tryz.underlying9
  a9 := Tryz.isAgg9
  z9 := Tryz.sizeOf9
  v9 := Tryz.zeroValue9
  t20 := Tryz.underlying20
  a20 := Tryz.isAgg20
  z20 := Tryz.sizeOf20
  v20 := Tryz.zeroValue20
  t37 := Tryz.underlying132
  a37 := Tryz.isAgg132
  z37 := Tryz.sizeOf132
  v37 := Tryz.zeroValue132
  t46 := Tryz.underlying137
  a46 := Tryz.isAgg137
  z46 := Tryz.sizeOf137
  v46 := Tryz.zeroValue137
  t51 := Tryz.underlying164
  a51 := Tryz.isAgg164
  z51 := Tryz.sizeOf164
  v51 := Tryz.zeroValue164
  t53 := Tryz.underlying167
  a53 := Tryz.isAgg167
  z53 := Tryz.sizeOf167
  v53 := Tryz.zeroValue167
  t70 := Tryz.underlying131
  a70 := Tryz.isAgg131
  z70 := Tryz.sizeOf131
  v70 := Tryz.zeroValue131
  t72 := Tryz.underlying134
  a72 := Tryz.isAgg134
  z72 := Tryz.sizeOf134
  v72 := Tryz.zeroValue134
  t75 := Tryz.underlying120
  a75 := Tryz.isAgg120
  z75 := Tryz.sizeOf120
  v75 := Tryz.zeroValue120
  t76 := Tryz.underlying121
  a76 := Tryz.isAgg121
  z76 := Tryz.sizeOf121
  v76 := Tryz.zeroValue121
  t109 := Tryz.underlying138
  a109 := Tryz.isAgg138
  z109 := Tryz.sizeOf138
  v109 := Tryz.zeroValue138
  t127 := Tryz.underlying162
  a127 := Tryz.isAgg162
  z127 := Tryz.sizeOf162
  v127 := Tryz.zeroValue162
  t146 := Tryz.underlying165
  a146 := Tryz.isAgg165
  z146 := Tryz.sizeOf165
  v146 := Tryz.zeroValue165
  t148 := Tryz.underlying168
  a148 := Tryz.isAgg168
  z148 := Tryz.sizeOf168
  v148 := Tryz.zeroValue168
  t164 := Tryz.underlying195
  a164 := Tryz.isAgg195
  z164 := Tryz.sizeOf195
  v164 := Tryz.zeroValue195 }
theorem Tryz.Builder_Extra_105 : Builder.Extra Tryz.prog Tryz.lays105_ren := {
  sizeBuilder := by kernel_rfl
  liesBuilder := by kernel_rfl
  t5 := Tryz.underlying5
  a5 := Tryz.isAgg5
  z5 := Tryz.sizeOf5
  v5 := Tryz.zeroValue5
  infoByte := by kernel_rfl
  cellsByte := by kernel_rfl
  sizeByte := by kernel_rfl
  neB5 := by decide }
open Go.RowKit Go.Lib in
theorem Tryz.strings_Repeat_main (s : ByteArray) (c : Nat) (w : World) (hc2 : 2 ≤ c) (hc : c ≤ 9223372036854775807) (hlen : s.size * c ≤ 140737488355328) (h0 : 0 < s.size) :
  Calls Tryz.prog 50 #[.string s, .int .i64 c] w fun e w' => e = .returned (.string ⟨(Lib.repeatL s.data.toList c).toArray⟩) ∧ Below w.heap.size w w' := Any.strings_Repeat_main Tryz.lays105 Tryz.Builder_Extra_105 s c w hc2 hc hlen h0
open Go.RowKit Go.Lib in
theorem Tryz.strings_Repeat_zero (s : ByteArray) (w : World) :
  Calls Tryz.prog 50 #[.string s, .int .i64 0] w fun e w' => e = .returned (.string ⟨#[]⟩) ∧ w' = w := Any.strings_Repeat_zero Tryz.lays105 s w
open Go.RowKit Go.Lib in
theorem Tryz.strings_Repeat_one (s : ByteArray) (w : World) :
  Calls Tryz.prog 50 #[.string s, .int .i64 1] w fun e w' => e = .returned (.string s) ∧ w' = w := Any.strings_Repeat_one Tryz.lays105 s w
open Go.RowKit Go.Lib in
theorem Tryz.strings_Repeat_empty (s : ByteArray) (c : Nat) (w : World) (hc2 : 2 ≤ c) (hc : c ≤ 9223372036854775807) (h0 : s.size = 0) :
  Calls Tryz.prog 50 #[.string s, .int .i64 c] w fun e w' => e = .returned (.string ⟨#[]⟩) ∧ w' = w := Any.strings_Repeat_empty Tryz.lays105 s c w hc2 hc h0
def Tryz.laysSlM5_f96_ren : Go.Shelf.Ren := ⟨fun | 5 => 96 | 8 => 145 | 7 => 144 | 19 => 178 | 20 => 179 | 10 => 169 | 11 => 170 | 12 => 171 | 13 => 172 | 14 => 173 | 15 => 174 | 16 => 175 | 17 => 176 | 18 => 177 | 30 => 197 | 31 => 198 | 32 => 199 | 33 => 200 | 34 => 201 | 35 => 202 | 40 => 214 | n => n, fun | 23 => 44 | 25 => 3 | 3 => 3 | 32 => 137 | 22 => 44 | 0 => 0 | 44 => 164 | 46 => 167 | 4 => 4 | 36 => 188 | 35 => 187 | 41 => 71 | 5 => 5 | 9 => 9 | 53 => 211 | 57 => 215 | 63 => 230 | 64 => 231 | n => n, fun | n => n⟩
theorem Tryz.laysSlM5_f96 : Go.Proofs.SlLaysM.n5 Tryz.prog Tryz.laysSlM5_f96_ren := {
  mixed := by kernel_rfl
  f5 := ⟨Tryz.f96.name, by decide, Tryz.func96.trans (congrArg some (by kernel_rfl))⟩
  f7 := ⟨Tryz.f144.name, by decide, Tryz.func144.trans (congrArg some (by kernel_rfl))⟩
  f8 := Tryz.func145.trans (congrArg some (by kernel_rfl))
  f10 := ⟨Tryz.f169.name, by decide, Tryz.func169.trans (congrArg some (by kernel_rfl))⟩
  f11 := ⟨Tryz.f170.name, by decide, Tryz.func170.trans (congrArg some (by kernel_rfl))⟩
  f12 := ⟨Tryz.f171.name, by decide, Tryz.func171.trans (congrArg some (by kernel_rfl))⟩
  f13 := ⟨Tryz.f172.name, by decide, Tryz.func172.trans (congrArg some (by kernel_rfl))⟩
  f14 := ⟨Tryz.f173.name, by decide, Tryz.func173.trans (congrArg some (by kernel_rfl))⟩
  f15 := ⟨Tryz.f174.name, by decide, Tryz.func174.trans (congrArg some (by kernel_rfl))⟩
  f16 := ⟨Tryz.f175.name, by decide, Tryz.func175.trans (congrArg some (by kernel_rfl))⟩
  f17 := ⟨Tryz.f176.name, by decide, Tryz.func176.trans (congrArg some (by kernel_rfl))⟩
  f18 := ⟨Tryz.f177.name, by decide, Tryz.func177.trans (congrArg some (by kernel_rfl))⟩
  f19 := Tryz.func178.trans (congrArg some (by kernel_rfl))
  f20 := Tryz.func179.trans (congrArg some (by kernel_rfl))
  f30 := ⟨Tryz.f197.name, by decide, Tryz.func197.trans (congrArg some (by kernel_rfl))⟩
  f31 := Tryz.func198.trans (congrArg some (by kernel_rfl))
  f32 := Tryz.func199.trans (congrArg some (by kernel_rfl))
  f33 := ⟨Tryz.f200.name, by decide, Tryz.func200.trans (congrArg some (by kernel_rfl))⟩
  f34 := ⟨Tryz.f201.name, by decide, Tryz.func201.trans (congrArg some (by kernel_rfl))⟩
  f35 := ⟨Tryz.f202.name, by decide, Tryz.func202.trans (congrArg some (by kernel_rfl))⟩
  f40 := ⟨Tryz.f214.name, by decide, Tryz.func214.trans (congrArg some (by kernel_rfl))⟩
  t0 := Tryz.underlying0
  a0 := Tryz.isAgg0
  z0 := Tryz.sizeOf0
  v0 := Tryz.zeroValue0
  t3 := Tryz.underlying3
  a3 := Tryz.isAgg3
  z3 := Tryz.sizeOf3
  v3 := Tryz.zeroValue3
  t4 := Tryz.underlying4
  a4 := Tryz.isAgg4
  z4 := Tryz.sizeOf4
  v4 := Tryz.zeroValue4
  t5 := Tryz.underlying5
  a5 := Tryz.isAgg5
  z5 := Tryz.sizeOf5
  v5 := Tryz.zeroValue5
  t9 := Tryz.underlying9
  a9 := Tryz.isAgg9
  z9 := Tryz.sizeOf9
  v9 := Tryz.zeroValue9
  t22 := Tryz.underlying44
  a22 := Tryz.isAgg44
  z22 := Tryz.sizeOf44
  v22 := Tryz.zeroValue44
  t23 := Tryz.underlying44
  a23 := Tryz.isAgg44
  z23 := Tryz.sizeOf44
  v23 := Tryz.zeroValue44
  t25 := Tryz.underlying3
  a25 := Tryz.isAgg3
  z25 := Tryz.sizeOf3
  v25 := Tryz.zeroValue3
  t32 := Tryz.underlying137
  a32 := Tryz.isAgg137
  z32 := Tryz.sizeOf137
  v32 := Tryz.zeroValue137
  t35 := Tryz.underlying187
  a35 := Tryz.isAgg187
  z35 := Tryz.sizeOf187
  v35 := Tryz.zeroValue187
  t36 := Tryz.underlying188
  a36 := Tryz.isAgg188
  z36 := Tryz.sizeOf188
  v36 := Tryz.zeroValue188
  t41 := Tryz.underlying71
  a41 := Tryz.isAgg71
  z41 := Tryz.sizeOf71
  v41 := Tryz.zeroValue71
  t44 := Tryz.underlying164
  a44 := Tryz.isAgg164
  z44 := Tryz.sizeOf164
  v44 := Tryz.zeroValue164
  t46 := Tryz.underlying167
  a46 := Tryz.isAgg167
  z46 := Tryz.sizeOf167
  v46 := Tryz.zeroValue167
  t53 := Tryz.underlying211
  a53 := Tryz.isAgg211
  z53 := Tryz.sizeOf211
  v53 := Tryz.zeroValue211
  t57 := Tryz.underlying215
  a57 := Tryz.isAgg215
  z57 := Tryz.sizeOf215
  v57 := Tryz.zeroValue215
  t63 := Tryz.underlying230
  a63 := Tryz.isAgg230
  z63 := Tryz.sizeOf230
  v63 := Tryz.zeroValue230
  t64 := Tryz.underlying231
  a64 := Tryz.isAgg231
  z64 := Tryz.sizeOf231
  v64 := Tryz.zeroValue231 }
open Go.Sort Go.RowKit in
theorem Tryz.slices_Sort_int (blk off cap : Nat) (zs : List Int) (w : World) (hH : Holds (Value.int .i64) w blk off zs.toArray) (hblk : blk < w.heap.size) (hsz : zs.length < 4611686018427387904) :
  Calls Tryz.prog 96 #[.slice (some ⟨blk, off, none⟩) zs.length cap] w fun e w' =>
   e = .returned (.tuple #[]) ∧ ∃ n os, w' = grow (putRow (Value.int .i64) (Sort.ahead w n) blk off (zs.mergeSort fun x y => decide (x ≤ y)).toArray) os := AnyM.slices_Sort_int Tryz.laysSlM5_f96 blk off cap zs w hH hblk hsz
open Go.RowKit Go.Sort in
theorem Tryz.slices_Sort_int_none (p : Option Addr) (cap : Nat) (w : World) :
  Calls Tryz.prog 96 #[.slice p 0 cap] w fun e w' => e = .returned (.tuple #[]) ∧ w' = w := AnyM.slices_Sort_int_none Tryz.laysSlM5_f96 p cap w
end Go.Proofs
namespace Go.Proofs.YtebbcofojchkpaaGreatDoor
open Go Go.RowKit
section
variable {P : Program} {ops : Array Oper} {n : Nat} {Φ : ziD} {w0 : World}
end
def rmE (pos : Nat → Nat) (e : Edge) : Edge := { e with on := pos e.on }
def rmO (pos : Nat → Nat) (o : Oper) : Oper := { o with after := (o.after.toList.map (rmE pos)).toArray, guard := o.guard.map fun p => (pos p.1, p.2) }
structure PermS (ops ops' : Array Oper) (pos inv : Nat → Nat) : Prop where
 size : ops'.size = ops.size
 lt : ∀ i : Nat, i < ops.size → pos i < ops.size
 li : ∀ i, i < ops.size → inv (pos i) = i
 lt' : ∀ j, j < ops.size → inv j < ops.size
 ri : ∀ j, j < ops.size → pos (inv j) = j
 at_ : ∀ (i : Nat) (o : Oper), ops[i]? = some o → ops'[pos i]? = some (rmO pos o)
 edge : ∀ (i : Nat) (o : Oper), ops[i]? = some o → ∀ e ∈ o.after, e.on < ops.size
 guard : ∀ (i : Nat) (o : Oper), ops[i]? = some o → ∀ p, o.guard = some p → p.1 < ops.size
section
variable {P : Program} {ops ops' : Array Oper} {pos inv : Nat → Nat} {Q : Exit → Act → World → Prop}
theorem PermS.yield (S : PermS ops ops' pos inv) {tmps : Array Value} {j : Nat} (hj : j < ops.size) : yielded ops' tmps (pos j) = yielded ops tmps j := by
 have h := S.at_ j ops[j] (Array.getElem?_eq_getElem hj)
 unfold yielded
 rw [h, Array.getElem?_eq_getElem hj]
 rfl
theorem PermS.want (S : PermS ops ops' pos inv) {i : Nat} {o : Oper} {tmps : Array Value} (ho : ops[i]? = some o) : Region.wanted (rmO pos o) (yielded ops' tmps) = Region.wanted o (yielded ops tmps) := by
 cases hg : o.guard with
 | none =>
  rw [show Region.wanted o (yielded ops tmps) = true by simp only [Region.wanted, hg]]
  simp only [Region.wanted, rmO, hg, Option.map_none]
 | some p =>
  obtain ⟨g, b⟩ := p
  have h := S.yield (tmps := tmps) (S.guard i o ho _ hg)
  simp only [Region.wanted, rmO, hg, Option.map_some] at h ⊢
  rw [h]
theorem PermS.ready (S : PermS ops ops' pos inv) {L L' : Array Bool} (hs : L.size = ops.size) (hs' : L'.size = ops.size) (hL : ∀ i, i < ops.size → L'.getD (pos i) false = L.getD i false) {i : Nat} (hi : i < ops.size) :
  pos i ∈ Region.ready .any ops' L' ↔ i ∈ Region.ready .any ops L := by
 have hp := S.lt i hi
 have h1 : L'.getD (pos i) true = L.getD i true := by
  have := hL i hi
  simp only [Array.getD, hs, hs', hi, hp, dif_pos] at this ⊢
  exact this
 constructor
 ·intro h
  obtain ⟨g1, o', ho', hd⟩ := mem_ready.1 h
  have ho := Array.getElem?_eq_getElem hi
  have e := S.at_ i _ ho
  rw [e] at ho'; cases ho'
  refine mem_ready.2 ⟨by rw [← h1]; exact g1, _, ho, fun e he hb => ?_⟩
  have := hd (rmE pos e) (List.mem_toArray.2 (List.mem_map.2 ⟨e, Array.mem_def.1 he, rfl⟩)) hb
  rw [← hL e.on (S.edge i _ ho e he)]; exact this
 ·intro h
  obtain ⟨g1, o, ho, hd⟩ := mem_ready.1 h
  refine mem_ready.2 ⟨by rw [h1]; exact g1, _, S.at_ i o ho, fun e' he' hb => ?_⟩
  obtain ⟨e, he, rfl⟩ := List.mem_map.1 (List.mem_toArray.1 he')
  have he := Array.mem_def.2 he
  have := hd e he hb
  show L'.getD (pos e.on) false = true
  rw [hL e.on (S.edge i o ho e he)]; exact this
theorem ymY (S : PermS ops ops' pos inv) : ∀ (m : Nat) (L L' : Array Bool) (a : Act) (w : World), L.size = ops.size → L'.size = ops.size → (∀ i, i < ops.size → L'.getD (pos i) false = L.getD i false) → wpAny P .any ops' Q m L' a w → wpAny P .any ops Q m L a w := by
 have nil : ∀ {L L' : Array Bool}, L.size = ops.size → L'.size = ops.size → (∀ i, i < ops.size → L'.getD (pos i) false = L.getD i false) → (Region.ready .any ops L = [] ↔ Region.ready .any ops' L' = []) := fun {L L'} hs hs' hL => by
  rw [List.eq_nil_iff_forall_not_mem, List.eq_nil_iff_forall_not_mem]
  constructor
  ·intro h j hj
   have hjn : j < ops.size := by
    obtain ⟨_, o, ho, _⟩ := mem_ready.1 hj
    have := (Array.getElem?_eq_some_iff.1 ho).1
    rw [S.size] at this; exact this
   refine h (inv j) ((S.ready hs hs' hL (S.lt' j hjn)).1 ?_)
   rw [S.ri j hjn]; exact hj
  ·intro h i hi
   have hin : i < ops.size := by
    obtain ⟨_, o, ho, _⟩ := mem_ready.1 hi
    exact (Array.getElem?_eq_some_iff.1 ho).1
   exact h (pos i) ((S.ready hs hs' hL hin).2 hi)
 intro m
 induction m with
 | zero =>
  intro L L' a w hs hs' hL h
  exact ⟨(nil hs hs' hL).2 h.1, h.2⟩
 | succ m ih =>
  intro L L' a w hs hs' hL h
  refine ⟨fun h0 => h.1 ((nil hs hs' hL).1 h0), fun i hi => ?_⟩
  obtain ⟨_, o, ho, _⟩ := mem_ready.1 hi
  have hin := (Array.getElem?_eq_some_iff.1 ho).1
  have h2 := h.2 (pos i) ((S.ready hs hs' hL hin).2 hi)
  have hL2 : ∀ k, k < ops.size → (L'.setIfInBounds (pos i) true).getD (pos k) false = (L.setIfInBounds i true).getD k false := fun k hk => by
   by_cases hki : k = i
   ·subst hki
    simp [Array.getD, hs, hs', hin, S.lt k hin]
   ·have hpk : pos i ≠ pos k := fun e => hki (by rw [← S.li k hk, ← S.li i hin, e])
    rw [getD_set_ne false hpk, getD_set_ne false (Ne.symm hki)]
    exact hL k hk
  have hK : ∀ a w, wpAny P .any ops' Q m (L'.setIfInBounds (pos i) true) a w → wpAny P .any ops Q m (L.setIfInBounds i true) a w := fun a w => ih _ _ a w (by simp [hs]) (by simp [hs']) hL2
  refine wpOp_mono hK ?_
  unfold wpOp at h2 ⊢
  rw [S.at_ i o ho] at h2
  rw [ho]
  simp only at h2 ⊢
  rw [S.want ho] at h2
  exact h2
theorem RegAny.perm {l l' : List Oper} {a : Act} {w : World} (S : PermS l.toArray l'.toArray pos inv) (h : RegAny P l' Q a w) : RegAny P l Q a w := by
 unfold RegAny at h ⊢
 rw [S.size] at h
 refine ymY S _ _ _ _ _ (by simp) (by simp) (fun i hi => ?_) h
 rw [getD_replicate_false, getD_replicate_false]
end
inductive SK where
 | pu | la | rv | mn
abbrev Sch := List (SK × Nat)
def dslk (ops : Array Oper) (j : Nat) : Option Tmp := match ops[j]? with
 | some o => o.dst
 | none => none
def ziZ (ops : Array Oper) (i : Nat) : List Nat := match ops[i]? with
 | some o => zfE o
 | none => []
def yjX (ops : Array Oper) (i : Nat) : List Tmp := match ops[i]? with
 | some o => o.looksAt ops
 | none => []
def ancB (ops : Array Oper) (i j : Nat) : Bool := (anc ops ops.size (ziZ ops i)).contains j
def xbC (ops : Array Oper) (late mains : List Nat) (i j : Nat) : Bool := match dslk ops j with
 | none => true
 | some d => (j == i || dslk ops i != some d) && (!(yjX ops i).contains d || (j != i && ((ancB ops i j && (!late.contains j || mains.contains i)) || (mains.contains j && ancB ops j i))))
def yvF (ops : Array Oper) (late mains : List Nat) : Bool :=
 Region.noSelect ops && (List.range ops.size).all (fun i => (ziZ ops i).all (fun j => decide (j < i)) && (List.range ops.size).all (xbC ops late mains i)) && late.all (fun i => !mains.contains i)
def zqH : Sch → Option Nat
 | (.rv, _) :: s => zqH s
 | (.mn, m) :: _ => some m
 | _ => none
def schB (ops : Array Oper) (late mains : List Nat) : Sch → List Nat → List Nat → Bool → Bool
 | [], D, U, _ => U.isEmpty && (List.range ops.size).all D.contains
 | (.pu, i) :: s, D, U, f => !f && decide (i < ops.size) && !D.contains i && !late.contains i && !mains.contains i && (ziZ ops i).all D.contains && schB ops late mains s (i :: D) U f
 | (.la, i) :: s, D, U, f => !f && decide (i < ops.size) && !D.contains i && late.contains i && (ziZ ops i).all D.contains && schB ops late mains s (i :: D) (i :: U) f
 | (.rv, i) :: s, D, U, _ => U.contains i && (match zqH s with
  | some m => ancB ops m i
  | none => (List.range ops.size).all D.contains && s.all fun p => match p.1 with
   | .rv => true
   | _ => false) && schB ops late mains s D (U.filter fun u => u != i) true
 | (.mn, i) :: s, D, U, _ => decide (i < ops.size) && !D.contains i && mains.contains i && (ziZ ops i).all D.contains && (List.range ops.size).all (fun j => D.contains j || j == i || (ziZ ops j).any fun d => !D.contains d) &&
   U.all (fun u => match dslk ops u with
    | some d => !(yjX ops i).contains d
    | none => true) && schB ops late mains s (i :: D) U false
section
variable {P : Program} {ops : Array Oper} {Q : Exit → Act → World → Prop} {Dsc : Nat → Value → Nat → Obj → Prop} {late mains : List Nat}
def updD (Dsc : Nat → Value → Nat → Obj → Prop) (i : Nat) (D : Value → Nat → Obj → Prop) : Nat → Value → Nat → Obj → Prop := fun t => if t = i then D else Dsc t
def updJ (Jp : Nat → World → Prop) (i : Nat) (J : World → Prop) : Nat → World → Prop := fun t => if t = i then J else Jp t
def yiH (ops : Array Oper) (i : Nat) (Pn : List Nat) : List Nat := Pn.filter fun j => !ancB ops i j
def wpS (P : Program) (ops : Array Oper) (Q : Exit → Act → World → Prop) : Sch → (Dsc : Nat → Value → Nat → Obj → Prop) → (Jp : Nat → World → Prop) → (Pn : List Nat) → (G : World → Prop) → (Kp : Nat → Prop) → Act → Prop
 | [], _, _, _, G, _, b => ∀ w, G w → Q .normal b w
 | (.pu, i) :: s, Dsc, Jp, Pn, G, Kp, b => ∃ (o : Oper) (c : Value) (J : World → Prop), ops[i]? = some o ∧ ((Region.wanted o (yielded ops b.tmps) = true ∧ ∀ w, J w → (execOp b.eval o).run P w = .ok (.value c) w) ∨ (Region.wanted o (yielded ops b.tmps) = false ∧ c = undef)) ∧ (∀ w, G w → J w) ∧ wpS P ops Q s Dsc (updJ Jp i J) (i :: Pn) G Kp (b.put o.dst c)
 | (.la, i) :: s, Dsc, Jp, Pn, G, Kp, b => ∃ (o : Oper) (D : Value → Nat → Obj → Prop), ops[i]? = some o ∧ Region.wanted o (yielded ops b.tmps) = true ∧ (∀ w, ∃ v k x w', (execOp b.eval o).run P w = .ok (.value v) w' ∧ Ext w w' ∧ w.heap.size ≤ k ∧ w'.heap[k]? = some x ∧ D v k x) ∧ wpS P ops Q s (updD Dsc i D) Jp Pn G Kp b
 | (.rv, i) :: s, Dsc, Jp, Pn, G, Kp, b => ∃ o, ops[i]? = some o ∧ ∀ v k x, Dsc i v k x → ¬ Kp k → (∃ w, G w ∧ w.heap[k]? = some x) → ∃ (G' : World → Prop) (Kp' : Nat → Prop), (∀ w, G w → w.heap[k]? = some x → G' w) ∧ (∀ j ∈ Pn, ∀ w, G' w → Jp j w) ∧ (∀ u u', G' u → Ext u u' → G' u') ∧ (∀ u, G' u → ∀ k, Kp' k → k < u.heap.size) ∧ (∀ b, Kp' b → Kp b ∨ b = k) ∧ wpS P ops Q s Dsc Jp Pn G' Kp' (b.put o.dst v)
 | (.mn, i) :: s, Dsc, Jp, Pn, G, Kp, b => ∃ o, ops[i]? = some o ∧ ∀ w, G w → (Region.wanted o (yielded ops b.tmps) = true ∧ outcome P (fun v w' => ∃ (G' : World → Prop) (Kp' : Nat → Prop), (∀ j ∈ yiH ops i Pn, ∀ u, G' u → Jp j u) ∧ (∀ u u', G' u → Ext u u' → G' u') ∧ (∀ u, G' u → ∀ k, Kp' k → k < u.heap.size) ∧ G' w' ∧ (∀ k, Kp' k → Kp k ∨ w.heap.size ≤ k) ∧ (∀ k, k < w.heap.size → ¬ Kp k → w'.heap[k]? = w.heap[k]?) ∧ wpS P ops Q s Dsc Jp (yiH ops i Pn) G' Kp' (b.put o.dst v)) ((execOp b.eval o).run P w)) ∨ (Region.wanted o (yielded ops b.tmps) = false ∧ wpS P ops Q s Dsc Jp (yiH ops i Pn) G Kp (b.put o.dst undef))
def OpenAt (late mains : List Nat) (D U : List Nat) (L : Array Bool) (i : Nat) : Prop := i ∈ D ∧ ((i ∈ U ∧ L.getD i false = true) ∨ (i ∉ mains ∧ i ∉ late ∧ L.getD i false = false))
structure SInv (P : Program) (ops : Array Oper) (Dsc : Nat → Value → Nat → Obj → Prop) (late mains : List Nat) (Jp : Nat → World → Prop) (Pn : List Nat) (G : World → Prop) (Kp : Nat → Prop) (D U : List Nat) (L : Array Bool) (a b : Act) (w : World) (V : Nat → Value) (bk : Nat → Nat) (ob : Nat → Obj) : Prop where
 size : L.size = ops.size
 sub : ∀ i, L.getD i false = true → i ∈ D
 lt : ∀ i ∈ D, i < ops.size
 dcl : ∀ i ∈ D, ∀ j ∈ ziZ ops i, j ∈ D
 lcl : ∀ i, L.getD i false = true → ∀ j ∈ ziZ ops i, L.getD j false = true
 mdone : ∀ i ∈ D, i ∈ mains → L.getD i false = true
 udone : ∀ i ∈ D, i ∈ late → i ∉ U → L.getD i false = true
 uD : ∀ i ∈ U, i ∈ D ∧ i ∈ late
 pp : ∀ i ∈ D, i ∉ mains → i ∉ late → L.getD i false = false → ∀ o, ops[i]? = some o → ∃ c, ((Region.wanted o (yielded ops b.tmps) = true ∧ ∀ w, Jp i w → (execOp b.eval o).run P w = .ok (.value c) w) ∨ (Region.wanted o (yielded ops b.tmps) = false ∧ c = undef)) ∧ ∀ s, o.dst = some s → b.tmps[s]? = (a.tmps[s]?).map fun _ => c
 lu : ∀ i ∈ U, L.getD i false = false → ∀ o, ops[i]? = some o → Region.wanted o (yielded ops b.tmps) = true ∧ ∀ w, ∃ v k x w', (execOp b.eval o).run P w = .ok (.value v) w' ∧ Ext w w' ∧ w.heap.size ≤ k ∧ w'.heap[k]? = some x ∧ Dsc i v k x
 lf : ∀ i ∈ U, L.getD i false = true → Dsc i (V i) (bk i) (ob i) ∧ w.heap[bk i]? = some (ob i) ∧ ¬ Kp (bk i) ∧ ∀ o s, ops[i]? = some o → o.dst = some s → a.tmps[s]? = (b.tmps[s]?).map fun _ => V i
 lj : ∀ i ∈ U, ∀ j ∈ U, L.getD i false = true → L.getD j false = true → bk i = bk j → i = j
 other : ∀ s, (∀ i o, OpenAt late mains D U L i → ops[i]? = some o → o.dst ≠ some s) → a.tmps[s]? = b.tmps[s]?
 defers : a.defers = b.defers
 gw : G w
 pn : ∀ i ∈ D, i ∉ mains → i ∉ late → L.getD i false = false → i ∈ Pn
 gj : ∀ j ∈ Pn, ∀ u, G u → Jp j u
 gx : ∀ u u', G u → Ext u u' → G u'
 gk : ∀ u, G u → ∀ k, Kp k → k < u.heap.size
structure zvY (ops : Array Oper) (late mains : List Nat) : Prop where
 sel : Region.noSelect ops = true
 deps : ∀ i, i < ops.size → ∀ j ∈ ziZ ops i, j < i
 dst : ∀ (i j : Nat) (oi oj : Oper) (d : Tmp), ops[i]? = some oi → ops[j]? = some oj → oj.dst = some d → j ≠ i → oi.dst ≠ some d
 look : ∀ (i j : Nat) (oi oj : Oper) (d : Tmp), ops[i]? = some oi → ops[j]? = some oj → oj.dst = some d → d ∈ oi.looksAt ops → j ≠ i ∧ ((ancB ops i j = true ∧ (j ∈ late → i ∈ mains)) ∨ (j ∈ mains ∧ ancB ops j i = true))
 dis : ∀ i ∈ late, i ∉ mains
theorem xcP (h : yvF ops late mains = true) : zvY ops late mains := by
 unfold yvF at h
 simp only [Bool.and_eq_true, List.all_eq_true, List.mem_range, decide_eq_true_eq] at h
 obtain ⟨⟨h1, h2⟩, h3⟩ := h
 have hsz : ∀ {i : Nat} {o : Oper}, ops[i]? = some o → i < ops.size := fun h => (Array.getElem?_eq_some_iff.1 h).1
 refine ⟨h1, fun i hi => (h2 i hi).1, fun i j oi oj d hi hj hd hne => ?_, fun i j oi oj d hi hj hd hl => ?_, fun i hi hm => ?_⟩
 ·have := (h2 i (hsz hi)).2 j (hsz hj)
  unfold xbC dslk at this
  simp only [hi, hj, hd, Bool.and_eq_true, Bool.or_eq_true, beq_iff_eq, hne, false_or, bne_iff_ne] at this
  exact this.1
 ·have := (h2 i (hsz hi)).2 j (hsz hj)
  unfold xbC dslk yjX at this
  simp only [hi, hj, hd, Bool.and_eq_true, Bool.or_eq_true, Bool.not_eq_true', List.contains_eq_mem, decide_eq_false_iff_not, bne_iff_ne, decide_eq_true_eq] at this
  rcases this.2 with h | ⟨h, h4⟩
  ·exact absurd hl h
  ·refine ⟨h, h4.imp (fun h => ⟨h.1, fun hh => h.2.resolve_left (fun k => k hh)⟩) id⟩
 ·have := h3 i hi
  simp only [Bool.not_eq_true', List.contains_eq_mem, decide_eq_false_iff_not] at this
  exact this hm
theorem zwD {i : Nat} {o : Oper} (h : ops[i]? = some o) : ziZ ops i = zfE o := by unfold ziZ; rw [h]
theorem zuL {L : Array Bool} (hl : ∀ i, L.getD i false = true → ∀ j ∈ ziZ ops i, L.getD j false = true) {i j : Nat} (hd : ∀ k ∈ ziZ ops i, L.getD k false = true) (h : ancB ops i j = true) : L.getD j false = true := by
 unfold ancB at h
 simp only [List.contains_eq_mem, decide_eq_true_eq] at h
 exact yeQ (p := fun q => L.getD q false = true) (N := ops.size) (fun q oq _ hq hoq r hr => hl q hq r (by rw [zwD hoq]; exact hr)) ops.size _ (Nat.le_refl _) hd j h
theorem anc_D {D : List Nat} (hl : ∀ i ∈ D, ∀ j ∈ ziZ ops i, j ∈ D) {i j : Nat} (hi : i ∈ D) (h : ancB ops i j = true) : j ∈ D := by
 unfold ancB at h
 simp only [List.contains_eq_mem, decide_eq_true_eq] at h
 exact yeQ (p := fun q => q ∈ D) (N := ops.size) (fun q oq _ hq hoq r hr => hl q hq r (by rw [zwD hoq]; exact hr)) ops.size _ (Nat.le_refl _) (hl i hi) j h
theorem SInv.agree {Jp : Nat → World → Prop} {Pn : List Nat} {G : World → Prop} {Kp : Nat → Prop} {D U : List Nat} {L : Array Bool} {a b : Act} {w : World} {V : Nat → Value} {bk : Nat → Nat} {ob : Nat → Obj} (I : SInv P ops Dsc late mains Jp Pn G Kp D U L a b w V bk ob) (S : zvY ops late mains) {i : Nat} {o : Oper} (ho : ops[i]? = some o)
  (hd : ∀ k ∈ ziZ ops i, L.getD k false = true) (hu : i ∈ mains → ∀ u ∈ U, ∀ d, dslk ops u = some d → d ∉ o.looksAt ops) : ∀ t ∈ o.looksAt ops, a.tmps[t]? = b.tmps[t]? := fun t ht => I.other t fun j oj hj hoj hdj => by
 obtain ⟨hne, h⟩ := S.look i j o oj t ho hoj hdj ht
 have hlate : j ∈ U → i ∈ mains → False := fun hjU him => hu him j hjU t (by unfold dslk; rw [hoj]; exact hdj) ht
 rcases h with ⟨h1, h2⟩ | ⟨h1, _⟩
 ·have hl := zuL I.lcl hd h1
  rcases hj.2 with ⟨hjU, _⟩ | ⟨_, _, h3⟩
  ·exact hlate hjU (h2 (I.uD j hjU).2)
  ·rw [hl] at h3; cases h3
 ·rcases hj.2 with ⟨hjU, _⟩ | ⟨h3, _⟩
  ·exact S.dis j (I.uD j hjU).2 h1
  ·exact h3 h1
theorem SInv.ran {Jp : Nat → World → Prop} {Pn : List Nat} {G : World → Prop} {Kp : Nat → Prop} {D U : List Nat} {L : Array Bool} {a b : Act} {w : World} {V : Nat → Value} {bk : Nat → Nat} {ob : Nat → Obj} (I : SInv P ops Dsc late mains Jp Pn G Kp D U L a b w V bk ob) (S : zvY ops late mains) {i : Nat} {o : Oper} (ho : ops[i]? = some o)
  (hd : ∀ k ∈ ziZ ops i, L.getD k false = true) (hu : i ∈ mains → ∀ u ∈ U, ∀ d, dslk ops u = some d → d ∉ o.looksAt ops) : execOp a.eval o = execOp b.eval o ∧ Region.wanted o (yielded ops a.tmps) = Region.wanted o (yielded ops b.tmps) :=
 ztE (fun cs c => Region.noSelect_spec S.sel i o cs c ho) (I.agree S ho hd hu)
theorem zeZ {L : Array Bool} {j : Nat} (hj : j < L.size) (k : Nat) : (L.setIfInBounds j true).getD k false = true ↔ L.getD k false = true ∨ k = j := by
 by_cases hkj : k = j
 ·subst hkj; simp [hj]
 ·rw [getD_set_ne false (Ne.symm hkj)]; simp [hkj]
theorem zwA {L : Array Bool} {j : Nat} (hj : j < L.size) {k : Nat} (h : (L.setIfInBounds j true).getD k false = false) : L.getD k false = false ∧ k ≠ j := by
 have := mt (zeZ hj k).2 (by rw [h]; simp)
 simp only [not_or] at this
 exact ⟨by simpa using this.1, this.2⟩
section
variable {Jp : Nat → World → Prop} {Pn : List Nat} {G : World → Prop} {Kp : Nat → Prop} {D U : List Nat} {L : Array Bool} {a b : Act} {w : World} {V : Nat → Value} {bk : Nat → Nat} {ob : Nat → Obj} {i : Nat} {o : Oper}
theorem zrT (S : zvY ops late mains) {j : Nat} {oj : Oper} (hoj : ops[j]? = some oj) {v : Value} (h : ∀ d, o.dst = some d → d ∉ oj.looksAt ops) : execOp (b.put o.dst v).eval oj = execOp b.eval oj ∧ Region.wanted oj (yielded ops (b.put o.dst v).tmps) = Region.wanted oj (yielded ops b.tmps) :=
 ztE (fun cs c => Region.noSelect_spec S.sel j oj cs c hoj) fun t ht => by
  rw [zcM, if_neg fun e => h t e ht]
theorem SInv.pu (I : SInv P ops Dsc late mains Jp Pn G Kp D U L a b w V bk ob) (S : zvY ops late mains) (ho : ops[i]? = some o) (hi : i ∉ D) (h1 : i ∉ late) (h2 : i ∉ mains) (hd : ∀ k ∈ ziZ ops i, k ∈ D) {c : Value} {J : World → Prop}
  (hc : (Region.wanted o (yielded ops b.tmps) = true ∧ ∀ w, J w → (execOp b.eval o).run P w = .ok (.value c) w) ∨ (Region.wanted o (yielded ops b.tmps) = false ∧ c = undef)) (hJ : ∀ w, G w → J w) : SInv P ops Dsc late mains (updJ Jp i J) (i :: Pn) G Kp (i :: D) U L a (b.put o.dst c) w V bk ob := by
 have hsz : i < ops.size := (Array.getElem?_eq_some_iff.1 ho).1
 have hnl : L.getD i false = false := by
  cases h : L.getD i false with
  | false => rfl
  | true => exact absurd (I.sub i h) hi
 have mem : ∀ {k}, k ∈ i :: D → k ≠ i → k ∈ D := fun h hn => (List.mem_cons.1 h).resolve_left hn
 have far : ∀ {j oj}, j ∈ D → ops[j]? = some oj → ∀ d, o.dst = some d → d ∉ oj.looksAt ops := fun {j oj} hj hoj d hdd hl => by
  obtain ⟨_, h | ⟨h, _⟩⟩ := S.look j i oj o d hoj ho hdd hl
  ·exact hi (anc_D I.dcl hj h.1)
  ·exact h2 h
 refine { I with sub := fun k hk => List.mem_cons_of_mem _ (I.sub k hk), lt := fun k hk => ?_, dcl := fun k hk j hj => ?_, mdone := fun k hk hm => ?_, udone := fun k hk hm hu => ?_, uD := fun k hk => ⟨List.mem_cons_of_mem _ (I.uD k hk).1, (I.uD k hk).2⟩, pp := fun k hk hm hl hn ok hok => ?_, lu := fun k hk hn ok hok => ?_, lf := fun k hk hl => ?_, other := fun s hs => ?_, defers := ?_, pn := fun k hk hm hl hn => ?_, gj := fun k hk u hu => ?_ }
 ·rcases List.mem_cons.1 hk with rfl | hk
  ·exact hsz
  ·exact I.lt k hk
 ·rcases List.mem_cons.1 hk with rfl | hk
  ·exact List.mem_cons_of_mem _ (hd j hj)
  ·exact List.mem_cons_of_mem _ (I.dcl k hk j hj)
 ·exact I.mdone k (mem hk fun e => h2 (e ▸ hm)) hm
 ·exact I.udone k (mem hk fun e => h1 (e ▸ hm)) hm hu
 ·by_cases e : k = i
  ·subst e
   have : ok = o := osi (hok.symm.trans ho)
   subst this
   have hself : ∀ d, ok.dst = some d → d ∉ ok.looksAt ops := fun d hdd hll => (S.look k k ok ok d ho ho hdd hll).1 rfl
   obtain ⟨e1, e2⟩ := zrT (b := b) (v := c) S ho hself
   refine ⟨c, by rw [e1, e2, show updJ Jp k J k = J by unfold updJ; rw [if_pos rfl]]; exact hc, fun s hs => ?_⟩
   rw [zcM, if_pos hs]
   rw [← I.other s fun j oj hj hoj hdj => ?_]
   by_cases hji : j = k
   ·subst hji; exact absurd hj.1 hi
   ·exact S.dst j k oj ok s hoj ho hs (Ne.symm hji) hdj
  ·obtain ⟨c', g1, g2⟩ := I.pp k (mem hk e) hm hl hn ok hok
   obtain ⟨e1, e2⟩ := zrT (b := b) (v := c) S hok (far (mem hk e) hok)
   refine ⟨c', by rw [e1, e2, show updJ Jp i J k = Jp k by unfold updJ; rw [if_neg e]]; exact g1, fun s hs => ?_⟩
   rw [zcM, if_neg (S.dst i k o ok s ho hok hs e)]
   exact g2 s hs
 ·obtain ⟨e1, e2⟩ := zrT (b := b) (v := c) S hok (far (I.uD k hk).1 hok)
  rw [e1, e2]
  exact I.lu k hk hn ok hok
 ·obtain ⟨g1, g2, g3, g4⟩ := I.lf k hk hl
  refine ⟨g1, g2, g3, fun ok s hok hs => ?_⟩
  have e : k ≠ i := fun e => hi (e ▸ (I.uD k hk).1)
  rw [zcM, if_neg (S.dst i k o ok s ho hok hs e)]
  exact g4 ok s hok hs
 ·by_cases hds : o.dst = some s
  ·exact absurd hds (hs i o ⟨List.mem_cons_self, .inr ⟨h2, h1, hnl⟩⟩ ho)
  ·rw [zcM, if_neg hds]
   exact I.other s fun j oj hj hoj => hs j oj ⟨List.mem_cons_of_mem _ hj.1, hj.2⟩ hoj
 ·rw [I.defers]; cases o.dst <;> rfl
 ·by_cases e : k = i
  ·subst e; exact List.mem_cons_self
  ·exact List.mem_cons_of_mem _ (I.pn k (mem hk e) hm hl hn)
 ·by_cases e : k = i
  ·subst e; rw [show updJ Jp k J k = J by unfold updJ; rw [if_pos rfl]]; exact hJ u hu
  ·rw [show updJ Jp i J k = Jp k by unfold updJ; rw [if_neg e]]
   exact I.gj k ((List.mem_cons.1 hk).resolve_left e) u hu
theorem SInv.la (I : SInv P ops Dsc late mains Jp Pn G Kp D U L a b w V bk ob) (ho : ops[i]? = some o) (hi : i ∉ D) (h1 : i ∈ late) (h2 : i ∉ mains) (hd : ∀ k ∈ ziZ ops i, k ∈ D)
  {Di : Value → Nat → Obj → Prop} (hc : Region.wanted o (yielded ops b.tmps) = true ∧ ∀ w, ∃ v k x w', (execOp b.eval o).run P w = .ok (.value v) w' ∧ Ext w w' ∧ w.heap.size ≤ k ∧ w'.heap[k]? = some x ∧ Di v k x) : SInv P ops (updD Dsc i Di) late mains Jp Pn G Kp (i :: D) (i :: U) L a b w V bk ob := by
 have oth : ∀ {k}, k ∈ U → updD Dsc i Di k = Dsc k := fun {k} hk => by
  have : k ≠ i := fun e => hi (e ▸ (I.uD k hk).1)
  unfold updD; rw [if_neg this]
 have hsz : i < ops.size := (Array.getElem?_eq_some_iff.1 ho).1
 have hnl : L.getD i false = false := by
  cases h : L.getD i false with
  | false => rfl
  | true => exact absurd (I.sub i h) hi
 have hlist : ∀ {k}, k ∈ i :: U → L.getD k false = true → k ∈ U := fun {k} hk hl => by
  rcases List.mem_cons.1 hk with rfl | hk
  ·rw [hnl] at hl; cases hl
  ·exact hk
 refine { I with sub := fun k hk => List.mem_cons_of_mem _ (I.sub k hk), lt := fun k hk => ?_, dcl := fun k hk j hj => ?_, mdone := fun k hk hm => ?_, udone := fun k hk hm hu => ?_, uD := fun k hk => ?_, pp := fun k hk hm hl hn ok hok => ?_, lu := fun k hk hn ok hok => ?_, lf := fun k hk hl => (by rw [oth (hlist hk hl)]; exact I.lf k (hlist hk hl) hl), lj := fun k hk j hj g1 g2 => I.lj k (hlist hk g1) j (hlist hj g2) g1 g2, other := fun s hs => ?_, pn := fun k hk hm hl hn => ?_ }
 ·rcases List.mem_cons.1 hk with rfl | hk
  ·exact hsz
  ·exact I.lt k hk
 ·rcases List.mem_cons.1 hk with rfl | hk
  ·exact List.mem_cons_of_mem _ (hd j hj)
  ·exact List.mem_cons_of_mem _ (I.dcl k hk j hj)
 ·rcases List.mem_cons.1 hk with rfl | hk
  ·exact absurd hm h2
  ·exact I.mdone k hk hm
 ·rcases List.mem_cons.1 hk with rfl | hk
  ·exact absurd List.mem_cons_self hu
  ·exact I.udone k hk hm fun h => hu (List.mem_cons_of_mem _ h)
 ·rcases List.mem_cons.1 hk with rfl | hk
  ·exact ⟨List.mem_cons_self, h1⟩
  ·exact ⟨List.mem_cons_of_mem _ (I.uD k hk).1, (I.uD k hk).2⟩
 ·rcases List.mem_cons.1 hk with rfl | hk
  ·exact absurd h1 hl
  ·exact I.pp k hk hm hl hn ok hok
 ·rcases List.mem_cons.1 hk with rfl | hk
  ·have : ok = o := osi (hok.symm.trans ho)
   subst this
   rw [show updD Dsc k Di k = Di by unfold updD; rw [if_pos rfl]]
   exact hc
  ·rw [oth hk]; exact I.lu k hk hn ok hok
 ·refine I.other s fun j oj hj hoj => hs j oj ⟨List.mem_cons_of_mem _ hj.1, hj.2.imp (fun h => ⟨List.mem_cons_of_mem _ h.1, h.2⟩) id⟩ hoj
 ·rcases List.mem_cons.1 hk with rfl | hk
  ·exact absurd h1 hl
  ·exact I.pn k hk hm hl hn
theorem SInv.nolook (I : SInv P ops Dsc late mains Jp Pn G Kp D U L a b w V bk ob) (S : zvY ops late mains) (ho : ops[i]? = some o) (hi : i ∈ late) {k : Nat} {ok : Oper} (hok : ops[k]? = some ok) (hk : k ∉ mains) : ∀ d, o.dst = some d → d ∉ ok.looksAt ops := fun d hd hl => by
 obtain ⟨_, h | h⟩ := S.look k i ok o d hok ho hd hl
 ·exact hk (h.2 hi)
 ·exact S.dis i hi h.1
theorem SInv.exP (I : SInv P ops Dsc late mains Jp Pn G Kp D U L a b w V bk ob) (S : zvY ops late mains) (ho : ops[i]? = some o) (hi : i ∈ D) (h1 : i ∉ late) (hd : ∀ k ∈ ziZ ops i, L.getD k false = true) {c : Value}
  (hc : ∀ s, o.dst = some s → b.tmps[s]? = (a.tmps[s]?).map fun _ => c) : SInv P ops Dsc late mains Jp Pn G Kp D U (L.setIfInBounds i true) (a.put o.dst c) b w V bk ob := by
 have hsz : i < L.size := by rw [I.size]; exact (Array.getElem?_eq_some_iff.1 ho).1
 have up : ∀ {k}, L.getD k false = true → (L.setIfInBounds i true).getD k false = true := fun h => (zeZ hsz _).2 (.inl h)
 have dn : ∀ {k}, k ∈ U → (L.setIfInBounds i true).getD k false = true → L.getD k false = true := fun {k} hk h => ((zeZ hsz _).1 h).resolve_right fun e => h1 (e ▸ (I.uD k hk).2)
 refine { I with size := by simp [I.size], sub := fun k hk => ?_, lcl := fun k hk j hj => ?_, mdone := fun k hk hm => up (I.mdone k hk hm), udone := fun k hk hm hu => up (I.udone k hk hm hu), pp := fun k hk hm hl hn ok hok => ?_, lu := fun k hk hn ok hok => I.lu k hk (zwA hsz hn).1 ok hok, lf := fun k hk hl => ?_, lj := fun k hk j hj g1 g2 => I.lj k hk j hj (dn hk g1) (dn hj g2), other := fun s hs => ?_, defers := ?_, pn := fun k hk hm hl hn => I.pn k hk hm hl (zwA hsz hn).1 }
 ·rcases (zeZ hsz k).1 hk with h | rfl
  ·exact I.sub k h
  ·exact hi
 ·rcases (zeZ hsz k).1 hk with h | rfl
  ·exact up (I.lcl k h j hj)
  ·exact up (hd j hj)
 ·obtain ⟨hn, hne⟩ := zwA hsz hn
  obtain ⟨c', g1, g2⟩ := I.pp k hk hm hl hn ok hok
  refine ⟨c', g1, fun s hs => ?_⟩
  rw [zcM, if_neg (S.dst i k o ok s ho hok hs hne)]
  exact g2 s hs
 ·obtain ⟨g1, g2, g3, g4⟩ := I.lf k hk (dn hk hl)
  refine ⟨g1, g2, g3, fun ok s hok hs => ?_⟩
  rw [zcM, if_neg (S.dst i k o ok s ho hok hs fun e => h1 (e ▸ (I.uD k hk).2))]
  exact g4 ok s hok hs
 ·rw [zcM]
  by_cases hds : o.dst = some s
  ·rw [if_pos hds]; exact (hc s hds).symm
  ·rw [if_neg hds]
   refine I.other s fun j oj hj hoj hdj => ?_
   by_cases hji : j = i
   ·subst hji; exact hds (by rw [← osi (hoj.symm.trans ho)]; exact hdj)
   ·refine hs j oj ⟨hj.1, hj.2.imp (fun h => ⟨h.1, up h.2⟩) fun h => ⟨h.1, h.2.1, ?_⟩⟩ hoj hdj
    rw [getD_set_ne false (Ne.symm hji)]; exact h.2.2
 ·rw [← I.defers]; cases o.dst <;> rfl
theorem SInv.exL (I : SInv P ops Dsc late mains Jp Pn G Kp D U L a b w V bk ob) (S : zvY ops late mains) (ho : ops[i]? = some o) (hi : i ∈ U) (hn : L.getD i false = false) (hd : ∀ k ∈ ziZ ops i, L.getD k false = true) {v : Value} {k : Nat} {x : Obj} {w' : World}
  (hx : Ext w w') (hk : w.heap.size ≤ k) (hh : w'.heap[k]? = some x) (hD : Dsc i v k x) : SInv P ops Dsc late mains Jp Pn G Kp D U (L.setIfInBounds i true) (a.put o.dst v) b w' (fun t => if t = i then v else V t) (fun t => if t = i then k else bk t) (fun t => if t = i then x else ob t) := by
 have hsz : i < L.size := by rw [I.size]; exact (Array.getElem?_eq_some_iff.1 ho).1
 have hil := (I.uD i hi).2
 have up : ∀ {k}, L.getD k false = true → (L.setIfInBounds i true).getD k false = true := fun h => (zeZ hsz _).2 (.inl h)
 have lt : ∀ {t}, t ∈ U → L.getD t false = true → bk t < w.heap.size := fun {t} ht hl => (Array.getElem?_eq_some_iff.1 (I.lf t ht hl).2.1).1
 refine { I with size := by simp [I.size], sub := fun k hk => ?_, lcl := fun k hk j hj => ?_, mdone := fun k hk hm => up (I.mdone k hk hm), udone := fun k hk hm hu => up (I.udone k hk hm hu), pp := fun t ht hm hl hn ok hok => ?_, lu := fun k hk hn ok hok => I.lu k hk (zwA hsz hn).1 ok hok, lf := fun t ht hl => ?_, lj := fun t ht j hj g1 g2 e => ?_, other := fun s hs => ?_, defers := ?_, gw := I.gx _ _ I.gw hx, pn := fun k hk hm hl hn => I.pn k hk hm hl (zwA hsz hn).1 }
 ·rcases (zeZ hsz k).1 hk with h | rfl
  ·exact I.sub k h
  ·exact (I.uD k hi).1
 ·rcases (zeZ hsz k).1 hk with h | rfl
  ·exact up (I.lcl k h j hj)
  ·exact up (hd j hj)
 ·obtain ⟨hn, hne⟩ := zwA hsz hn
  obtain ⟨c', g1, g2⟩ := I.pp t ht hm hl hn ok hok
  refine ⟨c', g1, fun s hs => ?_⟩
  rw [zcM, if_neg (S.dst i t o ok s ho hok hs hne)]
  exact g2 s hs
 ·by_cases e : t = i
  ·subst e
   simp only [if_true]
   refine ⟨hD, hh, fun hK => absurd (I.gk w I.gw k hK) (by omega), fun ok s hok hs => ?_⟩
   have : ok = o := osi (hok.symm.trans ho)
   subst this
   rw [zcM, if_pos hs, I.other s fun j oj hj hoj hdj => ?_]
   by_cases hjt : j = t
   ·subst hjt
    rcases hj.2 with ⟨_, h⟩ | ⟨_, h, _⟩
    ·rw [hn] at h; cases h
    ·exact h hil
   ·exact S.dst j t oj ok s hoj hok hs (Ne.symm hjt) hdj
  ·simp only [if_neg e]
   have hl' : L.getD t false = true := ((zeZ hsz _).1 hl).resolve_right e
   obtain ⟨g1, g2, g3, g4⟩ := I.lf t ht hl'
   refine ⟨g1, by rw [hx.block _ (lt ht hl')]; exact g2, g3, fun ok s hok hs => ?_⟩
   rw [zcM, if_neg (S.dst i t o ok s ho hok hs e)]
   exact g4 ok s hok hs
 ·by_cases e1 : t = i
  ·by_cases e2 : j = i
   ·rw [e1, e2]
   ·have hl' : L.getD j false = true := ((zeZ hsz _).1 g2).resolve_right e2
    have := lt hj hl'
    simp only [e1, if_true, if_neg e2] at e
    omega
  ·have hl' : L.getD t false = true := ((zeZ hsz _).1 g1).resolve_right e1
   by_cases e2 : j = i
   ·have := lt ht hl'
    simp only [e2, if_true, if_neg e1] at e
    omega
   ·simp only [if_neg e1, if_neg e2] at e
    exact I.lj t ht j hj hl' (((zeZ hsz _).1 g2).resolve_right e2) e
 ·have hds : o.dst ≠ some s := hs i o ⟨(I.uD i hi).1, .inl ⟨hi, (zeZ hsz i).2 (.inr rfl)⟩⟩ ho
  rw [zcM, if_neg hds]
  refine I.other s fun j oj hj hoj hdj => ?_
  by_cases hji : j = i
  ·subst hji; exact hds (by rw [← osi (hoj.symm.trans ho)]; exact hdj)
  ·refine hs j oj ⟨hj.1, hj.2.imp (fun h => ⟨h.1, up h.2⟩) fun h => ⟨h.1, h.2.1, ?_⟩⟩ hoj hdj
   rw [getD_set_ne false (Ne.symm hji)]; exact h.2.2
 ·rw [← I.defers]; cases o.dst <;> rfl
theorem SInv.rv (I : SInv P ops Dsc late mains Jp Pn G Kp D U L a b w V bk ob) (S : zvY ops late mains) (ho : ops[i]? = some o) (hi : i ∈ U) (hl : L.getD i false = true) {G' : World → Prop} {Kp' : Nat → Prop}
  (g1 : ∀ w, G w → w.heap[bk i]? = some (ob i) → G' w) (g2 : ∀ j ∈ Pn, ∀ w, G' w → Jp j w) (g3 : ∀ u u', G' u → Ext u u' → G' u') (g4 : ∀ u, G' u → ∀ k, Kp' k → k < u.heap.size) (g5 : ∀ c, Kp' c → Kp c ∨ c = bk i) :
  SInv P ops Dsc late mains Jp Pn G' Kp' D (U.filter fun u => u != i) L a (b.put o.dst (V i)) w V bk ob := by
 have mem : ∀ {k}, k ∈ U.filter (fun u => u != i) → k ∈ U ∧ k ≠ i := fun h => by simpa using List.mem_filter.1 h
 have hil := (I.uD i hi).2
 refine { I with udone := fun k hk hm hu => ?_, uD := fun k hk => I.uD k (mem hk).1, pp := fun k hk hm hlk hn ok hok => ?_, lu := fun k hk hn ok hok => ?_, lf := fun k hk hlk => ?_, lj := fun k hk j hj => I.lj k (mem hk).1 j (mem hj).1, other := fun s hs => ?_, defers := ?_, gw := g1 w I.gw (I.lf i hi hl).2.1, gj := g2, gx := g3, gk := g4 }
 ·by_cases e : k = i
  ·subst e; exact hl
  ·exact I.udone k hk hm fun h => hu (List.mem_filter.2 ⟨h, by simp [e]⟩)
 ·have hne : k ≠ i := fun e => hlk (e ▸ hil)
  obtain ⟨c', h1, h2⟩ := I.pp k hk hm hlk hn ok hok
  obtain ⟨e1, e2⟩ := zrT (b := b) (v := V i) S hok (I.nolook S ho hil hok hm)
  refine ⟨c', by rw [e1, e2]; exact h1, fun s hs => ?_⟩
  rw [zcM, if_neg (S.dst i k o ok s ho hok hs hne)]
  exact h2 s hs
 ·obtain ⟨hk, hne⟩ := mem hk
  obtain ⟨e1, e2⟩ := zrT (b := b) (v := V i) S hok (I.nolook S ho hil hok (S.dis k (I.uD k hk).2))
  rw [e1, e2]
  exact I.lu k hk hn ok hok
 ·obtain ⟨hk, hne⟩ := mem hk
  obtain ⟨h1, h2, h3, h4⟩ := I.lf k hk hlk
  refine ⟨h1, h2, fun hK => ?_, fun ok s hok hs => ?_⟩
  ·rcases g5 _ hK with h | h
   ·exact h3 h
   ·exact hne (I.lj k hk i hi hlk hl h)
  ·rw [zcM, if_neg (S.dst i k o ok s ho hok hs hne)]
   exact h4 ok s hok hs
 ·by_cases hds : o.dst = some s
  ·rw [zcM, if_pos hds]; exact (I.lf i hi hl).2.2.2 o s ho hds
  ·rw [zcM, if_neg hds]
   refine I.other s fun j oj hj hoj hdj => ?_
   by_cases hji : j = i
   ·subst hji; exact hds (by rw [← osi (hoj.symm.trans ho)]; exact hdj)
   ·exact hs j oj ⟨hj.1, hj.2.imp (fun h => ⟨List.mem_filter.2 ⟨h.1, by simp [hji]⟩, h.2⟩) id⟩ hoj hdj
 ·rw [I.defers]; cases o.dst <;> rfl
theorem SInv.exM (I : SInv P ops Dsc late mains Jp Pn G Kp D U L a b w V bk ob) (S : zvY ops late mains) (ho : ops[i]? = some o) (hi : i ∉ D) (hm : i ∈ mains) (hd : ∀ k ∈ ziZ ops i, L.getD k false = true) {v : Value} {w' : World} {G' : World → Prop} {Kp' : Nat → Prop}
  (g1 : ∀ j ∈ yiH ops i Pn, ∀ u, G' u → Jp j u) (g2 : ∀ u u', G' u → Ext u u' → G' u') (g3 : ∀ u, G' u → ∀ k, Kp' k → k < u.heap.size) (g4 : G' w') (g5 : ∀ k, Kp' k → Kp k ∨ w.heap.size ≤ k) (g6 : ∀ k, k < w.heap.size → ¬ Kp k → w'.heap[k]? = w.heap[k]?) :
  SInv P ops Dsc late mains Jp (yiH ops i Pn) G' Kp' (i :: D) U (L.setIfInBounds i true) (a.put o.dst v) (b.put o.dst v) w' V bk ob := by
 have hsz : i < L.size := by rw [I.size]; exact (Array.getElem?_eq_some_iff.1 ho).1
 have hnl : i ∉ late := fun h => S.dis i h hm
 have up : ∀ {k}, L.getD k false = true → (L.setIfInBounds i true).getD k false = true := fun h => (zeZ hsz _).2 (.inl h)
 have dn : ∀ {k}, k ∈ U → (L.setIfInBounds i true).getD k false = true → L.getD k false = true := fun {k} hk h => ((zeZ hsz _).1 h).resolve_right fun e => hnl (e ▸ (I.uD k hk).2)
 have mem : ∀ {k}, k ∈ i :: D → k ≠ i → k ∈ D := fun h hn => (List.mem_cons.1 h).resolve_left hn
 have far : ∀ {k ok}, k ∈ D → L.getD k false = false → ops[k]? = some ok → ∀ d, o.dst = some d → d ∉ ok.looksAt ops := fun {k ok} hk hn hok d hdd hl => by
  obtain ⟨_, h | h⟩ := S.look k i ok o d hok ho hdd hl
  ·exact hi (anc_D I.dcl hk h.1)
  ·have := zuL I.lcl hd h.2
   rw [hn] at this; cases this
 have ne : ∀ {k}, k ∈ D → k ≠ i := fun hk e => hi (e ▸ hk)
 refine { size := by simp [I.size], sub := fun k hk => ?_, lt := fun k hk => ?_, dcl := fun k hk j hj => ?_, lcl := fun k hk j hj => ?_, mdone := fun k hk hm => ?_, udone := fun k hk hm hu => ?_, uD := fun k hk => ⟨List.mem_cons_of_mem _ (I.uD k hk).1, (I.uD k hk).2⟩, pp := fun k hk hm hl hn ok hok => ?_, lu := fun k hk hn ok hok => ?_, lf := fun k hk hl => ?_, lj := fun k hk j hj h1 h2 => I.lj k hk j hj (dn hk h1) (dn hj h2), other := fun s hs => ?_, defers := ?_, gw := g4, pn := fun k hk hm hl hn => ?_, gj := g1, gx := g2, gk := g3 }
 ·rcases (zeZ hsz k).1 hk with h | rfl
  ·exact List.mem_cons_of_mem _ (I.sub k h)
  ·exact List.mem_cons_self
 ·rcases List.mem_cons.1 hk with rfl | hk
  ·rw [← I.size]; exact hsz
  ·exact I.lt k hk
 ·rcases List.mem_cons.1 hk with rfl | hk
  ·exact List.mem_cons_of_mem _ (I.sub j (hd j hj))
  ·exact List.mem_cons_of_mem _ (I.dcl k hk j hj)
 ·rcases (zeZ hsz k).1 hk with h | rfl
  ·exact up (I.lcl k h j hj)
  ·exact up (hd j hj)
 ·by_cases e : k = i
  ·subst e; exact (zeZ hsz k).2 (.inr rfl)
  ·exact up (I.mdone k (mem hk e) hm)
 ·have e : k ≠ i := fun e => hnl (e ▸ hm)
  exact up (I.udone k (mem hk e) hm hu)
 ·obtain ⟨hn, hne⟩ := zwA hsz hn
  have hkD := mem hk hne
  obtain ⟨c', h1, h2⟩ := I.pp k hkD hm hl hn ok hok
  obtain ⟨e1, e2⟩ := zrT (b := b) (v := v) S hok (far hkD hn hok)
  refine ⟨c', by rw [e1, e2]; exact h1, fun s hs => ?_⟩
  rw [zcM, zcM, if_neg (S.dst i k o ok s ho hok hs hne), if_neg (S.dst i k o ok s ho hok hs hne)]
  exact h2 s hs
 ·obtain ⟨hn, hne⟩ := zwA hsz hn
  obtain ⟨e1, e2⟩ := zrT (b := b) (v := v) S hok (far (I.uD k hk).1 hn hok)
  rw [e1, e2]
  obtain ⟨h1, h2⟩ := I.lu k hk hn ok hok
  exact ⟨h1, h2⟩
 ·obtain ⟨h1, h2, h3, h4⟩ := I.lf k hk (dn hk hl)
  have hlt := (Array.getElem?_eq_some_iff.1 h2).1
  refine ⟨h1, by rw [g6 _ hlt h3]; exact h2, fun hK => ?_, fun ok s hok hs => ?_⟩
  ·rcases g5 _ hK with h | h
   ·exact h3 h
   ·omega
  ·have hne := ne (I.uD k hk).1
   rw [zcM, zcM, if_neg (S.dst i k o ok s ho hok hs hne), if_neg (S.dst i k o ok s ho hok hs hne)]
   exact h4 ok s hok hs
 ·have base : (∀ j oj, j ≠ i → OpenAt late mains D U L j → ops[j]? = some oj → oj.dst ≠ some s) → a.tmps[s]? = b.tmps[s]? := fun h => I.other s fun j oj hj hoj => h j oj (ne hj.1) hj hoj
  rw [zcM, zcM]
  by_cases hds : o.dst = some s
  ·rw [if_pos hds, if_pos hds, base fun j oj hji hj hoj hdj => S.dst j i oj o s hoj ho hds (Ne.symm hji) hdj]
  ·rw [if_neg hds, if_neg hds]
   refine base fun j oj hji hj hoj => hs j oj ⟨List.mem_cons_of_mem _ hj.1, hj.2.imp (fun h => ⟨h.1, up h.2⟩) fun h => ⟨h.1, h.2.1, ?_⟩⟩ hoj
   rw [getD_set_ne false (Ne.symm hji)]; exact h.2.2
 ·have := I.defers
  cases o.dst <;> exact this
 ·obtain ⟨hn, hne⟩ := zwA hsz hn
  refine List.mem_filter.2 ⟨I.pn k (mem hk hne) hm hl hn, ?_⟩
  cases h : ancB ops i k with
  | false => rfl
  | true => have := zuL I.lcl hd h; rw [hn] at this; cases this
theorem SInv.same (I : SInv P ops Dsc late mains Jp Pn G Kp D [] L a b w V bk ob) (h : ∀ i, i < ops.size → L.getD i false = true) : a = b := by
 have h1 : a.tmps = b.tmps := Array.ext_getElem? fun s => I.other s fun j oj hj _ => by
  rcases hj.2 with ⟨h1, _⟩ | ⟨_, _, h2⟩
  ·cases h1
  ·rw [h j (I.lt j hj.1)] at h2; cases h2
 have h2 := I.defers
 cases a; cases b
 simp only at h1 h2
 rw [h1, h2]
end
section
variable {Jp : Nat → World → Prop} {Pn : List Nat} {G : World → Prop} {Kp : Nat → Prop} {U : List Nat} {L : Array Bool} {a b : Act} {w : World} {V : Nat → Value} {bk : Nat → Nat} {ob : Nat → Obj}
theorem yyD {D : List Nat} : ∀ {rest : Sch} {U : List Nat} {f : Bool}, schB ops late mains rest D U f = true → (∀ i s, rest ≠ (.pu, i) :: s) → (∀ i s, rest ≠ (.la, i) :: s) →
  (∀ m, zqH rest = some m → m ∈ mains ∧ m ∉ D ∧ m < ops.size ∧ ∀ j, j < ops.size → j ∈ D ∨ j = m ∨ ∃ d ∈ ziZ ops j, d ∉ D) ∧ (zqH rest = none → ∀ j, j < ops.size → j ∈ D)
 | [], _, _, h, _, _ => by
  simp only [schB, Bool.and_eq_true, List.all_eq_true, List.mem_range, List.contains_eq_mem, decide_eq_true_eq] at h
  exact ⟨fun m hm => (by cases hm), fun _ => h.2⟩
 | (.pu, i) :: s, _, _, _, h1, _ => absurd rfl (h1 i s)
 | (.la, i) :: s, _, _, _, _, h2 => absurd rfl (h2 i s)
 | (.mn, i) :: s, _, _, h, _, _ => by
  simp only [schB, Bool.and_eq_true, List.all_eq_true, List.mem_range, List.contains_eq_mem, decide_eq_true_eq, Bool.or_eq_true, Bool.not_eq_true', decide_eq_false_iff_not, List.any_eq_true, beq_iff_eq] at h
  refine ⟨fun m hm => ?_, fun hm => (by cases hm)⟩
  cases hm
  refine ⟨h.1.1.1.1.2, h.1.1.1.1.1.2, h.1.1.1.1.1.1, fun j hj => ?_⟩
  rcases h.1.1.2 j hj with (h1 | h1) | h1
  ·exact .inl h1
  ·exact .inr (.inl h1)
  ·exact .inr (.inr h1)
 | (.rv, i) :: s, _, _, h, _, _ => by
  simp only [schB, Bool.and_eq_true] at h
  have hs := h.2
  have := yyD (rest := s) hs (fun i s' e => by subst e; simp [schB] at hs) (fun i s' e => by subst e; simp [schB] at hs)
  exact ⟨fun m hm => this.1 m hm, fun hm => this.2 hm⟩
theorem yxO {D : List Nat} (S : zvY ops late mains) {m : Nat} : ∀ {rest : Sch} {U : List Nat} {f : Bool} {G : World → Prop} {Kp : Nat → Prop} {b : Act}, SInv P ops Dsc late mains Jp Pn G Kp D U L a b w V bk ob → schB ops late mains rest D U f = true → wpS P ops Q rest Dsc Jp Pn G Kp b → zqH rest = some m → (∀ k ∈ ziZ ops m, L.getD k false = true) →
  ∃ s f' U' G' Kp' b', SInv P ops Dsc late mains Jp Pn G' Kp' D U' L a b' w V bk ob ∧ schB ops late mains ((.mn, m) :: s) D U' f' = true ∧ wpS P ops Q ((.mn, m) :: s) Dsc Jp Pn G' Kp' b'
 | [], _, _, _, _, _, _, _, _, hm, _ => by cases hm
 | (.pu, i) :: s, _, _, _, _, _, _, _, _, hm, _ => by cases hm
 | (.la, i) :: s, _, _, _, _, _, _, _, _, hm, _ => by cases hm
 | (.mn, i) :: s, U, f, G, Kp, b, I, h, hw, hm, _ => by cases hm; exact ⟨s, f, U, G, Kp, b, I, h, hw⟩
 | (.rv, i) :: s, U, f, G, Kp, b, I, h, hw, hm, hd => by
  have hm' : zqH s = some m := hm
  simp only [schB, hm', Bool.and_eq_true, List.contains_eq_mem, decide_eq_true_eq] at h
  obtain ⟨⟨hU, hanc⟩, hs⟩ := h
  have hl := zuL I.lcl hd hanc
  obtain ⟨o, ho, hw⟩ := hw
  obtain ⟨h1, h2, h3, _⟩ := I.lf i hU hl
  obtain ⟨G', Kp', g1, g2, g3, g4, g5, hw⟩ := hw _ _ _ h1 h3 ⟨w, I.gw, h2⟩
  exact yxO S (I.rv S ho hU hl g1 g2 g3 g4 g5) hs hw hm' hd
theorem yyV {D : List Nat} (S : zvY ops late mains) (hall : ∀ i, i < ops.size → L.getD i false = true) : ∀ {rest : Sch} {U : List Nat} {f : Bool} {G : World → Prop} {Kp : Nat → Prop} {b : Act}, SInv P ops Dsc late mains Jp Pn G Kp D U L a b w V bk ob → schB ops late mains rest D U f = true → wpS P ops Q rest Dsc Jp Pn G Kp b → zqH rest = none → (∀ p ∈ rest, p.1 = .rv) → Q .normal a w
 | [], U, f, G, Kp, b, I, h, hw, _, _ => by
  simp only [schB, Bool.and_eq_true, List.isEmpty_iff] at h
  obtain ⟨rfl, _⟩ := h
  rw [I.same hall]
  exact hw w I.gw
 | (.pu, i) :: s, _, _, _, _, _, _, _, _, _, hr => by cases hr _ List.mem_cons_self
 | (.la, i) :: s, _, _, _, _, _, _, _, _, _, hr => by cases hr _ List.mem_cons_self
 | (.mn, i) :: s, _, _, _, _, _, _, _, _, hm, _ => by cases hm
 | (.rv, i) :: s, U, f, G, Kp, b, I, h, hw, hm, hr => by
  have hm' : zqH s = none := hm
  simp only [schB, hm', Bool.and_eq_true, List.contains_eq_mem, decide_eq_true_eq] at h
  obtain ⟨⟨hU, _⟩, hs⟩ := h
  have hl := hall i (I.lt i (I.uD i hU).1)
  obtain ⟨o, ho, hw⟩ := hw
  obtain ⟨h1, h2, h3, _⟩ := I.lf i hU hl
  obtain ⟨G', Kp', g1, g2, g3, g4, g5, hw⟩ := hw _ _ _ h1 h3 ⟨w, I.gw, h2⟩
  exact yyV S hall (I.rv S ho hU hl g1 g2 g3 g4 g5) hs hw hm' fun p hp => hr p (List.mem_cons_of_mem _ hp)
theorem ypN {D : List Nat} : ∀ {rest : Sch} {U : List Nat} {f : Bool}, schB ops late mains rest D U f = true → (∀ i s, rest ≠ (.pu, i) :: s) → (∀ i s, rest ≠ (.la, i) :: s) → zqH rest = none → ∀ p ∈ rest, p.1 = .rv
 | [], _, _, _, _, _, _, p, hp => by cases hp
 | (.pu, i) :: s, _, _, _, h1, _, _, _, _ => absurd rfl (h1 i s)
 | (.la, i) :: s, _, _, _, _, h2, _, _, _ => absurd rfl (h2 i s)
 | (.mn, i) :: s, _, _, _, _, _, hm, _, _ => by cases hm
 | (.rv, i) :: s, _, _, h, _, _, hm, p, hp => by
  have hm' : zqH s = none := hm
  simp only [schB, hm', Bool.and_eq_true] at h
  rcases List.mem_cons.1 hp with rfl | hp
  ·rfl
  ·have hs := h.2
   exact ypN (rest := s) hs (fun i s' e => by subst e; simp [schB] at hs) (fun i s' e => by subst e; simp [schB] at hs) hm' p hp
end
theorem yaR (S : zvY ops late mains) {m : Nat} (ihm : ∀ m', m' < m → ∀ (rest : Sch) (Dsc : Nat → Value → Nat → Obj → Prop) (D U : List Nat) (f : Bool) (Jp : Nat → World → Prop) (Pn : List Nat) (G : World → Prop) (Kp : Nat → Prop) (L : Array Bool) (a b : Act) (w : World) (V : Nat → Value) (bk : Nat → Nat) (ob : Nat → Obj), zfB ops.size L = m' → SInv P ops Dsc late mains Jp Pn G Kp D U L a b w V bk ob → schB ops late mains rest D U f = true → wpS P ops Q rest Dsc Jp Pn G Kp b → wpAny P .any ops Q m' L a w)
  {rest : Sch} {D U : List Nat} {f : Bool} {Jp : Nat → World → Prop} {Pn : List Nat} {G : World → Prop} {Kp : Nat → Prop} {L : Array Bool} {a b : Act} {w : World} {V : Nat → Value} {bk : Nat → Nat} {ob : Nat → Obj} (hm : zfB ops.size L = m) (I : SInv P ops Dsc late mains Jp Pn G Kp D U L a b w V bk ob) (hb : schB ops late mains rest D U f = true) (hw : wpS P ops Q rest Dsc Jp Pn G Kp b)
  (h1 : ∀ i s, rest ≠ (.pu, i) :: s) (h2 : ∀ i s, rest ≠ (.la, i) :: s) : wpAny P .any ops Q m L a w := by
 have hsat := yyD hb h1 h2
 have ltsz : ∀ {j}, j ∈ Region.ready .any ops L → j < ops.size := fun hj => by
  obtain ⟨_, o, ho, _⟩ := mem_ready.1 hj
  exact (Array.getElem?_eq_some_iff.1 ho).1
 have unl : ∀ {j}, j ∈ Region.ready .any ops L → L.getD j false = false := fun {j} hj => by
  have hs := ltsz hj
  obtain ⟨hu, _⟩ := mem_ready.1 hj
  rw [zkX (by rw [I.size]; exact hs)] at hu; exact hu
 cases m with
 | zero =>
  have hall := zpJ hm
  have hn : zqH rest = none := by
   cases h : zqH rest with
   | none => rfl
   | some k =>
    obtain ⟨_, g1, g2, _⟩ := hsat.1 k h
    exact absurd (I.sub k (hall k g2)) g1
  refine ⟨?_, yyV S hall I hb hw hn (ypN hb h1 h2 hn)⟩
  rw [List.eq_nil_iff_forall_not_mem]
  intro j hj
  have := hall j (ltsz hj)
  rw [unl hj] at this; cases this
 | succ m =>
  have hex : ∃ i, i < ops.size ∧ L.getD i false = false := by
   have : ¬ zfB ops.size L = 0 := by omega
   unfold zfB at this
   rw [List.countP_eq_zero] at this
   have h2 : ∃ i, ¬ (i ∈ List.range ops.size → ¬ ((!L.getD i false) = true)) := Classical.not_forall.1 this
   obtain ⟨i, h⟩ := h2
   by_cases hi : i < ops.size
   ·refine ⟨i, hi, ?_⟩
    cases hp : L.getD i false with
    | false => rfl
    | true => exact absurd (fun _ => by rw [hp]; simp) h
   ·exact absurd (fun hmem => absurd (List.mem_range.1 hmem) hi) h
  have hne : Region.ready .any ops L ≠ [] := by
   obtain ⟨i, hi, hu, hleast⟩ := zqO _ hex
   have hoi : ops[i]? = some ops[i] := Array.getElem?_eq_getElem hi
   have : i ∈ Region.ready .any ops L := mem_ready.2 ⟨by rw [zkX (by rw [I.size]; exact hi)]; exact hu, _, hoi, fun e he hb => hleast _ (S.deps i hi _ (by rw [zwD hoi]; exact zpI.2 ⟨e, he, hb, rfl⟩))⟩
   intro h0; rw [h0] at this; cases this
  refine ⟨fun h0 => absurd h0 hne, fun j hj => ?_⟩
  have hjs := ltsz hj
  have hju := unl hj
  obtain ⟨_, oj, hoj, hdone⟩ := mem_ready.1 hj
  have hdep : ∀ k ∈ ziZ ops j, L.getD k false = true := fun k hk => by
   rw [zwD hoj] at hk
   obtain ⟨e, he, hb, hon⟩ := zpI.1 hk
   rw [← hon]; exact hdone e he hb
  have hcount := ztO hjs (by rw [I.size]; exact hjs) hju
  have hjD : j ∈ D ∨ zqH rest = some j := by
   cases h : zqH rest with
   | none => exact .inl (hsat.2 h j hjs)
   | some k =>
    rcases (hsat.1 k h).2.2.2 j hjs with h3 | h3 | ⟨d, h3, h4⟩
    ·exact .inl h3
    ·exact .inr (by rw [h3])
    ·exact absurd (I.sub d (hdep d h3)) h4
  unfold wpOp
  simp only [hoj]
  rcases hjD with hjD | hjm
  ·by_cases hjl : j ∈ late
   ·have hjU : j ∈ U := Classical.byContradiction fun h => by
     have := I.udone j hjD hjl h
     rw [hju] at this; cases this
    obtain ⟨hwd, hrun⟩ := I.lu j hjU hju oj hoj
    obtain ⟨v, k, x, w', g1, g2, g3, g4, g5⟩ := hrun w
    obtain ⟨he, hwt⟩ := I.ran S hoj hdep (fun h => absurd h (S.dis j hjl))
    rw [if_pos (by rw [hwt]; exact hwd)]
    refine .inl ?_
    unfold Oper.wp
    rw [he, g1]
    exact ihm m (by omega) rest Dsc D U f Jp Pn G Kp _ _ b w' _ _ _ (by omega) (I.exL S hoj hjU hju hdep g2 g3 g4 g5) hb hw
   ·by_cases hjm : j ∈ mains
    ·have := I.mdone j hjD hjm
     rw [hju] at this; cases this
    ·obtain ⟨c, hc, hs⟩ := I.pp j hjD hjm hjl hju oj hoj
     obtain ⟨he, hwt⟩ := I.ran S hoj hdep (fun h => absurd h hjm)
     have next := ihm m (by omega) rest Dsc D U f Jp Pn G Kp _ _ b w _ _ _ (by omega) (I.exP S hoj hjD hjl hdep hs) hb hw
     rcases hc with ⟨hwd, hrun⟩ | ⟨hwd, rfl⟩
     ·rw [if_pos (by rw [hwt]; exact hwd)]
      refine .inl ?_
      unfold Oper.wp
      rw [he, hrun w (I.gj j (I.pn j hjD hjm hjl hju) w I.gw)]
      exact next
     ·rw [if_neg (by rw [hwt, hwd]; simp)]
      exact next
  ·obtain ⟨s, f', U', G', Kp', b', I', hb', hw'⟩ := yxO S I hb hw hjm hdep
   obtain ⟨o, ho, hw'⟩ := hw'
   have : o = oj := osi (ho.symm.trans hoj)
   subst this
   simp only [schB, Bool.and_eq_true, List.all_eq_true, List.mem_range, List.contains_eq_mem, decide_eq_true_eq, Bool.not_eq_true', decide_eq_false_iff_not] at hb'
   obtain ⟨⟨⟨⟨⟨⟨hb1, hb2⟩, hb3⟩, hb4⟩, hb5⟩, hb6⟩, hb7⟩ := hb'
   obtain ⟨he, hwt⟩ := I'.ran S hoj hdep (fun _ u hu d hd hl => by
    have := hb6 u hu
    rw [hd] at this
    simp only [Bool.not_eq_true', decide_eq_false_iff_not] at this
    exact this (by unfold yjX; rw [hoj]; exact hl))
   rcases hw' w I'.gw with ⟨hwd, hout⟩ | ⟨hwd, hrest⟩
   ·rw [if_pos (by rw [hwt]; exact hwd)]
    refine .inl ?_
    rw [← he] at hout
    exact zuO hout fun v w' ⟨G2, K2, g1, g2, g3, g4, g5, g6, hws⟩ => ihm m (by omega) s Dsc (j :: D) U' false Jp _ G2 K2 _ _ _ w' _ _ _ (by omega) (I'.exM S hoj hb2 hb3 hdep g1 g2 g3 g4 g5 g6) hb7 hws
   ·rw [if_neg (by rw [hwt, hwd]; simp)]
    exact ihm m (by omega) s Dsc (j :: D) U' false Jp _ G' Kp' _ _ _ w _ _ _ (by omega) (I'.exM S hoj hb2 hb3 hdep (fun t ht => I'.gj t (List.mem_filter.1 ht).1) I'.gx I'.gk I'.gw (fun _ h => .inl h) (fun _ _ _ => rfl)) hb7 hrest
theorem ymI (S : zvY ops late mains) (m : Nat) : ∀ (rest : Sch) (Dsc : Nat → Value → Nat → Obj → Prop) (D U : List Nat) (f : Bool) (Jp : Nat → World → Prop) (Pn : List Nat) (G : World → Prop) (Kp : Nat → Prop) (L : Array Bool) (a b : Act) (w : World) (V : Nat → Value) (bk : Nat → Nat) (ob : Nat → Obj), zfB ops.size L = m → SInv P ops Dsc late mains Jp Pn G Kp D U L a b w V bk ob → schB ops late mains rest D U f = true → wpS P ops Q rest Dsc Jp Pn G Kp b →
  wpAny P .any ops Q m L a w := by
 induction m using Nat.strongRecOn with
 | _ m ihm =>
  intro rest
  induction rest with
  | nil =>
   intro Dsc D U f Jp Pn G Kp L a b w V bk ob hm I hb hw
   exact yaR S ihm hm I hb hw (fun _ _ e => by cases e) (fun _ _ e => by cases e)
  | cons p s ihs =>
   intro Dsc D U f Jp Pn G Kp L a b w V bk ob hm I hb hw
   obtain ⟨k, i⟩ := p
   cases k with
   | pu =>
    obtain ⟨o, c, J, ho, hc, hJ, hw⟩ := hw
    simp only [schB, Bool.and_eq_true, List.all_eq_true, List.contains_eq_mem, decide_eq_true_eq, Bool.not_eq_true', decide_eq_false_iff_not] at hb
    obtain ⟨⟨⟨⟨⟨⟨h1, h2⟩, h3⟩, h4⟩, h5⟩, h6⟩, h7⟩ := hb
    exact ihs _ _ _ _ _ _ _ _ _ _ _ _ _ _ _ hm (I.pu S ho h3 h4 h5 h6 hc hJ) h7 hw
   | la =>
    obtain ⟨o, Di, ho, hwd, hc, hw⟩ := hw
    simp only [schB, Bool.and_eq_true, List.all_eq_true, List.contains_eq_mem, decide_eq_true_eq, Bool.not_eq_true', decide_eq_false_iff_not] at hb
    obtain ⟨⟨⟨⟨⟨h1, h2⟩, h3⟩, h4⟩, h6⟩, h7⟩ := hb
    exact ihs _ _ _ _ _ _ _ _ _ _ _ _ _ _ _ hm (I.la ho h3 h4 (S.dis i h4) h6 ⟨hwd, hc⟩) h7 hw
   | rv => exact yaR S ihm hm I hb hw (fun _ _ e => by cases e) (fun _ _ e => by cases e)
   | mn => exact yaR S ihm hm I hb hw (fun _ _ e => by cases e) (fun _ _ e => by cases e)
theorem ynS {l : List Oper} {a : Act} {w : World} {rest : Sch} {Jp : Nat → World → Prop} {G : World → Prop} {Kp : Nat → Prop} (hs : yvF l.toArray late mains = true) (hb : schB l.toArray late mains rest [] [] false = true) (hw : wpS P l.toArray (OnlyNormal Q) rest Dsc Jp [] G Kp a)
  (h1 : G w.drew) (h3 : ∀ u u', G u → Ext u u' → G u') (h4 : ∀ u, G u → ∀ k, Kp k → k < u.heap.size) : RegAny P l Q a w := by
 unfold RegAny
 have hf : ∀ j, (Array.replicate l.toArray.size false).getD j false = false := fun j => getD_replicate_false _ _
 refine ymI (xcP hs) _ rest Dsc [] [] false Jp [] G Kp _ a a _ (fun _ => undef) (fun _ => 0) (fun _ => default) ?_ ?_ hb hw
 ·unfold zfB
  rw [List.countP_eq_length.2 (fun j _ => by rw [hf]; rfl)]
  simp
 ·exact { size := (by simp), sub := fun i hi => (by rw [hf] at hi; cases hi), lt := fun i hi => (by cases hi), dcl := fun i hi => (by cases hi), lcl := fun i hi => (by rw [hf] at hi; cases hi), mdone := fun i hi => (by cases hi), udone := fun i hi => (by cases hi), uD := fun i hi => (by cases hi), pp := fun i hi => (by cases hi), lu := fun i hi => (by cases hi), lf := fun i hi => (by cases hi), lj := fun i hi => (by cases hi), other := fun s _ => rfl, defers := rfl, gw := h1, pn := fun i hi => (by cases hi), gj := fun i hi => (by cases hi), gx := h3, gk := h4 }
end
end Go.Proofs.YtebbcofojchkpaaGreatDoor
namespace Go.Proofs.YtebbcofojchkpaaGreatDoor.Am
open Go Go.RowKit
inductive Ty where
 | i (k : IntKind) | b | s | er | sl (e : Ty) | pr (a c : Ty) | un | mp (a c : Ty)
def den : Ty → Type
 | .i k => match k with
  | .u8 => UInt8 | .u16 => UInt16 | .u32 => UInt32 | .u64 => UInt64
  | .i8 => Int | .i16 => Int | .i32 => Int | .i64 => Int
 | .b => Bool
 | .s => Bs
 | .er => Bool
 | .sl e => List (den e)
 | .pr a c => den a × den c
 | .un => Unit
 | .mp a c => List (den a × den c)
def ikEq (a c : IntKind) : Option (PLift (a = c)) := match a, c with
 | .i8, .i8 => some ⟨rfl⟩ | .i16, .i16 => some ⟨rfl⟩ | .i32, .i32 => some ⟨rfl⟩ | .i64, .i64 => some ⟨rfl⟩
 | .u8, .u8 => some ⟨rfl⟩ | .u16, .u16 => some ⟨rfl⟩ | .u32, .u32 => some ⟨rfl⟩ | .u64, .u64 => some ⟨rfl⟩
 | _, _ => none
def tyEq : (a c : Ty) → Option (PLift (a = c))
 | .i k, .i k' => match ikEq k k' with
  | some ⟨h⟩ => some ⟨by rw [h]⟩
  | none => none
 | .b, .b => some ⟨rfl⟩
 | .s, .s => some ⟨rfl⟩
 | .un, .un => some ⟨rfl⟩
 | .er, .er => some ⟨rfl⟩
 | .sl a, .sl c => match tyEq a c with
  | some ⟨h⟩ => some ⟨by rw [h]⟩
  | none => none
 | .pr a x, .pr c y => match tyEq a c, tyEq x y with
  | some ⟨h⟩, some ⟨k⟩ => some ⟨by rw [h, k]⟩
  | _, _ => none
 | .mp a x, .mp c y => match tyEq a c, tyEq x y with
  | some ⟨h⟩, some ⟨k⟩ => some ⟨by rw [h, k]⟩
  | _, _ => none
 | _, _ => none
def zlC {a c : Ty} (h : a = c) (x : den a) : den c := h ▸ x
def tsz : Ty → Nat
 | .pr a c => tsz a + tsz c
 | .un => 0
 | _ => 1
def one : Ty → Bool
 | .pr _ _ => false
 | .un => false
 | _ => true
def toI : (k : IntKind) → den (.i k) → Int
 | .u8, x => ((x : UInt8).toNat : Int)
 | .u16, x => ((x : UInt16).toNat : Int)
 | .u32, x => ((x : UInt32).toNat : Int)
 | .u64, x => ((x : UInt64).toNat : Int)
 | .i8, x => x
 | .i16, x => x
 | .i32, x => x
 | .i64, x => x
def ofI : (k : IntKind) → Int → den (.i k)
 | .u8, x => i8 x
 | .u16, x => i16 x
 | .u32, x => i32 x
 | .u64, x => i64 x
 | .i8, x => IntKind.i8.wrap x
 | .i16, x => IntKind.i16.wrap x
 | .i32, x => IntKind.i32.wrap x
 | .i64, x => w64 x
def exI : (k : IntKind) → Int → den (.i k)
 | .u8, x => i8 x
 | .u16, x => i16 x
 | .u32, x => i32 x
 | .u64, x => i64 x
 | .i8, x => x
 | .i16, x => x
 | .i32, x => x
 | .i64, x => x
def bitD (op : BinOp) : (k : IntKind) → den (.i k) → den (.i k) → Option (den (.i k))
 | .u8, x, y => match op with
  | .and => some (@HAnd.hAnd UInt8 UInt8 UInt8 _ x y)
  | .or => some (@HOr.hOr UInt8 UInt8 UInt8 _ x y)
  | .xor => some (@HXor.hXor UInt8 UInt8 UInt8 _ x y)
  | _ => none
 | .u16, _, _ => none
 | .u32, x, y => match op with
  | .and => some (@HAnd.hAnd UInt32 UInt32 UInt32 _ x y)
  | .or => some (@HOr.hOr UInt32 UInt32 UInt32 _ x y)
  | .xor => some (@HXor.hXor UInt32 UInt32 UInt32 _ x y)
  | _ => none
 | .u64, x, y => match op with
  | .and => some (@HAnd.hAnd UInt64 UInt64 UInt64 _ x y)
  | .or => some (@HOr.hOr UInt64 UInt64 UInt64 _ x y)
  | .xor => some (@HXor.hXor UInt64 UInt64 UInt64 _ x y)
  | _ => none
 | .i8, x, y => bits? op .i8 x y
 | .i16, x, y => bits? op .i16 x y
 | .i32, x, y => bits? op .i32 x y
 | .i64, x, y => bits? op .i64 x y
where bits? (op : BinOp) (k : IntKind) (x y : Int) : Option Int := match op with
 | .and => some (bits .and k x y)
 | .or => some (bits .or k x y)
 | .xor => some (bits .xor k x y)
 | .andNot => some (bits .andNot k x y)
 | _ => none
abbrev zdN : List Ty → Type
 | [] => Unit
 | [t] => den t
 | t :: t' :: l => den t × zdN (t' :: l)
inductive Sh where
 | h (t : Ty)
 | own (id : Nat)
 | ptr (id off : Nat)
 | nilp
 | nils
 | mpr (id : Nat)
 /-- a slice without room behind its end -/
 | hc (e : Ty)
 /-- a pointer to what is only read -/
 | hr (t : Ty)
 | fn (f : Nat) (a c : List Sh)
 | ag (l : List Sh)
 /-- a list of pointers to the members of a family -/
 | fs (id : Nat)
inductive FC where
 | h (t : Ty) | mpr (id : Nat)
inductive FSh where
 | blk (T : TypeId) (l : List FC) | mp (K V : Ty)
inductive OSh where
 | blk (T : TypeId) (l : List Sh)
 | osl (e : Ty) (T : TypeId)
 /-- kp: no new key came since -/
 | mp (kp : Bool) (K V : Ty)
 /-- a range over object k, a map -/
 | it (k : Nat) (kp : Bool) (K : Ty)
 | is
 /-- a family: its list's type, its members' blocks -/
 | fam (T : TypeId) (os : List FSh)
 | dead
structure Shp where
 sl : List (Nat × Sh)
 hp : List OSh
def Sh.tysB : Sh → List Ty
 | .h t => [t]
 | .hc e => [.sl e]
 | .hr t => [t]
 | _ => []
def Sh.tysC : Sh → List Ty
 | .fn _ a c => a.flatMap Sh.tysB ++ c.flatMap Sh.tysB
 | x => x.tysB
def Sh.tys : Sh → List Ty
 | .ag l => l.flatMap Sh.tysC
 | x => x.tysC
def prT : List Ty → Ty
 | [] => .un
 | [t] => t
 | t :: t' :: l => .pr t (prT (t' :: l))
def toP : (l : List Ty) → den (prT l) → zdN l
 | [], _ => ()
 | [_], x => x
 | _ :: t' :: l, x => (x.1, toP (t' :: l) x.2)
def ofP : (l : List Ty) → zdN l → den (prT l)
 | [], _ => ()
 | [_], x => x
 | _ :: t' :: l, x => (x.1, ofP (t' :: l) x.2)
theorem yqW : ∀ (l : List Ty) (x : zdN l), toP l (ofP l x) = x
 | [], _ => rfl
 | [_], _ => rfl
 | _ :: t' :: l, x => by show (x.1, toP (t' :: l) (ofP (t' :: l) x.2)) = x; rw [yqW (t' :: l) x.2]
def FC.up : FC → Sh
 | .h t => .h t
 | .mpr k => .mpr k
def FSh.up : FSh → OSh
 | .blk T l => .blk T (l.map FC.up)
 | .mp K V => .mp false K V
def FC.tys : FC → List Ty
 | .h t => [t]
 | .mpr _ => []
def FSh.tys : FSh → List Ty
 | .blk _ l => l.flatMap FC.tys
 | .mp K V => [.mp K V]
def fT (os : List FSh) : Ty := prT (os.flatMap FSh.tys)
def OSh.tys : OSh → List Ty
 | .blk _ l => l.flatMap Sh.tysC
 | .osl e _ => [.sl e]
 | .mp _ K V => [.mp K V]
 | .it _ _ K => [.sl K]
 | .is => [.s, .i .i64]
 | .fam _ os => [.sl (fT os)]
 | .dead => []
def Shp.tys (s : Shp) : List Ty := s.sl.flatMap (fun p => p.2.tys) ++ s.hp.flatMap OSh.tys
def sF (os : List FSh) : Shp := ⟨[(0, .ptr 0 0)], os.map FSh.up⟩
theorem FC.up_tys (c : FC) : c.up.tysC = c.tys := by cases c <;> rfl
theorem FC.ups_tys : ∀ l : List FC, (l.map FC.up).flatMap Sh.tysC = l.flatMap FC.tys
 | [] => rfl
 | c :: l => by simp only [List.map_cons, List.flatMap_cons, FC.up_tys, FC.ups_tys l]
theorem FSh.up_tys (o : FSh) : o.up.tys = o.tys := by
 cases o with
 | blk T l => exact FC.ups_tys l
 | mp K V => rfl
theorem FSh.ups_tys : ∀ os : List FSh, (os.map FSh.up).flatMap OSh.tys = os.flatMap FSh.tys
 | [] => rfl
 | o :: os => by simp only [List.map_cons, List.flatMap_cons, FSh.up_tys, FSh.ups_tys os]
theorem yxX (os : List FSh) : (sF os).tys = os.flatMap FSh.tys := FSh.ups_tys os
def toS (os : List FSh) (x : den (fT os)) : zdN (sF os).tys := cast (by rw [yxX]) (toP (os.flatMap FSh.tys) x)
inductive SV where
 | v (t : Ty) (x : den t)
 | nils | nilp | nilm | nilf | undef
 /-- what was not done -/
 | skp
 /-- a slice of no elements and no room -/
 | emp
 /-- a slice that has no room behind its end -/
 | cl (e : Ty) (xs : List (den e))
 /-- a slice that is not nil -/
 | nn (e : Ty) (xs : List (den e))
 /-- of a slice the first n; behind them lies what is left of it -/
 | rm (e : Ty) (n : Nat) (xs : List (den e))
 | mpr (id : Nat)
 | ptr (id off : Nat)
 | rp (t : Ty) (x : den t) (off : Nat)
 | own (id ver : Nat)
 | ep (id ver : Nat) (i : Int) (off : Nat)
 | fn (f : Nat) (a c : List SV)
 | ag (l : List SV)
 | tup (l : List SV)
 /-- a list of pointers to a family's members, a cell of it, a pointer to a member -/
 | fs (id ver : Nat)
 | fe (id ver : Nat) (i : Int)
 | fp (id : Nat) (i : Int) (off : Nat)
inductive AO where
 | blk (T : TypeId) (cs : List SV)
 | osl (ver : Nat) (e : Ty) (T : TypeId) (xs : List (den e))
 | mp (gen : Nat) (K V : Ty) (es : List (den K × den V))
 /-- a range over a map: what came last, what is still to come -/
 | it (mid gen : Nat) (K : Ty) (cur : Option (den K)) (left : List (den K))
 /-- a range over a text -/
 | is (l : Bs) (p : Nat)
 /-- a family; member i is out -/
 | fam (ver : Nat) (T : TypeId) (os : List FSh) (ks : List (den (fT os)))
 | famO (ver : Nat) (T : TypeId) (os : List FSh) (ks : List (den (fT os))) (i : Int)
 | dead
structure St where
 sl : List (Nat × SV)
 hp : List AO
def lkS : List (Nat × SV) → Nat → SV
 | [], _ => .undef
 | (d, x) :: m, t => bif Nat.beq d t then x else lkS m t
def atN {α : Type} : List α → Nat → Option α
 | [], _ => none
 | x :: _, 0 => some x
 | _ :: l, n + 1 => atN l n
def setN {α : Type} : List α → Nat → α → List α
 | [], _, _ => []
 | _ :: l, 0, y => y :: l
 | x :: l, n + 1, y => x :: setN l n y
def St.put (σ : St) (d : Nat) (x : SV) : St := ⟨(d, x) :: σ.sl, σ.hp⟩
def cellsOf : (t : Ty) → den t → List SV
 | .pr a c, x => cellsOf a x.1 ++ cellsOf c x.2
 | .un, _ => []
 | .i k, x => [.v (.i k) x]
 | .b, x => [.v .b x]
 | .s, x => [.v .s x]
 | .er, x => [.v .er x]
 | .sl e, x => [.v (.sl e) x]
 | .mp a c, x => [.v (.mp a c) x]
def svOf (t : Ty) (x : den t) : SV := bif one t then .v t x else .ag (cellsOf t x)
def pc (l : List SV) (o n : Nat) : List SV := (l.drop o).take n
def layS : List SV → Nat → List SV → List SV
 | l, _, [] => l
 | [], _, _ => []
 | _ :: l, 0, x :: xs => x :: layS l 0 xs
 | y :: l, o + 1, xs => y :: layS l o xs
inductive TD where
 | int (k : IntKind) | b | s | sl (E : TypeId) | st (fs : List (TypeId × Nat)) | pt (E : TypeId) | ar (n : Nat) (E : TypeId) | map (K V : TypeId) | fn | ifc | ot
structure TI where
 td : TD
 sz : Nat
 z : List SV
 ty : Ty
 nb : Nat
def TI.agg (t : TI) : Bool := match t.td with
 | .st _ => true
 | .ar _ _ => true
 | _ => false
def svAt (f : TI) (l : List SV) : Option SV := bif Nat.beq l.length f.sz && Nat.blt 0 f.sz then (bif f.agg then some (.ag l) else match l with
 | [x] => some x
 | _ => none) else none
abbrev TE := List (Nat × TI)
def tyAt : TE → Nat → Option TI
 | [], _ => none
 | (d, x) :: m, t => bif Nat.beq d t then some x else tyAt m t
def zkY (hp : List AO) : (t : Ty) → SV → Option (den t)
 | t, .v t' x => match tyEq t' t with
  | some ⟨h⟩ => some (zlC h x)
  | none => none
 | .sl e, .nils => some ([] : List (den e))
 | .sl e, .emp => some ([] : List (den e))
 | .sl e, .cl e' xs => match tyEq e' e with
  | some ⟨h⟩ => some (zlC (by rw [h] : Ty.sl e' = Ty.sl e) xs)
  | none => none
 | .sl e, .nn e' xs => match tyEq e' e with
  | some ⟨h⟩ => some (zlC (by rw [h] : Ty.sl e' = Ty.sl e) xs)
  | none => none
 | .sl e, .rm e' n xs => match tyEq e' e with
  | some ⟨h⟩ => some (zlC (by rw [h] : Ty.sl e' = Ty.sl e) (show den (.sl e') from List.take n xs))
  | none => none
 | .sl e, .own id ver => match atN hp id with
  | some (.osl ver' e' _ xs) => bif Nat.beq ver ver' then (match tyEq e' e with
   | some ⟨h⟩ => some (zlC (by rw [h] : Ty.sl e' = Ty.sl e) xs)
   | none => none) else none
  | _ => none
 | _, _ => none
def zfX (hp : List AO) : (t : Ty) → List SV → Option (den t)
 | .pr a c, l => match zfX hp a (l.take (tsz a)), zfX hp c (l.drop (tsz a)) with
  | some x, some y => some (x, y)
  | _, _ => none
 | .un, l => match l with
  | [] => some ()
  | _ => none
 | t, l => match l with
  | [x] => zkY hp t x
  | _ => none
def ofSV (hp : List AO) (t : Ty) : SV → Option (den t)
 | .ag l => bif one t then none else zfX hp t l
 | x => bif one t then zkY hp t x else none
def cellL : SV → List SV
 | .ag l => l
 | x => [x]
def yhX : Value → Option SV
 | .bool x => some (.v .b x)
 | .int k n => bif decide (toI k (ofI k n) = n) then some (.v (.i k) (ofI k n)) else none
 | .string x => some (.v .s x.data.toList)
 | .slice none 0 0 => some .nils
 | .pointer none => some .nilp
 | .map none => some .nilm
 | .nilFunc => some .nilf
 | .nilIface => some (.v .er false)
 | _ => none
def ev (σ : St) : Operand → Option SV
 | .tmp t => some (lkS σ.sl t)
 | .const c => yhX c
 | .func f => some (.fn f [] [])
 | .global _ => none
end Go.Proofs.YtebbcofojchkpaaGreatDoor.Am
