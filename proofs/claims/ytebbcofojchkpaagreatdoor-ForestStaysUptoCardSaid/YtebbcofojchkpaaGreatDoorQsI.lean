/- strings.Repeat: what it computes, and that it does. What is left open: operations that laws speak of. Conditions: none; definitions, and that they are there. A machine over plain values: library functions told by hand. A machine over plain values: slices.Sorted of maps.Keys, the keys numbers. DERIVED: THE SHELF's CONTRACTS AT THIS DUMP, IN PLAIN WORDS (tools/lay-plain.mjs out of 'TryzSrtlI.lean', which tools/lay-shelf.mjs wrote): THE SAME DECLARATIONS UNDER THE SAME NAMES: 'import', 'namespace', 'open', 'def', 'theorem' AND NOTHING ELSE: no command of the shelf's: FOR A HAND-IN. Each laying: the table of numbers ('.._ren') and one theorem, a field a fact of the dump's own or the kernel's comparison; each contract: ONE APPLICATION. slices.Sorted of maps.Keys at this program: the kit's contracts laid. A machine over plain values: slices.Grow of nil. DERIVED: THE SHELF's CONTRACTS AT THIS DUMP, IN PLAIN WORDS (tools/lay-plain.mjs out of 'TryzGrwl.lean', which tools/lay-shelf.mjs wrote): THE SAME DECLARATIONS UNDER THE SAME NAMES: 'import', 'namespace', 'open', 'def', 'theorem' AND NOTHING ELSE: no command of the shelf's: FOR A HAND-IN. Each laying: the table of numbers ('.._ren') and one theorem, a field a fact of the dump's own or the kernel's comparison; each contract: ONE APPLICATION. slices.Grow of nil at this program: the kit's contract laid. What some functions compute, over plain values, and that they do. Plain laws of the words that walks are told in: loops, lists, bytes. Maps of numbers as rising lists: plain laws. Conditions: as each theorem says. -/
import Derived.Lib.SlKeysI
import Derived.Sort.Walk0
import Derived.Shelf.SlIterI.Nil
import Derived.Shelf.SortM.Plain
import Derived.Shelf.SortM.SortNone
import Derived.Ground.GgzProg
import Derived.Ground.SlgmProg
import Derived.Test.YtebbcofojchkpaaGreatDoorProg
import Derived.Shelf.Spec.SlicesGrow
import Derived.Ground.Names8Prog
import Derived.KernelRfl
import Derived.Test.YtebbcofojchkpaaGreatDoorQsH
namespace Go.Proofs.YtebbcofojchkpaaGreatDoor
open Go Go.RowKit
def ycA (s : Bs) (n : Int) : Option Bs := bif decide (0 ≤ n) && decide (n ≤ 1048576) && decide (s.length ≤ 1048576) then some (Lib.repeatL s n.toNat) else none
theorem yqV {S : Mem} {w : World} (_ : Sub S w) {x0 : Bs} {x1 : Int} {r : Bs} (hF : ycA x0 x1 = some r) :
  Calls Tryz.prog 50 #[str x0, .int .i64 x1] w fun e w' => e = .returned (str r) ∧ Ext w w' := by
 unfold ycA at hF
 obtain ⟨h, hF⟩ := Am.zaC hF
 simp only [Bool.and_eq_true, decide_eq_true_eq] at h
 cases hF
 obtain ⟨n, rfl⟩ := Int.eq_ofNat_of_zero_le h.1.1
 have hn : n ≤ 1048576 := by have := h.1.2; omega
 rcases Nat.lt_or_ge n 2 with h2 | h2
 ·rcases (by omega : n = 0 ∨ n = 1) with rfl | rfl
  ·refine (Tryz.strings_Repeat_zero ⟨x0.toArray⟩ w).mono ?_
   rintro _ _ ⟨rfl, rfl⟩; exact ⟨rfl, Ext.refl _⟩
  ·refine (Tryz.strings_Repeat_one ⟨x0.toArray⟩ w).mono ?_
   rintro _ _ ⟨rfl, rfl⟩
   refine ⟨?_, Ext.refl _⟩
   show Ending.returned (str x0) = .returned (str (Lib.repeatL x0 1))
   simp [Lib.repeatL]
 ·rcases Nat.eq_zero_or_pos x0.length with h0 | h0
  ·have hx : x0 = [] := List.eq_nil_of_length_eq_zero h0
   subst hx
   refine (Tryz.strings_Repeat_empty ⟨#[]⟩ n w h2 (by omega) rfl).mono ?_
   rintro _ _ ⟨rfl, rfl⟩
   refine ⟨?_, Ext.refl _⟩
   show Ending.returned (str []) = .returned (str (Lib.repeatL [] n))
   rw [List.eq_nil_of_length_eq_zero (show (Lib.repeatL [] n).length = 0 by rw [Lib.repeatL_length]; rfl)]
  ·refine (Tryz.strings_Repeat_main ⟨x0.toArray⟩ n w h2 (by omega) ?_ (by rw [zfI]; exact h0)).mono ?_
   ·rw [zfI]
    have := Nat.mul_le_mul h.2 hn
    omega
   ·rintro _ w' ⟨rfl, hb⟩
    exact ⟨rfl, hb⟩
end Go.Proofs.YtebbcofojchkpaaGreatDoor
namespace Go.Proofs.YtebbcofojchkpaaGreatDoor.Am
open Go Go.RowKit
def zvV : PC := ⟨[.h .s, .h (.i .i64)], [.s], fun x => ycA x.1 x.2, false⟩
theorem zvU {G : List (Nat × Obj)} : PCok Tryz.prog G 50 zvV := pc2 (t1 := .s) (t2 := .i .i64) (rts := [.s]) rfl rfl rfl (isFn Tryz.func50 (by kernel_rfl) (by kernel_rfl)) fun _ _ _ _ _ _ hS h => yqV hS h
structure Ops where
 itoa : Int → Option Bs
 atoi : Bs → Option (Int × Bool)
 trim : Bs → Bs → Option Bs
 cut : Bs → Bs → Option (Bs × Bs × Bool)
 rep : Bs → Int → Option Bs
 form : (List Bs) → Option Bs
def ygI (o : Ops) : PC := ⟨[(.h (.i .i64))], [.s], fun x => o.itoa x, false⟩
def ycK (o : Ops) : PC := ⟨[(.h .s)], [(.i .i64), .er], fun x => o.atoi x, false⟩
def zyZ (o : Ops) : PC := ⟨[(.h .s), (.h .s)], [.s], fun x => o.trim x.1 x.2, false⟩
def ysI (o : Ops) : PC := ⟨[(.h .s), (.h .s)], [.s, .s, .b], fun x => o.cut x.1 x.2, false⟩
def ysZ (o : Ops) : PC := ⟨[(.h .s), (.h (.i .i64))], [.s], fun x => o.rep x.1 x.2, false⟩
def ymV (o : Ops) : PC := ⟨[(.h (.sl .s))], [.s], fun x => o.form x, false⟩
class znW (G : List (Nat × Obj)) (o : Ops) : Prop where
 itoa : PCok Tryz.prog G 46 (ygI o)
 atoi : PCok Tryz.prog G 83 (ycK o)
 trim : PCok Tryz.prog G 82 (zyZ o)
 cut : PCok Tryz.prog G 79 (ysI o)
 rep : PCok Tryz.prog G 50 (ysZ o)
 form : PCok Tryz.prog G 45 (ymV o)
theorem witO {p : Prop} {G : List (Nat × Obj)} {o : Ops} [zpM G] [znW G o] (h : p) : p := h
def zaB : Ops := ⟨ylX, yrN, yjS, cutP, ycA, znL⟩
instance xdV {G : List (Nat × Obj)} [zpM G] : znW G zaB := ⟨zxV, zyB, zxZ, yaF, zvU, zzT⟩
section
variable {τ : TE} {P : Program} {G : List (Nat × Obj)}
theorem yrR {f : FuncId} {fn : Func} {c : Code} {e : Ty} {T : TypeId} (hm : P.follows .mixedOrders = true) (hτ : TEok P τ) (hf : P.funcs[f]? = some fn) (hfn : IsFn P f) (hb : fn.body = some c) (hl : Nat.ble 1 fn.ntmps = true) (hr : Nat.beq fn.results.toList.length 1 = true)
  (h1 : run 0 fn.ntmps τ ⟨[], [], false⟩ [] c ⟨[(0, .nils)], []⟩ (finS τ fn 0 [(none, ⟨[(0, .nils)], []⟩)]) = some ())
  (h2 : ∀ xs : List (den e), run 0 fn.ntmps τ ⟨[], [], false⟩ [] c ⟨[(0, .nn e xs)], []⟩ (finS τ fn 0 [(none, ⟨[(0, .own 0)], [.osl e T]⟩)]) = Option.bind (app [] xs) fun r => some r) :
  SCok P G f ⟨⟨[(0, .h (.sl e))], []⟩, 1, [(none, ⟨[(0, .own 0)], [.osl e T]⟩)], fun xs => app [] xs⟩ := by
 refine ⟨hfn, fun S0 w0 us E0 L0 (xs : List (den e)) (d : List (den e)) _ hul R hy => ?_⟩
 have hy : app [] xs = some d := hy
 have hul : us.length = 1 := hul
 have hle : us.length ≤ fn.ntmps := by rw [hul]; exact Nat.le_of_ble_eq_true hl
 obtain ⟨u, rfl⟩ : ∃ u, us = [u] := by
  match us, hul with
  | [u], _ => exact ⟨u, rfl⟩
 have hu : VB S0 E0 (.v (.sl e) xs) u := R.sl 0
 obtain ⟨v, hv, hrd⟩ := hu
 injection hv with hv
 subst hv
 have re : ∀ {x : SV}, VR S0 E0 x u → RelV ⟨S0, zbX L0, w0⟩ S0 E0 L0 ⟨[(0, x)], []⟩ (fun t => [u].getD t undef) w0 := fun {x} hx => ⟨R.hs, R.lL, R.lE, R.obj, fun t => by
  cases t with
  | zero => exact hx
  | succ t => trivial⟩
 by_cases hn : ∃ n c, u = .slice none n c
 ·have hu0 : u = .slice none 0 0 ∧ xs = [] := by
   obtain ⟨cs, k1, k2⟩ := hrd
   obtain ⟨n, c', hn⟩ := hn
   rcases k1 with ⟨⟨a0, k1⟩, k3, _⟩ | ⟨b', o, c2, ds, T2, fz, k1, _⟩
   ·rw [hn] at k1; injection k1 with _ e2 e3
    exact ⟨by rw [hn, e2, e3], List.eq_nil_of_length_eq_zero k3⟩
   ·rw [hn] at k1; cases k1
  obtain ⟨rfl, rfl⟩ := hu0
  have hd : d = [] := ygE hy
  subst hd
  refine (ygD hm hτ (ctok (G := []) (pc := []) (sc := []) (k := false) trivial trivial _ (fun _ h => by cases h)) hf hb hle hr (re (x := .nils) rfl) h1).mono fun e' w' ⟨v, he, S', E', L', σo, V', ho, hS, hP, R', hv0, hn0, hres⟩ => ?_
  have hσ : σo = ⟨[(0, .nils)], []⟩ := by
   have := ho (γ := St) fun _ σ => some σ
   exact (osi this).symm
  subst hσ
  have hl' : L'.length = 0 := R'.lL
  have hE' : E'.length = 0 := R'.lE
  have e1 : L' = [] := List.eq_nil_of_length_eq_zero hl'
  have e2 : E' = [] := List.eq_nil_of_length_eq_zero hE'
  subst e1; subst e2
  have h0 : V' 0 = .slice none 0 0 := R'.sl 0
  refine ⟨v, he, S', [.osl 0 (.slice none 0 0) (tsz e)], [.osl (.slice none 0 0) 0 (tsz e) [] [] T], ⟨[(0, .own 0 0)], [.osl 0 e T []]⟩, V', fun k => ?_, hS, fun k e hk => absurd hk (Nat.not_lt_zero k), ⟨HS.nil R'.hs _ _, rfl, rfl, fun i o h => ?_, fun t => ?_⟩, ?_, Nat.zero_le _, hres⟩
  ·show k (exOf none) _ = _
   have : (Shp.put (⟨[(0, .own 0)], [.osl e T]⟩ : Shp) ([] : List (den e))) = ⟨[(0, .own 0 0)], [.osl 0 e T []]⟩ := by
    obtain ⟨q, hq⟩ := zfA e
    have e0 : ∀ y : den (.sl e), zgX [.osl e T] [.v (.sl e) y] = [.osl 0 e T y] := fun y => by
     rw [zgX, hq]; rfl
    have e1 : zgX [.osl e T] [.v (.sl e) ([] : List (den e))] = [.osl 0 e T []] := e0 _
    exact congrArg (fun hp => (⟨[(0, .own 0 0)], hp⟩ : St)) e1
   rw [this]; rfl
  ·cases i with
   | zero => cases h; exact ⟨_, _, rfl, rfl, .slice none 0 0, .slice none 0 0, [], [], rfl, rfl, rfl, .inl rfl⟩
   | succ i => cases h
  ·cases t with
   | zero => exact VR.ofC (show VC S' _ (.own 0 0) (V' 0) by rw [h0]; exact ⟨rfl, _, rfl, fun r v s he => by cases he; exact ⟨Nat.le_refl 0, fun _ => rfl⟩⟩)
   | succ t => trivial
  ·intro i ver e' T' xs h
   cases i with
   | zero => cases h; rfl
   | succ i => cases h
 ·exact (ygD hm hτ (ctok (G := []) (pc := []) (sc := []) (k := false) trivial trivial _ (fun _ h => by cases h)) hf hb hle hr (re (x := .nn e xs) ⟨hrd, fun n c h => hn ⟨n, c, h⟩⟩) ((h2 xs).trans (by rw [hy]; rfl))).mono fun _ _ h => h
theorem yoW {e : Ty} (he : zvP e = false) {S S2 : Mem} : ∀ {xs : List (den e)} {cs : LV}, @RL (den e) (rpD e) S cs xs → @RL (den e) (rpD e) S2 cs xs
 | [], _, h => h
 | _ :: _, _, ⟨c, d, h1, h2, h3⟩ => ⟨c, d, h1, zuR e he h2, yoW he h3⟩
theorem ykJ {f : FuncId} {e : Ty} {T : TypeId} (he : zvP e = false) (h : SCok P G f ⟨⟨[(0, .h (.sl e))], []⟩, 1, [(none, ⟨[(0, .own 0)], [.osl e T]⟩)], fun (xs : List (den e)) => app [] xs⟩) :
  SCok P G f ⟨⟨[(0, .own 0)], [.osl e T]⟩, 1, [(none, ⟨[(0, .own 1)], [.osl e T, .osl e T]⟩)], fun (xs : List (den e)) => Option.bind (app [] xs) fun r => some (xs, r)⟩ := by
 obtain ⟨q, hq⟩ := zfA e
 have e0 : ∀ y : den (.sl e), zgX [.osl e T] [.v (.sl e) y] = [.osl 0 e T y] := fun y => by rw [zgX, hq]; rfl
 refine ⟨h.fn, fun S0 w0 us E0 L0 (xs : List (den e)) (d : List (den e) × List (den e)) hG hul R hy => ?_⟩
 have hy : (Option.bind (app [] xs) fun r => some (xs, r)) = some d := hy
 obtain ⟨ys, hys, hd⟩ := bnd hy
 cases hd
 have hul : us.length = 1 := hul
 obtain ⟨u, rfl⟩ : ∃ u, us = [u] := by
  match us, hul with
  | [u], _ => exact ⟨u, rfl⟩
 have hput : (Shp.put (⟨[(0, .own 0)], [.osl e T]⟩ : Shp) xs) = ⟨[(0, .own 0 0)], [.osl 0 e T xs]⟩ := congrArg (fun hp => (⟨[(0, .own 0 0)], hp⟩ : St)) (e0 xs)
 have R : RelV ⟨S0, zbX L0, w0⟩ S0 E0 L0 ⟨[(0, .own 0 0)], [.osl 0 e T xs]⟩ (fun t => [u].getD t undef) w0 := by rw [← hput]; exact R
 obtain ⟨r0, ee0, g1, g2, v, v', cs, rs, rfl, rfl, hrl, hsm⟩ := R.obj 0 _ rfl
 have hL : L0.length = 1 := R.lL
 have hE : E0.length = 1 := R.lE
 obtain ⟨h7, e1, h8, h9⟩ := (show VB S0 E0 (.own 0 0) u from R.sl 0)
 rw [g2] at h8; cases h8
 have hu : u = v' := (h9 _ _ _ rfl).2 rfl
 subst hu
 have hle : Mem.le S0 (znN w0) := R.hs.sub
 have hk : lkR L0 0 = some (.osl v xs.length (tsz e) cs rs T) := by rw [zaV]; exact g1
 have hrd : @RdS (den e) (rpD e) (znN w0) u xs := ⟨cs, by rw [show Rp.sz (den e) = tsz e from zjK e]; exact hsm.slW R.hs.sub (R.hs.slW hk), hrl.mono hle⟩
 refine (h.ok (znN w0) w0 [u] [] [] xs ys (fun p hp => hle _ _ (hG p hp)) rfl ⟨HS.start (yhZ w0), rfl, rfl, fun i o ho => by simp [Shp.put, zgX] at ho, fun t => ?_⟩ hys).mono ?_
 ·cases t with
  | zero => exact (⟨u, rfl, hrd⟩ : VB (znN w0) [] (.v (.sl e) xs) u)
  | succ t => trivial
 rintro e' w' ⟨v1, hv1, S', E', L', σo, V', hout, hS, _, R2, _, _, hres⟩
 have hσ : σo = ⟨[(0, .own 0 0)], [.osl 0 e T ys]⟩ := by
  have h1 := hout (γ := St) fun _ σ => some σ
  have h2 : (Shp.put (⟨[(0, .own 0)], [.osl e T]⟩ : Shp) ys) = ⟨[(0, .own 0 0)], [.osl 0 e T ys]⟩ := congrArg (fun hp => (⟨[(0, .own 0 0)], hp⟩ : St)) (e0 ys)
  have h3 : (some ((Shp.put (⟨[(0, .own 0)], [.osl e T]⟩ : Shp) ys).app []) : Option St) = some σo := h1
  rw [h2] at h3
  exact (osi h3).symm
 subst hσ
 obtain ⟨r2, ee2, k1, k2, vv, vv', cs2, rs2, rfl, rfl, hrl2, hsm2⟩ := R2.obj 0 _ rfl
 obtain ⟨k3, e2, k4, k5⟩ := (show VB S' E' (.own 0 0) (V' 0) from R2.sl 0)
 rw [k2] at k4; cases k4
 have hV : V' 0 = vv' := (k5 _ _ _ rfl).2 rfl
 have hk2 : lkR L' 0 = some (.osl vv ys.length (tsz e) cs2 rs2 T) := by rw [zaV]; exact k1
 have hx : Ext w0 w' := R2.hs.toExt
 have H : HS ⟨S0, zbX L0, w0⟩ S0 w' (.osl vv ys.length (tsz e) cs2 rs2 T :: L0) := R.hs.push hx (R2.hs.own 0 _ hk2) fun b hb => by
  rcases (R2.hs.old 0 _ b hk2 hb).1 with h1 | h1
  ·exact h1
  ·cases h1
 refine ⟨v1, hv1, S0, E0 ++ [.osl 0 vv' (tsz e)], L0 ++ [.osl vv ys.length (tsz e) cs2 rs2 T], ⟨[(0, .own 1 0)], [.osl 0 e T xs, .osl 0 e T ys]⟩, V', fun k => ?_, Mem.le_refl _, Pin.of (ELe.push _ _), ⟨HS.snoc H, by simp [hL], by simp [hE], fun i o ho => ?_, fun t => ?_⟩, ?_, by simp, hres⟩
 ·show k (exOf none) _ = _
  have h2 : (Shp.put (⟨[(0, .own 1)], [.osl e T, .osl e T]⟩ : Shp) ((xs, ys) : List (den e) × List (den e))) = ⟨[(0, .own 1 0)], [.osl 0 e T xs, .osl 0 e T ys]⟩ := by
   have e2 : ∀ y z : den (.sl e), zgX [.osl e T, .osl e T] [.v (.sl e) y, .v (.sl e) z] = [.osl 0 e T y, .osl 0 e T z] := fun y z => by
    rw [zgX, hq]
    simp only []
    rw [e0]; rfl
   exact congrArg (fun hp => (⟨[(0, .own 1 0)], hp⟩ : St)) (e2 xs ys)
  rw [h2]; rfl
 ·cases i with
  | zero =>
   cases ho
   exact ⟨_, _, by rw [List.getElem?_append_left (by omega)]; exact g1, by rw [List.getElem?_append_left (by omega)]; exact g2, v, u, cs, rs, rfl, rfl, hrl, hsm⟩
  | succ i =>
   cases i with
   | zero =>
    cases ho
    refine ⟨_, _, by rw [List.getElem?_append_right (by omega), hL]; rfl, by rw [List.getElem?_append_right (by omega), hE]; rfl, vv, vv', cs2, rs2, rfl, rfl, yoW he hrl2, ?_⟩
    rcases hsm2 with h1 | ⟨h1, h2, _, h3⟩
    ·exact .inl h1
    ·exact .inr ⟨h1, h2, .inl ⟨h3, rfl, rfl⟩, h3⟩
   | succ i => simp at ho
 ·cases t with
  | zero => exact VR.ofC (show VC S0 _ (.own 1 0) (V' 0) from ⟨k3, .osl 0 vv' (tsz e), by rw [List.getElem?_append_right (by omega), hE]; rfl, fun r v s he => by cases he; exact ⟨Nat.le_refl 0, fun _ => hV⟩⟩)
  | succ t => trivial
 ·intro i ver e' T' xs' hi
  cases i with
  | zero => cases hi; rfl
  | succ i =>
   cases i with
   | zero => cases hi; rfl
   | succ i => simp at hi
def finC (τ : TE) (f : Func) (e : Ty) (ex : Ex) (σ : St) : Option (List (den e)) := match ex with
 | .exit _ => none
 | _ => match zvZ τ σ f.results.toList with
  | some [.cl e' xs] => match tyEq e' e with
   | some ⟨h⟩ => some (zjT (by rw [h] : Ty.sl e' = Ty.sl e) (show den (.sl e') from xs))
   | none => none
  | _ => none
theorem ybU {f : FuncId} {fn : Func} {c : Code} {e : Ty} (hm : P.follows .mixedOrders = true) (hτ : TEok P τ) (hf : P.funcs[f]? = some fn) (hfn : IsFn P f) (hb : fn.body = some c) (hl : Nat.ble 1 fn.ntmps = true)
  (h1 : ∀ xs : List (den e), run 0 fn.ntmps τ ⟨[], [], false⟩ [] c ⟨[(0, .v (.sl e) xs)], []⟩ (finC τ fn e) = Option.bind (chk (decide ((xs.length : Int) = (xs.length : Int)))) fun _ => Option.bind (subH xs (xs.length : Int)) fun r => some r) :
  PCok P G f ⟨[.h (.sl e)], [.sl e], fun xs => some xs, true⟩ := by
 refine ⟨hfn, fun S0 w0 us (xs : List (den e)) (y : List (den e)) _ hS ha hy => ?_⟩
 have hxy : xs = y := osi hy
 subst hxy
 have ha : A2 (VR S0 []) [SV.v (.sl e) xs] us := ha
 have h2 : run 0 fn.ntmps τ ⟨[], [], false⟩ [] c ⟨[(0, .v (.sl e) xs)], []⟩ (finC τ fn e) = some xs := by
  rw [h1 xs]
  have h3 : subH xs (xs.length : Int) = some xs := by
   unfold subH
   simp
  simp [chk, h3]
 have hul : us.length = 1 := by rw [← ha.len]; rfl
 refine enter hf hb rfl (by rw [hul]; exact hl) ?_
 have R0 : Rel fn.ntmps ⟨S0, [], w0⟩ S0 [] [] ⟨argS 0 [SV.v (.sl e) xs], []⟩ (argm us 0) w0 := by
  refine ⟨HS.start hS, rfl, rfl, fun i o h => by simp at h, fun t => ?_⟩
  show VR S0 [] (lkS (argS 0 [SV.v (.sl e) xs]) t) (bif Nat.blt t fn.ntmps then look (argm us 0) t else undef)
  cases ht : Nat.blt t fn.ntmps with
  | true => exact ykD 0 t ha
  | false =>
   rw [zkE] at ht
   have h1 := of_decide_eq_false ht
   have h2 := Nat.le_of_ble_eq_true hl
   rw [zyA (by simp; omega)]
   trivial
 refine zqV hm hτ (ctok (G := []) (pc := []) (sc := []) (k := false) trivial trivial _ (fun _ h => by cases h)) c R0 (finC τ fn e) xs _ h2 fun ex σ' S' E' L' m' w' h1 _ _ _ R1 => ?_
 have key : ∀ (_ : (match zvZ τ σ' fn.results.toList with
   | some [.cl e' xs] => match tyEq e' e with
    | some ⟨h⟩ => some (zjT (by rw [h] : Ty.sl e' = Ty.sl e) (show den (.sl e') from xs))
    | none => none
   | _ => none) = some xs), (fr fn.ntmps m').defers = [] ∧ ∃ v, (results fn (fr fn.ntmps m').tmps).run P w' = .ok v w' ∧ Ext w0 w' ∧ repR (gr S0 w0 w') [.sl e] v xs ∧ ∃ a n, v = .slice a n n := fun h1 => by
  split at h1
  ·rename_i e' ys hl1
   split at h1
   ·rename_i hh _
    subst hh
    have hys : ys = xs := osi h1
    subst hys
    obtain ⟨vs, h3, h4⟩ := zxH (P := P) hτ R1 hl1
    obtain ⟨v, rfl, h5⟩ := h3.one
    obtain ⟨h5, a, h6⟩ := (show VB S' E' (.cl e' ys) v from h5)
    refine ⟨rfl, v, ?_, R1.hs.toExt, ⟨v, rfl, RdS.mono h5 R1.hs.gr⟩, a, _, h6⟩
    rw [zpI, Array.mapM_eq_mapM_toList]
    simp only [Sem.run_bind, Sem.run_map, h4, Result.andThen_ok, Sem.run_pure]
    rfl
   ·cases h1
  ·cases h1
 cases ex with
 | normal =>
  obtain ⟨h2, v, h3, h4, h5, h6⟩ := key h1
  exact ⟨h2, v, h3, h4, v, rfl, h5, fun _ => h6⟩
 | ret =>
  obtain ⟨h2, v, h3, h4, h5, h6⟩ := key h1
  exact ⟨h2, v, h3, h4, v, rfl, h5, fun _ => h6⟩
 | exit i => cases h1
end
end Go.Proofs.YtebbcofojchkpaaGreatDoor.Am
namespace Go.Proofs.YtebbcofojchkpaaGreatDoor.Am
open Go Go.RowKit Go.Maps Go.Sort
open Go.WideElems (Fit rd rg)
def anyVI : Value → Option (DataW Unit × List MemPlace) := fun _ => some (.nil, [])
def zwD : List Int → Bool
 | x :: y :: l => decide (x < y) && zwD (y :: l)
 | _ => true
def zsX {α : Type} (es : List (Int × α)) : Bool := decide (es.length ≤ 1048576) && (es.all (fun p => decide (-9223372036854775808 ≤ p.1) && decide (p.1 ≤ 9223372036854775807)) && zwD (es.map (·.1)))
def zxG {α : Type} (es : List (Int × α)) : Option (List Int × List (Int × α)) := bif zsX es then some (es.map (·.1), es) else none
theorem zyU : ∀ {l : List Int}, zwD l = true → l.Pairwise fun x y => x < y
 | [], _ => .nil
 | [x], _ => List.pairwise_singleton _ _
 | x :: y :: l, h => by
  unfold zwD at h
  rw [Bool.and_eq_true, decide_eq_true_eq] at h
  have ih := zyU (l := y :: l) h.2
  refine List.pairwise_cons.2 ⟨fun z hz => ?_, ih⟩
  rcases List.mem_cons.1 hz with rfl | hz
  ·exact h.1
  ·exact Int.lt_trans h.1 ((List.pairwise_cons.1 ih).1 z hz)
theorem yfD {l : List Int} (h : zwD l = true) : l.mergeSort (fun x y => decide (x ≤ y)) = l := by
 refine List.mergeSort_of_pairwise ((zyU h).imp fun {a b} hab => ?_)
 simp only [decide_eq_true_eq]
 exact Int.le_of_lt hab
section
variable {P : Program} {S : Mem}
theorem yeF {V : Ty} {kT : TypeId} (hk : P.underlying kT = some (.int .i64)) : ∀ {l : List (Int × den V)} {ents : List MapEntry}, A2 (fun (p : Int × den V) en => rep1 (.i .i64) S en.key p.1 ∧ rep1 V S en.val p.2) l ents → (∀ p ∈ l, -9223372036854775808 ≤ p.1 ∧ p.1 ≤ 9223372036854775807) → ents.map (·.key) = l.map (fun p => Value.int .i64 p.1) ∧ (∀ x ∈ ents, ∃ y, Go.WideElems.rd P kT anyVI x = some y) ∧ (ents.map (Go.WideElems.rg P kT anyVI)).map (fun p => Go.intOf p.1) = l.map (·.1)
 | _, _, .nil, _ => ⟨rfl, fun _ h => (by cases h), rfl⟩
 | p :: l, en :: ents, .cons a r, hs => by
  obtain ⟨i1, i2, i3⟩ := yeF hk r fun q hq => hs q (List.mem_cons_of_mem _ hq)
  have hkey : en.key = .int .i64 p.1 := by have h : [en.key] = [Value.int .i64 p.1] := a.1; injection h
  have hp := hs p List.mem_cons_self
  have hr : Go.WideElems.rd P kT anyVI en = some (.int .i64 p.1, .nil) := by
   unfold Go.WideElems.rd
   rw [hkey]
   have : keyOf P kT (.int .i64 p.1) = some (.int .i64 p.1) := by
    have hw : (Lit.int .i64 p.1).wf = true := by
     show (decide (IntKind.i64.min ≤ p.1) && decide (p.1 ≤ IntKind.i64.max)) = true
     rw [show IntKind.i64.min = -9223372036854775808 from rfl, show IntKind.i64.max = 9223372036854775807 from rfl]
     simp [hp]
    simp [keyOf, hk, mapKey, hw]
   show (keyOf P kT (.int .i64 p.1)).bind _ = _
   rw [this]
   rfl
  refine ⟨by rw [List.map_cons, List.map_cons, i1, hkey], fun x hx => ?_, ?_⟩
  ·rcases List.mem_cons.1 hx with rfl | hx
   ·exact ⟨_, hr⟩
   ·exact i2 x hx
  ·rw [List.map_cons, List.map_cons, List.map_cons, i3]
   congr 1
   unfold Go.WideElems.rg
   rw [hr]
   rfl
theorem ylW {V : Ty} {kT : TypeId} {w : World} {b ck : Nat} {es : List (Int × den V)} {ents : List MapEntry} (hk : P.underlying kT = some (.int .i64)) (hm : MR S (.i .i64) V es ents) (hb : ∀ en ∈ ents, en.born < ck) (hh : w.heap[b]? = some (.map ents.toArray ck)) (ho : zsX es = true) :
  ∃ D0 : DataW Unit, w.ownsMap P kT anyVI b es.length D0 ∧ Maps.size D0 = es.length ∧ (intKeys D0).Perm (es.map (·.1)) := by
 obtain ⟨(l : List (Int × den V)), (hl : l.Perm es), hA⟩ := hm.perm
 unfold zsX at ho
 simp only [Bool.and_eq_true, decide_eq_true_eq, List.all_eq_true] at ho
 obtain ⟨h1, h2, h3⟩ := ho
 have hlen : ents.length = es.length := by rw [← hA.len]; exact hl.length_eq
 obtain ⟨k1, k2, k3⟩ := yeF hk hA fun p hp => h2 p (hl.mem_iff.1 hp)
 have hnd : (es.map (·.1)).Nodup := (zyU h3).imp fun {a b} hab e => by subst e; exact Int.lt_irrefl _ hab
 refine ⟨_, ⟨ents.toArray, ck, hh, ⟨by simp [maxLen]; omega, ⟨by simpa using hb, by simpa using hm.nd, ?_⟩, by simpa using k2⟩, by simp [hlen], rfl⟩, ?_, ?_⟩
 ·have e1 : l.map (fun p => Value.int .i64 p.1) = (l.map (·.1)).map (Value.int .i64) := by rw [List.map_map]; rfl
  simp only []
  rw [k1, e1]
  refine List.Pairwise.map _ (fun a b hab e => hab (by injection e)) ((hl.map _).nodup_iff.2 hnd)
 ·show ((ents.map (Go.WideElems.rg P kT anyVI)).foldr DataW.insert []).length = _
  rw [length_sorted, List.length_map, hlen]
 ·show (((ents.map (Go.WideElems.rg P kT anyVI)).foldr DataW.insert []).map fun p => Go.intOf p.1).Perm _
  refine ((Go.WideShapes.sorted_perm _).map _).trans ?_
  rw [k3]
  exact hl.map _
theorem ymI : ∀ (l : List Int), @RL (den (.i .i64)) (rpD (.i .i64)) S (l.map encZ) l
 | [] => rfl
 | x :: l => ⟨[.int .i64 x], l.map encZ, rfl, (rfl : [_] = [_]), ymI l⟩
theorem ywA {w' : World} {base n : Nat} {sT : TypeId} {v : Value} {ks : List Int} (hn : ks.length = n) (hrow : w'.ownsRow base sT 1 v n (ks.map encZ)) (hm : ∀ b, base ≤ b → S b = w'.heap[b]?) : @RdS (den (.i .i64)) (rpD (.i .i64)) S v ks := by
 subst hn
 refine ⟨ks.map encZ, ?_, ymI ks⟩
 obtain ⟨g1, g2⟩ := hrow
 show SlS S v ks.length 1 (ks.map encZ)
 rcases g2 with ⟨rfl, g3⟩ | ⟨gb, cap, cur, rfl, g3, g4, g5, g6, g7, g8⟩
 ·have : ks = [] := List.eq_nil_of_length_eq_zero g3
  subst this
  exact .inl ⟨⟨_, rfl⟩, rfl, rfl⟩
 ·refine .inr ⟨gb, 0, cap, cur.toList, sT, (0, 0), rfl, g5, ?_, ?_, ?_⟩
  ·rw [hm gb g3, g4]
  ·have : cur.toList.length = cap * 1 := by simpa using g7
   rw [this]; omega
  ·rw [zaG, List.drop_zero]; exact g8
theorem yjE {G : List (Nat × Obj)} {f g : FuncId} {mT kT sT : TypeId} {V : Ty} (hfn : IsFn P f) (hk : P.underlying kT = some (.int .i64))
  (hS : ∀ (Bm b nn : Nat) (D0 : DataW Unit) (w : World), Bm < w.heap.size → w.cell? ⟨Bm, 0, none⟩ = some (.map (some b)) → w.ownsMap P kT anyVI b nn D0 → Maps.size D0 ≤ maxLen → Maps.size D0 * 8 ≤ 140737488355328 →
   Calls P f #[.func (.func g) #[] #[.pointer (some ⟨Bm, 0, none⟩)]] w fun e w' => ∃ (v : Value) (ss : List Int), e = .returned v ∧ ss.Perm (intKeys D0) ∧ w'.ownsRow w.heap.size sT 1 v ss.length ((ss.mergeSort (fun x y => decide (x ≤ y))).map encZ) ∧ (v = .slice none 0 0 ↔ ss = []) ∧ Below w.heap.size w w') :
  SCok P G f ⟨⟨[(0, .fn g [] [.ptr 0 0])], [.blk mT [.mpr 1], .mp true (.i .i64) V]⟩, 1, [(none, ⟨[(0, .h (.sl (.i .i64)))], [.blk mT [.mpr 1], .mp true (.i .i64) V]⟩)], fun (es : List (Int × den V)) => zxG es⟩ := by
 refine ⟨hfn, fun S0 w0 us E0 L0 (es : List (Int × den V)) d _ hul R hy => ?_⟩
 have hy : (bif zsX es then some (es.map (·.1), es) else none) = some d := hy
 obtain ⟨hok, hy⟩ := zaC hy
 have hd : d = (es.map (·.1), es) := (osi hy).symm
 subst hd
 have hul : us.length = 1 := hul
 obtain ⟨u, rfl⟩ : ∃ u, us = [u] := by
  match us, hul with
  | [u], _ => exact ⟨u, rfl⟩
 obtain ⟨q, hq⟩ := zfA (.mp (.i .i64) V)
 have hput : (Shp.put (⟨[(0, .fn g [] [.ptr 0 0])], [.blk mT [.mpr 1], .mp true (.i .i64) V]⟩ : Shp) es) = ⟨[(0, .fn g [] [.ptr 0 0])], [.blk mT [.mpr 1], .mp 0 (.i .i64) V es]⟩ := by
  have e0 : ∀ y : den (.mp (.i .i64) V), zgX [.blk mT [.mpr 1], .mp true (.i .i64) V] [.v (.mp (.i .i64) V) y] = [.blk mT [.mpr 1], .mp 0 (.i .i64) V y] := fun y => by
   simp only [zgX, zxX, Sh.putC, Sh.putB, hq]
   rfl
  exact congrArg (fun hp => (⟨[(0, .fn g [] [.ptr 0 0])], hp⟩ : St)) (e0 es)
 have hput2 : (Shp.put (⟨[(0, .h (.sl (.i .i64)))], [.blk mT [.mpr 1], .mp true (.i .i64) V]⟩ : Shp) ((es.map (·.1), es) : List Int × List (Int × den V))) = ⟨[(0, .v (.sl (.i .i64)) (es.map (·.1)))], [.blk mT [.mpr 1], .mp 0 (.i .i64) V es]⟩ := by
  have e0 : ∀ y : den (.mp (.i .i64) V), zgX [.blk mT [.mpr 1], .mp true (.i .i64) V] [.v (.mp (.i .i64) V) y] = [.blk mT [.mpr 1], .mp 0 (.i .i64) V y] := fun y => by
   simp only [zgX, zxX, Sh.putC, Sh.putB, hq]
   rfl
  exact congrArg (fun hp => (⟨[(0, .v (.sl (.i .i64)) (es.map (·.1)))], hp⟩ : St)) (e0 es)
 have R : RelV ⟨S0, zbX L0, w0⟩ S0 E0 L0 ⟨[(0, .fn g [] [.ptr 0 0])], [.blk mT [.mpr 1], .mp 0 (.i .i64) V es]⟩ (fun t => [u].getD t undef) w0 := by rw [← hput]; exact R
 obtain ⟨r0, e0, a1, a2, b0, cs, rfl, rfl, a3⟩ := R.objN (i := 0) rfl
 obtain ⟨c, rfl, a4⟩ := a3.one
 obtain ⟨_, e1, a5, a6⟩ := (show VB S0 E0 (.mpr 1) c from a4)
 obtain ⟨r1, e1', c1, c2, b, ents, ck, rfl, rfl, c3, c4⟩ := R.objN (i := 1) rfl
 rw [c2] at a5; cases a5
 have hc := a6 _ _ _ _ rfl
 subst hc
 have hh0 : w0.heap[b0]? = some (.cells [Value.map (some b)].toArray mT (0, 0)) := R.hs.own 0 _ a1
 have hh1 : w0.heap[b]? = some (.map ents.toArray ck) := R.hs.own 1 _ c1
 have hu : u = .func (.func g) #[] #[.pointer (some ⟨b0, 0, none⟩)] := by
  obtain ⟨xs, ys, hu, h1, h2⟩ := (show VC S0 E0 (.fn g [] [.ptr 0 0]) u from R.sl 0)
  cases h1
  obtain ⟨y, rfl, h3⟩ := h2.one
  obtain ⟨b1, hy, e2, h4, h5⟩ := (show VB S0 E0 (.ptr 0 0) y from h3)
  rw [a2] at h4; cases h4
  cases h5 _ rfl
  rw [hu, hy]
 subst hu
 obtain ⟨D0, d1, d2, d3⟩ := ylW (S := S0) hk c3 c4 hh1 hok
 have hlen : es.length ≤ 1048576 := by unfold zsX at hok; simp only [Bool.and_eq_true, decide_eq_true_eq] at hok; exact hok.1
 have hrise : zwD (es.map (·.1)) = true := by unfold zsX at hok; simp only [Bool.and_eq_true] at hok; exact hok.2.2
 have hcell : w0.cell? ⟨b0, 0, none⟩ = some (.map (some b)) := by simp [World.cell?, hh0]
 refine (hS b0 b es.length D0 w0 (Array.getElem?_eq_some_iff.1 hh0).1 hcell d1 (by rw [d2]; simp [maxLen]; omega) (by rw [d2]; omega)).mono fun e w' ⟨v, ss, he, hp, hrow, hnil, hx⟩ => ?_
 have hx : Ext w0 w' := hx
 have hss : ss.mergeSort (fun x y => decide (x ≤ y)) = es.map (·.1) := by
  rw [← yfD hrise]
  exact mergeSort_of_perm_i (hp.trans d3)
 have hsl : ss.length = es.length := by rw [hp.length_eq, d3.length_eq, List.length_map]
 rw [hss, hsl] at hrow
 have R' := R.call hx
 have hv : VB (gr S0 w0 w') E0 (.v (.sl (.i .i64)) (es.map (·.1))) v :=
  ⟨v, rfl, ywA (List.length_map _) hrow fun b hb => by unfold Go.Proofs.YtebbcofojchkpaaGreatDoor.gr; rw [if_neg (by omega)]⟩
 refine ⟨v, he, gr S0 w0 w', E0, L0, ⟨[(0, .v (.sl (.i .i64)) (es.map (·.1)))], [.blk mT [.mpr 1], .mp 0 (.i .i64) V es]⟩, fun _ => v, fun k => ?_, ygF R.hs.sub, Pin.refl _ _, ⟨R'.hs, R'.lL, R'.lE, R'.obj, fun t => ?_⟩, ?_, Nat.le_refl _, rfl⟩
 ·show k (exOf none) ((Shp.put _ _).app []) = _
  rw [hput2]; rfl
 ·cases t with
  | zero => exact VR.ofC (show VC _ _ (.v (.sl (.i .i64)) (es.map (·.1))) v from hv)
  | succ t => trivial
 ·intro i ver e' T' xs h
  cases i with
  | zero => cases h
  | succ i =>
   cases i with
   | zero => cases h
   | succ i => cases h
end
end Go.Proofs.YtebbcofojchkpaaGreatDoor.Am
namespace Go.Proofs
open Go.Shelf
def Tryz.keysA_ren : Go.Shelf.Ren := ⟨fun | 7 => 43 | 10 => 97 | n => n, fun | 23 => 73 | 26 => 3 | 3 => 81 | 28 => 88 | 0 => 0 | 27 => 87 | 33 => 101 | 4 => 4 | n => n, fun | n => n⟩
theorem Tryz.keysA : Go.Proofs.SlLaysZI.n7 Tryz.prog Tryz.keysA_ren := {
  mixed := by kernel_rfl
  f7 := ⟨Tryz.f43.name, by decide, Tryz.func43.trans (congrArg some (by kernel_rfl))⟩
  f10 := ⟨Tryz.f97.name, by decide, Tryz.func97.trans (congrArg some (by kernel_rfl))⟩
  t0 := Tryz.underlying0
  a0 := Tryz.isAgg0
  z0 := Tryz.sizeOf0
  v0 := Tryz.zeroValue0
  t4 := Tryz.underlying4
  a4 := Tryz.isAgg4
  z4 := Tryz.sizeOf4
  v4 := Tryz.zeroValue4
  t23 := Tryz.underlying73
  a23 := Tryz.isAgg73
  z23 := Tryz.sizeOf73
  v23 := Tryz.zeroValue73
  t26 := Tryz.underlying3
  a26 := Tryz.isAgg3
  z26 := Tryz.sizeOf3
  v26 := Tryz.zeroValue3
  t27 := Tryz.underlying87
  a27 := Tryz.isAgg87
  z27 := Tryz.sizeOf87
  v27 := Tryz.zeroValue87
  t28 := Tryz.underlying88
  a28 := Tryz.isAgg88
  z28 := Tryz.sizeOf88
  v28 := Tryz.zeroValue88
  t33 := Tryz.underlying101
  a33 := Tryz.isAgg101
  z33 := Tryz.sizeOf101
  v33 := Tryz.zeroValue101 }
def Tryz.sortedA_ren : Go.Shelf.Ren := ⟨fun | 6 => 42 | 8 => 95 | 9 => 96 | 11 => 143 | 13 => 145 | 12 => 144 | 23 => 178 | 24 => 179 | 14 => 169 | 15 => 170 | 16 => 171 | 17 => 172 | 18 => 173 | 19 => 174 | 20 => 175 | 21 => 176 | 22 => 177 | 25 => 197 | 26 => 198 | 27 => 199 | 28 => 200 | 29 => 201 | 30 => 202 | 31 => 214 | n => n, fun | 26 => 3 | 28 => 88 | 24 => 44 | 0 => 0 | 3 => 3 | 37 => 137 | 48 => 164 | 50 => 167 | 4 => 4 | 40 => 188 | 39 => 187 | 45 => 71 | 5 => 5 | 9 => 9 | 51 => 211 | 55 => 215 | 57 => 230 | 58 => 231 | 33 => 101 | n => n, fun | n => n⟩
theorem Tryz.sortedA : Go.Proofs.SlLaysZI.n6 Tryz.prog Tryz.sortedA_ren := {
  mixed := by kernel_rfl
  f6 := ⟨Tryz.f42.name, by decide, Tryz.func42.trans (congrArg some (by kernel_rfl))⟩
  f8 := ⟨Tryz.f95.name, by decide, Tryz.func95.trans (congrArg some (by kernel_rfl))⟩
  f11 := ⟨Tryz.f143.name, by decide, Tryz.func143.trans (congrArg some (by kernel_rfl))⟩
  t0 := Tryz.underlying0
  a0 := Tryz.isAgg0
  z0 := Tryz.sizeOf0
  v0 := Tryz.zeroValue0
  t24 := Tryz.underlying44
  a24 := Tryz.isAgg44
  z24 := Tryz.sizeOf44
  v24 := Tryz.zeroValue44
  t26 := Tryz.underlying3
  a26 := Tryz.isAgg3
  z26 := Tryz.sizeOf3
  v26 := Tryz.zeroValue3
  t28 := Tryz.underlying88
  a28 := Tryz.isAgg88
  z28 := Tryz.sizeOf88
  v28 := Tryz.zeroValue88
  i26 := by kernel_rfl }
def Tryz.sortA_ren : Go.Shelf.Ren := ⟨fun | 5 => 96 | 8 => 145 | 7 => 144 | 19 => 178 | 20 => 179 | 10 => 169 | 11 => 170 | 12 => 171 | 13 => 172 | 14 => 173 | 15 => 174 | 16 => 175 | 17 => 176 | 18 => 177 | 30 => 197 | 31 => 198 | 32 => 199 | 33 => 200 | 34 => 201 | 35 => 202 | 40 => 214 | n => n, fun | 23 => 44 | 25 => 3 | 3 => 3 | 32 => 137 | 22 => 44 | 0 => 0 | 44 => 164 | 46 => 167 | 4 => 4 | 36 => 188 | 35 => 187 | 41 => 71 | 5 => 5 | 9 => 9 | 53 => 211 | 57 => 215 | 63 => 230 | 64 => 231 | n => n, fun | n => n⟩
theorem Tryz.sortA : Go.Proofs.SlLaysM.n5 Tryz.prog Tryz.sortA_ren := {
  mixed := by kernel_rfl
  f5 := ⟨Tryz.f96.name, by decide, Tryz.func96.trans (congrArg some (by kernel_rfl))⟩
  f7 := ⟨Tryz.f144.name, by decide, Tryz.func144.trans (congrArg some (by kernel_rfl))⟩
  f8 := Tryz.func145.trans (congrArg some (by kernel_rfl))
  f10 := ⟨Tryz.f169.name, by decide, Tryz.func169.trans (congrArg some (by kernel_rfl))⟩
  f11 := ⟨Tryz.f170.name, by decide, Tryz.func170.trans (congrArg some (by kernel_rfl))⟩
  f12 := ⟨Tryz.f171.name, by decide, Tryz.func171.trans (congrArg some (by kernel_rfl))⟩
  f13 := ⟨Tryz.f172.name, by decide, Tryz.func172.trans (congrArg some (by kernel_rfl))⟩
  f14 := ⟨Tryz.f173.name, by decide, Tryz.func173.trans (congrArg some (by kernel_rfl))⟩
  f15 := ⟨Tryz.f174.name, by decide, Tryz.func174.trans (congrArg some (by kernel_rfl))⟩
  f16 := ⟨Tryz.f175.name, by decide, Tryz.func175.trans (congrArg some (by kernel_rfl))⟩
  f17 := ⟨Tryz.f176.name, by decide, Tryz.func176.trans (congrArg some (by kernel_rfl))⟩
  f18 := ⟨Tryz.f177.name, by decide, Tryz.func177.trans (congrArg some (by kernel_rfl))⟩
  f19 := Tryz.func178.trans (congrArg some (by kernel_rfl))
  f20 := Tryz.func179.trans (congrArg some (by kernel_rfl))
  f30 := ⟨Tryz.f197.name, by decide, Tryz.func197.trans (congrArg some (by kernel_rfl))⟩
  f31 := Tryz.func198.trans (congrArg some (by kernel_rfl))
  f32 := Tryz.func199.trans (congrArg some (by kernel_rfl))
  f33 := ⟨Tryz.f200.name, by decide, Tryz.func200.trans (congrArg some (by kernel_rfl))⟩
  f34 := ⟨Tryz.f201.name, by decide, Tryz.func201.trans (congrArg some (by kernel_rfl))⟩
  f35 := ⟨Tryz.f202.name, by decide, Tryz.func202.trans (congrArg some (by kernel_rfl))⟩
  f40 := ⟨Tryz.f214.name, by decide, Tryz.func214.trans (congrArg some (by kernel_rfl))⟩
  t0 := Tryz.underlying0
  a0 := Tryz.isAgg0
  z0 := Tryz.sizeOf0
  v0 := Tryz.zeroValue0
  t3 := Tryz.underlying3
  a3 := Tryz.isAgg3
  z3 := Tryz.sizeOf3
  v3 := Tryz.zeroValue3
  t4 := Tryz.underlying4
  a4 := Tryz.isAgg4
  z4 := Tryz.sizeOf4
  v4 := Tryz.zeroValue4
  t5 := Tryz.underlying5
  a5 := Tryz.isAgg5
  z5 := Tryz.sizeOf5
  v5 := Tryz.zeroValue5
  t9 := Tryz.underlying9
  a9 := Tryz.isAgg9
  z9 := Tryz.sizeOf9
  v9 := Tryz.zeroValue9
  t22 := Tryz.underlying44
  a22 := Tryz.isAgg44
  z22 := Tryz.sizeOf44
  v22 := Tryz.zeroValue44
  t23 := Tryz.underlying44
  a23 := Tryz.isAgg44
  z23 := Tryz.sizeOf44
  v23 := Tryz.zeroValue44
  t25 := Tryz.underlying3
  a25 := Tryz.isAgg3
  z25 := Tryz.sizeOf3
  v25 := Tryz.zeroValue3
  t32 := Tryz.underlying137
  a32 := Tryz.isAgg137
  z32 := Tryz.sizeOf137
  v32 := Tryz.zeroValue137
  t35 := Tryz.underlying187
  a35 := Tryz.isAgg187
  z35 := Tryz.sizeOf187
  v35 := Tryz.zeroValue187
  t36 := Tryz.underlying188
  a36 := Tryz.isAgg188
  z36 := Tryz.sizeOf188
  v36 := Tryz.zeroValue188
  t41 := Tryz.underlying71
  a41 := Tryz.isAgg71
  z41 := Tryz.sizeOf71
  v41 := Tryz.zeroValue71
  t44 := Tryz.underlying164
  a44 := Tryz.isAgg164
  z44 := Tryz.sizeOf164
  v44 := Tryz.zeroValue164
  t46 := Tryz.underlying167
  a46 := Tryz.isAgg167
  z46 := Tryz.sizeOf167
  v46 := Tryz.zeroValue167
  t53 := Tryz.underlying211
  a53 := Tryz.isAgg211
  z53 := Tryz.sizeOf211
  v53 := Tryz.zeroValue211
  t57 := Tryz.underlying215
  a57 := Tryz.isAgg215
  z57 := Tryz.sizeOf215
  v57 := Tryz.zeroValue215
  t63 := Tryz.underlying230
  a63 := Tryz.isAgg230
  z63 := Tryz.sizeOf230
  v63 := Tryz.zeroValue230
  t64 := Tryz.underlying231
  a64 := Tryz.isAgg231
  z64 := Tryz.sizeOf231
  v64 := Tryz.zeroValue231 }
end Go.Proofs
namespace Go.Proofs
open Go.RowKit Go.Maps Go.Sort Go.Shelf
theorem YtebbcofojchkpaaGreatDoor.sortsA (m : Nat) : AnyZI.SortsIn Tryz.prog Tryz.sortedA_ren Fence.wide m :=
 ⟨fun blk off cap ss W hH hblk hsz => callsIn_wide.2 (AnyM.slices_Sort_int Tryz.sortA blk off cap ss W hH hblk hsz),
  fun p cap W => callsIn_wide.2 (AnyM.slices_Sort_int_none Tryz.sortA p cap W)⟩
theorem YtebbcofojchkpaaGreatDoor.sortedIK (Bm b nn : Nat) (D0 : DataW Unit) (w : World) (hB : Bm < w.heap.size) (hc : w.cell? ⟨Bm, 0, none⟩ = some (.map (some b))) (ho : w.ownsMap Tryz.prog 3 YtebbcofojchkpaaGreatDoor.Am.anyVI b nn D0) (hmax : Maps.size D0 ≤ maxLen) (hb : Maps.size D0 * 8 ≤ 140737488355328) :
  Calls Tryz.prog 42 #[.func (.func 97) #[] #[.pointer (some ⟨Bm, 0, none⟩)]] w fun e w' => ∃ (v : Value) (ss : List Int), e = .returned v ∧ ss.Perm (intKeys D0) ∧ w'.ownsRow w.heap.size 3 1 v ss.length ((ss.mergeSort (fun x y => decide (x ≤ y))).map encZ) ∧ (v = .slice none 0 0 ↔ ss = []) ∧ Below w.heap.size w w' := by
 have hseq : SeqGives Fence.wide 2 Tryz.prog 97 #[.pointer (some ⟨Bm, 0, none⟩)] encZ (fun ss => ss.Perm (intKeys D0)) (Maps.size D0) w :=
  AnyZI.keys_gives (ρ := Tryz.keysA_ren) { Tryz.keysA with } Fence.wide _ trivial rfl (by omega) Bm b nn D0 _ hB hc ho
 have cS := AnyZI.sorted_in Tryz.sortedA Fence.wide 5 trivial trivial trivial trivial rfl (by omega) (YtebbcofojchkpaaGreatDoor.sortsA _) (enters_of Tryz.func96 (by kernel_rfl) rfl) 97 #[.pointer (some ⟨Bm, 0, none⟩)] trivial (enters_of Tryz.func97 (by kernel_rfl) rfl) _ _ hmax hb _ hseq
 exact (callsIn_wide (n := 5)).1 cS
end Go.Proofs
namespace Go.Proofs.YtebbcofojchkpaaGreatDoor.Am
open Go Go.RowKit
section
variable {P : Program} {G : List (Nat × Obj)}
def ynO (e : Ty) (n : Int) : Option (List (den e)) := bif decide (0 ≤ n) && decide (n ≤ 1048576) then some [] else none
theorem ysF {f : FuncId} {e : Ty} {E : TypeId} (hfn : IsFn P f)
  (hc : ∀ (n : Nat) (w : World), n ≤ 1048576 → Calls P f #[.slice none 0 0, .int .i64 (n : Int)] w fun x w' => ∃ v, x = .returned v ∧ ((v = .slice none 0 0 ∧ w' = w) ∨ ∃ cap arr, v = .slice (some ⟨w.heap.size, 0, none⟩) 0 cap ∧ w' = w.drew.alloc (.cells arr E) ∧ cap * tsz e ≤ arr.size)) :
  SCok P G f ⟨⟨[(0, .nils), (1, .h (.i .i64))], []⟩, 1, [(none, ⟨[(0, .own 0)], [.osl e E]⟩)], fun (n : Int) => ynO e n⟩ := by
 obtain ⟨q, hq⟩ := zfA e
 have e0 : ∀ y : den (.sl e), zgX [.osl e E] [.v (.sl e) y] = [.osl 0 e E y] := fun y => by rw [zgX, hq]; rfl
 refine ⟨hfn, fun S0 w0 us E0 L0 (x : Int) (d : List (den e)) _ hul R hy => ?_⟩
 have hy : ynO e x = some d := hy
 unfold ynO at hy
 obtain ⟨hb, hy⟩ := zaC hy
 cases hy
 simp only [Bool.and_eq_true, decide_eq_true_eq] at hb
 obtain ⟨n, rfl⟩ := Int.eq_ofNat_of_zero_le hb.1
 have hul : us.length = 2 := hul
 obtain ⟨u, u2, rfl⟩ : ∃ u u2, us = [u, u2] := by
  match us, hul with
  | [u, u2], _ => exact ⟨u, u2, rfl⟩
 have hu : u = .slice none 0 0 := R.sl 0
 have hu2 : rep (.i .i64) S0 [u2] (n : Int) := R.sl 1
 have hu2 : u2 = .int .i64 (n : Int) := by have h : [u2] = [Value.int .i64 (n : Int)] := hu2; injection h
 subst hu; subst hu2
 have hL : L0 = [] := List.eq_nil_of_length_eq_zero R.lL
 have hE : E0 = [] := List.eq_nil_of_length_eq_zero R.lE
 subst hL; subst hE
 have fin : ∀ {v : Value} {w' : World} {q : Res}, HS ⟨S0, zbX [], w0⟩ S0 w' [q] → (∃ cs rs, q = .osl v 0 (tsz e) cs rs E ∧ cs = []) → v.oneCell' = true → ∃ v', Ending.returned v = .returned v' ∧ ∃ S' E' L' σo V', (∀ {γ : Type} (k : Ex → St → Option γ), out [] [(none, (⟨[(0, .own 0)], [.osl e E]⟩ : Shp))] ([] : List (den e)) k = k .normal σo) ∧ Mem.le S0 S' ∧ Pin 0 [] E' ∧ RelV ⟨S0, zbX [], w0⟩ S' E' L' σo V' w' ∧ Ver0 σo.hp ∧ 0 ≤ σo.hp.length ∧ v' = yaD (zxR V' 0 1) := fun {v w' q} H hq0 h1 => by
  obtain ⟨cs, rs, rfl, rfl⟩ := hq0
  refine ⟨v, rfl, S0, [.osl 0 v (tsz e)], [.osl v 0 (tsz e) [] rs E], ⟨[(0, .own 0 0)], [.osl 0 e E []]⟩, fun _ => v, fun k => ?_, Mem.le_refl _, fun k e hk => absurd hk (Nat.not_lt_zero k), ⟨H, rfl, rfl, fun i o h => ?_, fun t => ?_⟩, ?_, Nat.zero_le _, rfl⟩
  ·show k (exOf none) ((Shp.put _ _).app []) = _
   rw [show (Shp.put (⟨[(0, .own 0)], [.osl e E]⟩ : Shp) ([] : List (den e))) = ⟨[(0, .own 0 0)], [.osl 0 e E []]⟩ from congrArg (fun hp => (⟨[(0, .own 0 0)], hp⟩ : St)) (e0 _)]
   rfl
  ·cases i with
   | zero => cases h; exact ⟨_, _, rfl, rfl, v, v, [], rs, rfl, rfl, rfl, .inl rfl⟩
   | succ i => simp at h
  ·cases t with
   | zero => exact VR.ofC (show VC S0 _ (.own 0 0) v from ⟨h1, _, rfl, fun r v' s he => by cases he; exact ⟨Nat.le_refl 0, fun _ => rfl⟩⟩)
   | succ t => trivial
  ·intro i ver e' T' xs' hi
   cases i with
   | zero => cases hi; rfl
   | succ i => simp at hi
 refine (hc n w0 (by have := hb.2; omega)).mono ?_
 rintro x w' ⟨v, rfl, ⟨rfl, rfl⟩ | ⟨cap, arr, rfl, rfl, hcap⟩⟩
 ·exact fin (HS.nil R.hs _ _) ⟨[], [], rfl, rfl⟩ rfl
 ·refine fin (R.hs.push (Ext.trans (Ext.drew w0) (Ext.alloc w0.drew _)) (r := .osl (sl w0.heap.size 0 0 cap) 0 (tsz e) [] arr.toList E) (.inr ⟨w0.heap.size, cap, (0, 0), rfl, Nat.zero_le _, by simp, by simpa using hcap, by simpa using zaE w0.drew _, .inl rfl⟩) fun b hb => by cases hb; exact Nat.le_refl _) ⟨[], arr.toList, rfl, rfl⟩ rfl
end
end Go.Proofs.YtebbcofojchkpaaGreatDoor.Am
namespace Go.Proofs
open Go.Shelf
def Tryz.growS_ren : Go.Shelf.Ren := ⟨fun | 4 => 102 | n => n, fun | 22 => 45 | 25 => 9 | 3 => 3 | 4 => 4 | 9 => 9 | 20 => 20 | 0 => 0 | n => n, fun | n => n⟩
theorem Tryz.growS : Go.Proofs.Lays8.n4 Tryz.prog Tryz.growS_ren := {
  mixed := by kernel_rfl
  f4 := ⟨Tryz.f102.name, by decide, Tryz.func102.trans (congrArg some (by kernel_rfl))⟩
  t0 := Tryz.underlying0
  a0 := Tryz.isAgg0
  z0 := Tryz.sizeOf0
  v0 := Tryz.zeroValue0
  t3 := Tryz.underlying3
  a3 := Tryz.isAgg3
  z3 := Tryz.sizeOf3
  v3 := Tryz.zeroValue3
  t4 := Tryz.underlying4
  a4 := Tryz.isAgg4
  z4 := Tryz.sizeOf4
  v4 := Tryz.zeroValue4
  t9 := Tryz.underlying9
  a9 := Tryz.isAgg9
  z9 := Tryz.sizeOf9
  v9 := Tryz.zeroValue9
  t20 := Tryz.underlying20
  a20 := Tryz.isAgg20
  z20 := Tryz.sizeOf20
  v20 := Tryz.zeroValue20
  t22 := Tryz.underlying45
  a22 := Tryz.isAgg45
  z22 := Tryz.sizeOf45
  v22 := Tryz.zeroValue45 }
end Go.Proofs
namespace Go.Proofs.YtebbcofojchkpaaGreatDoor.Am
open Go Go.RowKit
theorem xcC (n : Nat) (w : World) (hn : n ≤ 1048576) : Calls Tryz.prog 102 #[.slice none 0 0, .int .i64 (n : Int)] w fun x w' => ∃ v, x = .returned v ∧ ((v = .slice none 0 0 ∧ w' = w) ∨ ∃ cap arr, v = .slice (some ⟨w.heap.size, 0, none⟩) 0 cap ∧ w' = w.drew.alloc (.cells arr 9) ∧ cap * tsz .s ≤ arr.size) := by
 obtain ⟨i0, hi, hz, hs, hb⟩ := (ykM (P := Tryz.prog) (τ := [(9, ⟨.s, 1, [.v .s (show Bs from [])], .s, 16⟩)]) (by kernel_rfl) (by kernel_rfl) 9 _ rfl).i
 have hs : i0.size = 1 := hs
 have hb : i0.bytes = 16 := hb
 rcases Nat.eq_zero_or_pos n with rfl | h0
 ·refine (Any8.slices_Grow_room Tryz.growS none 0 0 0 w (by omega) (by omega) (by omega) (by omega)).mono ?_
  rintro _ _ ⟨rfl, rfl⟩; exact ⟨_, rfl, .inl ⟨rfl, rfl⟩⟩
 ·refine (Any8.slices_Grow_grow Tryz.growS i0 _ hi hz (by omega) none 0 0 n [] w (by omega) (by omega) (by rw [hb]; omega) (by omega) (by simp) (fun _ => rfl) (fun a h => by cases h)).mono ?_
  rintro _ _ ⟨rfl, rfl⟩
  refine ⟨_, rfl, .inr ⟨_, _, rfl, rfl, ?_⟩⟩
  have hge := grownCap_ge w (0 + n) 0 9
  simp only [Array.size_append, size_zeroCells, List.size_toArray, List.length_nil]
  have h1 : (Value.cells (zV (⟨.s, 1, [.v .s (show Bs from [])], .s, 16⟩ : TI))).size = 1 := rfl
  rw [h1]
  show _ * 1 ≤ _
  have h2 : grownCap w (0 + n) 0 9 = grownCap w (0 + n) 0 (Tryz.growS_ren.t 25) := rfl
  rw [← h2]
  omega
def τWkF : TE := [(3, ⟨.int .i64, 1, [.v (.i .i64) (show Int from 0)], (.i .i64), 8⟩),
 (4, ⟨.b, 1, [.v .b (show Bool from false)], .b, 1⟩),
 (9, ⟨.s, 1, [.v .s (show Bs from [])], .s, 16⟩),
 (22, ⟨.sl 24, 1, [.nils], (.sl (.pr .s .s)), 24⟩),
 (24, ⟨.st [(9, 0), (9, 1)], 2, [.v .s (show Bs from []), .v .s (show Bs from [])], (.pr .s .s), 32⟩),
 (25, ⟨.pt 75, 1, [.nilp], .un, 8⟩),
 (35, ⟨.sl 47, 1, [.nils], (.sl (.pr (.i .i64) (.pr (.i .i64) (.pr (.i .i64) (.pr .s (.pr .s (.pr .s (.pr (.sl .s) (.pr (.i .i64) (.pr (.i .i64) (.pr .b (.pr .b (.pr (.sl .s) (.pr (.i .i64) (.pr .s .s))))))))))))))), 24⟩),
 (44, ⟨.sl 3, 1, [.nils], (.sl (.i .i64)), 24⟩),
 (45, ⟨.sl 9, 1, [.nils], (.sl .s), 24⟩),
 (47, ⟨.st [(3, 0), (3, 1), (3, 2), (9, 3), (9, 4), (9, 5), (45, 6), (3, 7), (3, 8), (4, 9), (4, 10), (45, 11), (3, 12), (9, 13), (9, 14)], 15, [.v (.i .i64) (show Int from 0), .v (.i .i64) (show Int from 0), .v (.i .i64) (show Int from 0), .v .s (show Bs from []), .v .s (show Bs from []), .v .s (show Bs from []), .nils, .v (.i .i64) (show Int from 0), .v (.i .i64) (show Int from 0), .v .b (show Bool from false), .v .b (show Bool from false), .nils, .v (.i .i64) (show Int from 0), .v .s (show Bs from []), .v .s (show Bs from [])], (.pr (.i .i64) (.pr (.i .i64) (.pr (.i .i64) (.pr .s (.pr .s (.pr .s (.pr (.sl .s) (.pr (.i .i64) (.pr (.i .i64) (.pr .b (.pr .b (.pr (.sl .s) (.pr (.i .i64) (.pr .s .s)))))))))))))), 184⟩),
 (73, ⟨.map 3 81, 1, [.nilm], (.mp (.i .i64) (.pr (.i .i64) (.pr (.i .i64) (.pr (.i .i64) (.pr .s (.pr .s (.pr .s (.pr (.sl .s) (.pr (.i .i64) (.pr (.i .i64) (.pr .b (.pr .b (.pr (.sl .s) (.pr (.i .i64) (.pr .s .s))))))))))))))), 8⟩),
 (75, ⟨.st [(73, 0), (3, 1)], 2, [.nilm, .v (.i .i64) (show Int from 0)], (.pr (.mp (.i .i64) (.pr (.i .i64) (.pr (.i .i64) (.pr (.i .i64) (.pr .s (.pr .s (.pr .s (.pr (.sl .s) (.pr (.i .i64) (.pr (.i .i64) (.pr .b (.pr .b (.pr (.sl .s) (.pr (.i .i64) (.pr .s .s))))))))))))))) (.i .i64)), 16⟩),
 (81, ⟨.st [(47, 0)], 15, [.v (.i .i64) (show Int from 0), .v (.i .i64) (show Int from 0), .v (.i .i64) (show Int from 0), .v .s (show Bs from []), .v .s (show Bs from []), .v .s (show Bs from []), .nils, .v (.i .i64) (show Int from 0), .v (.i .i64) (show Int from 0), .v .b (show Bool from false), .v .b (show Bool from false), .nils, .v (.i .i64) (show Int from 0), .v .s (show Bs from []), .v .s (show Bs from [])], (.pr (.i .i64) (.pr (.i .i64) (.pr (.i .i64) (.pr .s (.pr .s (.pr .s (.pr (.sl .s) (.pr (.i .i64) (.pr (.i .i64) (.pr .b (.pr .b (.pr (.sl .s) (.pr (.i .i64) (.pr .s .s)))))))))))))), 184⟩),
 (105, ⟨.fn, 1, [.nilf], .un, 8⟩),
 (111, ⟨.map 3 112, 1, [.nilm], (.mp (.i .i64) .un), 8⟩),
 (112, ⟨.st [], 0, [], .un, 0⟩),
 (120, ⟨.ifc, 1, [.v .er (show Bool from false)], .er, 16⟩),
 (125, ⟨.st [(45, 0), (4, 1)], 2, [.nils, .v .b (show Bool from false)], (.pr (.sl .s) .b), 32⟩),
 (135, ⟨.sl 45, 1, [.nils], (.sl (.sl .s)), 24⟩),
 (148, ⟨.ar 3 105, 3, [.nilf, .nilf, .nilf], .un, 24⟩)]
theorem τ_okWkF : TEok Tryz.prog τWkF := ykM (by kernel_rfl) (by kernel_rfl)
theorem yaM : Tryz.prog.follows .mixedOrders = true := by kernel_rfl
theorem zeL {G : List (Nat × Obj)} {o : Ops} [zpM G] [znW G o] {Γ : CT} {η : HT} {f : FuncId} {fn : Func} {c : SC} (hΓ : ∀ B, GB G B → CTok Tryz.prog Γ B) (hf : Tryz.prog.funcs[f]? = some fn) (i : (fn.name == "runtime.NumGoroutine") = false := by kernel_rfl) (j : fn.body.isNone = false := by kernel_rfl) (l : Nat.ble c.I.sl.length fn.ntmps = true := by kernel_rfl) (r : Nat.beq fn.results.toList.length c.nr = true := by kernel_rfl) (e : fnS τWkF Γ η fn c.I c.outs = c.p := by kernel_rfl) : SCok Tryz.prog G f c := witO (G := G) (o := o) <| yvU yaM τ_okWkF hΓ hf (isFn hf i j) l r e
theorem zhV {G : List (Nat × Obj)} {o : Ops} [zpM G] [znW G o] {Γ : CT} {η : HT} {f : FuncId} {fn : Func} {c : PC} (hΓ : ∀ B, GB G B → CTok Tryz.prog Γ B) (hf : Tryz.prog.funcs[f]? = some fn) (i : (fn.name == "runtime.NumGoroutine") = false := by kernel_rfl) (j : fn.body.isNone = false := by kernel_rfl) (l : Nat.ble c.ash.length fn.ntmps = true := by kernel_rfl) (r : c.cl = false := by kernel_rfl) (e : fnP τWkF Γ η fn c.ash c.rts = c.p := by kernel_rfl) : PCok Tryz.prog G f c := witO (G := G) (o := o) <| yvM yaM τ_okWkF hΓ hf (isFn hf i j) l r e
abbrev zyM : Type := (List Bs) × Bool
abbrev ziG : Type := Int × Int × Int × Bs × Bs × Bs × (List Bs) × Int × Int × Bool × Bool × (List Bs) × Int × Bs × Bs
abbrev ztI : Ty := .pr (.i .i64) (.pr (.i .i64) (.pr (.i .i64) (.pr .s (.pr .s (.pr .s (.pr (.sl .s) (.pr (.i .i64) (.pr (.i .i64) (.pr .b (.pr .b (.pr (.sl .s) (.pr (.i .i64) (.pr .s .s)))))))))))))
abbrev zaS : Type := Int × ziG
abbrev yrF : OSh := .blk 47 [hI, hI, hI, hS, hS, hS, (.h (.sl .s)), hI, hI, hB, hB, (.h (.sl .s)), hI, hS, hS]
abbrev yqX : OSh := .blk 81 [hI, hI, hI, hS, hS, hS, (.h (.sl .s)), hI, hI, hB, hB, (.h (.sl .s)), hI, hS, hS]
abbrev yjV : OSh := .blk 47 [hI, hI, hI, hS, hS, hS, .nils, hI, hI, hB, hB, .nils, hI, hS, hS]
abbrev zzV : OSh := .blk 125 [(.h (.sl .s)), hB]
abbrev zcE : OSh := .mp true (.i .i64) ztI
abbrev zeM : OSh := .blk 75 [(.mpr 1), hI]
abbrev zzU : OSh := .blk 75 [(.mpr 2), hI]
abbrev yaA : OSh := .mp true (.i .i64) .un
abbrev ydB : OSh := .blk 25 [(.ptr 1 0)]
abbrev yrY : OSh := .blk 111 [(.mpr 2)]
abbrev ynG : OSh := .blk 111 [(.mpr 4)]
section
variable {tabs : List (Nat × Obj)} [zpM tabs] {o : Ops} [znW tabs o]
def ziC (o : Ops) : Option ((Int × List zaS)) :=
 some ((1 : Int), ([] : List zaS))
def znP (o : Ops) : SC := ⟨⟨[], []⟩, 1, [(none, ⟨[(0, (.ptr 0 0))], [zeM, zcE]⟩)], fun _ => ziC o⟩
theorem zpR : SCok Tryz.prog tabs 27 (znP o) := zeL (o := o) (η := []) (Γ := ⟨[], [], false⟩) (ctok trivial trivial) Tryz.func27
def zoB (o : Ops) (v0 : Bs) (v1 : Int) (v2 : Bs) : Option (Bool) :=
 bif (v0 != ([] : Bs)) then (bif decide ((v0.length : Int) ≤ v1) then ((o.trim v0 v2).bind fun v3 => some (v3 == ([] : Bs))) else (some false)) else (some false)
def zsB (o : Ops) : PC := ⟨[hS, hI, hS], [.b], fun x => zoB o x.1 x.2.1 x.2.2, false⟩
theorem zwI : PCok Tryz.prog tabs 152 (zsB o) := zhV (o := o) (η := []) (Γ := ⟨[(82, (zyZ o))], [], false⟩) (ctok ⟨(znW.trim (G := tabs)), trivial⟩ trivial) Tryz.func152
def zhD (o : Ops) (v0 : Bs) : Option (Bool) :=
 (zoB o v0 (32 : Int) ([97, 98, 99, 100, 101, 102, 103, 104, 105, 106, 107, 108, 109, 110, 111, 112, 113, 114, 115, 116, 117, 118, 119, 120, 121, 122, 48, 49, 50, 51, 52, 53, 54, 55, 56, 57, 46, 95, 45, 58] : Bs)).bind fun v1 => some v1
def zsC (o : Ops) : PC := ⟨[hS], [.b], fun x => zhD o x, false⟩
theorem zyD : PCok Tryz.prog tabs 107 (zsC o) := zhV (o := o) (η := []) (Γ := ⟨[(152, (zsB o))], [], false⟩) (ctok ⟨zwI, trivial⟩ trivial) Tryz.func107
def zaM (o : Ops) (v0 : Int) (v1 : Int) (v2 : Int) : Option (Bool) :=
 bif decide (v0 ≥ v1) then (some (decide (v0 ≤ v2))) else (some false)
def zoS (o : Ops) : PC := ⟨[hI, hI, hI], [.b], fun x => zaM o x.1 x.2.1 x.2.2, false⟩
theorem zrZ : PCok Tryz.prog tabs 34 (zoS o) := zhV (o := o) (η := []) (Γ := ⟨[], [], false⟩) (ctok trivial trivial) Tryz.func34
def zeS (o : Ops) (v0 : Bs) : Option (Bool) :=
 (zoB o v0 (24 : Int) ([97, 98, 99, 100, 101, 102, 103, 104, 105, 106, 107, 108, 109, 110, 111, 112, 113, 114, 115, 116, 117, 118, 119, 120, 121, 122, 48, 49, 50, 51, 52, 53, 54, 55, 56, 57, 46, 95, 45] : Bs)).bind fun v1 => some v1
def zoX (o : Ops) : PC := ⟨[hS], [.b], fun x => zeS o x, false⟩
theorem ztS : PCok Tryz.prog tabs 110 (zoX o) := zhV (o := o) (η := []) (Γ := ⟨[(152, (zsB o))], [], false⟩) (ctok ⟨zwI, trivial⟩ trivial) Tryz.func110
def zcN (o : Ops) (v0 : Bs) : Option (Bool) :=
 bif decide ((v0.length : Int) > 2) then ((subH v0 (2 : Int)).bind fun v1 => bif (v1 == ([117, 58] : Bs)) then ((subL v0 (2 : Int)).bind fun v2 => (zeS o v2).bind fun v3 => some v3) else ((subH v0 (2 : Int)).bind fun v4 => bif (v4 == ([99, 58] : Bs)) then ((subL v0 (2 : Int)).bind fun v5 => (zeS o v5).bind fun v6 => some v6) else (some false))) else (some false)
def zjC (o : Ops) : PC := ⟨[hS], [.b], fun x => zcN o x, false⟩
theorem znY : PCok Tryz.prog tabs 109 (zjC o) := zhV (o := o) (η := []) (Γ := ⟨[(110, (zoX o))], [], false⟩) (ctok ⟨ztS, trivial⟩ trivial) Tryz.func109
def zlZ (o : Ops) (v0 : Bs) : Option (Bool) :=
 (zcN o v0).bind fun v1 => some (!v1)
def zsM (o : Ops) : PC := ⟨[hS], [.b], fun x => zlZ o x, false⟩
theorem zyJ : PCok Tryz.prog tabs 108 (zsM o) := zhV (o := o) (η := []) (Γ := ⟨[(109, (zjC o))], [], false⟩) (ctok ⟨znY, trivial⟩ trivial) Tryz.func108
def zoL (o : Ops) (v0 : List Bs) (v1 : Int) : Option (Int ⊕ (Int ⊕ Unit)) :=
 bif decide (v1 < (v0.length : Int)) then ((idx v0 v1).bind fun v2 => (zlZ o v2).bind fun v3 => bif v3 then some (.inr (.inl v1)) else some (.inl (w64 (v1 + 1)))) else some (.inr (.inr ()))
def zkC (o : Ops) (v0 : List Bs) : Option (Int) :=
 (iter (zoL o v0) (0 : Int)).bind fun v4 => match v4 with
 | .inl v5 => some v5
 | .inr v6 => some (-1 : Int)
def zoI (o : Ops) : SC := ⟨⟨[(0, (.h (.sl .s))), (1, (.fn 108 [] []))], []⟩, 1, [(none, ⟨[(0, hI)], []⟩)], fun x => zkC o x⟩
theorem zuB : SCok Tryz.prog tabs 155 (zoI o) := zeL (o := o) (η := [(200002, .loop [] ⟨[(1, (.fn 108 [] [])), (8, hI)], []⟩ [0, 7] [(some 1000000, ⟨[(4, hI)], []⟩), (some 0, ⟨[], []⟩)])]) (Γ := ⟨[(108, (zsM o))], [], false⟩) (ctok ⟨zyJ, trivial⟩ trivial) Tryz.func155
def zaQ (o : Ops) (v0 : List Bs) : Option (Bool) :=
 (zkC o v0).bind fun v1 => some (decide (v1 ≥ 0))
def zkW (o : Ops) : SC := ⟨⟨[(0, (.h (.sl .s))), (1, (.fn 108 [] []))], []⟩, 1, [(none, ⟨[(0, hB)], []⟩)], fun x => zaQ o x⟩
theorem zrI : SCok Tryz.prog tabs 112 (zkW o) := zeL (o := o) (η := []) (Γ := ⟨[], [(155, (zoI o))], false⟩) (ctok trivial ⟨zuB, trivial⟩) Tryz.func112
def zoH (o : Ops) (v0 : Int) : Option (Bool) :=
 bif decide (v0 < 33) then (some true) else (some (decide (v0 > 126)))
def zrB (o : Ops) : PC := ⟨[(.h (.i .i32))], [.b], fun x => zoH o x, false⟩
theorem zwV : PCok Tryz.prog tabs 154 (zrB o) := zhV (o := o) (η := []) (Γ := ⟨[], [], false⟩) (ctok trivial trivial) Tryz.func154
def znE (o : Ops) (v1 : Bool) (v2 : Bs) (v3 : Int) : Option ((Bs × Int) ⊕ (Int ⊕ Unit)) :=
 bif decide (v3.toNat < v2.length) then ((zoH o (nxR v2 v3.toNat)).bind fun v4 => bif (v4 == v1) then some (.inr (.inl (v3.toNat : Int))) else some (.inl (v2, (nxP v2 v3.toNat : Int)))) else some (.inr (.inr ()))
def zjB (o : Ops) (v0 : Bs) (v1 : Bool) : Option (Int) :=
 (iter (fun x => znE o v1 x.1 x.2) (v0, (0 : Int))).bind fun v5 => match v5 with
 | .inl v6 => some v6
 | .inr v7 => some (-1 : Int)
def znF (o : Ops) : SC := ⟨⟨[(0, hS), (1, (.fn 154 [] [])), (2, hB)], []⟩, 1, [(none, ⟨[(0, hI)], []⟩)], fun x => zjB o x.1 x.2⟩
theorem ztH : SCok Tryz.prog tabs 207 (znF o) := zeL (o := o) (η := [(200002, .loop [] ⟨[(1, (.fn 154 [] [])), (10, (.ptr 0 0))], [.is]⟩ [2] [(some 1000000, ⟨[(6, hI)], []⟩), (some 0, ⟨[], []⟩)])]) (Γ := ⟨[(154, (zrB o))], [], false⟩) (ctok ⟨zwV, trivial⟩ trivial) Tryz.func207
def zjD (o : Ops) (v0 : Bs) : Option (Int) :=
 (zjB o v0 true).bind fun v1 => some v1
def znC (o : Ops) : SC := ⟨⟨[(0, hS), (1, (.fn 154 [] []))], []⟩, 1, [(none, ⟨[(0, hI)], []⟩)], fun x => zjD o x⟩
theorem ztO : SCok Tryz.prog tabs 186 (znC o) := zeL (o := o) (η := []) (Γ := ⟨[], [(207, (znF o))], false⟩) (ctok trivial ⟨ztH, trivial⟩) Tryz.func186
def zhR (o : Ops) (v0 : Bs) : Option (Bool) :=
 (zjD o v0).bind fun v1 => some (decide (v1 ≥ 0))
def zjW (o : Ops) : SC := ⟨⟨[(0, hS), (1, (.fn 154 [] []))], []⟩, 1, [(none, ⟨[(0, hB)], []⟩)], fun x => zhR o x⟩
theorem zqR : SCok Tryz.prog tabs 153 (zjW o) := zeL (o := o) (η := []) (Γ := ⟨[], [(186, (znC o))], false⟩) (ctok trivial ⟨ztO, trivial⟩) Tryz.func153
def zgS (o : Ops) (v0 : Bs) : Option (Bool) :=
 bif (v0 != ([] : Bs)) then (bif decide ((v0.length : Int) ≤ 128) then ((zhR o v0).bind fun v1 => some (!v1)) else (some false)) else (some false)
def ztQ (o : Ops) : PC := ⟨[hS], [.b], fun x => zgS o x, false⟩
theorem zzQ : PCok Tryz.prog tabs 111 (ztQ o) := zhV (o := o) (η := []) (Γ := ⟨[], [(153, (zjW o))], false⟩) (ctok trivial ⟨zqR, trivial⟩) Tryz.func111
def zgM (o : Ops) (v0 : ziG) (v1 : Int) (v2 : Int) (v3 : Int) (v4 : Int) (v5 : Bs) (v6 : Bs) (v7 : Bs) (v8 : List Bs) (v9 : Int) (v10 : Int) (v11 : Bool) (v12 : Bool) (v13 : List Bs) (v14 : Int) (v15 : Bs) (v16 : Bs) : Option (zaS ⊕ (Bool ⊕ ziG)) :=
 bif decide (v1 < (v0.2.2.2.2.2.2.1.length : Int)) then ((idx v0.2.2.2.2.2.2.1 v1).bind fun v17 => (zhD o v17).bind fun v18 => bif (!v18) then some (.inr (.inl false)) else (bif decide (v1 > 0) then ((idx v8 (w64 (v1 - 1))).bind fun v19 => bif (Op.bytesLess v17 v19 || v17 == v19) then some (.inr (.inl false)) else some (.inl (w64 (v1 + 1), v2, v3, v4, v5, v6, v7, v8, v9, v10, v11, v12, v13, v14, v15, v16))) else some (.inl (w64 (v1 + 1), v2, v3, v4, v5, v6, v7, v8, v9, v10, v11, v12, v13, v14, v15, v16)))) else some (.inr (.inr (v2, v3, v4, v5, v6, v7, v8, v9, v10, v11, v12, v13, v14, v15, v16)))
def zeQ (o : Ops) (v0 : ziG) : Option (Bool) :=
 (iter (fun x => zgM o v0 x.1 x.2.1 x.2.2.1 x.2.2.2.1 x.2.2.2.2.1 x.2.2.2.2.2.1 x.2.2.2.2.2.2.1 x.2.2.2.2.2.2.2.1 x.2.2.2.2.2.2.2.2.1 x.2.2.2.2.2.2.2.2.2.1 x.2.2.2.2.2.2.2.2.2.2.1 x.2.2.2.2.2.2.2.2.2.2.2.1 x.2.2.2.2.2.2.2.2.2.2.2.2.1 x.2.2.2.2.2.2.2.2.2.2.2.2.2.1 x.2.2.2.2.2.2.2.2.2.2.2.2.2.2.1 x.2.2.2.2.2.2.2.2.2.2.2.2.2.2.2) ((0 : Int), v0)).bind fun v20 => match v20 with
 | .inl v21 => (some v21)
 | .inr v22 => ((zaM o v22.2.1 (1 : Int) (5 : Int)).bind fun v23 => bif v23 then (bif decide (v22.2.2.1 ≥ 0) then ((zcN o v22.2.2.2.1).bind fun v24 => bif v24 then (bif (v22.2.2.2.2.1 == ([] : Bs)) then (bif (v22.2.2.2.2.2.1 == ([] : Bs)) then (bif decide ((v22.2.2.2.2.2.2.1.length : Int) ≤ 16) then ((zaM o v22.2.2.2.2.2.2.2.1 (0 : Int) (1099511627776 : Int)).bind fun v25 => bif v25 then ((zaM o v22.2.2.2.2.2.2.2.2.1 (0 : Int) (1099511627776 : Int)).bind fun v26 => bif v26 then (let v27 : Bool := decide ((v22.2.2.2.2.2.2.2.2.2.2.2.1.length : Int) ≤ 4)
 bif v27 then ((zaQ o v22.2.2.2.2.2.2.2.2.2.2.2.1).bind fun v28 => bif (!v28) then ((zaM o v22.2.2.2.2.2.2.2.2.2.2.2.2.1 (0 : Int) (3 : Int)).bind fun v29 => bif v29 then ((zaM o (v22.2.2.2.2.2.2.2.2.2.2.2.2.2.1.length : Int) (1 : Int) (64 : Int)).bind fun v30 => bif v30 then (let v31 : Bool := decide ((v22.2.2.2.2.2.2.2.2.2.2.2.2.2.2.length : Int) ≤ 256)
 some v31) else (some false)) else (some false)) else (some false)) else (some false)) else (some false)) else (some false)) else (some false)) else ((zgS o v22.2.2.2.2.2.1).bind fun v32 => bif v32 then (bif decide ((v22.2.2.2.2.2.2.1.length : Int) ≤ 16) then ((zaM o v22.2.2.2.2.2.2.2.1 (0 : Int) (1099511627776 : Int)).bind fun v33 => bif v33 then ((zaM o v22.2.2.2.2.2.2.2.2.1 (0 : Int) (1099511627776 : Int)).bind fun v34 => bif v34 then (let v35 : Bool := decide ((v22.2.2.2.2.2.2.2.2.2.2.2.1.length : Int) ≤ 4)
 bif v35 then ((zaQ o v22.2.2.2.2.2.2.2.2.2.2.2.1).bind fun v36 => bif (!v36) then ((zaM o v22.2.2.2.2.2.2.2.2.2.2.2.2.1 (0 : Int) (3 : Int)).bind fun v37 => bif v37 then ((zaM o (v22.2.2.2.2.2.2.2.2.2.2.2.2.2.1.length : Int) (1 : Int) (64 : Int)).bind fun v38 => bif v38 then (let v39 : Bool := decide ((v22.2.2.2.2.2.2.2.2.2.2.2.2.2.2.length : Int) ≤ 256)
 some v39) else (some false)) else (some false)) else (some false)) else (some false)) else (some false)) else (some false)) else (some false)) else (some false))) else ((zeS o v22.2.2.2.2.1).bind fun v40 => bif v40 then (bif (v22.2.2.2.2.2.1 == ([] : Bs)) then (bif decide ((v22.2.2.2.2.2.2.1.length : Int) ≤ 16) then ((zaM o v22.2.2.2.2.2.2.2.1 (0 : Int) (1099511627776 : Int)).bind fun v41 => bif v41 then ((zaM o v22.2.2.2.2.2.2.2.2.1 (0 : Int) (1099511627776 : Int)).bind fun v42 => bif v42 then (let v43 : Bool := decide ((v22.2.2.2.2.2.2.2.2.2.2.2.1.length : Int) ≤ 4)
 bif v43 then ((zaQ o v22.2.2.2.2.2.2.2.2.2.2.2.1).bind fun v44 => bif (!v44) then ((zaM o v22.2.2.2.2.2.2.2.2.2.2.2.2.1 (0 : Int) (3 : Int)).bind fun v45 => bif v45 then ((zaM o (v22.2.2.2.2.2.2.2.2.2.2.2.2.2.1.length : Int) (1 : Int) (64 : Int)).bind fun v46 => bif v46 then (let v47 : Bool := decide ((v22.2.2.2.2.2.2.2.2.2.2.2.2.2.2.length : Int) ≤ 256)
 some v47) else (some false)) else (some false)) else (some false)) else (some false)) else (some false)) else (some false)) else (some false)) else ((zgS o v22.2.2.2.2.2.1).bind fun v48 => bif v48 then (bif decide ((v22.2.2.2.2.2.2.1.length : Int) ≤ 16) then ((zaM o v22.2.2.2.2.2.2.2.1 (0 : Int) (1099511627776 : Int)).bind fun v49 => bif v49 then ((zaM o v22.2.2.2.2.2.2.2.2.1 (0 : Int) (1099511627776 : Int)).bind fun v50 => bif v50 then (let v51 : Bool := decide ((v22.2.2.2.2.2.2.2.2.2.2.2.1.length : Int) ≤ 4)
 bif v51 then ((zaQ o v22.2.2.2.2.2.2.2.2.2.2.2.1).bind fun v52 => bif (!v52) then ((zaM o v22.2.2.2.2.2.2.2.2.2.2.2.2.1 (0 : Int) (3 : Int)).bind fun v53 => bif v53 then ((zaM o (v22.2.2.2.2.2.2.2.2.2.2.2.2.2.1.length : Int) (1 : Int) (64 : Int)).bind fun v54 => bif v54 then (let v55 : Bool := decide ((v22.2.2.2.2.2.2.2.2.2.2.2.2.2.2.length : Int) ≤ 256)
 some v55) else (some false)) else (some false)) else (some false)) else (some false)) else (some false)) else (some false)) else (some false)) else (some false))) else (some false))) else (some false)) else (some false)) else (some false))
def zkH (o : Ops) : PC := ⟨[(.h ztI)], [.b], fun x => zeQ o x, false⟩
theorem znM : PCok Tryz.prog tabs 53 (zkH o) := zhV (o := o) (η := [(200002, .loop [] ⟨[(1, (.ptr 0 0)), (9, hI)], [yrF]⟩ [7, 8] [(some 1000000, ⟨[(2, hB)], []⟩), (some 0, ⟨[(1, (.ptr 0 0))], [yrF]⟩)])]) (Γ := ⟨[(107, (zsC o)), (34, (zoS o)), (109, (zjC o)), (111, (ztQ o)), (110, (zoX o))], [(112, (zkW o))], false⟩) (ctok ⟨zyD, ⟨zrZ, ⟨znY, ⟨zzQ, ⟨ztS, trivial⟩⟩⟩⟩⟩ ⟨zrI, trivial⟩) Tryz.func53
def yhM : SC := ⟨⟨[(0, (.h (.sl .s)))], []⟩, 1, [(none, ⟨[(0, (.own 0))], [.osl .s 9]⟩)], fun xs => app [] xs⟩
theorem yiF : SCok Tryz.prog tabs 98 yhM := wit (G := tabs) <| yrR yaM τ_okWkF Tryz.func98 (isFn Tryz.func98) rfl (by kernel_rfl) (by kernel_rfl) (by kernel_rfl) (fun _ => by kernel_rfl)
def yfR : PC := ⟨[.h (.sl .s)], [(.sl .s)], fun xs => some xs, true⟩
theorem ynA : PCok Tryz.prog tabs 81 yfR := wit (G := tabs) <| ybU yaM τ_okWkF Tryz.func81 (isFn Tryz.func81) rfl (by kernel_rfl) (fun _ => by kernel_rfl)
def zeX (o : Ops) (v0 : ziG) : Option ziG :=
 (app ([] : List Bs) v0.2.2.2.2.2.2.1).bind fun v1 => (app ([] : List Bs) v0.2.2.2.2.2.2.2.2.2.2.2.1).bind fun v2 => some (v0.1, v0.2.1, v0.2.2.1, v0.2.2.2.1, v0.2.2.2.2.1, v0.2.2.2.2.2.1, v1, v0.2.2.2.2.2.2.2.1, v0.2.2.2.2.2.2.2.2.1, v0.2.2.2.2.2.2.2.2.2.1, v0.2.2.2.2.2.2.2.2.2.2.1, v2, v0.2.2.2.2.2.2.2.2.2.2.2.2)
def zgU (o : Ops) : PC := ⟨[(.h ztI)], [ztI], fun x => zeX o x, false⟩
theorem ziM : PCok Tryz.prog tabs 44 (zgU o) := zhV (o := o) (η := [(4000001, .sch [(.pu, 0, []), (.pu, 1, []), (.pu, 4, [3]), (.pu, 5, [3]), (.mn, 2, []), (.mn, 3, [3]), (.pu, 8, [5]), (.mn, 6, []), (.mn, 7, [5]), (.mn, 9, [0]), (.pu, 10, []), (.mn, 11, [0])])]) (Γ := ⟨[(81, yfR)], [(98, yhM)], false⟩) (ctok ⟨ynA, trivial⟩ ⟨yiF, trivial⟩) Tryz.func44
noncomputable def zsI (o : Ops) (v0 : Bs) (v3 : Int) (v4 : List zaS) (v5 : Int) (v6 : Int) (v7 : Int) (v8 : Bs) (v9 : Bs) (v10 : Bs) (v11 : Int) (v12 : Int) (v13 : Bool) (v14 : Bool) (v15 : Int) (v16 : Bs) (v17 : Bs) (v18 : List Int) : List (Option ((Int × (List zaS) × Int × Int × Int × Bs × Bs × Bs × Int × Int × Bool × Bool × Int × Bs × Bs × List Int) ⊕ ((Int × (List zaS) × Int × Int × Int × Bs × Bs × Bs × Int × Int × Bool × Bool × Int × Bs × Bs) ⊕ (Bool × Int × (List zaS) × ziG)))) :=
 rngL (rngC keqI v4 v18) (some (.inr (.inl (v3, v4, v5, v6, v7, v8, v9, v10, v11, v12, v13, v14, v15, v16, v17)))) fun v19 => (mget keqI v4 v19.1).bind fun v20 => bif (v20.2.2.2.2.2.2.2.2.2.2.2.2.2.1 == v0) then ((zeX o v20).bind fun v21 => some (.inr (.inr (true, v3, v4, v21)))) else some (.inl (v3, v4, v5, v6, v7, v8, v9, v10, v11, v12, v13, v14, v15, v16, v17, rngD keqI v18 v19.1))
noncomputable def zbE (o : Ops) (v0 : Bs) (v1 : Int) (v2 : List zaS) : Option ((ziG × Bool × Int × List zaS)) :=
 (rngA (fun x => zsI o v0 x.1 x.2.1 x.2.2.1 x.2.2.2.1 x.2.2.2.2.1 x.2.2.2.2.2.1 x.2.2.2.2.2.2.1 x.2.2.2.2.2.2.2.1 x.2.2.2.2.2.2.2.2.1 x.2.2.2.2.2.2.2.2.2.1 x.2.2.2.2.2.2.2.2.2.2.1 x.2.2.2.2.2.2.2.2.2.2.2.1 x.2.2.2.2.2.2.2.2.2.2.2.2.1 x.2.2.2.2.2.2.2.2.2.2.2.2.2.1 x.2.2.2.2.2.2.2.2.2.2.2.2.2.2.1 x.2.2.2.2.2.2.2.2.2.2.2.2.2.2.2) (v1, v2, (0 : Int), (0 : Int), (0 : Int), ([] : Bs), ([] : Bs), ([] : Bs), (0 : Int), (0 : Int), false, false, (0 : Int), ([] : Bs), ([] : Bs), List.map Prod.fst v2)).bind fun v22 => match v22 with
 | .inl v23 => some (((0 : Int), (0 : Int), (0 : Int), ([] : Bs), ([] : Bs), ([] : Bs), ([] : List Bs), (0 : Int), (0 : Int), false, false, ([] : List Bs), (0 : Int), ([] : Bs), ([] : Bs)), false, v23.1, v23.2.1)
 | .inr v24 => some (v24.2.2.2, v24.1, v24.2.1, v24.2.2.1)
noncomputable def zbZ (o : Ops) : SC := ⟨⟨[(0, (.ptr 0 0)), (1, hS)], [zeM, zcE]⟩, 2, [(none, ⟨[(0, (.h ztI)), (1, hB)], [zeM, zcE]⟩)], fun x => zbE o x.1 x.2.1 x.2.2⟩
theorem zdB : SCok Tryz.prog tabs 36 (zbZ o) := zeL (o := o) (η := [(200002, .rng [] ⟨[(4, (.ptr 2 0)), (12, (.ptr 3 0))], [zeM, zcE, yjV, .it 1 true (.i .i64)]⟩ [1] [(some 0, ⟨[(4, (.ptr 2 0))], [zeM, zcE, yjV]⟩), (some 1000000, ⟨[(4, (.ptr 2 0)), (5, hB)], [zeM, zcE, yrF]⟩)])]) (Γ := ⟨[(44, (zgU o))], [], false⟩) (ctok ⟨ziM, trivial⟩ trivial) Tryz.func36
def yiQ : PC := ⟨[.h (.sl (.i .i64))], [(.sl (.i .i64))], fun xs => some xs, true⟩
theorem yqR : PCok Tryz.prog tabs 71 yiQ := wit (G := tabs) <| ybU yaM τ_okWkF Tryz.func71 (isFn Tryz.func71) rfl (by kernel_rfl) (fun _ => by kernel_rfl)
def ziB (o : Ops) (v4 : Bool) (v5 : Int) (v6 : List zaS) (v7 : List Int) (v8 : Int) (v9 : Int) (v10 : Int) (v11 : Bs) (v12 : Bs) (v13 : Bs) (v14 : List Bs) (v15 : Int) (v16 : Int) (v17 : Bool) (v18 : Bool) (v19 : List Bs) (v20 : Int) (v21 : Bs) (v22 : Bs) : Option ((Bool × Int × (List zaS) × (List Int) × ziG) ⊕ ((Int × (List zaS) × List Int))) :=
 bif v4 then ((app v7 ([v8] : List Int)).bind fun v23 => let v24 : ziG := zgZ keqI v6 v10 ((0 : Int), (0 : Int), (0 : Int), ([] : Bs), ([] : Bs), ([] : Bs), ([] : List Bs), (0 : Int), (0 : Int), false, false, ([] : List Bs), (0 : Int), ([] : Bs), ([] : Bs))
 some (.inl (mhas keqI v6 v10, v5, v6, v23, v24))) else some (.inr (v5, v6, v7))
def zbD (o : Ops) (v0 : Int) (v1 : Int) (v2 : List zaS) : Option (((List Int) × Int × List zaS)) :=
 let v3 : ziG := zgZ keqI v2 v0 ((0 : Int), (0 : Int), (0 : Int), ([] : Bs), ([] : Bs), ([] : Bs), ([] : List Bs), (0 : Int), (0 : Int), false, false, ([] : List Bs), (0 : Int), ([] : Bs), ([] : Bs))
 (iter (fun x => ziB o x.1 x.2.1 x.2.2.1 x.2.2.2.1 x.2.2.2.2.1 x.2.2.2.2.2.1 x.2.2.2.2.2.2.1 x.2.2.2.2.2.2.2.1 x.2.2.2.2.2.2.2.2.1 x.2.2.2.2.2.2.2.2.2.1 x.2.2.2.2.2.2.2.2.2.2.1 x.2.2.2.2.2.2.2.2.2.2.2.1 x.2.2.2.2.2.2.2.2.2.2.2.2.1 x.2.2.2.2.2.2.2.2.2.2.2.2.2.1 x.2.2.2.2.2.2.2.2.2.2.2.2.2.2.1 x.2.2.2.2.2.2.2.2.2.2.2.2.2.2.2.1 x.2.2.2.2.2.2.2.2.2.2.2.2.2.2.2.2.1 x.2.2.2.2.2.2.2.2.2.2.2.2.2.2.2.2.2.1 x.2.2.2.2.2.2.2.2.2.2.2.2.2.2.2.2.2.2) (mhas keqI v2 v0, v1, v2, ([] : List Int), v3)).bind fun v25 => some (v25.2.2, v25.1, v25.2.1)
def zcA (o : Ops) : SC := ⟨⟨[(0, (.ptr 0 0)), (1, hI)], [zeM, zcE]⟩, 1, [(none, ⟨[(0, (.hc (.i .i64)))], [zeM, zcE]⟩)], fun x => zbD o x.1 x.2.1 x.2.2⟩
theorem zdC : SCok Tryz.prog tabs 25 (zcA o) := zeL (o := o) (η := [(200003, .loop [.sl 5 (.i .i64) 3] ⟨[(0, (.ptr 0 0)), (5, (.own 2)), (6, (.ptr 3 0)), (7, hB)], [zeM, zcE, .osl (.i .i64) 3, yqX]⟩ [4] [(some 0, ⟨[(5, (.own 2))], [zeM, zcE, .osl (.i .i64) 3]⟩)]),
 (4000004, .sch [(.pu, 0, []), (.pu, 1, []), (.pu, 2, []), (.pu, 3, []), (.pu, 4, []), (.pu, 5, []), (.pu, 6, []), (.pu, 7, []), (.pu, 8, []), (.pu, 9, []), (.pu, 10, [5]), (.mn, 11, [5]), (.pu, 12, [])])]) (Γ := ⟨[(71, yiQ)], [], false⟩) (ctok ⟨yqR, trivial⟩ trivial) Tryz.func25
def zhI (o : Ops) (v0 : Int) (v1 : Int) (v2 : List zaS) : Option ((Bool × Int × List zaS)) :=
 let v3 : ziG := zgZ keqI v2 v0 ((0 : Int), (0 : Int), (0 : Int), ([] : Bs), ([] : Bs), ([] : Bs), ([] : List Bs), (0 : Int), (0 : Int), false, false, ([] : List Bs), (0 : Int), ([] : Bs), ([] : Bs))
 some (v3.2.2.2.2.2.2.2.2.2.1, v1, v2)
def zjO (o : Ops) : SC := ⟨⟨[(0, hI), (1, (.ptr 0 0))], [ydB, zzU, zcE]⟩, 1, [(none, ⟨[(0, hB)], [ydB, zzU, zcE]⟩)], fun x => zhI o x.1 x.2.1 x.2.2⟩
theorem zqL : SCok Tryz.prog tabs 114 (zjO o) := zeL (o := o) (η := []) (Γ := ⟨[], [], false⟩) (ctok trivial trivial) Tryz.func114
def ziP (o : Ops) (v0 : List Int) (v3 : Int) (v4 : Int) (v5 : List zaS) : Option ((Int × Int × List zaS) ⊕ ((Int × Int × List zaS) ⊕ (Int × List zaS))) :=
 bif decide (v3 < (v0.length : Int)) then ((idx v0 v3).bind fun v6 => (zhI o v6 v4 v5).bind fun v7 => bif v7.1 then some (.inr (.inl (v3, v7.2))) else some (.inl (w64 (v3 + 1), v7.2))) else some (.inr (.inr (v4, v5)))
def ziZ (o : Ops) (v0 : List Int) (v1 : Int) (v2 : List zaS) : Option ((Int × Int × List zaS)) :=
 (iter (fun x => ziP o v0 x.1 x.2.1 x.2.2) ((0 : Int), v1, v2)).bind fun v8 => match v8 with
 | .inl v9 => some v9
 | .inr v10 => some ((-1 : Int), v10)
def znD (o : Ops) : SC := ⟨⟨[(0, (.h (.sl (.i .i64)))), (1, (.fn 114 [] [(.ptr 0 0)]))], [ydB, zzU, zcE]⟩, 1, [(none, ⟨[(0, hI)], [ydB, zzU, zcE]⟩)], fun x => ziZ o x.1 x.2.1 x.2.2⟩
theorem ztL : SCok Tryz.prog tabs 156 (znD o) := zeL (o := o) (η := [(200002, .loop [] ⟨[(1, (.fn 114 [] [(.ptr 0 0)])), (8, hI)], [ydB, zzU, zcE]⟩ [0, 7] [(some 1000000, ⟨[(4, hI)], [ydB, zzU, zcE]⟩), (some 0, ⟨[], [ydB, zzU, zcE]⟩)])]) (Γ := ⟨[], [(114, (zjO o))], false⟩) (ctok trivial ⟨zqL, trivial⟩) Tryz.func156
def zeH (o : Ops) (v0 : List Int) (v1 : Int) (v2 : List zaS) : Option ((Bool × Int × List zaS)) :=
 (ziZ o v0 v1 v2).bind fun v3 => some (decide (v3.1 ≥ 0), v3.2)
def zjQ (o : Ops) : SC := ⟨⟨[(0, (.h (.sl (.i .i64)))), (1, (.fn 114 [] [(.ptr 0 0)]))], [ydB, zzU, zcE]⟩, 1, [(none, ⟨[(0, hB)], [ydB, zzU, zcE]⟩)], fun x => zeH o x.1 x.2.1 x.2.2⟩
theorem zpU : SCok Tryz.prog tabs 113 (zjQ o) := zeL (o := o) (η := []) (Γ := ⟨[], [(156, (znD o))], false⟩) (ctok trivial ⟨ztL, trivial⟩) Tryz.func113
def zbK (o : Ops) (v0 : Int) (v1 : Int) (v2 : List zaS) : Option ((Bool × Int × List zaS)) :=
 (zbD o v0 v1 v2).bind fun v3 => (zeH o v3.1 v3.2.1 v3.2.2).bind fun v4 => some v4
def zdE (o : Ops) : SC := ⟨⟨[(0, (.ptr 0 0)), (1, hI)], [zeM, zcE]⟩, 1, [(none, ⟨[(0, hB)], [zeM, zcE]⟩)], fun x => zbK o x.1 x.2.1 x.2.2⟩
theorem zeT : SCok Tryz.prog tabs 54 (zdE o) := zeL (o := o) (η := []) (Γ := ⟨[], [(25, (zcA o)), (113, (zjQ o))], false⟩) (ctok trivial ⟨zdC, ⟨zpU, trivial⟩⟩) Tryz.func54
def zoG (o : Ops) (v0 : ziG) (v1 : Int) : Option (Bool) :=
 some (!v0.2.2.2.2.2.2.2.2.2.1)
def znH (o : Ops) : PC := ⟨[(.h ztI), hI], [.b], fun x => zoG o x.1 x.2, false⟩
theorem ztM : PCok Tryz.prog tabs 123 (znH o) := zhV (o := o) (η := []) (Γ := ⟨[], [], false⟩) (ctok trivial trivial) Tryz.func123
def zmB (o : Ops) (v0 : ziG) (v1 : Int) : Option (Bool) :=
 some (!v0.2.2.2.2.2.2.2.2.2.2.1)
def zlB (o : Ops) : PC := ⟨[(.h ztI), hI], [.b], fun x => zmB o x.1 x.2, false⟩
theorem zrJ : PCok Tryz.prog tabs 124 (zlB o) := zhV (o := o) (η := []) (Γ := ⟨[], [], false⟩) (ctok trivial trivial) Tryz.func124
def zgQ (o : Ops) (v0 : ziG) (v1 : Int) : Option (Bool) :=
 some (decide (v0.2.2.2.2.2.2.2.2.1 > v1))
def znI (o : Ops) : PC := ⟨[(.h ztI), hI], [.b], fun x => zgQ o x.1 x.2, false⟩
theorem ztE : PCok Tryz.prog tabs 125 (znI o) := zhV (o := o) (η := []) (Γ := ⟨[], [], false⟩) (ctok trivial trivial) Tryz.func125
def zkR (o : Ops) (v1 : Int) (v2 : Int) (v3 : Int) (v4 : Int) (v5 : Int) (v6 : Bs) (v7 : Bs) (v8 : Bs) (v9 : List Bs) (v10 : Int) (v11 : Int) (v12 : Bool) (v13 : Bool) (v14 : List Bs) (v15 : Int) (v16 : Bs) (v17 : Bs) : Option (zaS ⊕ (Bool ⊕ Unit)) :=
 bif decide (v2 < 3) then (bif decide (v2 = (0 : Int)) then ((zoG o (v3, v4, v5, v6, v7, v8, v9, v10, v11, v12, v13, v14, v15, v16, v17) v1).bind fun v18 => bif (!v18) then some (.inr (.inl false)) else some (.inl (w64 (v2 + 1), v3, v4, v5, v6, v7, v8, v9, v10, v11, v12, v13, v14, v15, v16, v17))) else (bif decide (v2 = (1 : Int)) then ((zmB o (v3, v4, v5, v6, v7, v8, v9, v10, v11, v12, v13, v14, v15, v16, v17) v1).bind fun v19 => bif (!v19) then some (.inr (.inl false)) else some (.inl (w64 (v2 + 1), v3, v4, v5, v6, v7, v8, v9, v10, v11, v12, v13, v14, v15, v16, v17))) else (bif decide (v2 = (2 : Int)) then ((zgQ o (v3, v4, v5, v6, v7, v8, v9, v10, v11, v12, v13, v14, v15, v16, v17) v1).bind fun v20 => bif (!v20) then some (.inr (.inl false)) else some (.inl (w64 (v2 + 1), v3, v4, v5, v6, v7, v8, v9, v10, v11, v12, v13, v14, v15, v16, v17))) else none))) else some (.inr (.inr ()))
def zoT (o : Ops) (v0 : ziG) (v1 : Int) : Option (Bool) :=
 (iter (fun x => zkR o v1 x.1 x.2.1 x.2.2.1 x.2.2.2.1 x.2.2.2.2.1 x.2.2.2.2.2.1 x.2.2.2.2.2.2.1 x.2.2.2.2.2.2.2.1 x.2.2.2.2.2.2.2.2.1 x.2.2.2.2.2.2.2.2.2.1 x.2.2.2.2.2.2.2.2.2.2.1 x.2.2.2.2.2.2.2.2.2.2.2.1 x.2.2.2.2.2.2.2.2.2.2.2.2.1 x.2.2.2.2.2.2.2.2.2.2.2.2.2.1 x.2.2.2.2.2.2.2.2.2.2.2.2.2.2.1 x.2.2.2.2.2.2.2.2.2.2.2.2.2.2.2) ((0 : Int), v0)).bind fun v21 => match v21 with
 | .inl v22 => (some v22)
 | .inr v23 => (some true)
def zuX (o : Ops) : PC := ⟨[(.h ztI), hI], [.b], fun x => zoT o x.1 x.2, false⟩
theorem ybX : PCok Tryz.prog tabs 69 (zuX o) := zhV (o := o) (η := [(200002, .loop [] ⟨[(2, (.ptr 0 0)), (7, (.ag [(.fn 123 [] []), (.fn 124 [] []), (.fn 125 [] [])])), (8, hI)], [yqX]⟩ [1] [(some 1000000, ⟨[(4, hB)], []⟩), (some 0, ⟨[], []⟩)])]) (Γ := ⟨[(123, (znH o)), (124, (zlB o)), (125, (znI o))], [], false⟩) (ctok ⟨ztM, ⟨zrJ, ⟨ztE, trivial⟩⟩⟩ trivial) Tryz.func69
def zaJ (o : Ops) (v0 : Int) (v1 : Int) (v2 : Int) (v3 : List zaS) : Option ((Bool × Int × List zaS)) :=
 let v4 : ziG := zgZ keqI v3 v0 ((0 : Int), (0 : Int), (0 : Int), ([] : Bs), ([] : Bs), ([] : Bs), ([] : List Bs), (0 : Int), (0 : Int), false, false, ([] : List Bs), (0 : Int), ([] : Bs), ([] : Bs))
 bif mhas keqI v3 v0 then ((zoT o v4 v1).bind fun v5 => bif v5 then ((zbK o v0 v2 v3).bind fun v6 => some ((!v6.1), v6.2)) else some (false, v2, v3)) else some (false, v2, v3)
def zcG (o : Ops) : SC := ⟨⟨[(0, (.ptr 0 0)), (1, hI), (2, hI)], [zeM, zcE]⟩, 1, [(none, ⟨[(0, hB)], [zeM, zcE]⟩)], fun x => zaJ o x.1 x.2.1 x.2.2.1 x.2.2.2⟩
theorem zdI : SCok Tryz.prog tabs 22 (zcG o) := zeL (o := o) (η := []) (Γ := ⟨[(69, (zuX o))], [(54, (zdE o))], false⟩) (ctok ⟨ybX, trivial⟩ ⟨zeT, trivial⟩) Tryz.func22
def zgW (o : Ops) (v0 : Int) (v1 : ziG) (v2 : List (Int × Unit)) : Option ((Bool × List (Int × Unit))) :=
 let v3 : Unit := zgZ keqI v2 v0 ()
 some ((!(mhas keqI v2 v0)), v2)
def zjG (o : Ops) : SC := ⟨⟨[(0, hI), (1, (.h ztI)), (2, (.ptr 0 0))], [.blk 111 [(.mpr 1)], yaA]⟩, 1, [(none, ⟨[(0, hB)], [.blk 111 [(.mpr 1)], yaA]⟩)], fun x => zgW o x.1 x.2.1 x.2.2⟩
theorem zpF : SCok Tryz.prog tabs 78 (zjG o) := zeL (o := o) (η := []) (Γ := ⟨[], [], false⟩) (ctok trivial trivial) Tryz.func78
noncomputable def zoQ (o : Ops) (v2 : List zaS) (v3 : List (Int × Unit)) (v4 : List Int) : List (Option (((List zaS) × (List (Int × Unit)) × List Int) ⊕ (((List zaS) × List (Int × Unit))))) :=
 rngL (rngC keqI v2 v4) (some (.inr (v2, v3))) fun v5 => (mget keqI v2 v5.1).bind fun v6 => (zgW o v5.1 v6 v3).bind fun v7 => bif v7.1 then some (.inl (mdel keqI v2 v5.1, v7.2, rngD keqI v4 v5.1)) else some (.inl (v2, v7.2, rngD keqI v4 v5.1))
noncomputable def ziL (o : Ops) (v0 : List zaS) (v1 : List (Int × Unit)) : Option (((List zaS) × List (Int × Unit))) :=
 (rngA (fun x => zoQ o x.1 x.2.1 x.2.2) (v0, v1, List.map Prod.fst v0)).bind fun v8 => some v8
noncomputable def zoR (o : Ops) : SC := ⟨⟨[(0, (.mpr 0)), (1, (.fn 78 [] [(.ptr 1 0)]))], [zcE, yrY, yaA]⟩, 0, [(none, ⟨[], [zcE, yrY, yaA]⟩)], fun x => ziL o x.1 x.2⟩
theorem zuK : SCok Tryz.prog tabs 77 (zoR o) := zeL (o := o) (η := [(200001, .rng [] ⟨[(0, (.mpr 0)), (1, (.fn 78 [] [(.ptr 1 0)])), (7, (.ptr 3 0))], [zcE, yrY, yaA, .it 0 true (.i .i64)]⟩ [] [(some 0, ⟨[], [zcE, yrY, yaA]⟩)])]) (Γ := ⟨[], [(78, (zjG o))], false⟩) (ctok trivial ⟨zpF, trivial⟩) Tryz.func77
noncomputable def zeD (o : Ops) (v10 : ((List Int) × Int × List zaS)) (v11 : Int) (v12 : Int) (v13 : List zaS) (v14 : List Int) (v15 : List (Int × Unit)) : Option ((Int × Int × (List zaS) × (List Int) × List (Int × Unit)) ⊕ ((Int × (List zaS) × (List Int) × List (Int × Unit)))) :=
 bif decide (v11 < (v10.1.length : Int)) then ((idx v10.1 v11).bind fun v16 => let v17 : List (Int × Unit) := mset keqI kltI v15 v16 ()
 some (.inl (w64 (v11 + 1), v12, v13, v14, v17))) else some (.inr (v12, v13, v14, v15))
noncomputable def zlP (o : Ops) (v0 : Int) (v3 : Int) (v4 : List zaS) (v5 : List Int) (v6 : List (Int × Unit)) : List (Option ((Int × (List zaS) × (List Int) × List (Int × Unit)) ⊕ ((Int × (List zaS) × List (Int × Unit))))) :=
 rngL (rngC keqI v4 v5) (some (.inr (v3, v4, v6))) fun v7 => (mget keqI v4 v7.1).bind fun v8 => (zaJ o v7.1 v0 v3 v4).bind fun v9 => bif (!v9.1) then some (.inl (v9.2.1, v9.2.2, rngD keqI v5 v7.1, v6)) else ((zbD o v7.1 v9.2.1 v9.2.2).bind fun v10 => (iter (fun x => zeD o v10 x.1 x.2.1 x.2.2.1 x.2.2.2.1 x.2.2.2.2) ((0 : Int), v10.2.1, v10.2.2, rngD keqI v5 v7.1, v6)).bind fun v18 => some (.inl v18))
noncomputable def zaX (o : Ops) (v0 : Int) (v1 : Int) (v2 : List zaS) : Option ((Int × Int × List zaS)) :=
 (rngA (fun x => zlP o v0 x.1 x.2.1 x.2.2.1 x.2.2.2) (v1, v2, List.map Prod.fst v2, ([] : List (Int × Unit)))).bind fun v19 => (ziL o v19.2.1 v19.2.2).bind fun v20 => some (w64 ((v19.2.1.length : Int) - (v20.1.length : Int)), v19.1, v20.1)
noncomputable def zbR (o : Ops) : SC := ⟨⟨[(0, (.ptr 0 0)), (1, hI)], [zeM, zcE]⟩, 1, [(none, ⟨[(0, hI)], [zeM, zcE]⟩)], fun x => zaX o x.1 x.2.1 x.2.2⟩
theorem zcW : SCok Tryz.prog tabs 31 (zbR o) := zeL (o := o) (η := [(200007, .loop [] ⟨[(0, (.ptr 0 0)), (5, (.ptr 2 0)), (15, (.ptr 3 0)), (29, hI)], [zeM, zcE, ynG, .it 1 true (.i .i64), yaA]⟩ [1, 4, 27, 28] [(some 2, ⟨[(0, (.ptr 0 0)), (5, (.ptr 2 0)), (15, (.ptr 3 0))], [zeM, zcE, ynG, .it 1 true (.i .i64), yaA]⟩)]),
 (200003, .rng [] ⟨[(0, (.ptr 0 0)), (5, (.ptr 2 0)), (15, (.ptr 3 0))], [zeM, zcE, ynG, .it 1 true (.i .i64), yaA]⟩ [1, 4] [(some 0, ⟨[(0, (.ptr 0 0)), (5, (.ptr 2 0))], [zeM, zcE, .blk 111 [(.mpr 3)], yaA]⟩)])]) (Γ := ⟨[], [(22, (zcG o)), (25, (zcA o)), (77, (zoR o))], false⟩) (ctok trivial ⟨zdI, ⟨zdC, ⟨zuK, trivial⟩⟩⟩) Tryz.func31
noncomputable def zhG (o : Ops) (v0 : Int) (v1 : Int) (v2 : Int) (v3 : Bs) (v4 : Bs) (v5 : Bs) (v6 : Int) (v7 : Int) (v8 : Bool) (v9 : Bool) (v10 : Int) (v11 : Bs) (v12 : Bs) (v17 : (ziG × Bool × Int × List zaS)) : Option ((Int × Int × Int × List zaS) ⊕ (Int × (List zaS) × Int × Int × Int × Bs × Bs × Bs × Int × Int × Bool × Bool × Int × Bs × Bs)) :=
 let v18 : ziG := zgZ keqI v17.2.2.2 v2 ((0 : Int), (0 : Int), (0 : Int), ([] : Bs), ([] : Bs), ([] : Bs), ([] : List Bs), (0 : Int), (0 : Int), false, false, ([] : List Bs), (0 : Int), ([] : Bs), ([] : Bs))
 bif decide (v2 > 0) then (bif (!(mhas keqI v17.2.2.2 v2)) then some (.inl ((0 : Int), (133 : Int), v17.2.2)) else ((zbK o v2 v17.2.2.1 v17.2.2.2).bind fun v19 => bif v19.1 then some (.inl ((0 : Int), (133 : Int), v19.2)) else some (.inr (v19.2.1, v19.2.2, v0, v1, v2, v3, v4, v5, v6, v7, v8, v9, v10, v11, v12)))) else some (.inr (v17.2.2.1, v17.2.2.2, v0, v1, v2, v3, v4, v5, v6, v7, v8, v9, v10, v11, v12))
noncomputable def zlD (o : Ops) (v22 : Int × (List zaS) × Int × Int × Int × Bs × Bs × Bs × Int × Int × Bool × Bool × Int × Bs × Bs) (v23 : (Int × Int × List zaS)) : Option ((Int × Int × Int × List zaS) ⊕ (Int × (List zaS) × Int × Int × Int × Bs × Bs × Bs × Int × Int × Bool × Bool × Int × Bs × Bs)) :=
 bif decide ((v23.2.2.length : Int) ≥ 256) then some (.inl ((0 : Int), (130 : Int), v23.2)) else (bif decide (v23.2.1 ≥ 99999999) then some (.inl ((0 : Int), (130 : Int), v23.2)) else some (.inr (v23.2.1, v23.2.2, v22.2.2)))
noncomputable def zcC (o : Ops) (v0 : Int) (v1 : Int) (v2 : Int) (v3 : Bs) (v4 : Bs) (v5 : Bs) (v6 : Int) (v7 : Int) (v8 : Bool) (v9 : Bool) (v10 : Int) (v11 : Bs) (v12 : Bs) (v13 : Int) (v14 : Int) (v15 : List zaS) : Option ((Int × Int × Int × List zaS)) :=
 (zeQ o (v0, v1, v2, v3, v4, v5, ([] : List Bs), v6, v7, v8, v9, ([] : List Bs), v10, v11, v12)).bind fun v16 => bif (!v16) then some ((0 : Int), (131 : Int), v14, v15) else ((zbE o v11 v14 v15).bind fun v17 => bif v17.2.1 then some ((0 : Int), (132 : Int), v17.2.2) else ((zhG o v0 v1 v2 v3 v4 v5 v6 v7 v8 v9 v10 v11 v12 v17).bind fun v20 => match v20 with
 | .inl v21 => some v21
 | .inr v22 => ((zaX o v13 v22.1 v22.2.1).bind fun v23 => (zlD o v22 v23).bind fun v24 => match v24 with
 | .inl v25 => some v25
 | .inr v26 => ((zeX o (v26.2.2.1, v26.2.2.2.1, v26.2.2.2.2.1, v26.2.2.2.2.2.1, v26.2.2.2.2.2.2.1, v26.2.2.2.2.2.2.2.1, ([] : List Bs), v26.2.2.2.2.2.2.2.2.1, v26.2.2.2.2.2.2.2.2.2.1, v26.2.2.2.2.2.2.2.2.2.2.1, v26.2.2.2.2.2.2.2.2.2.2.2.1, ([] : List Bs), v26.2.2.2.2.2.2.2.2.2.2.2.2)).bind fun v27 => let v28 : List zaS := mset keqI kltI v26.2.1 v26.1 (v26.1, v27.2.1, v27.2.2.1, v27.2.2.2.1, v27.2.2.2.2.1, v27.2.2.2.2.2.1, v27.2.2.2.2.2.2.1, v27.2.2.2.2.2.2.2.1, v27.2.2.2.2.2.2.2.2.1, false, false, v27.2.2.2.2.2.2.2.2.2.2.2)
 some (v26.1, (0 : Int), w64 (v26.1 + 1), v28)))))
noncomputable def zlC (o : Ops) : SC := ⟨⟨[(0, (.ptr 0 0)), (1, (.ag [hI, hI, hI, hS, hS, hS, .nils, hI, hI, hB, hB, .nils, hI, hS, hS])), (2, hI)], [zeM, zcE]⟩, 2, [(none, ⟨[(0, hI), (1, hI)], [zeM, .mp false (.i .i64) ztI]⟩)], fun x => zcC o x.1 x.2.1 x.2.2.1 x.2.2.2.1 x.2.2.2.2.1 x.2.2.2.2.2.1 x.2.2.2.2.2.2.1 x.2.2.2.2.2.2.2.1 x.2.2.2.2.2.2.2.2.1 x.2.2.2.2.2.2.2.2.2.1 x.2.2.2.2.2.2.2.2.2.2.1 x.2.2.2.2.2.2.2.2.2.2.2.1 x.2.2.2.2.2.2.2.2.2.2.2.2.1 x.2.2.2.2.2.2.2.2.2.2.2.2.2.1 x.2.2.2.2.2.2.2.2.2.2.2.2.2.2.1 x.2.2.2.2.2.2.2.2.2.2.2.2.2.2.2⟩
theorem zrE : SCok Tryz.prog tabs 20 (zlC o) := zeL (o := o) (η := [(2000009, .join [] [2] [(some 1000000, ⟨[(6, hI), (7, hI)], [zeM, zcE]⟩), (none, ⟨[(0, (.ptr 0 0)), (4, (.ptr 2 0))], [zeM, zcE, yjV]⟩)]),
 (2000012, .join [] [] [(some 1000000, ⟨[(6, hI), (7, hI)], [zeM, zcE]⟩), (none, ⟨[(0, (.ptr 0 0)), (4, (.ptr 2 0))], [zeM, zcE, yjV]⟩)]),
 (4000006, .sch [(.pu, 0, []), (.pu, 1, []), (.pu, 2, []), (.pu, 3, []), (.pu, 4, []), (.pu, 5, []), (.pu, 6, []), (.pu, 7, []), (.pu, 8, []), (.pu, 9, [5]), (.mn, 10, []), (.mn, 11, [5]), (.pu, 12, [])]),
 (4000014, .sch [(.pu, 0, []), (.pu, 1, []), (.pu, 2, []), (.pu, 3, []), (.pu, 4, []), (.pu, 5, []), (.pu, 6, []), (.pu, 7, []), (.mn, 8, [0, 1, 2, 3])])]) (Γ := ⟨[(53, (zkH o)), (44, (zgU o))], [(36, (zbZ o)), (54, (zdE o)), (31, (zbR o))], false⟩) (ctok ⟨znM, ⟨ziM, trivial⟩⟩ ⟨zdB, ⟨zeT, ⟨zcW, trivial⟩⟩⟩) Tryz.func20
def zhQ (o : Ops) (v0 : Int) (v1 : Int) (v2 : Int) (v3 : Bs) (v4 : Bs) (v5 : Bs) (v6 : List Bs) (v7 : Int) (v8 : Int) (v9 : Bool) (v10 : Bool) (v11 : List Bs) (v12 : Int) (v13 : Bs) (v14 : Bs) : Option (ziG) :=
 some (v0, v1, v2, v3, v4, v5, v6, v7, v8, true, v10, v11, v12, v13, v14)
def zjV (o : Ops) : SC := ⟨⟨[(0, (.ptr 0 0))], [yqX]⟩, 0, [(none, ⟨[], [yqX]⟩)], fun x => zhQ o x.1 x.2.1 x.2.2.1 x.2.2.2.1 x.2.2.2.2.1 x.2.2.2.2.2.1 x.2.2.2.2.2.2.1 x.2.2.2.2.2.2.2.1 x.2.2.2.2.2.2.2.2.1 x.2.2.2.2.2.2.2.2.2.1 x.2.2.2.2.2.2.2.2.2.2.1 x.2.2.2.2.2.2.2.2.2.2.2.1 x.2.2.2.2.2.2.2.2.2.2.2.2.1 x.2.2.2.2.2.2.2.2.2.2.2.2.2.1 x.2.2.2.2.2.2.2.2.2.2.2.2.2.2⟩
theorem zqN : SCok Tryz.prog tabs 126 (zjV o) := zeL (o := o) (η := []) (Γ := ⟨[], [], false⟩) (ctok trivial trivial) Tryz.func126
def ziT (o : Ops) (v0 : Int) (v1 : Int) (v2 : List zaS) : Option ((Int × List zaS)) :=
 let v3 : ziG := zgZ keqI v2 v0 ((0 : Int), (0 : Int), (0 : Int), ([] : Bs), ([] : Bs), ([] : Bs), ([] : List Bs), (0 : Int), (0 : Int), false, false, ([] : List Bs), (0 : Int), ([] : Bs), ([] : Bs))
 (zhQ o v3.1 v3.2.1 v3.2.2.1 v3.2.2.2.1 v3.2.2.2.2.1 v3.2.2.2.2.2.1 v3.2.2.2.2.2.2.1 v3.2.2.2.2.2.2.2.1 v3.2.2.2.2.2.2.2.2.1 v3.2.2.2.2.2.2.2.2.2.1 v3.2.2.2.2.2.2.2.2.2.2.1 v3.2.2.2.2.2.2.2.2.2.2.2.1 v3.2.2.2.2.2.2.2.2.2.2.2.2.1 v3.2.2.2.2.2.2.2.2.2.2.2.2.2.1 v3.2.2.2.2.2.2.2.2.2.2.2.2.2.2).bind fun v4 => (chk (mhas keqI v2 v0)).bind fun _ => let v5 : List zaS := mrep keqI v2 v0 v4
 some (v1, v5)
def zmL (o : Ops) : SC := ⟨⟨[(0, (.ptr 0 0)), (1, hI), (2, (.fn 126 [] []))], [zeM, zcE]⟩, 0, [(none, ⟨[], [zeM, zcE]⟩)], fun x => ziT o x.1 x.2.1 x.2.2⟩
theorem zsY : SCok Tryz.prog tabs 117 (zmL o) := zeL (o := o) (η := [(4000002, .sch [(.pu, 0, []), (.pu, 1, []), (.pu, 2, []), (.pu, 3, []), (.pu, 4, []), (.pu, 5, []), (.mn, 6, [0, 1, 2, 3])])]) (Γ := ⟨[], [(126, (zjV o))], true⟩) (ctok trivial ⟨zqN, trivial⟩) Tryz.func117
def zcP (o : Ops) (v0 : Int) (v1 : Int) (v2 : List zaS) : Option ((Int × List zaS)) :=
 (ziT o v0 v1 v2).bind fun v3 => some v3
def zeO (o : Ops) : SC := ⟨⟨[(0, (.ptr 0 0)), (1, hI)], [zeM, zcE]⟩, 0, [(none, ⟨[], [zeM, zcE]⟩)], fun x => zcP o x.1 x.2.1 x.2.2⟩
theorem ziH : SCok Tryz.prog tabs 70 (zeO o) := zeL (o := o) (η := []) (Γ := ⟨[], [(117, (zmL o))], false⟩) (ctok trivial ⟨zsY, trivial⟩) Tryz.func70
def zdS (o : Ops) (v0 : Int) (v1 : Int) (v2 : List zaS) : Option ((Int × Int × List zaS)) :=
 let v3 : ziG := zgZ keqI v2 v0 ((0 : Int), (0 : Int), (0 : Int), ([] : Bs), ([] : Bs), ([] : Bs), ([] : List Bs), (0 : Int), (0 : Int), false, false, ([] : List Bs), (0 : Int), ([] : Bs), ([] : Bs))
 bif (!(mhas keqI v2 v0)) then some ((131 : Int), v1, v2) else ((zcP o v0 v1 v2).bind fun v4 => some ((0 : Int), v4))
def ziI (o : Ops) : SC := ⟨⟨[(0, (.ptr 0 0)), (1, hI)], [zeM, zcE]⟩, 1, [(none, ⟨[(0, hI)], [zeM, zcE]⟩)], fun x => zdS o x.1 x.2.1 x.2.2⟩
theorem zmF : SCok Tryz.prog tabs 24 (ziI o) := zeL (o := o) (η := []) (Γ := ⟨[], [(70, (zeO o))], false⟩) (ctok trivial ⟨ziH, trivial⟩) Tryz.func24
def zuA (o : Ops) (v0 : List zaS) : Option ((List zaS)) :=
 some v0
def zwF (o : Ops) : SC := ⟨⟨[(0, (.mpr 0))], [zcE]⟩, 1, [(none, ⟨[(0, (.fn 97 [] [(.ptr 1 0)]))], [zcE, .blk 73 [(.mpr 0)]]⟩)], fun x => zuA o x⟩
theorem yeS : SCok Tryz.prog tabs 43 (zwF o) := zeL (o := o) (η := []) (Γ := ⟨[], [], false⟩) (ctok trivial trivial) Tryz.func43
def yeG : SC := ⟨⟨[(0, (.fn 97 [] [(.ptr 0 0)]))], [.blk 73 [(.mpr 1)], zcE]⟩, 1, [(none, ⟨[(0, (.h (.sl (.i .i64))))], [.blk 73 [(.mpr 1)], zcE]⟩)], fun es => zxG es⟩
theorem ypB : SCok Tryz.prog tabs 42 yeG := wit (G := tabs) <| yjE (kT := 3) (isFn Tryz.func42) (by kernel_rfl) YtebbcofojchkpaaGreatDoor.sortedIK
def zhP (o : Ops) (v4 : ((List Int) × List zaS)) (v5 : Int) (v6 : Int) (v7 : List zaS) (v8 : List ziG) : Option ((Int × Int × (List zaS) × List ziG) ⊕ ((Int × (List zaS) × List ziG))) :=
 bif decide (v5 < (v4.1.length : Int)) then ((idx v4.1 v5).bind fun v9 => let v10 : ziG := zgZ keqI v7 v9 ((0 : Int), (0 : Int), (0 : Int), ([] : Bs), ([] : Bs), ([] : Bs), ([] : List Bs), (0 : Int), (0 : Int), false, false, ([] : List Bs), (0 : Int), ([] : Bs), ([] : Bs))
 (zeX o v10).bind fun v11 => (app v8 ([v11] : List ziG)).bind fun v12 => some (.inl (w64 (v5 + 1), v6, v7, v12))) else some (.inr (v6, v7, v8))
def zcB (o : Ops) (v0 : Int) (v1 : List zaS) : Option ((Int × (List zaS) × List ziG)) :=
 (chk (decide ((0 : Int) ≤ (v1.length : Int)) && decide ((v1.length : Int) ≤ (LIM : Int)))).bind fun _ => (mkL (0 : Int) ((0 : Int), (0 : Int), (0 : Int), ([] : Bs), ([] : Bs), ([] : Bs), ([] : List Bs), (0 : Int), (0 : Int), false, false, ([] : List Bs), (0 : Int), ([] : Bs), ([] : Bs))).bind fun v2 => (zuA o v1).bind fun v3 => (zxG v3).bind fun v4 => (iter (fun x => zhP o v4 x.1 x.2.1 x.2.2.1 x.2.2.2) ((0 : Int), v0, v4.2, v2)).bind fun v13 => some v13
def zeF (o : Ops) : SC := ⟨⟨[(0, (.ptr 0 0))], [zeM, zcE]⟩, 1, [(none, ⟨[(0, (.own 2))], [zeM, zcE, .osl ztI 47]⟩)], fun x => zcB o x.1 x.2⟩
theorem zhH : SCok Tryz.prog tabs 15 (zeF o) := zeL (o := o) (η := [(200003, .loop [] ⟨[(0, (.ptr 0 0)), (3, (.own 2)), (19, hI)], [zeM, zcE, .osl ztI 47]⟩ [2, 17, 18] [(some 0, ⟨[(3, (.own 2))], [zeM, zcE, .osl ztI 47]⟩)])]) (Γ := ⟨[(44, (zgU o))], [(43, (zwF o)), (42, yeG)], false⟩) (ctok ⟨ziM, trivial⟩ ⟨yeS, ⟨ypB, trivial⟩⟩) Tryz.func15
def zoJ (o : Ops) (v0 : List Bs) : Option (List Bs) :=
 (o.itoa (v0.length : Int)).bind fun v1 => (app ([v1] : List Bs) v0).bind fun v2 => some v2
def zrC (o : Ops) : PC := ⟨[(.h (.sl .s))], [(.sl .s)], fun x => zoJ o x, false⟩
theorem zwS : PCok Tryz.prog tabs 48 (zrC o) := zhV (o := o) (η := []) (Γ := ⟨[(46, (ygI o))], [], false⟩) (ctok ⟨(znW.itoa (G := tabs)), trivial⟩ trivial) Tryz.func48
def zqF (o : Ops) (v0 : Bool) : Option Bs :=
 bif v0 then (some ([49] : Bs)) else (some ([48] : Bs))
def ztV (o : Ops) : PC := ⟨[hB], [.s], fun x => zqF o x, false⟩
theorem zzX : PCok Tryz.prog tabs 49 (ztV o) := zhV (o := o) (η := []) (Γ := ⟨[], [], false⟩) (ctok trivial trivial) Tryz.func49
def ypE : SC := ⟨⟨[(0, .nils), (1, hI)], []⟩, 1, [(none, ⟨[(0, (.own 0))], [.osl .s 9]⟩)], fun n => ynO .s n⟩
theorem yvL : SCok Tryz.prog tabs 102 ypE := wit (G := tabs) <| ysF (isFn Tryz.func102) xcC
def zwP (o : Ops) (v0 : List (List Bs)) (v1 : Int) (v2 : Int) : Option ((Int × Int) ⊕ Int) :=
 bif decide (v2 < (v0.length : Int)) then ((idx v0 v2).bind fun v3 => bif decide ((w64 (v1 + (v3.length : Int))) < 0) then none else some (.inl (w64 (v1 + (v3.length : Int)), w64 (v2 + 1)))) else some (.inr v1)
def zwW (o : Ops) (v0 : List (List Bs)) (v6 : Int) (v7 : List Bs) : Option ((Int × List Bs) ⊕ List Bs) :=
 bif decide (v6 < (v0.length : Int)) then ((idx v0 v6).bind fun v8 => (app v7 v8).bind fun v9 => some (.inl (w64 (v6 + 1), v9))) else some (.inr v7)
def zsD (o : Ops) (v0 : List (List Bs)) : Option (List Bs) :=
 (iter (fun x => zwP o v0 x.1 x.2) ((0 : Int), (0 : Int))).bind fun v4 => (ynO .s v4).bind fun v5 => (iter (fun x => zwW o v0 x.1 x.2) ((0 : Int), v5)).bind fun v10 => some v10
def zqW (o : Ops) : PC := ⟨[(.h (.sl (.sl .s)))], [(.sl .s)], fun x => zsD o x, false⟩
theorem zwU : PCok Tryz.prog tabs 47 (zqW o) := zhV (o := o) (η := [(200003, .loop [] ⟨[(3, hI), (11, hI)], []⟩ [0, 2, 9, 10] [(some 0, ⟨[(3, hI)], []⟩)]),
 (200011, .loop [] ⟨[(6, (.own 0)), (27, hI)], [.osl .s 9]⟩ [2, 25, 26] [(some 2, ⟨[(6, (.own 0))], [.osl .s 9]⟩)])]) (Γ := ⟨[], [(102, ypE)], false⟩) (ctok trivial ⟨yvL, trivial⟩) Tryz.func47
def yiM : PC := ⟨[.h (.sl (.pr .s .s))], [(.sl (.pr .s .s))], fun xs => some xs, true⟩
theorem yqI : PCok Tryz.prog tabs 51 yiM := wit (G := tabs) <| ybU yaM τ_okWkF Tryz.func51 (isFn Tryz.func51) rfl (by kernel_rfl) (fun _ => by kernel_rfl)
def zrY (o : Ops) (v4 : (Int × (List zaS) × List ziG)) (v5 : Int) (v6 : Int) (v7 : List zaS) (v8 : List (Bs × Bs)) (v9 : List ziG) : Option ((Int × Int × (List zaS) × (List (Bs × Bs)) × List ziG) ⊕ ((Int × (List zaS) × List (Bs × Bs)))) :=
 bif decide (v5 < (v4.2.2.length : Int)) then ((chk (decide ((0 : Int) ≤ v5) && decide (v5 < (v9.length : Int)))).bind fun _ => (idx v9 v5).bind fun v10 => (o.itoa v10.1).bind fun v11 => (o.itoa v10.2.1).bind fun v12 => (o.itoa v10.2.2.1).bind fun v13 => (zoJ o v10.2.2.2.2.2.2.1).bind fun v14 => (o.itoa v10.2.2.2.2.2.2.2.1).bind fun v15 => (o.itoa v10.2.2.2.2.2.2.2.2.1).bind fun v16 => (zqF o v10.2.2.2.2.2.2.2.2.2.1).bind fun v17 => (zqF o v10.2.2.2.2.2.2.2.2.2.2.1).bind fun v18 => (zoJ o v10.2.2.2.2.2.2.2.2.2.2.2.1).bind fun v19 => (o.itoa v10.2.2.2.2.2.2.2.2.2.2.2.2.1).bind fun v20 => (zsD o ([([v12, v13, v10.2.2.2.1, v10.2.2.2.2.1, v10.2.2.2.2.2.1] : List Bs), v14, ([v15, v16, v17, v18] : List Bs), v19, ([v20, v10.2.2.2.2.2.2.2.2.2.2.2.2.2.1, v10.2.2.2.2.2.2.2.2.2.2.2.2.2.2] : List Bs)] : List (List Bs))).bind fun v21 => let v22 : Int := (bif decide ((0 : Int) ≤ w64 ((8 : Int) - (v11.length : Int))) then w64 ((8 : Int) - (v11.length : Int)) else (0 : Int))
 (o.rep ([48] : Bs) v22).bind fun v23 => (app ([110, 111, 100, 101, 47] : Bs) v23).bind fun v24 => (app v24 v11).bind fun v25 => (o.form v21).bind fun v26 => (app v8 ([(v25, v26)] : List (Bs × Bs))).bind fun v27 => some (.inl (w64 (v5 + 1), v6, v7, v27, v9))) else some (.inr (v6, v7, v8))
def ziR (o : Ops) (v0 : Int) (v1 : List zaS) : Option (((List (Bs × Bs)) × Int × List zaS)) :=
 (o.itoa v0).bind fun v2 => (o.form ([v2] : List Bs)).bind fun v3 => (zcB o v0 v1).bind fun v4 => (iter (fun x => zrY o v4 x.1 x.2.1 x.2.2.1 x.2.2.2.1 x.2.2.2.2) ((0 : Int), v4.1, v4.2.1, ([(([102, 111, 114, 101, 115, 116] : Bs), v3)] : List (Bs × Bs)), v4.2.2)).bind fun v28 => some (v28.2.2, v28.1, v28.2.1)
def zmH (o : Ops) : SC := ⟨⟨[(0, (.ptr 0 0))], [zeM, zcE]⟩, 1, [(none, ⟨[(0, (.hc (.pr .s .s)))], [zeM, zcE]⟩)], fun x => ziR o x.1 x.2⟩
theorem zsU : SCok Tryz.prog tabs 16 (zmH o) := zeL (o := o) (η := [(200003, .loop [] ⟨[(3, (.own 2)), (18, (.own 3)), (20, hI)], [zeM, zcE, .osl (.pr .s .s) 24, .osl ztI 47]⟩ [2, 19] [(some 0, ⟨[(3, (.own 2))], [zeM, zcE, .osl (.pr .s .s) 24]⟩)]),
 (4000006, .sch [(.pu, 0, []), (.pu, 1, []), (.pu, 3, []), (.pu, 4, []), (.pu, 6, []), (.pu, 7, []), (.pu, 8, []), (.pu, 9, []), (.pu, 10, []), (.pu, 11, []), (.pu, 13, []), (.pu, 14, []), (.pu, 16, []), (.pu, 17, []), (.pu, 19, []), (.pu, 20, []), (.pu, 22, []), (.pu, 23, []), (.pu, 25, []), (.pu, 26, []), (.pu, 29, []), (.pu, 30, []), (.pu, 32, []), (.pu, 33, []), (.pu, 35, []), (.pu, 36, []), (.pu, 37, []), (.pu, 38, []), (.mn, 2, []), (.mn, 5, []), (.la, 12, []), (.mn, 15, []), (.mn, 18, []), (.mn, 21, []), (.mn, 24, []), (.mn, 27, []), (.la, 28, []), (.mn, 31, []), (.mn, 34, []), (.mn, 39, []), (.rv, 12, []), (.rv, 28, []), (.mn, 40, [0, 1, 2, 3, 4, 5, 6, 7]), (.mn, 41, [8]), (.pu, 42, [])])]) (Γ := ⟨[(46, (ygI o)), (45, (ymV o)), (48, (zrC o)), (49, (ztV o)), (47, (zqW o)), (50, (ysZ o)), (51, yiM)], [(15, (zeF o))], false⟩) (ctok ⟨(znW.itoa (G := tabs)), ⟨(znW.form (G := tabs)), ⟨zwS, ⟨zzX, ⟨zwU, ⟨(znW.rep (G := tabs)), ⟨yqI, trivial⟩⟩⟩⟩⟩⟩⟩ ⟨zhH, trivial⟩) Tryz.func16
def zwM (o : Ops) (v0 : Bs) : Option ((Int × Bool) ⊕ Unit) :=
 bif (v0 == ([] : Bs)) then some (.inl ((0 : Int), false)) else (bif decide ((v0.length : Int) > 15) then some (.inl ((0 : Int), false)) else ((idx v0 (0 : Int)).bind fun v1 => bif ((v1.toNat : Int) == ((48 : UInt8).toNat : Int)) then (bif (v0 != ([48] : Bs)) then some (.inl ((0 : Int), false)) else ((o.trim v0 ([48, 49, 50, 51, 52, 53, 54, 55, 56, 57] : Bs)).bind fun v2 => bif (v2 != ([] : Bs)) then some (.inl ((0 : Int), false)) else some (.inr ()))) else ((o.trim v0 ([48, 49, 50, 51, 52, 53, 54, 55, 56, 57] : Bs)).bind fun v3 => bif (v3 != ([] : Bs)) then some (.inl ((0 : Int), false)) else some (.inr ()))))
def zrR (o : Ops) (v0 : Bs) : Option (Int × Bool) :=
 (zwM o v0).bind fun v4 => match v4 with
 | .inl v5 => (some v5)
 | .inr v6 => ((o.atoi v0).bind fun v7 => some (v7.1, (!v7.2)))
def zqZ (o : Ops) : PC := ⟨[hS], [(.i .i64), .b], fun x => zrR o x, false⟩
theorem zwQ : PCok Tryz.prog tabs 80 (zqZ o) := zhV (o := o) (η := [(2000003, .join [] [0] [(some 1000000, ⟨[(2, hI), (3, hB)], []⟩), (none, ⟨[], []⟩)]),
 (4000004, .sch [(.pu, 0, []), (.pu, 1, []), (.pu, 2, []), (.pu, 3, []), (.pu, 4, [])])]) (Γ := ⟨[(82, (zyZ o)), (83, (ycK o))], [], false⟩) (ctok ⟨(znW.trim (G := tabs)), ⟨(znW.atoi (G := tabs)), trivial⟩⟩ trivial) Tryz.func80
def zwX (o : Ops) (v2 : List Bs) (v3 : Bs × Bs × Bool) (v4 : Int × Bool) : Option (Bool ⊕ List Bs) :=
 bif (!v3.2.2) then some (.inl false) else (bif (!v4.2) then some (.inl false) else (bif decide (v4.1 > (v3.2.1.length : Int)) then some (.inl false) else some (.inr v2)))
def zwK (o : Ops) (v1 : Bs) (v2 : List Bs) : Option ((Bs × List Bs) ⊕ (Bool ⊕ List Bs)) :=
 bif (v1 != ([] : Bs)) then ((o.cut v1 ([58] : Bs)).bind fun v3 => (zrR o v3.1).bind fun v4 => (zwX o v2 v3 v4).bind fun v5 => match v5 with
 | .inl v6 => some (.inr (.inl v6))
 | .inr v7 => ((subH v3.2.1 v4.1).bind fun v8 => (app v7 ([v8] : List Bs)).bind fun v9 => (subL v3.2.1 v4.1).bind fun v10 => some (.inl (v10, v9)))) else some (.inr (.inr v2))
def zlY (o : Ops) (v0 : Bs) : Option (zyM) :=
 (iter (fun x => zwK o x.1 x.2) (v0, ([] : List Bs))).bind fun v11 => match v11 with
 | .inl v12 => some (([] : List Bs), v12)
 | .inr v13 => some (v13, true)
def znZ (o : Ops) : SC := ⟨⟨[(0, hS)], []⟩, 2, [(none, ⟨[(0, (.h (.sl .s))), (1, hB)], []⟩)], fun x => zlY o x⟩
theorem zsO : SCok Tryz.prog tabs 32 (znZ o) := zeL (o := o) (η := [(2000007, .join [] [6, 8] [(some 1000000, ⟨[(2, .nils), (3, hB)], []⟩), (none, ⟨[(4, (.own 0))], [.osl .s 9]⟩)]),
 (200002, .loop [.sl 4 .s 9] ⟨[(0, hS), (4, (.own 0))], [.osl .s 9]⟩ [] [(some 1000000, ⟨[(2, .nils), (3, hB)], []⟩), (some 0, ⟨[(4, (.own 0))], [.osl .s 9]⟩)])]) (Γ := ⟨[(79, (ysI o)), (80, (zqZ o)), (81, yfR)], [], false⟩) (ctok ⟨(znW.cut (G := tabs)), ⟨zwQ, ⟨ynA, trivial⟩⟩⟩ trivial) Tryz.func32
def zwO (o : Ops) (v0 : Bs) : Option ((Int × Bool) ⊕ Unit) :=
 bif (v0 == ([] : Bs)) then some (.inl ((0 : Int), false)) else (bif decide ((v0.length : Int) > 15) then some (.inl ((0 : Int), false)) else ((idx v0 (0 : Int)).bind fun v1 => bif ((v1.toNat : Int) == ((48 : UInt8).toNat : Int)) then (bif (v0 != ([48] : Bs)) then some (.inl ((0 : Int), false)) else ((o.trim v0 ([48, 49, 50, 51, 52, 53, 54, 55, 56, 57] : Bs)).bind fun v2 => bif (v2 != ([] : Bs)) then some (.inl ((0 : Int), false)) else some (.inr ()))) else ((o.trim v0 ([48, 49, 50, 51, 52, 53, 54, 55, 56, 57] : Bs)).bind fun v3 => bif (v3 != ([] : Bs)) then some (.inl ((0 : Int), false)) else some (.inr ()))))
def zoK (o : Ops) (v0 : Bs) : Option (Int × Bool) :=
 (zwO o v0).bind fun v4 => match v4 with
 | .inl v5 => (some v5)
 | .inr v6 => ((o.atoi v0).bind fun v7 => some (v7.1, (!v7.2)))
def zmX (o : Ops) : PC := ⟨[hS], [(.i .i64), .b], fun x => zoK o x, false⟩
theorem zqY : PCok Tryz.prog tabs 33 (zmX o) := zhV (o := o) (η := [(2000003, .join [] [0] [(some 1000000, ⟨[(2, hI), (3, hB)], []⟩), (none, ⟨[], []⟩)]),
 (4000004, .sch [(.pu, 0, []), (.pu, 1, []), (.pu, 2, []), (.pu, 3, []), (.pu, 4, [])])]) (Γ := ⟨[(82, (zyZ o)), (83, (ycK o))], [], false⟩) (ctok ⟨(znW.trim (G := tabs)), ⟨(znW.atoi (G := tabs)), trivial⟩⟩ trivial) Tryz.func33
def zcQ (o : Ops) (v0 : Bs) (v1 : Bs) : Option (Bool) :=
 bif decide ((v0.length : Int) ≥ (v1.length : Int)) then ((subH v0 (v1.length : Int)).bind fun v2 => some (v2 == v1)) else (some false)
def zeV (o : Ops) : PC := ⟨[hS, hS], [.b], fun x => zcQ o x.1 x.2, false⟩
theorem zjU : PCok Tryz.prog tabs 150 (zeV o) := zhV (o := o) (η := []) (Γ := ⟨[], [], false⟩) (ctok trivial trivial) Tryz.func150
def zcS (o : Ops) (v0 : Bs) (v1 : Bs) : Option (Bs × Bool) :=
 (zcQ o v0 v1).bind fun v2 => bif (!v2) then (some (v0, false)) else ((subL v0 (v1.length : Int)).bind fun v3 => some (v3, true))
def zeU (o : Ops) : PC := ⟨[hS, hS], [.s, .b], fun x => zcS o x.1 x.2, false⟩
theorem zkB : PCok Tryz.prog tabs 127 (zeU o) := zhV (o := o) (η := []) (Γ := ⟨[(150, (zeV o))], [], false⟩) (ctok ⟨zjU, trivial⟩ trivial) Tryz.func127
def zdZ (o : Ops) (v0 : Bs) (v1 : Bs) : Option (Bs × Bool) :=
 (zcS o v0 v1).bind fun v2 => some v2
def ziU (o : Ops) : PC := ⟨[hS, hS], [.s, .b], fun x => zdZ o x.1 x.2, false⟩
theorem znG : PCok Tryz.prog tabs 72 (ziU o) := zhV (o := o) (η := []) (Γ := ⟨[(127, (zeU o))], [], false⟩) (ctok ⟨zkB, trivial⟩ trivial) Tryz.func72
def zbC (o : Ops) (v0 : List Bs) (v1 : Bool) : Option ((Bs × zyM)) :=
 bif ((v0.length : Int) == 0) then some (([] : Bs), v0, true) else ((idx v0 (0 : Int)).bind fun v2 => (subL v0 (1 : Int)).bind fun v3 => some (v2, v3, v1))
def zeN (o : Ops) : SC := ⟨⟨[(0, (.ptr 0 0))], [zzV]⟩, 1, [(none, ⟨[(0, hS)], [zzV]⟩)], fun x => zbC o x.1 x.2⟩
theorem ziE : SCok Tryz.prog tabs 85 (zeN o) := zeL (o := o) (η := []) (Γ := ⟨[], [], false⟩) (ctok trivial trivial) Tryz.func85
def zbF (o : Ops) (v0 : List Bs) (v1 : Bool) : Option ((Int × zyM)) :=
 (zbC o v0 v1).bind fun v2 => (zoK o v2.1).bind fun v3 => bif v2.2.2 then some (v3.1, v2.2.1, true) else some (v3.1, v2.2.1, (!v3.2))
def zgL (o : Ops) : SC := ⟨⟨[(0, (.ptr 0 0))], [zzV]⟩, 1, [(none, ⟨[(0, hI)], [zzV]⟩)], fun x => zbF o x.1 x.2⟩
theorem zkP : SCok Tryz.prog tabs 84 (zgL o) := zeL (o := o) (η := []) (Γ := ⟨[(33, (zmX o))], [(85, (zeN o))], false⟩) (ctok ⟨zqY, trivial⟩ ⟨ziE, trivial⟩) Tryz.func84
def zsH (o : Ops) (v2 : (Int × zyM)) : Option (zyM ⊕ zyM) :=
 bif v2.2.2 then some (.inl (v2.2.1, true)) else (bif decide (v2.1 > (v2.2.1.length : Int)) then some (.inl (v2.2.1, true)) else some (.inr v2.2))
def ziQ (o : Ops) (v0 : List Bs) (v1 : Bool) : Option (((List Bs) × zyM)) :=
 (zbF o v0 v1).bind fun v2 => (zsH o v2).bind fun v3 => match v3 with
 | .inl v4 => some (([] : List Bs), v4)
 | .inr v5 => ((chk (decide (v2.1 = v2.1))).bind fun _ => (subH v5.1 v2.1).bind fun v6 => (subL v5.1 v2.1).bind fun v7 => some (v6, v7, v5.2))
def zmJ (o : Ops) : SC := ⟨⟨[(0, (.ptr 0 0))], [zzV]⟩, 1, [(none, ⟨[(0, (.h (.sl .s)))], [zzV]⟩)], fun x => ziQ o x.1 x.2⟩
theorem zrT : SCok Tryz.prog tabs 86 (zmJ o) := zeL (o := o) (η := [(2000005, .join [] [3] [(some 1000000, ⟨[(2, .nils)], [zzV]⟩), (none, ⟨[(0, (.ptr 0 0))], [zzV]⟩)])]) (Γ := ⟨[], [(84, (zgL o))], false⟩) (ctok trivial ⟨zkP, trivial⟩) Tryz.func86
def ziO (o : Ops) (v0 : List Bs) (v1 : Bool) : Option ((Bool × zyM)) :=
 (zbC o v0 v1).bind fun v2 => bif v2.2.2 then some ((v2.1 == ([49] : Bs)), v2.2.1, true) else (bif (v2.1 != ([48] : Bs)) then some ((v2.1 == ([49] : Bs)), v2.2.1, (v2.1 != ([49] : Bs))) else some ((v2.1 == ([49] : Bs)), v2.2.1, false))
def zmU (o : Ops) : SC := ⟨⟨[(0, (.ptr 0 0))], [zzV]⟩, 1, [(none, ⟨[(0, hB)], [zzV]⟩)], fun x => ziO o x.1 x.2⟩
theorem zsV : SCok Tryz.prog tabs 87 (zmU o) := zeL (o := o) (η := []) (Γ := ⟨[], [(85, (zeN o))], false⟩) (ctok trivial ⟨ziE, trivial⟩) Tryz.func87
def zzW (o : Ops) (v1 : Bs × Bool) (v2 : zyM) : Option ((Bool × Int × Int × Int × Bs × Bs × Bs × Int × Int × Bool × Bool × Int × Bs × Bs) ⊕ (Int × Int × Int × Bs × Bs × Bs × Int × Int × Bool × Bool × Int × Bs × Bs)) :=
 bif (!v1.2) then some (.inl (false, (0 : Int), (0 : Int), (0 : Int), ([] : Bs), ([] : Bs), ([] : Bs), (0 : Int), (0 : Int), false, false, (0 : Int), ([] : Bs), ([] : Bs))) else (bif (!v2.2) then some (.inl (false, (0 : Int), (0 : Int), (0 : Int), ([] : Bs), ([] : Bs), ([] : Bs), (0 : Int), (0 : Int), false, false, (0 : Int), ([] : Bs), ([] : Bs))) else (bif ((v1.1.length : Int) != 8) then some (.inl (false, (0 : Int), (0 : Int), (0 : Int), ([] : Bs), ([] : Bs), ([] : Bs), (0 : Int), (0 : Int), false, false, (0 : Int), ([] : Bs), ([] : Bs))) else ((o.trim v1.1 ([48, 49, 50, 51, 52, 53, 54, 55, 56, 57] : Bs)).bind fun v3 => bif (v3 != ([] : Bs)) then some (.inl (false, (0 : Int), (0 : Int), (0 : Int), ([] : Bs), ([] : Bs), ([] : Bs), (0 : Int), (0 : Int), false, false, (0 : Int), ([] : Bs), ([] : Bs))) else some (.inr ((0 : Int), (0 : Int), (0 : Int), ([] : Bs), ([] : Bs), ([] : Bs), (0 : Int), (0 : Int), false, false, (0 : Int), ([] : Bs), ([] : Bs))))))
def znK (o : Ops) (v0 : Bs × Bs) : Option (ziG × Bool) :=
 (zdZ o v0.1 ([110, 111, 100, 101, 47] : Bs)).bind fun v1 => (zlY o v0.2).bind fun v2 => (zzW o v1 v2).bind fun v4 => match v4 with
 | .inl v5 => (some ((v5.2.1, v5.2.2.1, v5.2.2.2.1, v5.2.2.2.2.1, v5.2.2.2.2.2.1, v5.2.2.2.2.2.2.1, ([] : List Bs), v5.2.2.2.2.2.2.2.1, v5.2.2.2.2.2.2.2.2.1, v5.2.2.2.2.2.2.2.2.2.1, v5.2.2.2.2.2.2.2.2.2.2.1, ([] : List Bs), v5.2.2.2.2.2.2.2.2.2.2.2), v5.1))
 | .inr v6 => ((zbF o v2.1 false).bind fun v7 => (zbF o v7.2.1 v7.2.2).bind fun v8 => (zbC o v8.2.1 v8.2.2).bind fun v9 => (zbC o v9.2.1 v9.2.2).bind fun v10 => (zbC o v10.2.1 v10.2.2).bind fun v11 => (ziQ o v11.2.1 v11.2.2).bind fun v12 => (zbF o v12.2.1 v12.2.2).bind fun v13 => (zbF o v13.2.1 v13.2.2).bind fun v14 => (ziO o v14.2.1 v14.2.2).bind fun v15 => (ziO o v15.2.1 v15.2.2).bind fun v16 => (ziQ o v16.2.1 v16.2.2).bind fun v17 => (zbF o v17.2.1 v17.2.2).bind fun v18 => (zbC o v18.2.1 v18.2.2).bind fun v19 => (zbC o v19.2.1 v19.2.2).bind fun v20 => (o.atoi v1.1).bind fun v21 => (zeX o (v21.1, v7.1, v8.1, v9.1, v10.1, v11.1, v12.1, v13.1, v14.1, v15.1, v16.1, v17.1, v18.1, v19.1, v20.1)).bind fun v22 => bif (!v20.2.2) then (bif ((v20.2.1.length : Int) == 0) then ((zeQ o (v21.1, v7.1, v8.1, v9.1, v10.1, v11.1, v12.1, v13.1, v14.1, v15.1, v16.1, v17.1, v18.1, v19.1, v20.1)).bind fun v23 => some (v22, v23)) else (some (v22, false))) else (some (v22, false)))
def ztU (o : Ops) : PC := ⟨[(.h (.pr .s .s))], [ztI, .b], fun x => znK o x, false⟩
theorem zzY : PCok Tryz.prog tabs 35 (ztU o) := zhV (o := o) (η := [(2000005, .join [] [4, 6] [(some 1000000, ⟨[(2, (.ptr 0 0)), (3, hB)], [yjV]⟩), (none, ⟨[(2, (.ptr 0 0))], [yjV]⟩)]),
 (4000008, .sch [(.pu, 0, []), (.pu, 2, []), (.pu, 3, []), (.pu, 4, []), (.pu, 5, []), (.pu, 6, []), (.mn, 1, []), (.pu, 7, []), (.pu, 8, []), (.pu, 9, []), (.pu, 10, []), (.pu, 11, []), (.pu, 12, []), (.pu, 13, []), (.pu, 14, []), (.pu, 15, []), (.pu, 16, []), (.mn, 17, []), (.pu, 18, [0]), (.mn, 19, [0]), (.pu, 20, [])])]) (Γ := ⟨[(72, (ziU o)), (82, (zyZ o)), (83, (ycK o)), (44, (zgU o)), (53, (zkH o))], [(32, (znZ o)), (84, (zgL o)), (85, (zeN o)), (86, (zmJ o)), (87, (zmU o))], false⟩) (ctok ⟨znG, ⟨(znW.trim (G := tabs)), ⟨(znW.atoi (G := tabs)), ⟨ziM, ⟨znM, trivial⟩⟩⟩⟩⟩ ⟨zsO, ⟨zkP, ⟨ziE, ⟨zrT, ⟨zsV, trivial⟩⟩⟩⟩⟩) Tryz.func35
noncomputable def ztX (o : Ops) (v0 : List (Bs × Bs)) : Option (Int ⊕ Unit) :=
 bif ((v0.length : Int) == 0) then some (.inl (135 : Int)) else ((idx v0 (0 : Int)).bind fun v1 => bif (v1.1 != ([102, 111, 114, 101, 115, 116] : Bs)) then some (.inl (135 : Int)) else (bif decide ((v0.length : Int) > 257) then some (.inl (135 : Int)) else some (.inr ())))
noncomputable def ztW (o : Ops) (v6 : zyM) : Option (Int ⊕ Unit) :=
 bif (!v6.2) then some (.inl (135 : Int)) else (bif ((v6.1.length : Int) != 1) then some (.inl (135 : Int)) else some (.inr ()))
noncomputable def ztR (o : Ops) (v6 : zyM) (v10 : (Int × List zaS)) : Option (Int ⊕ (Int × List zaS)) :=
 (idx v6.1 (0 : Int)).bind fun v11 => (zoK o v11).bind fun v12 => bif (!v12.2) then some (.inl (135 : Int)) else ((zaM o v12.1 (1 : Int) (99999999 : Int)).bind fun v13 => bif (!v13) then some (.inl (135 : Int)) else some (.inr (v12.1, v10.2)))
noncomputable def yaG (o : Ops) (v18 : Int) (v23 : ziG × Bool) (v24 : (ziG × Bool × Int × List zaS)) : Option (Int ⊕ (Int × Int × Int × Int × Bs × Bs × Bs × (List Bs) × Int × Int × Bool × Bool × (List Bs) × Int × Bs × Bs × List zaS)) :=
 bif (!v23.2) then some (.inl (135 : Int)) else (bif v24.2.1 then some (.inl (135 : Int)) else (bif decide (v23.1.1 ≤ v18) then some (.inl (135 : Int)) else (bif decide (v23.1.1 ≥ v24.2.2.1) then some (.inl (135 : Int)) else (bif decide (v23.1.2.2.1 ≥ v23.1.1) then some (.inl (135 : Int)) else some (.inr (v24.2.2.1, v23.1.1, v23.1.2.1, v23.1.2.2.1, v23.1.2.2.2.1, v23.1.2.2.2.2.1, v23.1.2.2.2.2.2.1, v23.1.2.2.2.2.2.2.1, v23.1.2.2.2.2.2.2.2.1, v23.1.2.2.2.2.2.2.2.2.1, v23.1.2.2.2.2.2.2.2.2.2.1, v23.1.2.2.2.2.2.2.2.2.2.2.1, v23.1.2.2.2.2.2.2.2.2.2.2.2.1, v23.1.2.2.2.2.2.2.2.2.2.2.2.2.1, v23.1.2.2.2.2.2.2.2.2.2.2.2.2.2.1, v23.1.2.2.2.2.2.2.2.2.2.2.2.2.2.2, v24.2.2.2))))))
noncomputable def zhC (o : Ops) (v17 : List (Bs × Bs)) (v18 : Int) (v19 : Int) (v20 : Int) (v21 : List zaS) : Option ((Int × Int × Int × List zaS) ⊕ (Int ⊕ (Int × List zaS))) :=
 bif decide (v19 < (v17.length : Int)) then ((idx v17 v19).bind fun v22 => (znK o v22).bind fun v23 => (zbE o v23.1.2.2.2.2.2.2.2.2.2.2.2.2.2.1 v20 v21).bind fun v24 => (yaG o v18 v23 v24).bind fun v25 => match v25 with
 | .inl v26 => some (.inr (.inl v26))
 | .inr v27 => (let v28 : List zaS := mset keqI kltI v27.2.2.2.2.2.2.2.2.2.2.2.2.2.2.2.2 v27.2.1 (v27.2.1, v27.2.2.1, v27.2.2.2.1, v27.2.2.2.2.1, v27.2.2.2.2.2.1, v27.2.2.2.2.2.2.1, v27.2.2.2.2.2.2.2.1, v27.2.2.2.2.2.2.2.2.1, v27.2.2.2.2.2.2.2.2.2.1, v27.2.2.2.2.2.2.2.2.2.2.1, v27.2.2.2.2.2.2.2.2.2.2.2.1, v27.2.2.2.2.2.2.2.2.2.2.2.2.1, v27.2.2.2.2.2.2.2.2.2.2.2.2.2.1, v27.2.2.2.2.2.2.2.2.2.2.2.2.2.2.1, v27.2.2.2.2.2.2.2.2.2.2.2.2.2.2.2.1)
 some (.inl (v27.2.1, w64 (v19 + 1), v27.1, v28)))) else some (.inr (.inr (v20, v21)))
noncomputable def znJ (o : Ops) (v0 : List (Bs × Bs)) : Option (Int ⊕ (Int × Int × List zaS)) :=
 (ztX o v0).bind fun v2 => match v2 with
 | .inl v3 => some (.inl v3)
 | .inr v4 => ((idx v0 (0 : Int)).bind fun v5 => (zlY o v5.2).bind fun v6 => (ztW o v6).bind fun v7 => match v7 with
 | .inl v8 => some (.inl v8)
 | .inr v9 => ((ziC o).bind fun v10 => (ztR o v6 v10).bind fun v14 => match v14 with
 | .inl v15 => some (.inl v15)
 | .inr v16 => ((subL v0 (1 : Int)).bind fun v17 => (iter (fun x => zhC o v17 x.1 x.2.1 x.2.2.1 x.2.2.2) ((0 : Int), (0 : Int), v16)).bind fun v29 => match v29 with
 | .inl v30 => some (.inl v30)
 | .inr v31 => some (.inr ((0 : Int), v31)))))
noncomputable def ztT (o : Ops) : SC := ⟨⟨[(0, (.h (.sl (.pr .s .s))))], []⟩, 2, [(none, ⟨[(0, .nilp), (1, hI)], []⟩), (none, ⟨[(0, (.ptr 0 0)), (1, hI)], [zeM, zcE]⟩)], fun x => znJ o x⟩
theorem yaE : SCok Tryz.prog tabs 10 (ztT o) := zeL (o := o) (η := [(2000003, .join [] [0] [(some 1000000, ⟨[(2, .nilp), (3, hI)], []⟩), (none, ⟨[], []⟩)]),
 (2000006, .join [] [0, 4] [(some 1000000, ⟨[(2, .nilp), (3, hI)], []⟩), (none, ⟨[], []⟩)]),
 (2000010, .join [] [0] [(some 1000000, ⟨[(2, .nilp), (3, hI)], []⟩), (none, ⟨[(6, (.ptr 0 0))], [zeM, zcE]⟩)]),
 (2000018, .join [] [66, 67, 68] [(some 1000000, ⟨[(2, .nilp), (3, hI)], []⟩), (none, ⟨[(6, (.ptr 0 0)), (10, (.ptr 1 0))], [zzU, yrF, zcE]⟩)]),
 (200012, .loop [] ⟨[(6, (.ptr 0 0)), (7, hI), (68, hI)], [zeM, zcE]⟩ [66, 67] [(some 1000000, ⟨[(2, .nilp), (3, hI)], []⟩), (some 0, ⟨[(6, (.ptr 0 0))], [zeM, zcE]⟩)]),
 (4000016, .sch [(.pu, 0, []), (.pu, 1, []), (.pu, 2, []), (.pu, 3, []), (.pu, 4, []), (.pu, 5, []), (.pu, 6, []), (.pu, 7, []), (.pu, 8, []), (.pu, 9, []), (.pu, 10, []), (.pu, 11, []), (.pu, 12, []), (.pu, 13, []), (.pu, 14, []), (.pu, 15, []), (.pu, 16, []), (.pu, 17, []), (.pu, 18, []), (.pu, 19, []), (.pu, 20, []), (.pu, 21, []), (.pu, 22, []), (.pu, 23, []), (.pu, 24, []), (.pu, 25, []), (.pu, 26, [])]),
 (4000018, .sch [(.pu, 0, []), (.pu, 1, []), (.pu, 2, []), (.pu, 3, []), (.pu, 4, []), (.pu, 5, []), (.pu, 6, []), (.pu, 7, []), (.mn, 8, [0, 1, 2])])]) (Γ := ⟨[(33, (zmX o)), (34, (zoS o)), (35, (ztU o))], [(32, (znZ o)), (27, (znP o)), (36, (zbZ o))], false⟩) (ctok ⟨zqY, ⟨zrZ, ⟨zzY, trivial⟩⟩⟩ ⟨zsO, ⟨zpR, ⟨zdB, trivial⟩⟩⟩) Tryz.func10
noncomputable def zjX (o : Ops) (v1 : (Int × Int × Int × List zaS)) (v2 : (Int × Int × Int × List zaS)) (v3 : (Int × Int × Int × List zaS)) : Option (Bool ⊕ (Int × List zaS)) :=
 bif (v1.1 != 1) then some (.inl false) else (bif (v1.2.1 != 0) then some (.inl false) else (bif (v2.2.1 != 132) then some (.inl false) else (bif (v3.1 != 2) then some (.inl false) else (bif (v3.2.1 != 0) then some (.inl false) else ((zaJ o (2 : Int) (8 : Int) v3.2.2.1 v3.2.2.2).bind fun v4 => bif (!v4.1) then some (.inl false) else ((zaJ o (2 : Int) (9 : Int) v4.2.1 v4.2.2).bind fun v5 => bif v5.1 then some (.inl false) else ((zbD o (2 : Int) v5.2.1 v5.2.2).bind fun v6 => bif ((v6.1.length : Int) != 2) then some (.inl false) else ((zdS o (1 : Int) v6.2.1 v6.2.2).bind fun v7 => bif (v7.1 != 0) then some (.inl false) else ((zaJ o (2 : Int) (0 : Int) v7.2.1 v7.2.2).bind fun v8 => bif v8.1 then some (.inl false) else some (.inr v8.2))))))))))
noncomputable def zhE (o : Ops) : Option (Bool) :=
 (ziC o).bind fun v0 => (zcC o (0 : Int) (1 : Int) (0 : Int) ([117, 58, 97, 110, 110] : Bs) ([] : Bs) ([] : Bs) (0 : Int) (9 : Int) false false (0 : Int) ([115] : Bs) ([] : Bs) (0 : Int) v0.1 v0.2).bind fun v1 => (zcC o (0 : Int) (1 : Int) (0 : Int) ([117, 58, 97, 110, 110] : Bs) ([] : Bs) ([] : Bs) (0 : Int) (9 : Int) false false (0 : Int) ([115] : Bs) ([] : Bs) (0 : Int) v1.2.2.1 v1.2.2.2).bind fun v2 => (zcC o (0 : Int) (1 : Int) (1 : Int) ([117, 58, 97, 110, 110] : Bs) ([] : Bs) ([] : Bs) (0 : Int) (9 : Int) false false (0 : Int) ([116] : Bs) ([] : Bs) (0 : Int) v2.2.2.1 v2.2.2.2).bind fun v3 => (zjX o v1 v2 v3).bind fun v9 => match v9 with
 | .inl v10 => (some v10)
 | .inr v11 => ((ziR o v11.1 v11.2).bind fun v12 => (znJ o v12.1).bind fun v13 => match v13 with
 | .inl v14 => (some false)
 | .inr v15 => (bif (v15.1 == 0) then ((zcB o v15.2.1 v15.2.2).bind fun v16 => bif ((v16.2.2.length : Int) == 2) then ((zaX o (0 : Int) v12.2.1 v12.2.2).bind fun v17 => some (v17.1 == 2)) else (some false)) else (some false)))
noncomputable def zkA (o : Ops) : PC := ⟨[], [.b], fun _ => zhE o, false⟩
theorem zqO : PCok Tryz.prog tabs 13 (zkA o) := zhV (o := o) (η := [(2000012, .join [] [] [(some 1000000, ⟨[(0, hB)], []⟩), (none, ⟨[(1, (.ptr 0 0))], [zeM, zcE]⟩)])]) (Γ := ⟨[], [(20, (zlC o)), (27, (znP o)), (22, (zcG o)), (25, (zcA o)), (24, (ziI o)), (16, (zmH o)), (10, (ztT o)), (15, (zeF o)), (31, (zbR o))], false⟩) (ctok trivial ⟨zrE, ⟨zpR, ⟨zdI, ⟨zdC, ⟨zmF, ⟨zsU, ⟨yaE, ⟨zhH, ⟨zcW, trivial⟩⟩⟩⟩⟩⟩⟩⟩⟩) Tryz.func13
end
end Go.Proofs.YtebbcofojchkpaaGreatDoor.Am
namespace Go.Proofs.YtebbcofojchkpaaGreatDoor
open Go Go.RowKit
section
variable {α β γ σ : Type}
theorem zaA (x : α) (f : α → Option β) : (some x).bind f = f x := rfl
theorem bind_ok {o : Option α} {a : α} {f : α → Option β} (h : o = some a) : o.bind f = f a := by rw [h]; rfl
theorem zmP {x : Int} (h : -9223372036854775808 ≤ x) (h2 : x ≤ 9223372036854775807) : w64 x = x := wr64 h (by omega)
theorem zmM {l : List α} {i : Nat} {j : Int} (hj : j = (i : Int)) (h : i < l.length) : idx l j = some l[i] := by
 subst hj; rw [yvF]; exact List.getElem?_eq_getElem h
theorem yzG {n : Nat} {z : α} (h : n ≤ 68719476736) : mkL (n : Int) z = some (List.replicate n z) := by
 unfold mkL
 have h' : (n : Int) ≤ (LIM : Int) := by unfold LIM; omega
 have h0 : (0 : Int) ≤ (n : Int) := by omega
 simp only [h', h0, decide_true, Bool.and_self, cond_true, Int.toNat_natCast]
theorem zqU {c : Bool} (h : c = true) : chk c = some () := by subst h; rfl
theorem zkS {p : Prop} [Decidable p] {a b : α} (h : p) : (bif decide p then a else b) = a := by simp [h]
theorem zoU {p : Prop} [Decidable p] {a b : α} (h : ¬ p) : (bif decide p then a else b) = b := by simp [h]
theorem ycR {body : σ → Option (σ ⊕ β)} (st : Nat → σ) (n : Nat) (hn : n < 1099511627776) (b : β) (h : ∀ k, k < n → body (st k) = some (.inl (st (k + 1)))) (he : body (st n) = some (.inr b)) : iter body (st 0) = some b := by
 have key : ∀ j k, k ≤ n → n - k < j → zqQ body j (st k) = some b := by
  intro j
  induction j with
  | zero => intro k _ h; omega
  | succ j ih =>
   intro k hk hj
   by_cases e : k = n
   ·subst e; exact zhA he
   ·rw [zdX (h k (by omega))]; exact ih (k + 1) (by omega) (by omega)
 exact key FU 0 (by omega) (by unfold FU; omega)
end
end Go.Proofs.YtebbcofojchkpaaGreatDoor
namespace Go.Proofs.YtebbcofojchkpaaGreatDoor.Am
open Go Go.RowKit
section
variable {γ : Type}
def zmZ (es : List (Int × γ)) : Prop := es.Pairwise fun x y => x.1 < y.1
theorem zcL {a b : Int} : keqI a b = true ↔ a = b := by unfold keqI; exact decide_eq_true_iff
theorem yeU {a b : Int} (h : a ≠ b) : keqI a b = false := by
 cases hb : keqI a b with
 | false => rfl
 | true => exact absurd (zcL.1 hb) h
theorem yeY {a b : Int} : kltI a b = true ↔ a < b := by unfold kltI; exact decide_eq_true_iff
theorem zgP : ∀ {es : List (Int × γ)}, zmZ es → ∀ {k v}, (k, v) ∈ es → mget keqI es k = some v
 | (k', v') :: m, h, k, v, hm => by
  unfold mget
  rcases List.mem_cons.1 hm with e | hm
  ·cases e
   rw [zcL.2 rfl]; rfl
  ·have hlt := (List.pairwise_cons.1 h).1 _ hm
   have : k' ≠ k := fun e => by subst e; exact absurd hlt (Int.lt_irrefl _)
   rw [yeU this]
   exact zgP (List.pairwise_cons.1 h).2 hm
theorem zfJ : ∀ {es : List (Int × γ)} {k v}, mget keqI es k = some v → (k, v) ∈ es
 | (k', v') :: m, k, v, h => by
  unfold mget at h
  cases hk : keqI k' k with
  | true =>
   rw [hk] at h
   cases h
   rw [zcL.1 hk]; exact List.mem_cons_self
  | false => rw [hk] at h; exact List.mem_cons_of_mem _ (zfJ h)
theorem zhW : ∀ {es : List (Int × γ)} {k}, mhas keqI es k = true ↔ ∃ v, (k, v) ∈ es
 | [], k => by simp [mhas]
 | (k', v') :: m, k => by
  unfold mhas
  rw [Bool.or_eq_true, zcL, zhW (es := m)]
  constructor
  ·rintro (rfl | ⟨v, hv⟩)
   ·exact ⟨v', List.mem_cons_self⟩
   ·exact ⟨v, List.mem_cons_of_mem _ hv⟩
  ·rintro ⟨v, hv⟩
   rcases List.mem_cons.1 hv with e | hv
   ·cases e; exact .inl rfl
   ·exact .inr ⟨v, hv⟩
theorem zxP : ∀ (es : List (Int × γ)) (k : Int) (v : γ), (mrep keqI es k v).map (·.1) = es.map (·.1)
 | [], _, _ => rfl
 | (k', v') :: m, k, v => by
  unfold mrep
  cases hk : keqI k' k with
  | true => rw [zcL.1 hk]; rfl
  | false => simp only [cond_false, List.map_cons, zxP m k v]
theorem yaL {es fs : List (Int × γ)} (h : es.map (·.1) = fs.map (·.1)) (hf : zmZ fs) : zmZ es := by
 have : (fs.map (·.1)).Pairwise (· < ·) := List.pairwise_map.2 hf
 rw [← h] at this
 exact List.pairwise_map.1 this
theorem yhL : ∀ {es : List (Int × γ)} {k : Int} {v : γ} {p}, p ∈ mins kltI es k v → p = (k, v) ∨ p ∈ es
 | [], k, v, p, h => .inl (List.mem_singleton.1 h)
 | (k', v') :: m, k, v, p, h => by
  unfold mins at h
  cases hk : kltI k' k with
  | true =>
   rw [hk] at h
   rcases List.mem_cons.1 h with rfl | h
   ·exact .inr List.mem_cons_self
   ·exact (yhL h).imp id (List.mem_cons_of_mem _)
  | false =>
   rw [hk] at h
   rcases List.mem_cons.1 h with rfl | h
   ·exact .inl rfl
   ·exact .inr h
theorem yzR {a b : Int} (h : ¬ a < b) (hn : a ≠ b) : b < a := by omega
theorem yaY : ∀ {es : List (Int × γ)} {k : Int} {v : γ}, zmZ es → (∀ v', (k, v') ∉ es) → zmZ (mins kltI es k v)
 | [], _, _, _, _ => List.pairwise_singleton _ _
 | (k', v') :: m, k, v, h, hn => by
  have hc := List.pairwise_cons.1 h
  have hne : k' ≠ k := fun e => hn v' (by rw [e]; exact List.mem_cons_self)
  unfold mins
  cases hk : kltI k' k with
  | true =>
   simp only [cond_true]
   refine List.pairwise_cons.2 ⟨fun p hp => ?_, yaY hc.2 fun v2 h2 => hn v2 (List.mem_cons_of_mem _ h2)⟩
   rcases yhL hp with rfl | hp
   ·exact yeY.1 hk
   ·exact hc.1 p hp
  | false =>
   simp only [cond_false]
   have hlt : k < k' := yzR (fun h2 => by rw [yeY.2 h2] at hk; cases hk) hne
   refine List.pairwise_cons.2 ⟨fun p hp => ?_, h⟩
   rcases List.mem_cons.1 hp with rfl | hp
   ·exact hlt
   ·exact Int.lt_trans hlt (hc.1 p hp)
theorem yiX {es : List (Int × γ)} {k : Int} {v : γ} (h : zmZ es) : zmZ (mset keqI kltI es k v) := by
 unfold mset
 cases hk : mhas keqI es k with
 | true => exact yaL (zxP es k v) h
 | false =>
  refine yaY h fun v' hv => ?_
  rw [zhW.2 ⟨v', hv⟩] at hk; cases hk
theorem zyR {es : List (Int × γ)} {k : Int} {v : γ} (h : ∀ p ∈ es, p.1 < k) : mset keqI kltI es k v = es ++ [(k, v)] := by
 have hn : mhas keqI es k = false := by
  cases hk : mhas keqI es k with
  | false => rfl
  | true =>
   obtain ⟨v', hv⟩ := zhW.1 hk
   exact absurd (h _ hv) (Int.lt_irrefl _)
 unfold mset
 rw [hn]
 simp only [cond_false]
 clear hn
 induction es with
 | nil => rfl
 | cons p m ih =>
  obtain ⟨k', v'⟩ := p
  have h1 : kltI k' k = true := yeY.2 (h _ List.mem_cons_self)
  unfold mins
  rw [h1]
  simp only [cond_true, List.cons_append, ih fun p hp => h p (List.mem_cons_of_mem _ hp)]
theorem zpW {es : List (Int × γ)} {k : Int} (h : mhas keqI es k = false) : mget keqI es k = none := by
 cases hg : mget keqI es k with
 | none => rfl
 | some v => rw [zhW.2 ⟨v, zfJ hg⟩] at h; cases h
theorem zlX {es : List (Int × γ)} {k : Int} (h : mhas keqI es k = true) : ∃ v, mget keqI es k = some v ∧ (k, v) ∈ es := by
 induction es with
 | nil => cases h
 | cons p m ih =>
  obtain ⟨k', v'⟩ := p
  unfold mget
  cases hk : keqI k' k with
  | true => exact ⟨v', rfl, by rw [zcL.1 hk]; exact List.mem_cons_self⟩
  | false =>
   unfold mhas at h
   rw [hk, Bool.false_or] at h
   obtain ⟨v, h1, h2⟩ := ih h
   exact ⟨v, h1, List.mem_cons_of_mem _ h2⟩
theorem zhT {es : List (Int × γ)} {k : Int} {v z : γ} (h : mget keqI es k = some v) : zgZ keqI es k z = v := by unfold zgZ; rw [h]
theorem ygO {es : List (Int × γ)} {k : Int} {z : γ} (h : mhas keqI es k = false) : zgZ keqI es k z = z := by unfold zgZ; rw [zpW h]
theorem yvB {es : List (Int × γ)} {k : Int} {v : γ} (h : mget keqI es k = some v) : mhas keqI es k = true := zhW.2 ⟨v, zfJ h⟩
theorem ypH {es fs : List (Int × γ)} (h : es.map (·.1) = fs.map (·.1)) (k : Int) : mhas keqI es k = mhas keqI fs k := by
 have g : ∀ (es : List (Int × γ)), mhas keqI es k = (es.map (·.1)).any fun q => keqI q k := by
  intro es
  induction es with
  | nil => rfl
  | cons p m ih => obtain ⟨a, b⟩ := p; simp only [mhas, ih, List.map_cons, List.any_cons]
 rw [g, g, h]
theorem yfK {es : List (Int × γ)} (h : zmZ es) (q : Int × γ → Bool) (k : Int) : mget keqI (es.filter q) k = (mget keqI es k).filter fun v => q (k, v) := by
 cases hg : mget keqI es k with
 | some v =>
  have hm := zfJ hg
  rw [Option.filter_some]
  cases hq : q (k, v) with
  | true =>
   rw [if_pos rfl]
   exact zgP (h.sublist List.filter_sublist) (List.mem_filter.2 ⟨hm, hq⟩)
  | false =>
   rw [if_neg (by simp)]
   cases hf : mget keqI (es.filter q) k with
   | none => rfl
   | some v' =>
    have h2 := List.mem_filter.1 (zfJ hf)
    have h3 := zgP h h2.1
    rw [hg] at h3
    cases h3
    rw [hq] at h2
    cases h2.2
 | none =>
  rw [Option.filter_none]
  cases hf : mget keqI (es.filter q) k with
  | none => rfl
  | some v' =>
   have h2 := List.mem_filter.1 (zfJ hf)
   rw [zgP h h2.1] at hg
   cases hg
end
end Go.Proofs.YtebbcofojchkpaaGreatDoor.Am
