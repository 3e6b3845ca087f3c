/- A machine over plain values: what it computes of a function's code, the call answers. A machine over plain values: contracts of functions whose arguments and results are numbers, bools and texts. Some functions of Go's library: what they compute, and that they do. What some functions compute, and that they do. A machine over plain values: contracts of some functions of Go's library. A machine over plain values: contract of people.Form. strings.Repeat: what it computes, and that it does. What is left open: operations that laws speak of. Conditions: none; definitions, and that they are there. A machine over plain values: library functions told by hand. A machine over plain values: slices.Sorted of maps.Keys, the keys numbers. DERIVED: THE SHELF's CONTRACTS AT THIS DUMP, IN PLAIN WORDS (tools/lay-plain.mjs out of 'TryzSrtlI.lean', which tools/lay-shelf.mjs wrote): THE SAME DECLARATIONS UNDER THE SAME NAMES: 'import', 'namespace', 'open', 'def', 'theorem' AND NOTHING ELSE: no command of the shelf's: FOR A HAND-IN. Each laying: the table of numbers ('.._ren') and one theorem, a field a fact of the dump's own or the kernel's comparison; each contract: ONE APPLICATION. slices.Sorted of maps.Keys at this program: the kit's contracts laid. A machine over plain values: slices.Grow of nil. DERIVED: THE SHELF's CONTRACTS AT THIS DUMP, IN PLAIN WORDS (tools/lay-plain.mjs out of 'TryzGrwl.lean', which tools/lay-shelf.mjs wrote): THE SAME DECLARATIONS UNDER THE SAME NAMES: 'import', 'namespace', 'open', 'def', 'theorem' AND NOTHING ELSE: no command of the shelf's: FOR A HAND-IN. Each laying: the table of numbers ('.._ren') and one theorem, a field a fact of the dump's own or the kernel's comparison; each contract: ONE APPLICATION. slices.Grow of nil at this program: the kit's contract laid. Conditions: as each theorem says. -/
import Derived.Shelf.Strings.SlTrimAscii
import Derived.Lib.SlKeysI
import Derived.Sort.Walk0
import Derived.Shelf.SlIterI.Nil
import Derived.Shelf.SortM.Plain
import Derived.Shelf.SortM.SortNone
import Derived.Ground.GgzProg
import Derived.Ground.SlgmProg
import Derived.Test.YtebbcofojchkpaaGreatDoorProg
import Derived.Shelf.Spec.SlicesGrow
import Derived.Ground.Names8Prog
import Derived.Test.YtebbcofojchkpaaGreatDoorQdH
namespace Go.Proofs.YtebbcofojchkpaaGreatDoor.Am
open Go Go.RowKit
section
variable {β : Type} {τ : TE} {Γ : CT} {η : HT} {N0 n : Nat} {P : Program} {B : Bas} {S : Mem} {E : List EI} {L : List Res} {σ : St} {m : FM} {w : World} {ops : Array Oper} {Q : Exit → Act → World → Prop} {rest : List Oper} {o : Oper}
def exQ : Ex → Exit
 | .normal => .normal
 | .exit i => .exit i
 | .ret => .ret
theorem ztR {α γ : Type} {f : α → γ} {o : Option α} {y : γ} (h : mapO f o = some y) : ∃ x, o = some x ∧ f x = y := by
 cases o with
 | none => cases h
 | some x => cases h; exact ⟨x, rfl, rfl⟩
theorem yrC {a : Option Nat} {e : Ex} (h : isEx a e = true) : exOf a = e := by
 cases a with
 | none => cases e <;> first | rfl | cases h
 | some n =>
  cases e with
  | normal => cases h
  | exit i =>
   have h1 := Nat.eq_of_beq_eq_true (zaN h); subst h1
   have h2 := zaV h
   cases hb : Nat.beq n 1000000 with
   | true => rw [hb] at h2; cases h2
   | false => simp only [exOf, hb, cond_false]
  | ret => simp only [exOf, show Nat.beq n 1000000 = true from h, cond_true]
theorem Agr.ev {D : List Nat} {m m' : FM} (h : Agr D m m') {t : Nat} (ht : hasN D t = false) : evO n m' (.tmp t) = evO n m (.tmp t) := by
 show (bif Nat.blt t n then look m' t else undef) = (bif Nat.blt t n then look m t else undef)
 rw [h t ht]
theorem ztC {S' : Mem} {E' : List EI} {m' : FM} {D : List Nat} (R : Rel n B S E L σ m w) (hS : Mem.le S S') (hA : Agr D m m') : ∀ (kp : List Nat) (t : Nat), VR S' E' (lkS (zuT D σ kp) t) (evO n m' (.tmp t))
 | [], _ => trivial
 | d :: kp, t => by
  unfold zuT
  cases hb : !(hasN D d) && zxI (lkS σ.sl d) with
  | false => exact ztC R hS hA kp t
  | true =>
   simp only [cond_true, lkS]
   cases hd : Nat.beq d t with
   | false => exact ztC R hS hA kp t
   | true =>
    have := Nat.eq_of_beq_eq_true hd; subst this
    have h1 := zaN hb
    have h2 : hasN D d = false := by cases hh : hasN D d with
     | true => rw [hh] at h1; cases h1
     | false => rfl
    rw [hA.ev h2]
    exact ykE (zaV hb) (R.sl d) hS
theorem yrJ : ∀ (a b : List (Nat × SV)) (t : Nat), lkS (a ++ b) t = lkS a t ∨ lkS (a ++ b) t = lkS b t
 | [], _, _ => .inr rfl
 | (d, x) :: a, b, t => by
  simp only [List.cons_append, lkS]
  cases Nat.beq d t with
  | true => exact .inl rfl
  | false => exact yrJ a b t
theorem RelV.app {V : Nat → Value} (R : RelV B S E L σ V w) {l : List (Nat × SV)} (h : ∀ t, VR S E (lkS l t) (V t)) : RelV B S E L (σ.app l) V w :=
 ⟨R.hs, R.lL, R.lE, R.obj, fun t => by
  show VR S E (lkS (σ.sl ++ l) t) _
  rcases yrJ σ.sl l t with e | e
  ·rw [e]; exact R.sl t
  ·rw [e]; exact h t⟩
theorem yhG : ∀ (os : List OSh) (l : List SV), Ver0 (zcU os l)
 | [], l => fun i ver e T xs h => by cases l <;> (simp [zcU] at h)
 | o :: os, l => by
  obtain ⟨a, l', h, ha⟩ := ybX o os l
  rw [h]
  intro i ver e T xs h
  cases i with
  | zero => simp at h; exact ha _ _ _ _ h
  | succ i => exact yhG os l' i ver e T xs (by simpa using h)
theorem get_put {s : Shp} {x : zdN s.tys} (h : s.get N0 σ = some x) : Ver0 (s.put x).hp ∧ N0 ≤ (s.put x).hp.length := by
 refine ⟨yhG _ _, ?_⟩
 unfold Shp.get at h
 obtain ⟨h1, _⟩ := zaC h
 show N0 ≤ (zcU s.hp _).length
 rw [zwM]
 exact Nat.le_of_ble_eq_true (zaN h1)
theorem zxA {V : Nat → Value} (R : RelV B S E L σ V w) {e : Ex} {kp : List (Nat × SV)} (hk : ∀ S' E', Mem.le S S' → ∀ t, VR S' E' (lkS kp t) (V t)) : ∀ {outs : List (Option Nat × Shp)} {d : DS outs}, inj N0 outs e σ = some d → ∃ S' E' L' σ', Mem.le S S' ∧ Pin N0 E E' ∧ RelV B S' E' L' σ' V w ∧ Ver0 σ'.hp ∧ N0 ≤ σ'.hp.length ∧ ∀ {γ : Type} (k : Ex → St → Option γ), out kp outs d k = k e σ'
 | [], _, h => by cases h
 | [a], d, h => by
  obtain ⟨h1, h2⟩ := zaC h
  obtain ⟨S', E', L', hS, hP, R'⟩ := ycR R (fun l => znI l R) h2
  obtain ⟨h3, h4⟩ := get_put h2
  refine ⟨S', E', L', _, hS, hP, R'.app (hk S' E' hS), h3, h4, fun k => ?_⟩
  show k (exOf a.1) _ = _; rw [yrC h1]
 | a :: b :: l, d, h => by
  have next : mapO Sum.inr (inj N0 (b :: l) e σ) = some d → ∃ S' E' L' σ', Mem.le S S' ∧ Pin N0 E E' ∧ RelV B S' E' L' σ' V w ∧ Ver0 σ'.hp ∧ N0 ≤ σ'.hp.length ∧ ∀ {γ : Type} (k : Ex → St → Option γ), out kp (a :: b :: l) d k = k e σ' := fun h => by
   obtain ⟨x, h1, rfl⟩ := ztR h
   exact zxA R hk (outs := b :: l) h1
  simp only [inj] at h
  cases hb : isEx a.1 e with
  | true =>
   rw [hb] at h
   simp only [cond_true] at h
   split at h
   ·rename_i x h1
    cases h
    obtain ⟨S', E', L', hS, hP, R'⟩ := ycR R (fun l => znI l R) h1
    obtain ⟨h3, h4⟩ := get_put h1
    refine ⟨S', E', L', _, hS, hP, R'.app (hk S' E' hS), h3, h4, fun k => ?_⟩
    show k (exOf a.1) _ = _; rw [yrC hb]
   ·exact next h
  | false =>
   rw [hb] at h
   exact next h
theorem HS.nil (H : HS B S w L) (sz : Nat) (T : TypeId) : HS B S w (.osl (.slice none 0 0) 0 sz [] [] T :: L) := by
 refine ⟨H.fr, H.sub, H.keep, fun i q h => ?_, fun i q b h hb => ?_, fun i j q s b hi hj hq hs => ?_⟩
 ·cases i with
  | zero => cases h; exact .inl ⟨rfl, rfl, rfl, rfl⟩
  | succ i => exact H.own _ q h
 ·cases i with
  | zero => cases h; cases hb
  | succ i => exact H.old _ q b h hb
 ·cases i with
  | zero => cases hi; cases hq
  | succ i =>
   cases j with
   | zero => cases hj; cases hs
   | succ j => rw [H.inj i j q s b hi hj hq hs]
theorem nl_ok {c : SV} {u : Value} (hc : isNl c = true) (hx : VR S E c u) : Same S (.slice none 0 0) u 0 ∧ u.oneCell' = true := by
 cases c with
 | nils => have hx : u = .slice none 0 0 := hx; subst hx; exact ⟨.inl rfl, rfl⟩
 | emp => have hx : VB S E .emp u := hx; obtain ⟨h1, a, rfl⟩ := hx; exact ⟨.inr ⟨rfl, rfl, h1, a, rfl⟩, rfl⟩
 | _ => cases hc
theorem yxJ (R : Rel n B S E L σ m w) {c : SV} {u : Value} (hc : isNl c = true) (hx : VR S E c u) (e : Ty) (T : TypeId) : Rel n B S (E ++ [.osl 0 u (tsz e)]) (L ++ [.osl (.slice none 0 0) 0 (tsz e) [] [] T]) ⟨σ.sl, σ.hp ++ [.osl 0 e T []]⟩ m w ∧ VC S (E ++ [.osl 0 u (tsz e)]) (.own σ.hp.length 0) u := by
 obtain ⟨h1, h2⟩ := nl_ok hc hx
 refine ⟨R.snoc (HS.nil R.hs _ _) ⟨.slice none 0 0, u, [], [], rfl, rfl, rfl, h1⟩, h2, .osl 0 u (tsz e), by rw [← R.lE]; simp, fun r v s he => ?_⟩
 cases he; exact ⟨Nat.le_refl 0, fun _ => rfl⟩
theorem xeG (R : Rel n B S E L σ m w) (x : Mk) : ∃ S' E' L', Mem.le S S' ∧ ELe E E' ∧ Rel n B S' E' L' (mk1 σ x) m w := by
 have same : ∃ S' E' L', Mem.le S S' ∧ ELe E E' ∧ Rel n B S' E' L' σ m w := ⟨S, E, L, Mem.le_refl _, ELe.refl _, R⟩
 cases x with
 | sl d e T =>
  simp only [mk1]
  cases hn : isNl (lkS σ.sl d) with
  | false => exact same
  | true =>
   obtain ⟨R1, h1⟩ := yxJ R hn (R.sl d) e T
   exact ⟨S, _, _, Mem.le_refl _, ELe.push E _, R1.re (d := d) (VR.ofC h1)⟩
 | cell d i e T =>
  simp only [mk1]
  split
  ·split
   ·rename_i id off hp _ T' cs hc
    split
    ·rename_i c hi
     cases hn : isNl c with
     | false => exact same
     | true =>
      obtain ⟨r0, e0, h1, h2, b, us, rfl, rfl, h3⟩ := R.objN hc
      obtain ⟨u, h4, h5⟩ := h3.at hi
      obtain ⟨R1, h6⟩ := yxJ R hn (VR.ofC h5) e T
      have hlt : id < σ.hp.length := by rw [← R.lE]; exact (List.getElem?_eq_some_iff.1 h2).1
      have h2' : (E ++ [EI.osl 0 u (tsz e)])[id]? = some (.blk b) := by rw [List.getElem?_append_left (by rw [R.lE]; exact hlt)]; exact h2
      have h1' : lkR (L ++ [Res.osl (.slice none 0 0) 0 (tsz e) [] [] T]) id = some (.blk b us T') := by
       rw [zaL, List.getElem?_append_left (by rw [R.lL]; exact hlt), ← zaL]; exact h1
      have hst : stR (L ++ [Res.osl (.slice none 0 0) 0 (tsz e) [] [] T]) id (.blk b us T') = L ++ [Res.osl (.slice none 0 0) 0 (tsz e) [] [] T] := by
       rw [zqY]
       apply List.ext_getElem?
       intro j
       by_cases hj : id = j
       ·subst hj
        rw [zaL] at h1'
        rw [List.getElem?_set_self (List.getElem?_eq_some_iff.1 h1').1, h1']
       ·rw [List.getElem?_set_ne hj]
      have h7 : A2 (VC S (E ++ [EI.osl 0 u (tsz e)])) (setN cs i (.own σ.hp.length 0)) us := by
       have h8 : A2 (VC S (E ++ [EI.osl 0 u (tsz e)])) cs us := h3.imp fun _ _ h => h.mono (Mem.le_refl S) (ELe.push E _)
       have h9 := A2.set (a := SV.own σ.hp.length 0) h6 i h8
       have h10 : us.set i u = us := by
        apply List.ext_getElem?
        intro j
        by_cases hj : i = j
        ·subst hj; rw [List.getElem?_set_self (List.getElem?_eq_some_iff.1 h4).1, h4]
        ·rw [List.getElem?_set_ne hj]
       rw [zfY]
       rw [h10] at h9; exact h9
      exact ⟨S, _, _, Mem.le_refl _, ELe.push E _, R1.upd1 (r' := .blk b us T') h2' (by rw [hst]; exact R1.hs) ⟨b, us, rfl, rfl, h7⟩⟩
    ·exact same
   ·exact same
  ·exact same
theorem zwN : ∀ (l : List Mk) {σ : St} {S : Mem} {E : List EI} {L : List Res} (_ : Rel n B S E L σ m w), ∃ S' E' L', Mem.le S S' ∧ ELe E E' ∧ Rel n B S' E' L' (zuZ σ l) m w
 | [], _, S, E, L, R => ⟨S, E, L, Mem.le_refl _, ELe.refl _, R⟩
 | x :: l, _, _, _, _, R => by
  obtain ⟨S1, E1, L1, h1, h2, R1⟩ := xeG R x
  obtain ⟨S2, E2, L2, h3, h4, R2⟩ := zwN l R1
  exact ⟨S2, E2, L2, Mem.le_trans h1 h3, h2.trans h4, R2⟩
theorem ypM {a b : Bs} (h : str a = str b) : a = b := by
 have h : Value.string ⟨a.toArray⟩ = .string ⟨b.toArray⟩ := h
 injection h with h; injection h with h; injection h
theorem ysR : ∀ {K : Ty}, kOk K = true → ∀ {a b : den K}, kv K a = kv K b → a = b
 | .i k, _, a, b, h => by
  have h : Value.int k (toI k a) = .int k (toI k b) := h
  injection h with _ h; exact yhK h
 | .s, _, a, b, h => by
  have h : str a = str b := h
  exact ypM h
theorem A2.at_r {α γ : Type} {R : α → γ → Prop} : ∀ {l : List α} {m : List γ} {i : Nat} {b : γ}, A2 R l m → m[i]? = some b → ∃ a, l[i]? = some a ∧ R a b
 | _, _, _, _, .nil, h => by simp at h
 | _, _, 0, _, .cons a _, h => by simp at h; subst h; exact ⟨_, rfl, a⟩
 | _, _, i + 1, _, .cons _ t, h => by obtain ⟨a, h1, h2⟩ := A2.at_r (i := i) t (by simpa using h); exact ⟨a, by simpa using h1, h2⟩
theorem yrN {K V : Ty} (hK : kOk K = true) {es : List (den K × den V)} {ents : List MapEntry} (hM : MR S K V es ents) {a c : MapEntry} (ha : a ∈ ents) (hc : c ∈ ents) : a.key = c.key ↔ a.born = c.born := by
 obtain ⟨l, hl, hA⟩ := hM.perm
 have hne : l.Pairwise fun p q => keq K p.1 q.1 = false := (hl.pairwise_iff fun h => zwW hK h).2 hM.ne
 obtain ⟨i, hi, rfl⟩ := List.mem_iff_getElem.1 ha
 obtain ⟨j, hj, rfl⟩ := List.mem_iff_getElem.1 hc
 have hlen := hA.len
 constructor
 ·intro h
  by_cases hij : i = j
  ·subst hij; rfl
  ·exfalso
   obtain ⟨p, hp, hp2⟩ := A2.at_r hA (List.getElem?_eq_getElem hi)
   obtain ⟨q, hq, hq2⟩ := A2.at_r hA (List.getElem?_eq_getElem hj)
   have h2 : p.1 = q.1 := ysR hK (by rw [← zxV hK hp2.1, ← zxV hK hq2.1, h])
   have h3 : ∀ {i j : Nat} {p q : den K × den V}, i < j → l[i]? = some p → l[j]? = some q → p.1 = q.1 → False := fun {i j p q} hij hp hq h2 => by
    obtain ⟨h4, rfl⟩ := List.getElem?_eq_some_iff.1 hp
    obtain ⟨h5, rfl⟩ := List.getElem?_eq_some_iff.1 hq
    have := List.pairwise_iff_getElem.1 hne i j h4 h5 hij
    rw [h2] at this
    rw [(zlJ hK).2 rfl] at this; cases this
   rcases Nat.lt_or_gt_of_ne hij with h4 | h4
   ·exact h3 h4 hp hq h2
   ·exact h3 h4 hq hp h2.symm
 ·intro h
  by_cases hij : i = j
  ·subst hij; rfl
  ·exfalso
   have h4 : ∀ {i j : Nat} (hi : i < ents.length) (hj : j < ents.length), i < j → ents[i].born = ents[j].born → False := fun {i j} hi hj hij h => by
    have := List.pairwise_iff_getElem.1 hM.nd i j (by simpa using hi) (by simpa using hj) hij
    simp only [List.getElem_map] at this
    exact this h
   rcases Nat.lt_or_gt_of_ne hij with h5 | h5
   ·exact h4 hi hj h5 h
   ·exact h4 hj hi h5 h.symm
theorem ypL {S R : Type} {f : S → List (Option (S ⊕ R))} {s : S} {r : R} (h : rngA f s = some r) : ∃ n, Rng f n s r := by
 unfold rngA at h
 split at h
 ·rename_i hh; cases h; exact hh.choose_spec
 ·cases h
theorem ywA {α γ : Type} {l : List α} {d : γ} {f : α → γ} {p : α} (h : p ∈ l) : f p ∈ rngL l d f := by
 cases l with
 | nil => cases h
 | cons x l => exact List.mem_map.2 ⟨p, h, rfl⟩
theorem yzI {γ : Type} {d t : Nat} {g0 : St → Option γ} {Z : Option γ → Prop} (R : Rel n B S E L σ m w) (hZ : ¬ Z none) (hz : ∀ o ∈ yvV n σ d t g0, Z o) {ty : TypeId} {pos : String} {aft : Array Edge} :
  outcome P (fun v w' => ∃ σ' L', Z (g0 σ') ∧ Rel n B S E L' σ' ((d, v) :: m) w') ((execOp (evO n m) ⟨some d, .next (.tmp t) false, ty, pos, aft, none⟩).run P w) := by
 have bad : ∀ {X : Prop}, (∀ o, o ∈ [(none : Option γ)] → Z o) → X := fun h => absurd (h none List.mem_cons_self) hZ
 unfold yvV at hz
 split at hz
 ·rename_i i ht
  split at hz
  ·rename_i mid gn K cur left hi
   split at hz
   ·rename_i g' K' V es hm
    split at hz
    ·rename_i hK _
     subst hK
     cases hb : Nat.beq gn g' && Nat.blt d n with
     | false => rw [hb] at hz; exact bad hz
     | true =>
      rw [hb] at hz
      simp only [cond_true, zlC] at hz
      have hd : Nat.blt d n = true := zaV hb
      have hg := Nat.eq_of_beq_eq_true (zaN hb); subst hg
      obtain ⟨r0, e0, k1, k2, b, mb, ck, seen, rfl, rfl, hK, e1, k3, k4⟩ := R.objN hi
      obtain ⟨r1, e2, k5, k6, b2, ents, ck2, rfl, rfl, hM, hlt⟩ := R.objN hm
      rw [k6] at k3; cases k3
      obtain ⟨_, k7⟩ := k4 _ _ _ _ rfl
      obtain ⟨rfl, rfl, k8⟩ := k7 rfl
      obtain ⟨l, hl, hA⟩ := hM.perm
      have hv := R.sl t
      rw [ht] at hv
      obtain ⟨b3, hv, e3, q1, q2⟩ := hv
      rw [k2] at q1; cases q1
      have := q2 _ rfl; subst this
      have hh : w.heap[b]? = some (.mapIter (some b2) ck2 seen ck2) := R.hs.own i _ k1
      have hh2 : w.heap[b2]? = some (.map ents.toArray ck2) := R.hs.own mid _ k5
      have exec : ∀ {u w'}, (Instr.next (.pointer (some ⟨b, 0, none⟩)) false ty).run P w = .ok u w' → (execOp (evO n m) ⟨some d, .next (.tmp t) false, ty, pos, aft, none⟩).run P w = .ok (.value u) w' := fun {u w'} h => by
       have hv : evO n m (.tmp t) = .pointer (some ⟨b, 0, none⟩) := hv
       simp [execOp, hv, h, Result.andThen]
      rcases run_next_at (P := P) w ty b b2 ck2 ck2 seen ents.toArray ck2 hh hh2 (by simpa using hlt) (Nat.le_refl _) with ⟨h0, hrun⟩ | ⟨en, hen, w1, hw1, hrun⟩
      ·rw [exec hrun]
       have hnil : rngC (keq K) es left = [] := by
        rw [rngC, List.filter_eq_nil_iff]
        intro p hp hany
        obtain ⟨k, hk, hke⟩ := List.any_eq_true.1 hany
        obtain ⟨en, hen, h1⟩ := A2.mem_l hA p (hl.mem_iff.2 hp)
        have h2 : en.born ∉ seen := fun h => ((k8 en hen).1.1 h) k hk (by rw [zxV hK h1.1, (zlJ hK).1 hke])
        have : en ∈ (leftOf ents.toArray seen) := by simp [leftOf, hen, h2]
        have h3 := Array.size_pos_of_mem this
        omega
       rw [hnil] at hz
       exact ⟨_, _, hz _ List.mem_cons_self, R.put (x := .tup [.v .b false]) ⟨[.bool false], rfl, .cons (show rep .b S [.bool false] false from rfl) .nil⟩ hd⟩
      ·rw [exec hrun]
       have hen' : en ∈ ents ∧ en.born ∉ seen := by simpa [leftOf] using hen
       obtain ⟨p, hp, hpe⟩ := A2.mem_r hA en hen'.1
       have hkey := zxV hK hpe.1
       have hex : ∃ k ∈ left, en.key = kv K k := by
        refine Classical.byContradiction fun hno => hen'.2 ((k8 en hen'.1).1.2 fun k hk h => hno ⟨k, hk, h⟩)
       obtain ⟨k, hk, hkk⟩ := hex
       have hpk : p.1 = k := ysR hK (hkey.symm.trans hkk)
       have hpm : p ∈ rngC (keq K) es left := by
        rw [rngC, List.mem_filter]
        exact ⟨hl.mem_iff.1 hp, List.any_eq_true.2 ⟨k, hk, (zlJ hK).2 hpk⟩⟩
       have h1 := hz _ (ywA (d := g0 (σ.put d (.tup [.v .b false]))) (f := fun p => g0 ⟨(d, .tup [.v .b true, svOf K p.1, svOf V p.2]) :: σ.sl, setN σ.hp i (.it mid gn K (some p.1) (rngD (keq K) left p.1))⟩) hpm)
       have H1 : HS B S w1 L := by
        rcases hw1 with rfl | rfl
        ·exact R.hs
        ·exact R.hs.drew
       have hh1 : w1.heap = w.heap := by rcases hw1 with rfl | rfl <;> rfl
       have hlt1 : b < w1.heap.size := by rw [hh1]; exact lt_of_heap hh
       have H2 : HS B S (Go.ChangeMaps.setBlock w1 b (.mapIter (some b2) ck2 (seen.push en.born) ck2)) (stR L i (.obj b (.mapIter (some b2) ck2 (seen.push en.born) ck2))) := by
        refine H1.upd k1 (by simp [Go.ChangeMaps.setBlock]) rfl rfl rfl (fun j hj hne => ?_) ?_ fun b' hb' => .inl hb'
        ·have : j ≠ b := fun e => hne (by rw [e]; rfl)
         simp [Go.ChangeMaps.setBlock, Array.getElem?_setIfInBounds, Ne.symm this]
        ·show ((Go.ChangeMaps.setBlock w1 b _).heap)[b]? = _
         simp [Go.ChangeMaps.setBlock, Array.getElem?_setIfInBounds, hlt1]
       have hA1 := hA
       have R1 := R.upd1 (o' := .it mid gn K (some p.1) (rngD (keq K) left p.1)) k2 H2 ⟨b, b2, ck2, seen.push en.born, rfl, rfl, hK, _, k6, fun g2 b4 c2 es2 he => by
        cases he
        refine ⟨Nat.le_refl _, fun _ => ⟨rfl, rfl, fun e4 he4 => ⟨?_, fun c hc => ?_⟩⟩⟩
        ·have hkb : e4.key = en.key ↔ e4.born = en.born := yrN hK hM he4 hen'.1
         rw [Array.mem_push, (k8 e4 he4).1]
         constructor
         ·rintro (h | h) k' hk'
          ·exact h k' (List.mem_filter.1 hk').1
          ·rw [hkb.2 h, hkey]
           intro h5
           have := (List.mem_filter.1 hk').2
           rw [(zlJ hK).2 (ysR hK h5).symm] at this; cases this
         ·intro h
          by_cases h5 : e4.born = en.born
          ·exact .inr h5
          ·refine .inl fun k' hk' h6 => h k' (List.mem_filter.2 ⟨hk', ?_⟩) h6
           rw [Bool.not_eq_true', zrD hK]
           intro h7
           exact h5 (hkb.1 (by rw [h6, h7, hkey]))
        ·cases hc
         rw [← hkey, Array.back?_push]
         exact (yrN hK hM he4 hen'.1).trans ⟨fun h => by rw [h], fun h => (osi h).symm⟩⟩
       refine ⟨_, _, h1, R1.put (x := .tup [.v .b true, svOf K p.1, svOf V p.2]) ⟨[.bool true, en.key, en.val], rfl, .cons (show rep .b S [.bool true] true from rfl) (.cons (zqP hpe.1) (.cons (zqP hpe.2) .nil))⟩ hd⟩
    ·exact bad hz
   ·exact bad hz
  ·exact bad hz
 ·exact bad hz
def Good (P : Program) (N0 n : Nat) (B : Bas) (c : Code) {β : Type} (rn : (Ex → St → Option β) → Option β) (S : Mem) (E : List EI) (m : FM) (w : World) : Prop :=
 ∀ (k : Ex → St → Option β) (r : β) (Q : Exit → Act → World → Prop), rn k = some r → (∀ e σ' S' E' L' m' w', k e σ' = some r → Mem.le S S' → Pin N0 E E' → Agr (zmK c) m m' → Rel n B S' E' L' σ' m' w' → Q (exQ e) (fr n m') w') → c.wp P Q (fr n m) w
theorem zqD {α γ : Type} {o : Option α} {f : α → Option γ} {r : γ} (h : Option.bind o f = some r) : ∃ x, o = some x ∧ f x = some r := bnd h
theorem zsN (hm : P.follows .mixedOrders = true) (hτ : TEok P τ) (hΓ : CTok P Γ B) : ∀ (c : Code) {β : Type} {σ : St} {S : Mem} {E : List EI} {L : List Res} {m : FM} {w : World}, Rel n B S E L σ m w → Good P N0 n B c (β := β) (run N0 n τ Γ η c σ) S E m w
 | .skip, _, σ, S, E, L, m, w, R, k, r, Q, h, hQ => wp_skip (hQ .normal _ _ _ _ _ _ h (Mem.le_refl _) (Pin.refl _ _) (Agr.refl _ _) R)
 | .exit id, _, σ, S, E, L, m, w, R, k, r, Q, h, hQ => wp_exit (hQ (.exit id) _ _ _ _ _ _ h (Mem.le_refl _) (Pin.refl _ _) (Agr.refl _ _) R)
 | .ret, _, σ, S, E, L, m, w, R, k, r, Q, h, hQ => wp_ret (hQ .ret _ _ _ _ _ _ h (Mem.le_refl _) (Pin.refl _ _) (Agr.refl _ _) R)
 | .region id ops d, _, σ, S, E, L, m, w, R, k, r, Q, h, hQ => by
  obtain ⟨ops⟩ := ops
  cases d with
  | true => exact yoL hm hτ hΓ R h (fun σ' S' E' L' m' w' h1 h2 h3 h4 R1 => hQ .normal _ _ _ _ _ _ h1 h2 (Pin.of h3) h4 R1)
  | false => exact wp_region_lit (zyW hτ hΓ (fun σ' S' E' L' m' w' h1 h2 h3 h4 R1 => hQ .normal _ _ _ _ _ _ h1 h2 (Pin.of h3) h4 R1) ops (fun _ h => h) (Mem.le_refl _) (ELe.refl _) (Agr.refl _ _) R h)
 | .cond c a b, _, σ, S, E, L, m, w, R, k, r, Q, h, hQ => by
  simp only [run] at h
  split at h
  ·rename_i t hc
   have hv : evO n m c = .bool t := vB (zbC R hc)
   refine yoT hv (fun ht => ?_) (fun ht => ?_)
   ·subst ht; exact zsN hm hτ hΓ a R k r Q h (fun e σ' S' E' L' m' w' h1 h2 hP h3 R1 => hQ e σ' S' E' L' m' w' h1 h2 hP h3.l R1)
   ·subst ht; exact zsN hm hτ hΓ b R k r Q h (fun e σ' S' E' L' m' w' h1 h2 hP h3 R1 => hQ e σ' S' E' L' m' w' h1 h2 hP h3.r R1)
  ·cases h
 | .seq a b, _, σ, S, E, L, m, w, R, k, r, Q, h, hQ => by
  have next : ∀ e σ' S' E' L' m' w', nx k (fun σ => run N0 n τ Γ η b σ k) e σ' = some r → Mem.le S S' → Pin N0 E E' → Agr (zmK a) m m' → Rel n B S' E' L' σ' m' w' → Exit.then (b.wp P Q) Q (exQ e) (fr n m') w' := fun e σ' S' E' L' m' w' h1 hS hP hA R1 => by
   cases e with
   | normal => exact zsN hm hτ hΓ b R1 k r Q h1 (fun e σ' S' E' L' m' w' h1 h2 hP2 h3 R1 => hQ e σ' S' E' L' m' w' h1 (Mem.le_trans hS h2) (hP.trans hP2) ((Agr.l hA).trans (Agr.r h3)) R1)
   | exit i => exact hQ (.exit i) _ _ _ _ _ _ h1 hS hP hA.l R1
   | ret => exact hQ .ret _ _ _ _ _ _ h1 hS hP hA.l R1
  simp only [run] at h
  refine wp_seq ?_
  split at h
  ·rename_i mk kp outs hj
   obtain ⟨d, h1, h2⟩ := zqD h
   obtain ⟨S0, E0, L0, hS0, hE0, R0⟩ := zwN mk R
   refine zsN hm hτ hΓ a R0 (inj N0 outs) d _ h1 fun e σ' S' E' L' m' w' h3 hS hP hA R1 => ?_
   obtain ⟨S2, E2, L2, σ2, hS2, hP2, R2, _, _, h4⟩ := zxA R1 (kp := zuT (zmK a) (zuZ σ mk) kp) (fun S'' E'' hS'' t => ztC R0 (Mem.le_trans hS hS'') hA kp t) h3
   rw [h4] at h2
   exact next e σ2 _ _ _ _ _ h2 (Mem.le_trans hS0 (Mem.le_trans hS hS2)) ((Pin.of hE0).trans (hP.trans hP2)) hA R2
  ·exact zsN hm hτ hΓ a R _ r _ h next
 | .block id b, _, σ, S, E, L, m, w, R, k, r, Q, h, hQ => by
  have next : ∀ e σ' S' E' L' m' w', blk id k e σ' = some r → Mem.le S S' → Pin N0 E E' → Agr (zmK b) m m' → Rel n B S' E' L' σ' m' w' → Exit.inBlock id Q (exQ e) (fr n m') w' := fun e σ' S' E' L' m' w' h1 hS hP hA R1 => by
   cases e with
   | normal => exact hQ .normal _ _ _ _ _ _ h1 hS hP hA R1
   | ret => exact hQ .ret _ _ _ _ _ _ h1 hS hP hA R1
   | exit i =>
    simp only [blk] at h1
    cases hb : Nat.beq i id with
    | true =>
     rw [hb] at h1
     have := Nat.eq_of_beq_eq_true hb; subst this
     exact xcY (hQ .normal _ _ _ _ _ _ h1 hS hP hA R1)
    | false => rw [hb] at h1; exact yxA hb (hQ (.exit i) _ _ _ _ _ _ h1 hS hP hA R1)
  simp only [run] at h
  refine wp_block ?_
  split at h
  ·rename_i mk kp outs hj
   obtain ⟨d, h1, h2⟩ := zqD h
   obtain ⟨S0, E0, L0, hS0, hE0, R0⟩ := zwN mk R
   refine zsN hm hτ hΓ b R0 _ d _ h1 fun e σ' S' E' L' m' w' h3 hS hP hA R1 => ?_
   have fin : ∀ e', inj N0 outs e' σ' = some d → Q (exQ e') (fr n m') w' := fun e' h3 => by
    obtain ⟨S2, E2, L2, σ2, hS2, hP2, R2, _, _, h4⟩ := zxA R1 (kp := zuT (zmK b) (zuZ σ mk) kp) (fun S'' E'' hS'' t => ztC R0 (Mem.le_trans hS hS'') hA kp t) h3
    rw [h4] at h2
    exact hQ e' σ2 _ _ _ _ _ h2 (Mem.le_trans hS0 (Mem.le_trans hS hS2)) ((Pin.of hE0).trans (hP.trans hP2)) hA R2
   cases e with
   | normal => exact fin .normal h3
   | ret => exact fin .ret h3
   | exit i =>
    simp only [blk] at h3
    cases hb : Nat.beq i id with
    | true =>
     rw [hb] at h3
     have := Nat.eq_of_beq_eq_true hb; subst this
     exact xcY (fin .normal h3)
    | false => rw [hb] at h3; exact yxA hb (fin (.exit i) h3)
  ·exact zsN hm hτ hΓ b R _ r _ h next
 | .loop b, _, σ, S, E, L, m, w, R, k, r, Q, h, hQ => by
  simp only [run] at h
  split at h
  ·rename_i mk s kp outs hj
   split at h
   ·rename_i s0 hs0
    obtain ⟨d, h1, h2⟩ := zqD h
    obtain ⟨S0, E0, L0, hS0, hE0, R0⟩ := zwN mk R
    obtain ⟨S1, E1, L1, hS1, hP1, R1⟩ := ycR R0 (fun l => znI l R0) hs0
    have hQ : ∀ e σ' S' E' L' m' w', k e σ' = some r → Mem.le S0 S' → Pin N0 E0 E' → Agr (zmK b) m m' → Rel n B S' E' L' σ' m' w' → Q (exQ e) (fr n m') w' := fun e σ' S' E' L' m' w' h1 h2 h3 h4 h5 => hQ e σ' S' E' L' m' w' h1 (Mem.le_trans hS0 h2) ((Pin.of hE0).trans h3) h4 h5
    clear hS0 hE0 R
    generalize zuZ σ mk = σ at *
    refine xaG (fun g a w => ∃ m' x S' E' L', a = fr n m' ∧ Mem.le S0 S' ∧ Pin N0 E0 E' ∧ Agr (zmK b) m m' ∧ Rel n B S' E' L' (s.put x) m' w ∧ zqS (fun x => run N0 n τ Γ η b ((s.put x).app (zuT (zmK b) σ kp)) (nx (fun e σ => mapO Sum.inr (inj N0 outs e σ)) fun σ => mapO Sum.inl (s.get N0 σ))) g x = some d) FU ⟨m, s0, S1, E1, L1, rfl, hS1, hP1, Agr.refl _ _, R1, h1⟩ ?_
    rintro g a w ⟨m2, x, S2, E2, L2, rfl, hS2, hP2, hA2, R2, hit⟩
    cases g with
    | zero => cases hit
    | succ g =>
     obtain ⟨o, h3, h4⟩ := ysW hit
     refine zsN hm hτ hΓ b (R2.app (ztC R0 hS2 hA2 kp)) _ o _ h3 fun e σ' S' E' L' m' w' h5 hS3 hP3 hA3 R3 => ?_
     have hSS := Mem.le_trans hS2 hS3
     have hAA := hA2.trans hA3
     have fin : ∀ e', mapO Sum.inr (inj N0 outs e' σ') = some o → Q (exQ e') (fr n m') w' := fun e' h5 => by
      obtain ⟨d', h6, rfl⟩ := ztR h5
      have h7 : d' = d := by cases h4; rfl
      subst h7
      obtain ⟨S4, E4, L4, σ4, hS4, hP4, R4, _, _, h8⟩ := zxA R3 (kp := zuT (zmK b) σ kp) (fun S'' E'' hS'' t => ztC R0 (Mem.le_trans hSS hS'') hAA kp t) h6
      rw [h8] at h2
      exact hQ e' σ4 _ _ _ _ _ h2 (Mem.le_trans hSS hS4) ((hP2.trans hP3).trans hP4) hAA R4
     cases e with
     | normal =>
      obtain ⟨x', h6, rfl⟩ := ztR h5
      obtain ⟨S4, E4, L4, hS4, hP4, R4⟩ := ycR R3 (fun l => znI l R3) h6
      exact ⟨g, Nat.lt_succ_self g, m', x', S4, E4, L4, rfl, Mem.le_trans hSS hS4, (hP2.trans hP3).trans hP4, hAA, R4, h4⟩
     | exit i => exact fin (.exit i) h5
     | ret => exact fin .ret h5
   ·cases h
  ·rename_i mk s kp outs hj
   split at h
   ·rename_i id ops c
    split at h
    ·rename_i d t ty pos aft l hops
     split at h
     ·rename_i s0 hs0
      obtain ⟨dd, h1, h2⟩ := zqD h
      obtain ⟨fuel, hrng⟩ := ypL h1
      obtain ⟨S0, E0, L0, hS0, hE0, R0⟩ := zwN mk R
      obtain ⟨S1, E1, L1, hS1, hP1, R1⟩ := ycR R0 (fun l => znI l R0) hs0
      have hQ : ∀ e σ' S' E' L' m' w', k e σ' = some r → Mem.le S0 S' → Pin N0 E0 E' → Agr (zmK (.seq (.region id ops false) c)) m m' → Rel n B S' E' L' σ' m' w' → Q (exQ e) (fr n m') w' := fun e σ' S' E' L' m' w' h1 h2 h3 h4 h5 => hQ e σ' S' E' L' m' w' h1 (Mem.le_trans hS0 h2) ((Pin.of hE0).trans h3) h4 h5
      clear hS0 hE0 R
      generalize zuZ σ mk = σ at *
      refine xaG (fun g a w => ∃ m' x S' E' L', a = fr n m' ∧ Mem.le S0 S' ∧ Pin N0 E0 E' ∧ Agr (zmK (.seq (.region id ops false) c)) m m' ∧ Rel n B S' E' L' (s.put x) m' w ∧ Rng (fun x => yvV n ((s.put x).app (zuT (zmK (.seq (.region id ops false) c)) σ kp)) d t fun σ => steps n τ Γ ops.toList l σ fun σ => run N0 n τ Γ η c σ (nx (fun e σ => mapO Sum.inr (inj N0 outs e σ)) fun σ => mapO Sum.inl (s.get N0 σ))) g x dd) fuel ⟨m, s0, S1, E1, L1, rfl, hS1, hP1, Agr.refl _ _, R1, hrng⟩ ?_
      rintro g a w ⟨m2, x, S2, E2, L2, rfl, hS2, hP2, hA2, R2, hit⟩
      cases g with
      | zero => exact hit.elim
      | succ g =>
       have hD : ∀ t', hasN (zrR (⟨some d, .next (.tmp t) false, ty, pos, aft, none⟩ :: l)) t' = true → hasN (zmK (.seq (.region id ops false) c)) t' = true := fun t' ht' => by
        show hasN (zrR ops.toList ++ zmK c) t' = true
        rw [ycY, hops, ht']; rfl
       obtain ⟨ops⟩ := ops
       have hops : ops = _ := hops
       subst hops
       refine wp_seq (wp_region_lit (xdO (zrY rfl) (yzI (R2.app (ztC R0 hS2 hA2 kp)) (Z := rngO (fun s' => Rng _ g s' dd) dd) (fun h => h) hit) ?_))
       rintro v w' ⟨σ1, L3, hy, R3⟩
       generalize hyo : (steps n τ Γ _ l σ1 fun σ => run N0 n τ Γ η c σ (nx (fun e σ => mapO Sum.inr (inj N0 outs e σ)) fun σ => mapO Sum.inl (s.get N0 σ))) = o at hy
       match o, hy with
       | some y, hy2 =>
        rw [zzV]
        refine zyW hτ hΓ (D := zmK (.seq (.region id _ false) c)) (S0 := S2) (E0 := E2) (m0 := m2) (fun σ' S' E' L' m' w' h5 hS3 hE3 hA3 R4 => ?_) l (fun t' ht' => hD t' (ycO ht')) (Mem.le_refl _) (ELe.refl _) (Agr.put (hD d (ycH rfl))) R3 hyo
        refine zsN hm hτ hΓ c R4 _ y _ h5 fun e σ' S' E' L' m' w' h5 hS4 hP4 hA4 R4 => ?_
        have hSS := Mem.le_trans hS2 (Mem.le_trans hS3 hS4)
        have hAA := hA2.trans (hA3.trans hA4.r)
        have hPP := (hP2.trans (Pin.of hE3)).trans hP4
        have fin : ∀ e', mapO Sum.inr (inj N0 outs e' σ') = some y → Q (exQ e') (fr n m') w' := fun e' h5 => by
         obtain ⟨d', h6, rfl⟩ := ztR h5
         have h7 : d' = dd := hy2
         subst h7
         obtain ⟨S4, E4, L4, σ4, hS4, hP4, R4, _, _, h8⟩ := zxA R4 (kp := zuT (zmK (.seq (.region id _ false) c)) σ kp) (fun S'' E'' hS'' t => ztC R0 (Mem.le_trans hSS hS'') hAA kp t) h6
         rw [h8] at h2
         exact hQ e' σ4 _ _ _ _ _ h2 (Mem.le_trans hSS hS4) (hPP.trans hP4) hAA R4
        cases e with
        | normal =>
         obtain ⟨x', h6, rfl⟩ := ztR h5
         obtain ⟨S4, E4, L4, hS4, hP4, R4⟩ := ycR R4 (fun l => znI l R4) h6
         exact ⟨g, Nat.lt_succ_self g, m', x', S4, E4, L4, rfl, Mem.le_trans hSS hS4, hPP.trans hP4, hAA, R4, hy2⟩
        | exit i => exact fin (.exit i) h5
        | ret => exact fin .ret h5
     ·cases h
    ·cases h
   ·cases h
  ·cases h
theorem yiZ {s : Sem Value} {u : Value} (h : (do pure (Next.value (← s)) : Sem Next).run P w = .ok (.value u) w) : s.run P w = .ok u w := by
 rw [Sem.run_bind] at h
 cases hs : s.run P w with
 | ok v w' =>
  rw [hs] at h
  simp only [Result.andThen_ok, Sem.run_pure] at h
  injection h with h1 h2
  injection h1 with h1
  rw [h1, h2]
 | halt x w' => rw [hs] at h; cases h
theorem yzP (hτ : TEok P τ) (R : Rel n B S E L σ m w) {v : ResultVar} {x : SV} (h : resV τ σ v = some x) : ∃ u, VR S E x u ∧ (resS (fr n m).tmps v).run P w = .ok u w := by
 cases v with
 | tmp t =>
  cases h
  exact ⟨_, R.sl t, yiD rfl⟩
 | cell t T =>
  simp only [resV] at h
  split at h
  ·rename_i f hT
   have h' : deref σ.hp (lkS σ.sl t) f.sz (fun l => bindS (svAt f l) some) = some x := by
    have e1 : (fun l => bindS (svAt f l) some) = fun l => svAt f l := by funext l; cases svAt f l <;> rfl
    rw [e1]; exact h
   obtain ⟨z, u, h1, h2, h3⟩ := ysI (dst := none) (g := none) (ty := 0) (pos := "") (aft := #[]) (a := .tmp t) (k := some) R (hτ _ _ hT) (R.sl t) h'
   cases h1
   refine ⟨u, h2, ?_⟩
   have h4 := yiZ (h3 w R.hs)
   show (do loadVar T (← asAddr ((fr n m).tmps.getD t undef)) : Sem Value).run P w = _
   rw [yqH]
   have h5 : (do loadVar T (← Instr.sureAddr (evO n m (.tmp t))) : Sem Value).run P w = .ok u w := h4
   cases hp : evO n m (.tmp t) with
   | pointer a =>
    rw [hp] at h5
    cases a with
    | none => simp [Instr.sureAddr] at h5
    | some a => simpa [Instr.sureAddr, asAddr] using h5
   | _ => rw [hp] at h5; simp [Instr.sureAddr] at h5
  ·cases h
theorem zyT (hτ : TEok P τ) (R : Rel n B S E L σ m w) : ∀ {l : List ResultVar} {xs : List SV}, zxC τ σ l = some xs → ∃ us, A2 (VR S E) xs us ∧ (l.mapM (resS (fr n m).tmps)).run P w = .ok us w
 | [], xs, h => by cases h; exact ⟨[], .nil, by simp⟩
 | v :: l, xs, h => by
  unfold zxC at h
  split at h
  ·rename_i x y h1 h2
   cases h
   obtain ⟨u, h3, h4⟩ := yzP hτ R h1
   obtain ⟨us, h5, h6⟩ := zyT hτ R h2
   exact ⟨u :: us, .cons h3 h5, by simp only [List.mapM_cons, Sem.run_bind, h4, Result.andThen_ok, h6, Sem.run_pure]⟩
  ·cases h
theorem ylJ : ∀ {l : List Ty} {us : LV} {x : zdN l}, repA S l us x → us.length = l.length
 | [], us, _, h => by have : us = [] := h; subst this; rfl
 | [_], _, _, ⟨_, e, _⟩ => by rw [e]; rfl
 | _ :: t' :: l, _, _, ⟨_, _, e, _, h⟩ => by rw [e]; simp [ylJ h]
theorem yzF {l : List Ty} {us : LV} {x : zdN l} (h : repA S l us x) : repR S l (if h : us.toArray.size = 1 then us.toArray[0] else .tuple us.toArray) x := by
 match l, x, h with
 | [], x, h => have : us = [] := h; subst this; exact ⟨[], rfl, rfl⟩
 | [t], x, ⟨u, e, h1⟩ => subst e; exact h1
 | t :: t' :: l, x, h =>
  have hl := ylJ h
  rw [dif_neg (by simp at hl ⊢; omega)]
  exact ⟨us, rfl, h⟩
theorem yoC : ∀ {xs : List SV} {us : LV} (i t : Nat), A2 (VR S E) xs us → VR S E (lkS (argS i xs) t) (look (argm us i) t)
 | _, _, i, t, .nil => trivial
 | _, _, i, t, .cons a r => by
  unfold argS lkS argm look
  cases Nat.beq i t with
  | true => exact a
  | false => exact yoC (i + 1) t r
theorem yeX : ∀ (us : LV) (i t : Nat), look (argm us i) t = if i ≤ t then us.getD (t - i) undef else undef
 | [], i, t => by simp [argm, look]
 | u :: us, i, t => by
  unfold argm look
  rw [yeX us (i + 1) t]
  cases hb : Nat.beq i t with
  | true =>
   have := Nat.eq_of_beq_eq_true hb; subst this
   simp
  | false =>
   have hne : i ≠ t := fun e => by subst e; rw [Nat.beq_refl] at hb; cases hb
   simp only [cond_false]
   by_cases h : i ≤ t
   ·rw [if_pos h, if_pos (by omega), show t - i = (t - (i + 1)) + 1 by omega, List.getD_cons_succ]
   ·rw [if_neg h, if_neg (by omega)]
theorem ycW : ∀ (ash : List Sh) (l : List SV), (putL ash l).1.length = ash.length
 | [], _ => rfl
 | a :: ash, l => by simp only [putL, List.length_cons, ycW ash]
theorem zzT : ∀ {xs : List SV} {i t : Nat}, i + xs.length ≤ t → lkS (argS i xs) t = .undef
 | [], _, _, _ => rfl
 | x :: xs, i, t, h => by
  simp only [List.length_cons] at h
  unfold argS lkS
  have : Nat.beq i t = false := by rw [zpR]; simp; omega
  rw [this]
  exact zzT (by omega)
theorem ywM {G : List (Nat × Obj)} {S0 : Mem} {w0 : World} (hG : GS G S0) (hS : Sub S0 w0) : GB G ⟨S0, [], w0⟩ := fun p hp => ⟨(Array.getElem?_eq_some_iff.1 (hS _ _ (hG p hp))).1, by simp, hG p hp⟩
theorem gb_in {G : List (Nat × Obj)} {B : Bas} {S0 : Mem} {w0 : World} {L0 : List Res} (hG : GS G S0) (H : HS B S0 w0 L0) : GB G ⟨S0, zcA L0, w0⟩ := fun p hp => by
 refine ⟨(Array.getElem?_eq_some_iff.1 (H.sub _ _ (hG p hp))).1, fun h => ?_, hG p hp⟩
 obtain ⟨k, r, h1, h2⟩ := zdP.1 h
 have := (H.old k r _ h1 h2).2
 rw [hG p hp] at this; cases this
theorem fn_ok {G : List (Nat × Obj)} {f : FuncId} {fn : Func} {ats : List Sh} {rts : List Ty} (hm : P.follows .mixedOrders = true) (hτ : TEok P τ) (hΓ : ∀ B, GB G B → CTok P Γ B) (hf : P.funcs[f]? = some fn) (hfn : IsFn P f) (hl : Nat.ble ats.length fn.ntmps = true) : PCok P G f ⟨ats, rts, fnP τ Γ η fn ats rts, false⟩ := by
 refine ⟨hfn, fun S0 w0 us a y hG hS ha hy => ?_⟩
 have hy : fnP τ Γ η fn ats rts a = some y := hy
 have ha : A2 (VR S0 []) (putL ats (zmI _ a)).1 us := ha
 have hul : us.length = ats.length := by rw [← ha.len, ycW]
 unfold fnP at hy
 split at hy
 ·cases hy
 ·rename_i c hb
  refine enter hf hb rfl (by rw [hul]; exact hl) ?_
  have R0 : Rel fn.ntmps ⟨S0, [], w0⟩ S0 [] [] ⟨argS 0 (putL ats (zmI _ a)).1, []⟩ (argm us 0) w0 := by
   refine ⟨HS.start hS, rfl, rfl, fun i o h => by simp at h, fun t => ?_⟩
   show VR S0 [] (lkS (argS 0 (putL ats (zmI _ a)).1) t) (bif Nat.blt t fn.ntmps then look (argm us 0) t else undef)
   cases ht : Nat.blt t fn.ntmps with
   | true => exact yoC 0 t ha
   | false =>
    rw [zkS] at ht
    have h1 := of_decide_eq_false ht
    have h2 := Nat.le_of_ble_eq_true hl
    rw [zzT (by rw [ycW]; omega)]
    trivial
  refine zsN hm hτ (hΓ _ (ywM hG hS)) c R0 (fin τ fn rts) y _ hy fun e σ' S' E' L' m' w' h1 _ _ _ R1 => ?_
  have key : ∀ (_ : (match zxC τ σ' fn.results.toList with
    | some l => match zxC τ (frzL σ' (l.flatMap owns)) fn.results.toList with
     | some l => ydQ [] rts l
     | none => none
    | none => none) = some y), (fr fn.ntmps m').defers = [] ∧ ∃ v, (results fn (fr fn.ntmps m').tmps).run P w' = .ok v w' ∧ ∃ v', Ending.returned v = .returned v' ∧ Ext w0 w' ∧ repR (gr S0 w0 w') rts v' y := fun h1 => by
   split at h1
   ·rename_i l hl1
    split at h1
    ·rename_i l2 hl2
     obtain ⟨S2, E2, L2, _, _, R2⟩ := znI (l.flatMap owns) R1
     obtain ⟨vs, h3, h4⟩ := zyT (P := P) hτ R2 hl2
     have h5 := yjO (S2 := gr S0 w0 w') R2.hs.gr zfP rts h1 h3
     refine ⟨rfl, _, ?_, _, rfl, R2.hs.toExt, yzF h5⟩
     rw [zqX, Array.mapM_eq_mapM_toList]
     simp only [Sem.run_bind, Sem.run_map, h4, Result.andThen_ok, Sem.run_pure]
    ·cases h1
   ·cases h1
  cases e with
  | normal =>
   obtain ⟨h2, v, h3, v', h4, h5, h6⟩ := key h1
   cases h4
   exact ⟨h2, v, h3, h5, v, rfl, h6, fun h => by cases h⟩
  | ret =>
   obtain ⟨h2, v, h3, v', h4, h5, h6⟩ := key h1
   cases h4
   exact ⟨h2, v, h3, h5, v, rfl, h6, fun h => by cases h⟩
  | exit i => cases h1
theorem yjZ : ∀ (us : LV) (pre : LV), zzJ (fun t => (pre ++ us).getD t undef) pre.length us.length = us
 | [], _ => rfl
 | u :: us, pre => by
  have h1 := yjZ us (pre ++ [u])
  simp only [List.length_append, List.length_singleton, List.append_assoc, List.singleton_append] at h1
  simp only [List.length_cons, zzJ, h1]
  congr 1
  simp
theorem ysC (us : LV) : zzJ (fun t => us.getD t undef) 0 us.length = us := yjZ us []
theorem yvQ (us : LV) : (if h : us.toArray.size = 1 then us.toArray[0] else .tuple us.toArray) = ybE us := by
 match us with
 | [] => rfl
 | [u] => rfl
 | u :: u' :: us => rw [dif_neg (by simp)]; rfl
theorem yfV : ∀ {l : List ResultVar} {xs : List SV}, zxC τ σ l = some xs → xs.length = l.length
 | [], _, h => by cases h; rfl
 | v :: l, _, h => by
  unfold zxC at h
  split at h
  ·rename_i h2; cases h; simp [yfV h2]
  ·cases h
theorem yhZ {f : FuncId} {fn : Func} {c : Code} {N0 nr : Nat} {outs : List (Option Nat × Shp)} {S0 : Mem} {w0 : World} {us : LV} {E0 : List EI} {L0 : List Res} {σ0 : St} {d : DS outs} (hm : P.follows .mixedOrders = true) (hτ : TEok P τ) (hΓ : CTok P Γ ⟨S0, zcA L0, w0⟩) (hf : P.funcs[f]? = some fn) (hb : fn.body = some c) (hl : us.length ≤ fn.ntmps) (hr : Nat.beq fn.results.toList.length nr = true)
  (R : RelV ⟨S0, zcA L0, w0⟩ S0 E0 L0 σ0 (fun t => us.getD t undef) w0) (hy : run N0 fn.ntmps τ Γ η c σ0 (finS τ fn N0 outs) = some d) :
  Calls P f us.toArray w0 fun e w' => ∃ v, e = .returned v ∧ ∃ S' E' L' σo V', (∀ {γ : Type} (k : Ex → St → Option γ), out [] outs d k = k .normal σo) ∧ Mem.le S0 S' ∧ Pin N0 E0 E' ∧ RelV ⟨S0, zcA L0, w0⟩ S' E' L' σo V' w' ∧ Ver0 σo.hp ∧ N0 ≤ σo.hp.length ∧ v = ybE (zzJ V' 0 nr) := by
 refine enter hf hb rfl (Nat.ble_eq_true_of_le hl) ?_
 have R0 : Rel fn.ntmps ⟨S0, zcA L0, w0⟩ S0 E0 L0 σ0 (argm us 0) w0 := by
  refine ⟨R.hs, R.lL, R.lE, R.obj, fun t => ?_⟩
  have h1 := R.sl t
  show VR S0 E0 (lkS σ0.sl t) (bif Nat.blt t fn.ntmps then look (argm us 0) t else undef)
  cases ht : Nat.blt t fn.ntmps with
  | true =>
   have := yeX us 0 t
   rw [if_pos (Nat.zero_le t)] at this
   rw [cond_true, this]; exact h1
  | false =>
   rw [zkS] at ht
   have h2 := of_decide_eq_false ht
   rw [cond_false]
   have h3 : us.getD t undef = undef := by rw [List.getD_eq_getElem?_getD, List.getElem?_eq_none (by omega)]; rfl
   rw [← h3]; exact h1
 refine zsN hm hτ hΓ c R0 (finS τ fn N0 outs) d _ hy fun e σ' S' E' L' m' w' h1 hS hP _ R1 => ?_
 have key : ∀ (_ : (match zxC τ σ' fn.results.toList with
   | some l => inj N0 outs .normal ⟨argS 0 l, σ'.hp⟩
   | none => none) = some d), (fr fn.ntmps m').defers = [] ∧ ∃ v, (results fn (fr fn.ntmps m').tmps).run P w' = .ok v w' ∧ ∃ v', Ending.returned v = .returned v' ∧ ∃ S' E' L' σo V', (∀ {γ : Type} (k : Ex → St → Option γ), out [] outs d k = k .normal σo) ∧ Mem.le S0 S' ∧ Pin N0 E0 E' ∧ RelV ⟨S0, zcA L0, w0⟩ S' E' L' σo V' w' ∧ Ver0 σo.hp ∧ N0 ≤ σo.hp.length ∧ v' = ybE (zzJ V' 0 nr) := fun h1 => by
  split at h1
  ·rename_i l hl1
   obtain ⟨vs, h3, h4⟩ := zyT (P := P) hτ R1 hl1
   have R2 : RelV ⟨S0, zcA L0, w0⟩ S' E' L' ⟨argS 0 l, σ'.hp⟩ (fun t => vs.getD t undef) w' := ⟨R1.hs, R1.lL, R1.lE, R1.obj, fun t => by
    have := yeL 0 t h3
    rw [if_pos (Nat.zero_le t)] at this
    exact this⟩
   obtain ⟨S2, E2, L2, σ2, hS2, hP2, R3, hv, hn, h5⟩ := zxA R2 (kp := []) (fun _ _ _ _ => trivial) h1
   refine ⟨rfl, ybE vs, ?_, ybE vs, rfl, S2, E2, L2, σ2, _, h5, Mem.le_trans hS hS2, hP.trans hP2, R3, hv, hn, ?_⟩
   ·rw [zqX, Array.mapM_eq_mapM_toList]
    simp only [Sem.run_bind, Sem.run_map, h4, Result.andThen_ok, Sem.run_pure, ← yvQ]
   ·have h6 : vs.length = nr := by rw [← h3.len, yfV hl1]; exact Nat.eq_of_beq_eq_true hr
    rw [← h6, ysC]
  ·cases h1
 cases e with
 | normal =>
  obtain ⟨h2, v, h3, v', h4, h5⟩ := key h1
  cases h4
  exact ⟨h2, v, h3, v, rfl, h5⟩
 | ret =>
  obtain ⟨h2, v, h3, v', h4, h5⟩ := key h1
  cases h4
  exact ⟨h2, v, h3, v, rfl, h5⟩
 | exit i => cases h1
theorem xfQ {G : List (Nat × Obj)} {f : FuncId} {fn : Func} {I : Shp} {nr : Nat} {outs : List (Option Nat × Shp)} (hm : P.follows .mixedOrders = true) (hτ : TEok P τ) (hΓ : ∀ B, GB G B → CTok P Γ B) (hf : P.funcs[f]? = some fn) (hfn : IsFn P f) (hl : Nat.ble I.sl.length fn.ntmps = true) (hr : Nat.beq fn.results.toList.length nr = true) : SCok P G f ⟨I, nr, outs, fnS τ Γ η fn I outs⟩ := by
 refine ⟨hfn, fun S0 w0 us E0 L0 a d hG hul R hy => ?_⟩
 have hy : fnS τ Γ η fn I outs a = some d := hy
 have hul : us.length = I.sl.length := hul
 unfold fnS at hy
 split at hy
 ·cases hy
 ·rename_i c hb
  exact yhZ hm hτ (hΓ _ (gb_in hG R.hs)) hf hb (by rw [hul]; exact Nat.le_of_ble_eq_true hl) hr R hy
end
def PL (P : Program) (G : List (Nat × Obj)) : List (Nat × PC) → Prop
 | [] => True
 | x :: l => PCok P G x.1 x.2 ∧ PL P G l
def SL (P : Program) (G : List (Nat × Obj)) : List (Nat × SC) → Prop
 | [] => True
 | x :: l => SCok P G x.1 x.2 ∧ SL P G l
theorem PL.at {P : Program} {G : List (Nat × Obj)} : ∀ {l : List (Nat × PC)}, PL P G l → ∀ f c, pcAt l f = some c → PCok P G f c
 | [], _, f, c, h => by cases h
 | (d, x) :: l, ⟨h1, h2⟩, f, c, h => by
  unfold pcAt at h
  cases hb : Nat.beq d f with
  | true => rw [hb] at h; cases h; rw [← Nat.eq_of_beq_eq_true hb]; exact h1
  | false => rw [hb] at h; exact PL.at h2 f c h
theorem SL.at {P : Program} {G : List (Nat × Obj)} : ∀ {l : List (Nat × SC)}, SL P G l → ∀ f c, c ∈ scAt l f → SCok P G f c
 | [], _, f, c, h => by cases h
 | (d, x) :: l, ⟨h1, h2⟩, f, c, h => by
  unfold scAt at h
  cases hb : Nat.beq d f with
  | true =>
   rw [hb] at h
   rcases List.mem_cons.1 h with rfl | h
   ·rw [← Nat.eq_of_beq_eq_true hb]; exact h1
   ·exact SL.at h2 f c h
  | false => rw [hb] at h; exact SL.at h2 f c h
theorem ctok {P : Program} {G : List (Nat × Obj)} {pc : List (Nat × PC)} {sc : List (Nat × SC)} {k : Bool} {fm : List (Nat × List FSh)} (h1 : PL P G pc) (h2 : SL P G sc) : ∀ B, GB G B → CTok P ⟨pc, sc, k, fm⟩ B := fun B hG =>
 ⟨fun f c h => ⟨(h1.at f c h).fn, fun S w us a y hA => (h1.at f c h).ok S w us a y (hA.gs hG)⟩, fun f c h => ⟨(h2.at f c h).fn, fun S w us E L a d hA => (h2.at f c h).ok S w us E L a d (hA.gs hG)⟩⟩
theorem ymK {P : Program} {G : List (Nat × Obj)} {τ : TE} {Γ : CT} {η : HT} {f : FuncId} {fn : Func} {c : PC} (hm : P.follows .mixedOrders = true) (hτ : TEok P τ) (hΓ : ∀ B, GB G B → CTok P Γ B) (hf : P.funcs[f]? = some fn) (hfn : IsFn P f) (hl : Nat.ble c.ash.length fn.ntmps = true) (hc : c.cl = false) (he : fnP τ Γ η fn c.ash c.rts = c.p) : PCok P G f c := by
 have h := fn_ok (η := η) (rts := c.rts) hm hτ hΓ hf hfn hl
 rw [he, ← hc] at h
 exact h
theorem ymU {P : Program} {G : List (Nat × Obj)} {τ : TE} {Γ : CT} {η : HT} {f : FuncId} {fn : Func} {c : SC} (hm : P.follows .mixedOrders = true) (hτ : TEok P τ) (hΓ : ∀ B, GB G B → CTok P Γ B) (hf : P.funcs[f]? = some fn) (hfn : IsFn P f) (hl : Nat.ble c.I.sl.length fn.ntmps = true) (hr : Nat.beq fn.results.toList.length c.nr = true) (he : fnS τ Γ η fn c.I c.outs = c.p) : SCok P G f c := by
 have h := xfQ (η := η) (outs := c.outs) hm hτ hΓ hf hfn hl hr
 rw [he] at h
 exact h
def keqI (x y : Int) : Bool := decide (x = y)
def kltI (x y : Int) : Bool := decide (x < y)
abbrev hS : Sh := .h .s
abbrev hI : Sh := .h (.i .i64)
abbrev hB : Sh := .h .b
def scal : Ty → Bool
 | .i _ => true
 | .b => true
 | .s => true
 | _ => false
def encV : (t : Ty) → den t → Value
 | .i k, x => .int k (toI k x)
 | .b, x => .bool x
 | .s, x => str x
 | _, _ => undef
def encL : (l : List Ty) → zdN l → LV
 | [], _ => []
 | [t], x => [encV t x]
 | t :: t' :: l, x => encV t x.1 :: encL (t' :: l) x.2
def encR (l : List Ty) (x : zdN l) : Value := match l, x with
 | [t], x => encV t x
 | l, x => .tuple (encL l x).toArray
section
variable {S : Mem} {E : List EI} {P : Program} {G : List (Nat × Obj)} {f : FuncId}
theorem yeP : ∀ {t : Ty} {x : den t} {u : Value}, scal t = true → VR S E (svOf t x) u → u = encV t x
 | .i k, x, u, _, h => by
  have h : [u] = [Value.int k (toI k x)] := h
  exact (List.cons.inj h).1
 | .b, x, u, _, h => by
  have h : [u] = [Value.bool x] := h
  exact (List.cons.inj h).1
 | .s, x, u, _, h => by
  have h : [u] = [str x] := h
  exact (List.cons.inj h).1
theorem ydJ : ∀ {t : Ty} {x : den t}, scal t = true → rep1 t S (encV t x) x
 | .i _, _, _ => rfl
 | .b, _, _ => rfl
 | .s, _, _ => rfl
theorem ylN : ∀ {l : List Ty} {x : zdN l}, l.all scal = true → repA S l (encL l x) x
 | [], _, _ => rfl
 | [t], x, h => ⟨_, rfl, ydJ (by simpa using h)⟩
 | t :: t' :: l, x, h => ⟨_, _, rfl, ydJ (by simp at h; exact h.1), ylN (by simp at h ⊢; exact h.2)⟩
theorem ydM {l : List Ty} {x : zdN l} (h : l.all scal = true) : repR S l (encR l x) x := match l, x, h with
 | [t], x, h => show rep1 t S (encV t x) x from ydJ (by simpa using h)
 | [], _, _ => ⟨[], rfl, rfl⟩
 | t :: t' :: l, x, h => ⟨_, rfl, ylN h⟩
theorem pc1 {t1 : Ty} {rts : List Ty} {p : den t1 → Option (zdN rts)} (h1 : scal t1 = true) (hr : rts.all scal = true) (hfn : IsFn P f)
  (h : ∀ S w x y, GS G S → Sub S w → p x = some y → Calls P f #[encV t1 x] w fun e w' => e = .returned (encR rts y) ∧ Ext w w') :
  PCok P G f ⟨[.h t1], rts, p, false⟩ := by
 refine ⟨hfn, fun S0 w0 us x y hG hS ha hy => ?_⟩
 have ha : A2 (VR S0 []) [svOf t1 x] us := ha
 cases ha with
 | cons q1 q2 =>
  cases q2
  rw [yeP h1 q1]
  exact (h S0 w0 x y hG hS hy).mono fun e w' ⟨he, hx⟩ => ⟨hx, _, he, ydM hr, fun h => by cases h⟩
theorem pc2 {t1 t2 : Ty} {rts : List Ty} {p : den t1 → den t2 → Option (zdN rts)} (h1 : scal t1 = true) (h2 : scal t2 = true) (hr : rts.all scal = true) (hfn : IsFn P f)
  (h : ∀ S w x1 x2 y, GS G S → Sub S w → p x1 x2 = some y → Calls P f #[encV t1 x1, encV t2 x2] w fun e w' => e = .returned (encR rts y) ∧ Ext w w') :
  PCok P G f ⟨[.h t1, .h t2], rts, fun (x : den t1 × den t2) => p x.1 x.2, false⟩ := by
 refine ⟨hfn, fun S0 w0 us (x : den t1 × den t2) y hG hS ha hy => ?_⟩
 have ha : A2 (VR S0 []) [svOf t1 x.1, svOf t2 x.2] us := ha
 cases ha with
 | cons q1 q2 =>
  cases q2 with
  | cons q3 q4 =>
   cases q4
   rw [yeP h1 q1, yeP h2 q3]
   exact (h S0 w0 x.1 x.2 y hG hS hy).mono fun e w' ⟨he, hx⟩ => ⟨hx, _, he, ydM hr, fun h => by cases h⟩
end
end Go.Proofs.YtebbcofojchkpaaGreatDoor.Am
namespace Go.Proofs.YtebbcofojchkpaaGreatDoor
open Go Go.RowKit
def decF : Nat → Nat → Bs
 | 0, _ => []
 | f + 1, u => bif Nat.blt u 10 then [UInt8.ofNat (48 + u)] else decF f (u / 10) ++ [UInt8.ofNat (48 + u % 10)]
theorem ydT : ∀ (f u : Nat), u < 10 ^ f → 0 < f → decF f u = Lib.decDigits u
 | 0, _, _, h => absurd h (Nat.lt_irrefl 0)
 | f + 1, u, h, _ => by
  rw [Lib.decDigits]
  unfold decF
  by_cases hu : u < 10
  ·rw [show Nat.blt u 10 = true by rw [zkS]; simpa using hu, dif_pos hu]; rfl
  ·rw [show Nat.blt u 10 = false by rw [zkS]; simpa using hu, dif_neg hu]
   have hf : 0 < f := by
    rcases Nat.eq_zero_or_pos f with rfl | hf
    ·rw [Nat.zero_add, Nat.pow_one] at h; omega
    ·exact hf
   rw [ydT f (u / 10) (by rw [Nat.pow_succ] at h; omega) hf]; rfl
def yuA (n : Int) : Bs := bif decide (n < 0) then 45 :: decF 20 n.natAbs else decF 20 n.toNat
def yiP (n : Int) : Option Bs := bif decide (-9223372036854775808 ≤ n) && decide (n ≤ 9223372036854775807) then some (yuA n) else none
theorem ytZ {n : Int} (h0 : -9223372036854775808 ≤ n) (h1 : n ≤ 9223372036854775807) : yuA n = Lib.itoa n := by
 unfold yuA Lib.itoa
 by_cases hn : n < 0
 ·rw [if_pos hn, decide_eq_true hn, cond_true, ydT _ _ (by omega) (by omega)]
 ·rw [if_neg hn, decide_eq_false hn, cond_false, ydT _ _ (by omega) (by omega)]
theorem GV.tab {S : Mem} {w : World} (h : GV S) (hS : Sub S w) : Lib.TabIs Tryz.prog w "internal/strconv.uint64pow10" .u64 Lib.pow10Tab := by
 obtain ⟨t, fz, h⟩ := h.tb
 have hg : Tryz.prog.globalNamed "internal/strconv.uint64pow10" = some 3 := by kernel_rfl
 unfold Lib.TabIs World.var?
 rw [hg, Option.bind_some, hS _ _ h]
 rfl
theorem yxB {S : Mem} {w : World} (hS : Sub S w) (hG : GV S) {x0 : Int} {r : Bs} (hF : yiP x0 = some r) :
  Calls Tryz.prog 46 #[.int .i64 x0] w fun e w' => e = .returned (str r) ∧ Ext w w' := by
 unfold yiP at hF
 obtain ⟨h, hF⟩ := Am.zaC hF
 simp only [Bool.and_eq_true, decide_eq_true_eq] at h
 cases hF
 refine (Tryz.strconv_Itoa x0 h.1 h.2 w (hG.tab hS)).mono ?_
 rintro _ w' ⟨rfl, k, os, rfl⟩
 rw [ytZ h.1 h.2]
 exact ⟨rfl, ⟨rfl, rfl, rfl, by show w.heap.size ≤ (w.heap ++ os).size; rw [Array.size_append]; omega, fun j hj => by show (w.heap ++ os)[j]? = _; rw [Array.getElem?_append_left hj]⟩⟩
def yfC (s cs : Bs) : Option Bs := bif decide (s.length ≤ 9223372036854775807) && decide (cs.length < 4294967281) && cs.all (fun b => decide (b.toNat < 128)) then some (Lib.trimS s cs) else none
theorem xdX {S : Mem} {w : World} (_ : Sub S w) {x0 x1 r : Bs} (hF : yfC x0 x1 = some r) :
  Calls Tryz.prog 82 #[str x0, str x1] w fun e w' => e = .returned (str r) ∧ Ext w w' := by
 unfold yfC at hF
 obtain ⟨h, hF⟩ := Am.zaC hF
 simp only [Bool.and_eq_true, decide_eq_true_eq] at h
 cases hF
 exact Any.strings_Trim_laid Tryz.lays160 (by kernel_rfl) ⟨x0.toArray⟩ ⟨x1.toArray⟩ w (by rw [zgE]; exact h.1.1) (by rw [zgE]; exact h.1.2) (fun j b hj => by
  have := List.all_eq_true.1 h.2 b (List.mem_of_getElem? hj)
  simpa using this)
def cutP (s sep : Bs) : Option (Bs × Bs × Bool) := bif decide (s.length < 4294967281) then some (Lib.cut s sep) else none
theorem Cut_c {S : Mem} {w : World} (hS : Sub S w) (hG : GV S) {x0 x1 : Bs} {r : Bs × Bs × Bool} (hF : cutP x0 x1 = some r) :
  Calls Tryz.prog 79 #[str x0, str x1] w fun e w' => e = .returned (.tuple #[str (r.1), str (r.2.1), .bool (r.2.2)]) ∧ Ext w w' := by
 unfold cutP at hF
 obtain ⟨h, hF⟩ := Am.zaC hF
 simp only [decide_eq_true_eq] at h
 cases hF
 obtain ⟨m, hm⟩ := hG.cell hS
 refine (Tryz.strings_Cut ⟨x0.toArray⟩ ⟨x1.toArray⟩ m w (by rw [zgE]; exact h) hm).mono ?_
 rintro _ w' ⟨rfl, n, rfl⟩
 exact ⟨rfl, rfl, rfl, rfl, Nat.le_refl _, fun _ _ => rfl⟩
def ywZ (s : Bs) : Option (Int × Bool) := bif decide (s.length ≤ 9223372036854775806) then (match Lib.atoiAll s with
 | .ok v => some (v, false)
 | _ => none) else none
theorem Atoi_c {S : Mem} {w : World} (_ : Sub S w) {x0 : Bs} {r : Int × Bool} (hF : ywZ x0 = some r) :
  r.2 = false ∧ Calls Tryz.prog 83 #[str x0] w fun e w' => e = .returned (.tuple #[.int .i64 r.1, .nilIface]) ∧ Ext w w' := by
 unfold ywZ at hF
 obtain ⟨h, hF⟩ := Am.zaC hF
 simp only [decide_eq_true_eq] at h
 split at hF
 ·rename_i v hv
  cases hF
  refine ⟨rfl, (Tryz.strconv_Atoi_ok ⟨x0.toArray⟩ (by rw [zgE]; exact h) v hv w).mono ?_⟩
  rintro _ w' ⟨rfl, rfl | ⟨t, rfl⟩⟩
  ·exact ⟨rfl, Ext.refl _⟩
  ·exact ⟨rfl, ⟨rfl, rfl, rfl, by rw [Lib.bytesWorld_size]; omega, fun j hj => Lib.bytesWorld_at_old w _ _ j hj⟩⟩
 ·cases hF
section
attribute [local irreducible] wpList wpT Code.wp Calls Code.rounds
variable {S : Mem} {w : World}
theorem to9 : TOne Tryz.prog 9 := ⟨fun _ => by kernel_rfl, fun _ => by kernel_rfl⟩
theorem to132 : TOne Tryz.prog 132 := ⟨fun _ => by kernel_rfl, fun _ => by kernel_rfl⟩
theorem tz134 : yiB Tryz.prog 134 (.agg #[.pointer none, .slice none 0 0]) := fun _ => by kernel_rfl
theorem u9 : Tryz.prog.underlying 9 = some .string := by kernel_rfl
theorem u45 : Tryz.prog.underlying 45 = some (.slice 9) := by kernel_rfl
theorem is46 : IsFn Tryz.prog 46 := isFn Tryz.func46 (by kernel_rfl) (by kernel_rfl)
theorem is99 : IsFn Tryz.prog 99 := isFn Tryz.func99 (by kernel_rfl) (by kernel_rfl)
theorem is100 : IsFn Tryz.prog 100 := isFn Tryz.func100 (by kernel_rfl) (by kernel_rfl)
theorem is146 : IsFn Tryz.prog 146 := isFn Tryz.func146 (by kernel_rfl) (by kernel_rfl)
theorem yoJ : ynQ Tryz.prog 134 1 1 := fun _ _ _ => by kernel_rfl
theorem tn132 : TSn Tryz.prog 132 5 (.int .u8 0) [.int .u8 0] 1 1 := TSn.mk' (by kernel_rfl) (by kernel_rfl) rfl rfl rfl rfl
theorem tsz9 : TSz Tryz.prog 9 1 := fun _ => by kernel_rfl
theorem tsz132 : TSz Tryz.prog 132 1 := fun _ => by kernel_rfl
def zfS (x0 : Bs) (x1 : Bs) : Option (Int × Bs) :=
 Option.bind (zkR x0) fun y1 => Option.bind (app y1 x1) fun y2 => some ((((x1).length : Int), y2))
theorem zuE {b0_ : Nat} {x0 : Bs} {pv1 : Value} {pcs1 prs1 : LV} {pa1 : Value} (H : HS ⟨S, zcA [.blk b0_ (([pa1] ++ ([pv1]))) 134, .osl (pv1) (x0).length 1 pcs1 prs1 5], w⟩ S w [.blk b0_ (([pa1] ++ ([pv1]))) 134, .osl (pv1) (x0).length 1 pcs1 prs1 5]) (pg1 : RL S pcs1 x0) (pg2 : BA b0_ pa1) {x1 : Bs} {r : Int × Bs} (hF : zfS x0 x1 = some r) :
  Calls Tryz.prog 99 #[.pointer (some ⟨b0_, 0, none⟩), str (x1)] w fun e w' => ∃ (S2 : Mem) (pv4 : Value) (pcs4 prs4 : LV) (pa4 : Value), e = .returned (.tuple #[.int .i64 (r.1), .nilIface]) ∧ HS ⟨S, zcA [.blk b0_ (([pa1] ++ ([pv1]))) 134, .osl (pv1) (x0).length 1 pcs1 prs1 5], w⟩ S2 w' [.blk b0_ (([pa4] ++ ([pv4]))) 134, .osl (pv4) (r.2).length 1 pcs4 prs4 5] ∧ RL S2 pcs4 r.2 ∧ BA b0_ pa4 := by
 refine enter (n := 19) Tryz.func99 rfl rfl rfl ?_
 unfold zfS at hF
 refine sr ?_; intro K1 hK1
 refine p_as (v := .int .i64 (0)) rfl ?_
 refine p_as (v := .nilIface) rfl ?_
 refine xk hK1 ?_; clear hK1
 refine sr ?_; intro K2 hK2
 refine p_mv (v := .pointer (some ⟨b0_, 0, none⟩)) rfl ?_
 obtain ⟨y1, e1, hF⟩ := bnd hF
 refine ylL (l := [.pointer (some ⟨b0_, 0, none⟩)]) is146 rfl ?_
 refine (zvR (H.hand [0, 1] rfl) pg1 pg2 e1).mono ?_; rintro _ w1 ⟨S1, pv2, pcs2, prs2, pa2, rfl, H2, pg3, pg4⟩
 obtain ⟨H1, hle1⟩ := H.frame [0, 1] [] rfl H2; clear H H2; have H := H1; clear H1
 replace H : HS ⟨S, zcA [.blk b0_ (([pa1] ++ ([pv1]))) 134, .osl (pv1) (x0).length 1 pcs1 prs1 5], w⟩ S1 w1 [.blk b0_ (([pa2] ++ ([pv2]))) 134, .osl (pv2) (y1).length 1 pcs2 prs2 5] := H
 refine xk hK2 ?_; clear hK2
 refine sr ?_; intro K3 hK3
 refine p_mv (v := .pointer (some ⟨b0_, 0, none⟩)) rfl ?_
 refine p_mv (v := .pointer (some ⟨b0_, 0, none⟩)) rfl ?_
 refine zeR (znH rfl) ?_
 refine zeR (zoI yoJ rfl) ?_
 refine zeR (zqM (v := pv2) to132 H rfl (k := 0) rfl rfl) ?_
 refine p_mv (v := str (x1)) rfl ?_
 obtain ⟨y2, e2, hF⟩ := bnd hF
 refine p_of1 (yqU (k := 1) (l := x1) tn132 u9 H rfl rfl pg3 rfl e2) ?_; clear H; rintro w2 v1 ⟨cs1, rs1, H, g1⟩
 replace H : HS ⟨S, zcA [.blk b0_ (([pa1] ++ ([pv1]))) 134, .osl (pv1) (x0).length 1 pcs1 prs1 5], w⟩ S1 w2 [.blk b0_ (([pa2] ++ ([pv2]))) 134, .osl (v1) (y2).length 1 cs1 rs1 5] := H
 refine zeR (znH rfl) ?_
 refine zeR (zoI yoJ rfl) ?_
 refine xdN (ydS (k := 0) (v := v1) (l := [v1]) tsz132 H rfl rfl rfl (cells_one (HS.ownOne H (k := 1) rfl)) rfl (fun u hu => by rw [List.mem_singleton] at hu; rw [hu]; exact HS.ownOne H (k := 1) rfl) rfl) ?_; clear H; intro w3 H
 replace H : HS ⟨S, zcA [.blk b0_ (([pa1] ++ ([pv1]))) 134, .osl (pv1) (x0).length 1 pcs1 prs1 5], w⟩ S1 w3 [.blk b0_ (([pa2] ++ ([v1]))) 134, .osl (v1) (y2).length 1 cs1 rs1 5] := H
 refine xk hK3 ?_; clear hK3
 refine sr ?_; intro K4 hK4
 refine p_mv (v := str (x1)) rfl ?_
 refine zeR (yrB (N := (x1).length) u9 rfl rfl) ?_
 refine p_as (v := .int .i64 (((x1).length : Int))) rfl ?_
 refine p_as (v := .nilIface) rfl ?_
 refine xk hK4 ?_; clear hK4
 refine wp_ret ?_
 obtain rfl := osi hF
 refine e_2 rfl (yiD (v := .int .i64 (((x1).length : Int))) rfl) (yiD (v := .nilIface) rfl) ?_
 replace H : HS ⟨S, zcA [.blk b0_ (([pa1] ++ ([pv1]))) 134, .osl (pv1) (x0).length 1 pcs1 prs1 5], w⟩ S1 w3 [.blk b0_ (([pa2] ++ ([v1]))) 134, .osl (v1) (y2).length 1 cs1 rs1 5] := H
 exact ⟨_, _, _, _, _, rfl, H, g1, pg4⟩
def ziA (x0 : List Bs) (s1 : Int × Bs) : Option ((Int × Bs) ⊕ (Bs)) :=
 bif decide (s1.1 < ((x0).length : Int)) then (Option.bind (idx x0 s1.1) fun y1 => Option.bind (yiP ((y1).length : Int)) fun y2 => Option.bind (app y2 ([58] : Bs)) fun y3 => Option.bind (app y3 y1) fun y4 => Option.bind (zfS s1.2 y4) fun y5 => some (.inl (((w64 (s1.1 + 1)), y5.2)))) else (some (.inr (s1.2)))
def zkB (x0 : List Bs) : Option (Bs) :=
 Option.bind (Option.bind (iter (ziA x0) ((0, ([] : Bs)))) (fun e => some (e))) (fun t1 => Option.bind (chk (decide ((t1).length ≤ 68719476736))) fun y6 => some (t1))
theorem ydO (hS : Sub S w) (hG : GV S) {v0_ : Value} {x0 : List Bs} (h0_ : RdS S v0_ x0) {r : Bs} (hF : zkB x0 = some r) :
  Calls Tryz.prog 45 #[v0_] w fun e w' => e = .returned (str (r)) ∧ Ext w w' := by
 refine enter (n := 21) Tryz.func45 rfl rfl rfl ?_
 have H := HS.start hS
 unfold zkB at hF
 refine sr ?_; intro K1 hK1
 refine p_as (v := str (([] : Bs))) rfl ?_
 refine xk hK1 ?_; clear hK1
 refine sr ?_; intro K2 hK2
 refine p_ofb (yiM (l := ([Value.pointer none] ++ ([Value.slice none 0 0]))) H tz134 rfl) ?_; clear H; intro w1 b1 H
 refine xk hK2 ?_; clear hK2
 refine wp_seq_k ?_; intro K3 hK3
 refine nameF fun m1 k1 => ?_
 obtain ⟨t1, hE1, hF1⟩ := bnd hF
 have J1 : ∀ (a2 : Value) (v2 : Value) (cs3 rs2 : LV) (S3 : Mem) (m4 : FM) (w5 : World), (∀ t, has [5, 6, 7, 8, 9, 10, 11, 12, 13, 14, 15, 16, 17, 18, 19] t = false → look m4 t = look m1 t) → Mem.le S S3 → HS ⟨S, [], w⟩ S3 w5 [.osl (v2) (t1).length 1 cs3 rs2 5, .blk b1 (([a2] ++ ([v2]))) 134] → BA b1 a2 → RL S3 cs3 t1 → K3 (fr 21 m4) w5 := by
  clear H; intro a2 v2 cs3 rs2 S3 m4 w5 k5 hle3 H g4 g5
  replace hG := GV.mono hG hle3
  replace h0_ := RdS.mono h0_ hle3
  have q5 : look m4 3 = .pointer (some ⟨b1, 0, none⟩) := (k5 3 rfl).trans (k1 3)
  refine hK3 _ _ ?_
  refine sr ?_; intro K9 hK9
  obtain ⟨y6, e6, hF1⟩ := bnd hF1
  refine ylL (l := [.pointer (some ⟨b1, 0, none⟩)]) is100 (zyZ q5 ykI) ?_
  refine (zyB (k1 := 1) (k2 := 0) H rfl rfl g5 (Nat.le_trans (of_decide_eq_true (znO e6)) (by decide))).mono ?_; clear H; rintro _ w6 ⟨rfl, H⟩
  replace H : HS ⟨S, [], w⟩ S3 w6 [.blk b1 (([a2] ++ ([v2]))) 134] := H
  refine p_as (v := str (t1)) rfl ?_
  refine xk hK9 ?_; clear hK9
  refine wp_ret ?_
  obtain rfl := osi hF1
  refine e_1 rfl (yiD (v := str (t1)) rfl) ?_
  exact ⟨rfl, H.toExt⟩
 refine sr ?_; intro K4 hK4
 refine p_mv (v := v0_) (k1 0) ?_
 refine zeR (r_lenR' u45 rfl h0_ H.sub) ?_
 refine p_mv (v := .int .i64 (0)) rfl ?_
 refine xk hK4 ?_; clear hK4
 refine wp_block ?_
 refine nameF fun m2 k2 => ?_
 obtain ⟨out1, hL1, hE2⟩ := bnd hE1
 replace H := H.nilOwn 1 5; have g3 : RL S [] ([] : Bs) := RL.nil
 replace H : HS ⟨S, [], w⟩ S w1 [.osl (.slice none 0 0) (([] : Bs)).length 1 [] [] 5, .blk b1 (([Value.pointer none] ++ ([Value.slice none 0 0]))) 134] := H
 refine loopI [5, 8, 9, 10, 11, 12, 13, 14, 15, 16, 17, 18, 19] (fun (s1 : Int × Bs) (m3 : FM) (w2 : World) => ∃ (S1 : Mem) (a1 : Value) (v1 : Value) (cs1 rs1 : LV), look m3 8 = .int .i64 (s1.1) ∧ Mem.le S S1 ∧ HS ⟨S, [], w⟩ S1 w2 [.osl (v1) (s1.2).length 1 cs1 rs1 5, .blk b1 (([a1] ++ ([v1]))) 134] ∧ BA b1 a1 ∧ RL S1 cs1 s1.2) hL1 ⟨_, _, _, _, _, (k2 8), (Mem.le_refl _), H, (Or.inl rfl), g3⟩ ?_
 clear H; intro k4 s1 m3 w2 k3 hI1 o2 hb1 hh1; obtain ⟨S1, a1, v1, cs1, rs1, q1, hle1, H, g1, g2⟩ := hI1
 replace hG := GV.mono hG hle1
 replace h0_ := RdS.mono h0_ hle1
 have q2 : look m3 3 = .pointer (some ⟨b1, 0, none⟩) := (k3 3 rfl).trans ((k2 3).trans (k1 3))
 have q3 : look m3 6 = v0_ := (k3 6 rfl).trans (k2 6)
 have q4 : look m3 7 = .int .i64 (((x0).length : Int)) := (k3 7 rfl).trans (k2 7)
 unfold ziA at hb1
 refine sr ?_; intro K5 hK5
 refine zeR (r_lssI q1 q4) ?_
 refine xk hK5 ?_; clear hK5
 refine wp_seq_k ?_; intro K6 hK6
 refine yoT (t := decide (s1.1 < ((x0).length : Int))) rfl (fun hc1 => ?_) (fun hc1 => ?_)
 ·replace hb1 := cnd_t hb1 hc1
  refine wp_skip ?_
  refine xn hK6 ?_; clear hK6
  refine wp_seq_k ?_; intro K7 hK7
  refine wp_block ?_
  refine sr ?_; intro K8 hK8
  obtain ⟨y1, e1, hb1⟩ := bnd hb1
  obtain ⟨b2, o3, N1, c1, cs2, hv1, hi1, hc2, hr1⟩ := h0_.get (zqC e1).2
  refine zeR (ycX (i := (s1.1 : Int).toNat) u45 tsz9 q3 hv1 q1 (zqC e1).1 hi1) ?_
  obtain rfl := elT hr1
  refine zeR (xaT (p := (o3 + (s1.1 : Int).toNat * 1)) (o := 0) (v := str (y1)) to9 H.sub rfl hc2 rfl) ?_
  refine p_as (v := str (y1)) rfl ?_
  refine xk hK8 ?_; clear hK8
  refine wp_region_lit ?_
  refine p_mv (v := str (y1)) rfl ?_
  refine zeR (yrB (N := (y1).length) u9 rfl rfl) ?_
  obtain ⟨y2, e2, hb1⟩ := bnd hb1
  refine ylL (l := [.int .i64 (((y1).length : Int))]) is46 rfl ?_
  refine (yxB H.sub hG e2).mono ?_; rintro _ w3 ⟨rfl, hx⟩; replace H := H.ext hx; clear hx
  obtain ⟨y3, e3, hb1⟩ := bnd hb1
  refine zeR (yzN (r := y3) rfl rfl (by have := (zjZ e3).1; omega) (zjZ e3).2) ?_
  refine p_mv (v := str (y1)) rfl ?_
  obtain ⟨y4, e4, hb1⟩ := bnd hb1
  refine zeR (yzN (r := y4) rfl rfl (by have := (zjZ e4).1; omega) (zjZ e4).2) ?_
  obtain ⟨y5, e5, hb1⟩ := bnd hb1
  refine ylL (l := [.pointer (some ⟨b1, 0, none⟩), str (y4)]) is99 (zyZ q2 (zyZ rfl ykI)) ?_
  refine (zuE (H.hand [1, 0] rfl) g2 g1 e5).mono ?_; rintro _ w4 ⟨S2, pv1, pcs1, prs1, pa1, rfl, H2, pg1, pg2⟩
  obtain ⟨H1, hle2⟩ := H.frame [1, 0] [] rfl H2; clear H H2; have H := H1; clear H1
  replace hG := GV.mono hG hle2
  replace h0_ := RdS.mono h0_ hle2
  replace H : HS ⟨S, [], w⟩ S2 w4 [.blk b1 (([pa1] ++ ([pv1]))) 134, .osl (pv1) (y5.2).length 1 pcs1 prs1 5] := H
  refine wpList_nil ?_
  refine xdZ ?_
  refine xn hK7 ?_; clear hK7
  refine wp_region_lit ?_
  refine zeR (xdY q1 rfl) ?_
  refine p_mv (v := .int .i64 ((w64 (s1.1 + 1)))) rfl ?_
  refine wpList_nil ?_
  refine zqT ?_
  replace H := H.sel [1, 0] rfl
  replace H : HS ⟨S, [], w⟩ S2 w4 [.osl (pv1) (y5.2).length 1 pcs1 prs1 5, .blk b1 (([pa1] ++ ([pv1]))) 134] := H
  obtain rfl := osi hb1
  exact ⟨((w64 (s1.1 + 1)), y5.2), _, rfl, (by (repeat (refine zwL rfl ?_)); refine ylO k3 rfl ?_; exact kcx), ⟨_, _, _, _, _, rfl, (Mem.le_trans hle1 hle2), H, pg2, pg1⟩, hh1⟩
 ·replace hb1 := cnd_f hb1 hc1
  refine wp_exit ?_
  refine yyT ?_
  refine yyT ?_
  refine xcY ?_
  refine zqT ?_
  replace H : HS ⟨S, [], w⟩ S1 w2 [.osl (v1) (s1.2).length 1 cs1 rs1 5, .blk b1 (([a1] ++ ([v1]))) 134] := H
  obtain rfl := osi hb1
  obtain rfl := osi hh1
  obtain rfl := osi hE2
  exact J1 _ _ _ _ _ _ _ (by (repeat (refine zwL rfl ?_)); refine ylO k3 rfl ?_; (repeat (refine zwL rfl ?_)); refine yoS k2 ?_; exact kcx) hle1 H g1 g2
end
end Go.Proofs.YtebbcofojchkpaaGreatDoor
namespace Go.Proofs.YtebbcofojchkpaaGreatDoor.Am
open Go Go.RowKit
class zmE (G : List (Nat × Obj)) : Prop where
 gv : ∀ S, GS G S → GV S
theorem wit {p : Prop} {G : List (Nat × Obj)} [zmE G] (h : p) : p := h
section
variable {G : List (Nat × Obj)} [zmE G]
def yaT : PC := ⟨[.h (.i .i64)], [.s], yiP, false⟩
theorem yaV : PCok Tryz.prog G 46 yaT := pc1 (t1 := .i .i64) (rts := [.s]) rfl rfl (isFn Tryz.func46 (by kernel_rfl) (by kernel_rfl)) fun S _ _ _ hG hS h => yxB hS (zmE.gv S hG) h
def zzN : PC := ⟨[.h .s, .h .s], [.s], fun x => yfC x.1 x.2, false⟩
omit [zmE G] in
theorem zzP : PCok Tryz.prog G 82 zzN := pc2 (t1 := .s) (t2 := .s) (rts := [.s]) rfl rfl rfl (isFn Tryz.func82 (by kernel_rfl) (by kernel_rfl)) fun _ _ _ _ _ _ hS h => xdX hS h
def yaZ : PC := ⟨[.h .s, .h .s], [.s, .s, .b], fun x => cutP x.1 x.2, false⟩
theorem ybM : PCok Tryz.prog G 79 yaZ := pc2 (t1 := .s) (t2 := .s) (rts := [.s, .s, .b]) rfl rfl rfl (isFn Tryz.func79 (by kernel_rfl) (by kernel_rfl)) fun S _ _ _ _ hG hS h => Cut_c hS (zmE.gv S hG) h
def zzI : PC := ⟨[.h .s], [.i .i64, .er], ywZ, false⟩
omit [zmE G] in
theorem yaL : PCok Tryz.prog G 83 zzI := by
 refine ⟨isFn Tryz.func83 (by kernel_rfl) (by kernel_rfl), fun S0 w0 us (x : Bs) (y : Int × Bool) hG hS ha hy => ?_⟩
 have ha : A2 (VR S0 []) [svOf .s x] us := ha
 cases ha with
 | cons q1 q2 =>
  cases q2
  rw [yeP (t := .s) rfl q1]
  obtain ⟨h1, h2⟩ := Atoi_c hS (r := y) hy
  refine h2.mono fun e w' ⟨he, hx⟩ => ⟨hx, _, he, ⟨_, rfl, _, _, rfl, (rfl : [_] = [_]), _, rfl, ?_⟩, fun h => by cases h⟩
  exact ⟨_, rfl, .inl ⟨h1, rfl⟩⟩
end
section
variable {G : List (Nat × Obj)}
def ybP : PC := ⟨[.h (.sl .s)], [.s], zkB, false⟩
theorem ybQ [zmE G] : PCok Tryz.prog G 45 ybP := by
 refine ⟨isFn Tryz.func45 (by kernel_rfl) (by kernel_rfl), fun S0 w0 us (x : List Bs) (y : Bs) hG hS ha hy => ?_⟩
 have ha : A2 (VR S0 []) [svOf (.sl .s) x] us := ha
 cases ha with
 | cons q1 q2 =>
  cases q2
  rename_i u
  have q1 : rep (.sl .s) S0 [u] x := q1
  obtain ⟨u', hu, hr⟩ := q1
  cases hu
  exact (ydO hS (zmE.gv S0 hG) hr hy).mono fun e w' ⟨he, hx⟩ => ⟨hx, _, he, ydM (l := [.s]) rfl, fun h => by cases h⟩
end
end Go.Proofs.YtebbcofojchkpaaGreatDoor.Am
namespace Go.Proofs.YtebbcofojchkpaaGreatDoor
open Go Go.RowKit
def zxF (s : Bs) (n : Int) : Option Bs := bif decide (0 ≤ n) && decide (n ≤ 1048576) && decide (s.length ≤ 1048576) then some (Lib.repeatL s n.toNat) else none
theorem ywD {S : Mem} {w : World} (_ : Sub S w) {x0 : Bs} {x1 : Int} {r : Bs} (hF : zxF x0 x1 = some r) :
  Calls Tryz.prog 50 #[str x0, .int .i64 x1] w fun e w' => e = .returned (str r) ∧ Ext w w' := by
 unfold zxF at hF
 obtain ⟨h, hF⟩ := Am.zaC hF
 simp only [Bool.and_eq_true, decide_eq_true_eq] at h
 cases hF
 obtain ⟨n, rfl⟩ := Int.eq_ofNat_of_zero_le h.1.1
 have hn : n ≤ 1048576 := by have := h.1.2; omega
 rcases Nat.lt_or_ge n 2 with h2 | h2
 ·rcases (by omega : n = 0 ∨ n = 1) with rfl | rfl
  ·refine (Tryz.strings_Repeat_zero ⟨x0.toArray⟩ w).mono ?_
   rintro _ _ ⟨rfl, rfl⟩; exact ⟨rfl, Ext.refl _⟩
  ·refine (Tryz.strings_Repeat_one ⟨x0.toArray⟩ w).mono ?_
   rintro _ _ ⟨rfl, rfl⟩
   refine ⟨?_, Ext.refl _⟩
   show Ending.returned (str x0) = .returned (str (Lib.repeatL x0 1))
   simp [Lib.repeatL]
 ·rcases Nat.eq_zero_or_pos x0.length with h0 | h0
  ·have hx : x0 = [] := List.eq_nil_of_length_eq_zero h0
   subst hx
   refine (Tryz.strings_Repeat_empty ⟨#[]⟩ n w h2 (by omega) rfl).mono ?_
   rintro _ _ ⟨rfl, rfl⟩
   refine ⟨?_, Ext.refl _⟩
   show Ending.returned (str []) = .returned (str (Lib.repeatL [] n))
   rw [List.eq_nil_of_length_eq_zero (show (Lib.repeatL [] n).length = 0 by rw [Lib.repeatL_length]; rfl)]
  ·refine (Tryz.strings_Repeat_main ⟨x0.toArray⟩ n w h2 (by omega) ?_ (by rw [zgE]; exact h0)).mono ?_
   ·rw [zgE]
    have := Nat.mul_le_mul h.2 hn
    omega
   ·rintro _ w' ⟨rfl, hb⟩
    exact ⟨rfl, hb⟩
end Go.Proofs.YtebbcofojchkpaaGreatDoor
namespace Go.Proofs.YtebbcofojchkpaaGreatDoor.Am
open Go Go.RowKit
def zxG : PC := ⟨[.h .s, .h (.i .i64)], [.s], fun x => zxF x.1 x.2, false⟩
theorem zxH {G : List (Nat × Obj)} : PCok Tryz.prog G 50 zxG := pc2 (t1 := .s) (t2 := .i .i64) (rts := [.s]) rfl rfl rfl (isFn Tryz.func50 (by kernel_rfl) (by kernel_rfl)) fun _ _ _ _ _ _ hS h => ywD hS h
structure Ops where
 itoa : Int → Option Bs
 atoi : Bs → Option (Int × Bool)
 trim : Bs → Bs → Option Bs
 cut : Bs → Bs → Option (Bs × Bs × Bool)
 rep : Bs → Int → Option Bs
 form : (List Bs) → Option Bs
def yiN (o : Ops) : PC := ⟨[(.h (.i .i64))], [.s], fun x => o.itoa x, false⟩
def yeV (o : Ops) : PC := ⟨[(.h .s)], [(.i .i64), .er], fun x => o.atoi x, false⟩
def zzS (o : Ops) : PC := ⟨[(.h .s), (.h .s)], [.s], fun x => o.trim x.1 x.2, false⟩
def yyB (o : Ops) : PC := ⟨[(.h .s), (.h .s)], [.s, .s, .b], fun x => o.cut x.1 x.2, false⟩
def yxE (o : Ops) : PC := ⟨[(.h .s), (.h (.i .i64))], [.s], fun x => o.rep x.1 x.2, false⟩
def ytB (o : Ops) : PC := ⟨[(.h (.sl .s))], [.s], fun x => o.form x, false⟩
class zkJ (G : List (Nat × Obj)) (o : Ops) : Prop where
 itoa : PCok Tryz.prog G 46 (yiN o)
 atoi : PCok Tryz.prog G 83 (yeV o)
 trim : PCok Tryz.prog G 82 (zzS o)
 cut : PCok Tryz.prog G 79 (yyB o)
 rep : PCok Tryz.prog G 50 (yxE o)
 form : PCok Tryz.prog G 45 (ytB o)
theorem witO {p : Prop} {G : List (Nat × Obj)} {o : Ops} [zmE G] [zkJ G o] (h : p) : p := h
def zaB : Ops := ⟨yiP, ywZ, yfC, cutP, zxF, zkB⟩
instance realOk {G : List (Nat × Obj)} [zmE G] : zkJ G zaB := ⟨yaV, yaL, zzP, ybM, zxH, ybQ⟩
section
variable {τ : TE} {P : Program} {G : List (Nat × Obj)}
theorem yvP {f : FuncId} {fn : Func} {c : Code} {e : Ty} {T : TypeId} (hm : P.follows .mixedOrders = true) (hτ : TEok P τ) (hf : P.funcs[f]? = some fn) (hfn : IsFn P f) (hb : fn.body = some c) (hl : Nat.ble 1 fn.ntmps = true) (hr : Nat.beq fn.results.toList.length 1 = true)
  (h1 : run 0 fn.ntmps τ ⟨[], [], false, []⟩ [] c ⟨[(0, .nils)], []⟩ (finS τ fn 0 [(none, ⟨[(0, .nils)], []⟩)]) = some ())
  (h2 : ∀ xs : List (den e), run 0 fn.ntmps τ ⟨[], [], false, []⟩ [] c ⟨[(0, .nn e xs)], []⟩ (finS τ fn 0 [(none, ⟨[(0, .own 0)], [.osl e T]⟩)]) = Option.bind (app [] xs) fun r => some r) :
  SCok P G f ⟨⟨[(0, .h (.sl e))], []⟩, 1, [(none, ⟨[(0, .own 0)], [.osl e T]⟩)], fun xs => app [] xs⟩ := by
 refine ⟨hfn, fun S0 w0 us E0 L0 (xs : List (den e)) (d : List (den e)) _ hul R hy => ?_⟩
 have hy : app [] xs = some d := hy
 have hul : us.length = 1 := hul
 have hle : us.length ≤ fn.ntmps := by rw [hul]; exact Nat.le_of_ble_eq_true hl
 obtain ⟨u, rfl⟩ : ∃ u, us = [u] := by
  match us, hul with
  | [u], _ => exact ⟨u, rfl⟩
 have hu : VB S0 E0 (.v (.sl e) xs) u := R.sl 0
 obtain ⟨v, hv, hrd⟩ := hu
 injection hv with hv
 subst hv
 have re : ∀ {x : SV}, VR S0 E0 x u → RelV ⟨S0, zcA L0, w0⟩ S0 E0 L0 ⟨[(0, x)], []⟩ (fun t => [u].getD t undef) w0 := fun {x} hx => ⟨R.hs, R.lL, R.lE, R.obj, fun t => by
  cases t with
  | zero => exact hx
  | succ t => trivial⟩
 by_cases hn : ∃ n c, u = .slice none n c
 ·have hu0 : u = .slice none 0 0 ∧ xs = [] := by
   obtain ⟨cs, k1, k2⟩ := hrd
   obtain ⟨n, c', hn⟩ := hn
   rcases k1 with ⟨⟨a0, k1⟩, k3, _⟩ | ⟨b', o, c2, ds, T2, fz, k1, _⟩
   ·rw [hn] at k1; injection k1 with _ e2 e3
    exact ⟨by rw [hn, e2, e3], List.eq_nil_of_length_eq_zero k3⟩
   ·rw [hn] at k1; cases k1
  obtain ⟨rfl, rfl⟩ := hu0
  have hd : d = [] := yiQ hy
  subst hd
  refine (yhZ hm hτ (ctok (G := []) (pc := []) (sc := []) (k := false) trivial trivial _ (fun _ h => by cases h)) hf hb hle hr (re (x := .nils) rfl) h1).mono fun e' w' ⟨v, he, S', E', L', σo, V', ho, hS, hP, R', hv0, hn0, hres⟩ => ?_
  have hσ : σo = ⟨[(0, .nils)], []⟩ := by
   have := ho (γ := St) fun _ σ => some σ
   exact (osi this).symm
  subst hσ
  have hl' : L'.length = 0 := R'.lL
  have hE' : E'.length = 0 := R'.lE
  have e1 : L' = [] := List.eq_nil_of_length_eq_zero hl'
  have e2 : E' = [] := List.eq_nil_of_length_eq_zero hE'
  subst e1; subst e2
  have h0 : V' 0 = .slice none 0 0 := R'.sl 0
  refine ⟨v, he, S', [.osl 0 (.slice none 0 0) (tsz e)], [.osl (.slice none 0 0) 0 (tsz e) [] [] T], ⟨[(0, .own 0 0)], [.osl 0 e T []]⟩, V', fun k => ?_, hS, fun k e hk => absurd hk (Nat.not_lt_zero k), ⟨HS.nil R'.hs _ _, rfl, rfl, fun i o h => ?_, fun t => ?_⟩, ?_, Nat.zero_le _, hres⟩
  ·show k (exOf none) _ = _
   have : (Shp.put (⟨[(0, .own 0)], [.osl e T]⟩ : Shp) ([] : List (den e))) = ⟨[(0, .own 0 0)], [.osl 0 e T []]⟩ := by
    obtain ⟨q, hq⟩ := zeF e
    have e0 : ∀ y : den (.sl e), zcU [.osl e T] [.v (.sl e) y] = [.osl 0 e T y] := fun y => by
     rw [zcU, hq]; rfl
    have e1 : zcU [.osl e T] [.v (.sl e) ([] : List (den e))] = [.osl 0 e T []] := e0 _
    exact congrArg (fun hp => (⟨[(0, .own 0 0)], hp⟩ : St)) e1
   rw [this]; rfl
  ·cases i with
   | zero => cases h; exact ⟨_, _, rfl, rfl, .slice none 0 0, .slice none 0 0, [], [], rfl, rfl, rfl, .inl rfl⟩
   | succ i => cases h
  ·cases t with
   | zero => exact VR.ofC (show VC S' _ (.own 0 0) (V' 0) by rw [h0]; exact ⟨rfl, _, rfl, fun r v s he => by cases he; exact ⟨Nat.le_refl 0, fun _ => rfl⟩⟩)
   | succ t => trivial
  ·intro i ver e' T' xs h
   cases i with
   | zero => cases h; rfl
   | succ i => cases h
 ·exact (yhZ hm hτ (ctok (G := []) (pc := []) (sc := []) (k := false) trivial trivial _ (fun _ h => by cases h)) hf hb hle hr (re (x := .nn e xs) ⟨hrd, fun n c h => hn ⟨n, c, h⟩⟩) ((h2 xs).trans (by rw [hy]; rfl))).mono fun _ _ h => h
theorem ysN {e : Ty} (he : zwS e = false) {S S2 : Mem} : ∀ {xs : List (den e)} {cs : LV}, @RL (den e) (rpD e) S cs xs → @RL (den e) (rpD e) S2 cs xs
 | [], _, h => h
 | _ :: _, _, ⟨c, d, h1, h2, h3⟩ => ⟨c, d, h1, zwJ e he h2, ysN he h3⟩
theorem yqL {f : FuncId} {e : Ty} {T : TypeId} (he : zwS e = false) (h : SCok P G f ⟨⟨[(0, .h (.sl e))], []⟩, 1, [(none, ⟨[(0, .own 0)], [.osl e T]⟩)], fun (xs : List (den e)) => app [] xs⟩) :
  SCok P G f ⟨⟨[(0, .own 0)], [.osl e T]⟩, 1, [(none, ⟨[(0, .own 1)], [.osl e T, .osl e T]⟩)], fun (xs : List (den e)) => Option.bind (app [] xs) fun r => some (xs, r)⟩ := by
 obtain ⟨q, hq⟩ := zeF e
 have e0 : ∀ y : den (.sl e), zcU [.osl e T] [.v (.sl e) y] = [.osl 0 e T y] := fun y => by rw [zcU, hq]; rfl
 refine ⟨h.fn, fun S0 w0 us E0 L0 (xs : List (den e)) (d : List (den e) × List (den e)) hG hul R hy => ?_⟩
 have hy : (Option.bind (app [] xs) fun r => some (xs, r)) = some d := hy
 obtain ⟨ys, hys, hd⟩ := bnd hy
 cases hd
 have hul : us.length = 1 := hul
 obtain ⟨u, rfl⟩ : ∃ u, us = [u] := by
  match us, hul with
  | [u], _ => exact ⟨u, rfl⟩
 have hput : (Shp.put (⟨[(0, .own 0)], [.osl e T]⟩ : Shp) xs) = ⟨[(0, .own 0 0)], [.osl 0 e T xs]⟩ := congrArg (fun hp => (⟨[(0, .own 0 0)], hp⟩ : St)) (e0 xs)
 have R : RelV ⟨S0, zcA L0, w0⟩ S0 E0 L0 ⟨[(0, .own 0 0)], [.osl 0 e T xs]⟩ (fun t => [u].getD t undef) w0 := by rw [← hput]; exact R
 obtain ⟨r0, ee0, g1, g2, v, v', cs, rs, rfl, rfl, hrl, hsm⟩ := R.obj 0 _ rfl
 have hL : L0.length = 1 := R.lL
 have hE : E0.length = 1 := R.lE
 obtain ⟨h7, e1, h8, h9⟩ := (show VB S0 E0 (.own 0 0) u from R.sl 0)
 rw [g2] at h8; cases h8
 have hu : u = v' := (h9 _ _ _ rfl).2 rfl
 subst hu
 have hle : Mem.le S0 (zpF w0) := R.hs.sub
 have hk : lkR L0 0 = some (.osl v xs.length (tsz e) cs rs T) := by rw [zaL]; exact g1
 have hrd : @RdS (den e) (rpD e) (zpF w0) u xs := ⟨cs, by rw [show Rp.sz (den e) = tsz e from zlB e]; exact hsm.slW R.hs.sub (R.hs.slW hk), hrl.mono hle⟩
 refine (h.ok (zpF w0) w0 [u] [] [] xs ys (fun p hp => hle _ _ (hG p hp)) rfl ⟨HS.start (ykZ w0), rfl, rfl, fun i o ho => by simp [Shp.put, zcU] at ho, fun t => ?_⟩ hys).mono ?_
 ·cases t with
  | zero => exact (⟨u, rfl, hrd⟩ : VB (zpF w0) [] (.v (.sl e) xs) u)
  | succ t => trivial
 rintro e' w' ⟨v1, hv1, S', E', L', σo, V', hout, hS, _, R2, _, _, hres⟩
 have hσ : σo = ⟨[(0, .own 0 0)], [.osl 0 e T ys]⟩ := by
  have h1 := hout (γ := St) fun _ σ => some σ
  have h2 : (Shp.put (⟨[(0, .own 0)], [.osl e T]⟩ : Shp) ys) = ⟨[(0, .own 0 0)], [.osl 0 e T ys]⟩ := congrArg (fun hp => (⟨[(0, .own 0 0)], hp⟩ : St)) (e0 ys)
  have h3 : (some ((Shp.put (⟨[(0, .own 0)], [.osl e T]⟩ : Shp) ys).app []) : Option St) = some σo := h1
  rw [h2] at h3
  exact (osi h3).symm
 subst hσ
 obtain ⟨r2, ee2, k1, k2, vv, vv', cs2, rs2, rfl, rfl, hrl2, hsm2⟩ := R2.obj 0 _ rfl
 obtain ⟨k3, e2, k4, k5⟩ := (show VB S' E' (.own 0 0) (V' 0) from R2.sl 0)
 rw [k2] at k4; cases k4
 have hV : V' 0 = vv' := (k5 _ _ _ rfl).2 rfl
 have hk2 : lkR L' 0 = some (.osl vv ys.length (tsz e) cs2 rs2 T) := by rw [zaL]; exact k1
 have hx : Ext w0 w' := R2.hs.toExt
 have H : HS ⟨S0, zcA L0, w0⟩ S0 w' (.osl vv ys.length (tsz e) cs2 rs2 T :: L0) := R.hs.push hx (R2.hs.own 0 _ hk2) fun b hb => by
  rcases (R2.hs.old 0 _ b hk2 hb).1 with h1 | h1
  ·exact h1
  ·cases h1
 refine ⟨v1, hv1, S0, E0 ++ [.osl 0 vv' (tsz e)], L0 ++ [.osl vv ys.length (tsz e) cs2 rs2 T], ⟨[(0, .own 1 0)], [.osl 0 e T xs, .osl 0 e T ys]⟩, V', fun k => ?_, Mem.le_refl _, Pin.of (ELe.push _ _), ⟨HS.snoc H, by simp [hL], by simp [hE], fun i o ho => ?_, fun t => ?_⟩, ?_, by simp, hres⟩
 ·show k (exOf none) _ = _
  have h2 : (Shp.put (⟨[(0, .own 1)], [.osl e T, .osl e T]⟩ : Shp) ((xs, ys) : List (den e) × List (den e))) = ⟨[(0, .own 1 0)], [.osl 0 e T xs, .osl 0 e T ys]⟩ := by
   have e2 : ∀ y z : den (.sl e), zcU [.osl e T, .osl e T] [.v (.sl e) y, .v (.sl e) z] = [.osl 0 e T y, .osl 0 e T z] := fun y z => by
    rw [zcU, hq]
    simp only []
    rw [e0]; rfl
   exact congrArg (fun hp => (⟨[(0, .own 1 0)], hp⟩ : St)) (e2 xs ys)
  rw [h2]; rfl
 ·cases i with
  | zero =>
   cases ho
   exact ⟨_, _, by rw [List.getElem?_append_left (by omega)]; exact g1, by rw [List.getElem?_append_left (by omega)]; exact g2, v, u, cs, rs, rfl, rfl, hrl, hsm⟩
  | succ i =>
   cases i with
   | zero =>
    cases ho
    refine ⟨_, _, by rw [List.getElem?_append_right (by omega), hL]; rfl, by rw [List.getElem?_append_right (by omega), hE]; rfl, vv, vv', cs2, rs2, rfl, rfl, ysN he hrl2, ?_⟩
    rcases hsm2 with h1 | ⟨h1, h2, _, h3⟩
    ·exact .inl h1
    ·exact .inr ⟨h1, h2, .inl ⟨h3, rfl, rfl⟩, h3⟩
   | succ i => simp at ho
 ·cases t with
  | zero => exact VR.ofC (show VC S0 _ (.own 1 0) (V' 0) from ⟨k3, .osl 0 vv' (tsz e), by rw [List.getElem?_append_right (by omega), hE]; rfl, fun r v s he => by cases he; exact ⟨Nat.le_refl 0, fun _ => hV⟩⟩)
  | succ t => trivial
 ·intro i ver e' T' xs' hi
  cases i with
  | zero => cases hi; rfl
  | succ i =>
   cases i with
   | zero => cases hi; rfl
   | succ i => simp at hi
def finC (τ : TE) (f : Func) (e : Ty) (ex : Ex) (σ : St) : Option (List (den e)) := match ex with
 | .exit _ => none
 | _ => match zxC τ σ f.results.toList with
  | some [.cl e' xs] => match tyEq e' e with
   | some ⟨h⟩ => some (zlC (by rw [h] : Ty.sl e' = Ty.sl e) (show den (.sl e') from xs))
   | none => none
  | _ => none
theorem ydH {f : FuncId} {fn : Func} {c : Code} {e : Ty} (hm : P.follows .mixedOrders = true) (hτ : TEok P τ) (hf : P.funcs[f]? = some fn) (hfn : IsFn P f) (hb : fn.body = some c) (hl : Nat.ble 1 fn.ntmps = true)
  (h1 : ∀ xs : List (den e), run 0 fn.ntmps τ ⟨[], [], false, []⟩ [] c ⟨[(0, .v (.sl e) xs)], []⟩ (finC τ fn e) = Option.bind (chk (decide ((xs.length : Int) = (xs.length : Int)))) fun _ => Option.bind (subH xs (xs.length : Int)) fun r => some r) :
  PCok P G f ⟨[.h (.sl e)], [.sl e], fun xs => some xs, true⟩ := by
 refine ⟨hfn, fun S0 w0 us (xs : List (den e)) (y : List (den e)) _ hS ha hy => ?_⟩
 have hxy : xs = y := osi hy
 subst hxy
 have ha : A2 (VR S0 []) [SV.v (.sl e) xs] us := ha
 have h2 : run 0 fn.ntmps τ ⟨[], [], false, []⟩ [] c ⟨[(0, .v (.sl e) xs)], []⟩ (finC τ fn e) = some xs := by
  rw [h1 xs]
  have h3 : subH xs (xs.length : Int) = some xs := by
   unfold subH
   simp
  simp [chk, h3]
 have hul : us.length = 1 := by rw [← ha.len]; rfl
 refine enter hf hb rfl (by rw [hul]; exact hl) ?_
 have R0 : Rel fn.ntmps ⟨S0, [], w0⟩ S0 [] [] ⟨argS 0 [SV.v (.sl e) xs], []⟩ (argm us 0) w0 := by
  refine ⟨HS.start hS, rfl, rfl, fun i o h => by simp at h, fun t => ?_⟩
  show VR S0 [] (lkS (argS 0 [SV.v (.sl e) xs]) t) (bif Nat.blt t fn.ntmps then look (argm us 0) t else undef)
  cases ht : Nat.blt t fn.ntmps with
  | true => exact yoC 0 t ha
  | false =>
   rw [zkS] at ht
   have h1 := of_decide_eq_false ht
   have h2 := Nat.le_of_ble_eq_true hl
   rw [zzT (by simp; omega)]
   trivial
 refine zsN hm hτ (ctok (G := []) (pc := []) (sc := []) (k := false) trivial trivial _ (fun _ h => by cases h)) c R0 (finC τ fn e) xs _ h2 fun ex σ' S' E' L' m' w' h1 _ _ _ R1 => ?_
 have key : ∀ (_ : (match zxC τ σ' fn.results.toList with
   | some [.cl e' xs] => match tyEq e' e with
    | some ⟨h⟩ => some (zlC (by rw [h] : Ty.sl e' = Ty.sl e) (show den (.sl e') from xs))
    | none => none
   | _ => none) = some xs), (fr fn.ntmps m').defers = [] ∧ ∃ v, (results fn (fr fn.ntmps m').tmps).run P w' = .ok v w' ∧ Ext w0 w' ∧ repR (gr S0 w0 w') [.sl e] v xs ∧ ∃ a n, v = .slice a n n := fun h1 => by
  split at h1
  ·rename_i e' ys hl1
   split at h1
   ·rename_i hh _
    subst hh
    have hys : ys = xs := osi h1
    subst hys
    obtain ⟨vs, h3, h4⟩ := zyT (P := P) hτ R1 hl1
    obtain ⟨v, rfl, h5⟩ := h3.one
    obtain ⟨h5, a, h6⟩ := (show VB S' E' (.cl e' ys) v from h5)
    refine ⟨rfl, v, ?_, R1.hs.toExt, ⟨v, rfl, RdS.mono h5 R1.hs.gr⟩, a, _, h6⟩
    rw [zqX, Array.mapM_eq_mapM_toList]
    simp only [Sem.run_bind, Sem.run_map, h4, Result.andThen_ok, Sem.run_pure]
    rfl
   ·cases h1
  ·cases h1
 cases ex with
 | normal =>
  obtain ⟨h2, v, h3, h4, h5, h6⟩ := key h1
  exact ⟨h2, v, h3, h4, v, rfl, h5, fun _ => h6⟩
 | ret =>
  obtain ⟨h2, v, h3, h4, h5, h6⟩ := key h1
  exact ⟨h2, v, h3, h4, v, rfl, h5, fun _ => h6⟩
 | exit i => cases h1
end
end Go.Proofs.YtebbcofojchkpaaGreatDoor.Am
namespace Go.Proofs.YtebbcofojchkpaaGreatDoor.Am
open Go Go.RowKit Go.Maps Go.Sort
open Go.WideElems (Fit rd rg)
def anyVI : Value → Option (DataW Unit × List MemPlace) := fun _ => some (.nil, [])
def zxO : List Int → Bool
 | x :: y :: l => decide (x < y) && zxO (y :: l)
 | _ => true
def ztS {α : Type} (es : List (Int × α)) : Bool := decide (es.length ≤ 1048576) && (es.all (fun p => decide (-9223372036854775808 ≤ p.1) && decide (p.1 ≤ 9223372036854775807)) && zxO (es.map (·.1)))
def zyS {α : Type} (es : List (Int × α)) : Option (List Int × List (Int × α)) := bif ztS es then some (es.map (·.1), es) else none
theorem yaX : ∀ {l : List Int}, zxO l = true → l.Pairwise fun x y => x < y
 | [], _ => .nil
 | [x], _ => List.pairwise_singleton _ _
 | x :: y :: l, h => by
  unfold zxO at h
  rw [Bool.and_eq_true, decide_eq_true_eq] at h
  have ih := yaX (l := y :: l) h.2
  refine List.pairwise_cons.2 ⟨fun z hz => ?_, ih⟩
  rcases List.mem_cons.1 hz with rfl | hz
  ·exact h.1
  ·exact Int.lt_trans h.1 ((List.pairwise_cons.1 ih).1 z hz)
theorem yhL {l : List Int} (h : zxO l = true) : l.mergeSort (fun x y => decide (x ≤ y)) = l := by
 refine List.mergeSort_of_pairwise ((yaX h).imp fun {a b} hab => ?_)
 simp only [decide_eq_true_eq]
 exact Int.le_of_lt hab
section
variable {P : Program} {S : Mem}
theorem yeW {V : Ty} {kT : TypeId} (hk : P.underlying kT = some (.int .i64)) : ∀ {l : List (Int × den V)} {ents : List MapEntry}, A2 (fun (p : Int × den V) en => rep1 (.i .i64) S en.key p.1 ∧ rep1 V S en.val p.2) l ents → (∀ p ∈ l, -9223372036854775808 ≤ p.1 ∧ p.1 ≤ 9223372036854775807) → ents.map (·.key) = l.map (fun p => Value.int .i64 p.1) ∧ (∀ x ∈ ents, ∃ y, Go.WideElems.rd P kT anyVI x = some y) ∧ (ents.map (Go.WideElems.rg P kT anyVI)).map (fun p => Go.intOf p.1) = l.map (·.1)
 | _, _, .nil, _ => ⟨rfl, fun _ h => (by cases h), rfl⟩
 | p :: l, en :: ents, .cons a r, hs => by
  obtain ⟨i1, i2, i3⟩ := yeW hk r fun q hq => hs q (List.mem_cons_of_mem _ hq)
  have hkey : en.key = .int .i64 p.1 := by have h : [en.key] = [Value.int .i64 p.1] := a.1; injection h
  have hp := hs p List.mem_cons_self
  have hr : Go.WideElems.rd P kT anyVI en = some (.int .i64 p.1, .nil) := by
   unfold Go.WideElems.rd
   rw [hkey]
   have : keyOf P kT (.int .i64 p.1) = some (.int .i64 p.1) := by
    have hw : (Lit.int .i64 p.1).wf = true := by
     show (decide (IntKind.i64.min ≤ p.1) && decide (p.1 ≤ IntKind.i64.max)) = true
     rw [show IntKind.i64.min = -9223372036854775808 from rfl, show IntKind.i64.max = 9223372036854775807 from rfl]
     simp [hp]
    simp [keyOf, hk, mapKey, hw]
   show (keyOf P kT (.int .i64 p.1)).bind _ = _
   rw [this]
   rfl
  refine ⟨by rw [List.map_cons, List.map_cons, i1, hkey], fun x hx => ?_, ?_⟩
  ·rcases List.mem_cons.1 hx with rfl | hx
   ·exact ⟨_, hr⟩
   ·exact i2 x hx
  ·rw [List.map_cons, List.map_cons, List.map_cons, i3]
   congr 1
   unfold Go.WideElems.rg
   rw [hr]
   rfl
theorem yoR {V : Ty} {kT : TypeId} {w : World} {b ck : Nat} {es : List (Int × den V)} {ents : List MapEntry} (hk : P.underlying kT = some (.int .i64)) (hm : MR S (.i .i64) V es ents) (hb : ∀ en ∈ ents, en.born < ck) (hh : w.heap[b]? = some (.map ents.toArray ck)) (ho : ztS es = true) :
  ∃ D0 : DataW Unit, w.ownsMap P kT anyVI b es.length D0 ∧ Maps.size D0 = es.length ∧ (intKeys D0).Perm (es.map (·.1)) := by
 obtain ⟨(l : List (Int × den V)), (hl : l.Perm es), hA⟩ := hm.perm
 unfold ztS at ho
 simp only [Bool.and_eq_true, decide_eq_true_eq, List.all_eq_true] at ho
 obtain ⟨h1, h2, h3⟩ := ho
 have hlen : ents.length = es.length := by rw [← hA.len]; exact hl.length_eq
 obtain ⟨k1, k2, k3⟩ := yeW hk hA fun p hp => h2 p (hl.mem_iff.1 hp)
 have hnd : (es.map (·.1)).Nodup := (yaX h3).imp fun {a b} hab e => by subst e; exact Int.lt_irrefl _ hab
 refine ⟨_, ⟨ents.toArray, ck, hh, ⟨by simp [maxLen]; omega, ⟨by simpa using hb, by simpa using hm.nd, ?_⟩, by simpa using k2⟩, by simp [hlen], rfl⟩, ?_, ?_⟩
 ·have e1 : l.map (fun p => Value.int .i64 p.1) = (l.map (·.1)).map (Value.int .i64) := by rw [List.map_map]; rfl
  simp only []
  rw [k1, e1]
  refine List.Pairwise.map _ (fun a b hab e => hab (by injection e)) ((hl.map _).nodup_iff.2 hnd)
 ·show ((ents.map (Go.WideElems.rg P kT anyVI)).foldr DataW.insert []).length = _
  rw [length_sorted, List.length_map, hlen]
 ·show (((ents.map (Go.WideElems.rg P kT anyVI)).foldr DataW.insert []).map fun p => Go.intOf p.1).Perm _
  refine ((Go.WideShapes.sorted_perm _).map _).trans ?_
  rw [k3]
  exact hl.map _
theorem yqD : ∀ (l : List Int), @RL (den (.i .i64)) (rpD (.i .i64)) S (l.map encZ) l
 | [] => rfl
 | x :: l => ⟨[.int .i64 x], l.map encZ, rfl, (rfl : [_] = [_]), yqD l⟩
theorem xbE {w' : World} {base n : Nat} {sT : TypeId} {v : Value} {ks : List Int} (hn : ks.length = n) (hrow : w'.ownsRow base sT 1 v n (ks.map encZ)) (hm : ∀ b, base ≤ b → S b = w'.heap[b]?) : @RdS (den (.i .i64)) (rpD (.i .i64)) S v ks := by
 subst hn
 refine ⟨ks.map encZ, ?_, yqD ks⟩
 obtain ⟨g1, g2⟩ := hrow
 show SlS S v ks.length 1 (ks.map encZ)
 rcases g2 with ⟨rfl, g3⟩ | ⟨gb, cap, cur, rfl, g3, g4, g5, g6, g7, g8⟩
 ·have : ks = [] := List.eq_nil_of_length_eq_zero g3
  subst this
  exact .inl ⟨⟨_, rfl⟩, rfl, rfl⟩
 ·refine .inr ⟨gb, 0, cap, cur.toList, sT, (0, 0), rfl, g5, ?_, ?_, ?_⟩
  ·rw [hm gb g3, g4]
  ·have : cur.toList.length = cap * 1 := by simpa using g7
   rw [this]; omega
  ·rw [zaI, List.drop_zero]; exact g8
theorem ymE {G : List (Nat × Obj)} {f g : FuncId} {mT kT sT : TypeId} {V : Ty} (hfn : IsFn P f) (hk : P.underlying kT = some (.int .i64))
  (hS : ∀ (Bm b nn : Nat) (D0 : DataW Unit) (w : World), Bm < w.heap.size → w.cell? ⟨Bm, 0, none⟩ = some (.map (some b)) → w.ownsMap P kT anyVI b nn D0 → Maps.size D0 ≤ maxLen → Maps.size D0 * 8 ≤ 140737488355328 →
   Calls P f #[.func (.func g) #[] #[.pointer (some ⟨Bm, 0, none⟩)]] w fun e w' => ∃ (v : Value) (ss : List Int), e = .returned v ∧ ss.Perm (intKeys D0) ∧ w'.ownsRow w.heap.size sT 1 v ss.length ((ss.mergeSort (fun x y => decide (x ≤ y))).map encZ) ∧ (v = .slice none 0 0 ↔ ss = []) ∧ Below w.heap.size w w') :
  SCok P G f ⟨⟨[(0, .fn g [] [.ptr 0 0])], [.blk mT [.mpr 1], .mp true (.i .i64) V]⟩, 1, [(none, ⟨[(0, .h (.sl (.i .i64)))], [.blk mT [.mpr 1], .mp true (.i .i64) V]⟩)], fun (es : List (Int × den V)) => zyS es⟩ := by
 refine ⟨hfn, fun S0 w0 us E0 L0 (es : List (Int × den V)) d _ hul R hy => ?_⟩
 have hy : (bif ztS es then some (es.map (·.1), es) else none) = some d := hy
 obtain ⟨hok, hy⟩ := zaC hy
 have hd : d = (es.map (·.1), es) := (osi hy).symm
 subst hd
 have hul : us.length = 1 := hul
 obtain ⟨u, rfl⟩ : ∃ u, us = [u] := by
  match us, hul with
  | [u], _ => exact ⟨u, rfl⟩
 obtain ⟨q, hq⟩ := zeF (.mp (.i .i64) V)
 have hput : (Shp.put (⟨[(0, .fn g [] [.ptr 0 0])], [.blk mT [.mpr 1], .mp true (.i .i64) V]⟩ : Shp) es) = ⟨[(0, .fn g [] [.ptr 0 0])], [.blk mT [.mpr 1], .mp 0 (.i .i64) V es]⟩ := by
  have e0 : ∀ y : den (.mp (.i .i64) V), zcU [.blk mT [.mpr 1], .mp true (.i .i64) V] [.v (.mp (.i .i64) V) y] = [.blk mT [.mpr 1], .mp 0 (.i .i64) V y] := fun y => by
   simp only [zcU, yaK, Sh.putC, Sh.putB, hq]
   rfl
  exact congrArg (fun hp => (⟨[(0, .fn g [] [.ptr 0 0])], hp⟩ : St)) (e0 es)
 have hput2 : (Shp.put (⟨[(0, .h (.sl (.i .i64)))], [.blk mT [.mpr 1], .mp true (.i .i64) V]⟩ : Shp) ((es.map (·.1), es) : List Int × List (Int × den V))) = ⟨[(0, .v (.sl (.i .i64)) (es.map (·.1)))], [.blk mT [.mpr 1], .mp 0 (.i .i64) V es]⟩ := by
  have e0 : ∀ y : den (.mp (.i .i64) V), zcU [.blk mT [.mpr 1], .mp true (.i .i64) V] [.v (.mp (.i .i64) V) y] = [.blk mT [.mpr 1], .mp 0 (.i .i64) V y] := fun y => by
   simp only [zcU, yaK, Sh.putC, Sh.putB, hq]
   rfl
  exact congrArg (fun hp => (⟨[(0, .v (.sl (.i .i64)) (es.map (·.1)))], hp⟩ : St)) (e0 es)
 have R : RelV ⟨S0, zcA L0, w0⟩ S0 E0 L0 ⟨[(0, .fn g [] [.ptr 0 0])], [.blk mT [.mpr 1], .mp 0 (.i .i64) V es]⟩ (fun t => [u].getD t undef) w0 := by rw [← hput]; exact R
 obtain ⟨r0, e0, a1, a2, b0, cs, rfl, rfl, a3⟩ := R.objN (i := 0) rfl
 obtain ⟨c, rfl, a4⟩ := a3.one
 obtain ⟨_, e1, a5, a6⟩ := (show VB S0 E0 (.mpr 1) c from a4)
 obtain ⟨r1, e1', c1, c2, b, ents, ck, rfl, rfl, c3, c4⟩ := R.objN (i := 1) rfl
 rw [c2] at a5; cases a5
 have hc := a6 _ _ _ _ rfl
 subst hc
 have hh0 : w0.heap[b0]? = some (.cells [Value.map (some b)].toArray mT (0, 0)) := R.hs.own 0 _ a1
 have hh1 : w0.heap[b]? = some (.map ents.toArray ck) := R.hs.own 1 _ c1
 have hu : u = .func (.func g) #[] #[.pointer (some ⟨b0, 0, none⟩)] := by
  obtain ⟨xs, ys, hu, h1, h2⟩ := (show VC S0 E0 (.fn g [] [.ptr 0 0]) u from R.sl 0)
  cases h1
  obtain ⟨y, rfl, h3⟩ := h2.one
  obtain ⟨b1, hy, e2, h4, h5⟩ := (show VB S0 E0 (.ptr 0 0) y from h3)
  rw [a2] at h4; cases h4
  cases h5 _ rfl
  rw [hu, hy]
 subst hu
 obtain ⟨D0, d1, d2, d3⟩ := yoR (S := S0) hk c3 c4 hh1 hok
 have hlen : es.length ≤ 1048576 := by unfold ztS at hok; simp only [Bool.and_eq_true, decide_eq_true_eq] at hok; exact hok.1
 have hrise : zxO (es.map (·.1)) = true := by unfold ztS at hok; simp only [Bool.and_eq_true] at hok; exact hok.2.2
 have hcell : w0.cell? ⟨b0, 0, none⟩ = some (.map (some b)) := by simp [World.cell?, hh0]
 refine (hS b0 b es.length D0 w0 (Array.getElem?_eq_some_iff.1 hh0).1 hcell d1 (by rw [d2]; simp [maxLen]; omega) (by rw [d2]; omega)).mono fun e w' ⟨v, ss, he, hp, hrow, hnil, hx⟩ => ?_
 have hx : Ext w0 w' := hx
 have hss : ss.mergeSort (fun x y => decide (x ≤ y)) = es.map (·.1) := by
  rw [← yhL hrise]
  exact mergeSort_of_perm_i (hp.trans d3)
 have hsl : ss.length = es.length := by rw [hp.length_eq, d3.length_eq, List.length_map]
 rw [hss, hsl] at hrow
 have R' := R.call hx
 have hv : VB (gr S0 w0 w') E0 (.v (.sl (.i .i64)) (es.map (·.1))) v :=
  ⟨v, rfl, xbE (List.length_map _) hrow fun b hb => by unfold Go.Proofs.YtebbcofojchkpaaGreatDoor.gr; rw [if_neg (by omega)]⟩
 refine ⟨v, he, gr S0 w0 w', E0, L0, ⟨[(0, .v (.sl (.i .i64)) (es.map (·.1)))], [.blk mT [.mpr 1], .mp 0 (.i .i64) V es]⟩, fun _ => v, fun k => ?_, yhS R.hs.sub, Pin.refl _ _, ⟨R'.hs, R'.lL, R'.lE, R'.obj, fun t => ?_⟩, ?_, Nat.le_refl _, rfl⟩
 ·show k (exOf none) ((Shp.put _ _).app []) = _
  rw [hput2]; rfl
 ·cases t with
  | zero => exact VR.ofC (show VC _ _ (.v (.sl (.i .i64)) (es.map (·.1))) v from hv)
  | succ t => trivial
 ·intro i ver e' T' xs h
  cases i with
  | zero => cases h
  | succ i =>
   cases i with
   | zero => cases h
   | succ i => cases h
end
end Go.Proofs.YtebbcofojchkpaaGreatDoor.Am
namespace Go.Proofs
open Go.Shelf
def Tryz.keysA_ren : Go.Shelf.Ren := ⟨fun | 7 => 43 | 10 => 97 | n => n, fun | 23 => 73 | 26 => 3 | 3 => 81 | 28 => 88 | 0 => 0 | 27 => 87 | 33 => 101 | 4 => 4 | n => n, fun | n => n⟩
theorem Tryz.keysA : Go.Proofs.SlLaysZI.n7 Tryz.prog Tryz.keysA_ren := {
  mixed := by kernel_rfl
  f7 := ⟨Tryz.f43.name, by decide, Tryz.func43.trans (congrArg some (by kernel_rfl))⟩
  f10 := ⟨Tryz.f97.name, by decide, Tryz.func97.trans (congrArg some (by kernel_rfl))⟩
  t0 := Tryz.underlying0
  a0 := Tryz.isAgg0
  z0 := Tryz.sizeOf0
  v0 := Tryz.zeroValue0
  t4 := Tryz.underlying4
  a4 := Tryz.isAgg4
  z4 := Tryz.sizeOf4
  v4 := Tryz.zeroValue4
  t23 := Tryz.underlying73
  a23 := Tryz.isAgg73
  z23 := Tryz.sizeOf73
  v23 := Tryz.zeroValue73
  t26 := Tryz.underlying3
  a26 := Tryz.isAgg3
  z26 := Tryz.sizeOf3
  v26 := Tryz.zeroValue3
  t27 := Tryz.underlying87
  a27 := Tryz.isAgg87
  z27 := Tryz.sizeOf87
  v27 := Tryz.zeroValue87
  t28 := Tryz.underlying88
  a28 := Tryz.isAgg88
  z28 := Tryz.sizeOf88
  v28 := Tryz.zeroValue88
  t33 := Tryz.underlying101
  a33 := Tryz.isAgg101
  z33 := Tryz.sizeOf101
  v33 := Tryz.zeroValue101 }
def Tryz.sortedA_ren : Go.Shelf.Ren := ⟨fun | 6 => 42 | 8 => 95 | 9 => 96 | 11 => 143 | 13 => 145 | 12 => 144 | 23 => 178 | 24 => 179 | 14 => 169 | 15 => 170 | 16 => 171 | 17 => 172 | 18 => 173 | 19 => 174 | 20 => 175 | 21 => 176 | 22 => 177 | 25 => 197 | 26 => 198 | 27 => 199 | 28 => 200 | 29 => 201 | 30 => 202 | 31 => 214 | n => n, fun | 26 => 3 | 28 => 88 | 24 => 44 | 0 => 0 | 3 => 3 | 37 => 137 | 48 => 164 | 50 => 167 | 4 => 4 | 40 => 188 | 39 => 187 | 45 => 71 | 5 => 5 | 9 => 9 | 51 => 211 | 55 => 215 | 57 => 230 | 58 => 231 | 33 => 101 | n => n, fun | n => n⟩
theorem Tryz.sortedA : Go.Proofs.SlLaysZI.n6 Tryz.prog Tryz.sortedA_ren := {
  mixed := by kernel_rfl
  f6 := ⟨Tryz.f42.name, by decide, Tryz.func42.trans (congrArg some (by kernel_rfl))⟩
  f8 := ⟨Tryz.f95.name, by decide, Tryz.func95.trans (congrArg some (by kernel_rfl))⟩
  f11 := ⟨Tryz.f143.name, by decide, Tryz.func143.trans (congrArg some (by kernel_rfl))⟩
  t0 := Tryz.underlying0
  a0 := Tryz.isAgg0
  z0 := Tryz.sizeOf0
  v0 := Tryz.zeroValue0
  t24 := Tryz.underlying44
  a24 := Tryz.isAgg44
  z24 := Tryz.sizeOf44
  v24 := Tryz.zeroValue44
  t26 := Tryz.underlying3
  a26 := Tryz.isAgg3
  z26 := Tryz.sizeOf3
  v26 := Tryz.zeroValue3
  t28 := Tryz.underlying88
  a28 := Tryz.isAgg88
  z28 := Tryz.sizeOf88
  v28 := Tryz.zeroValue88
  i26 := by kernel_rfl }
def Tryz.sortA_ren : Go.Shelf.Ren := ⟨fun | 5 => 96 | 8 => 145 | 7 => 144 | 19 => 178 | 20 => 179 | 10 => 169 | 11 => 170 | 12 => 171 | 13 => 172 | 14 => 173 | 15 => 174 | 16 => 175 | 17 => 176 | 18 => 177 | 30 => 197 | 31 => 198 | 32 => 199 | 33 => 200 | 34 => 201 | 35 => 202 | 40 => 214 | n => n, fun | 23 => 44 | 25 => 3 | 3 => 3 | 32 => 137 | 22 => 44 | 0 => 0 | 44 => 164 | 46 => 167 | 4 => 4 | 36 => 188 | 35 => 187 | 41 => 71 | 5 => 5 | 9 => 9 | 53 => 211 | 57 => 215 | 63 => 230 | 64 => 231 | n => n, fun | n => n⟩
theorem Tryz.sortA : Go.Proofs.SlLaysM.n5 Tryz.prog Tryz.sortA_ren := {
  mixed := by kernel_rfl
  f5 := ⟨Tryz.f96.name, by decide, Tryz.func96.trans (congrArg some (by kernel_rfl))⟩
  f7 := ⟨Tryz.f144.name, by decide, Tryz.func144.trans (congrArg some (by kernel_rfl))⟩
  f8 := Tryz.func145.trans (congrArg some (by kernel_rfl))
  f10 := ⟨Tryz.f169.name, by decide, Tryz.func169.trans (congrArg some (by kernel_rfl))⟩
  f11 := ⟨Tryz.f170.name, by decide, Tryz.func170.trans (congrArg some (by kernel_rfl))⟩
  f12 := ⟨Tryz.f171.name, by decide, Tryz.func171.trans (congrArg some (by kernel_rfl))⟩
  f13 := ⟨Tryz.f172.name, by decide, Tryz.func172.trans (congrArg some (by kernel_rfl))⟩
  f14 := ⟨Tryz.f173.name, by decide, Tryz.func173.trans (congrArg some (by kernel_rfl))⟩
  f15 := ⟨Tryz.f174.name, by decide, Tryz.func174.trans (congrArg some (by kernel_rfl))⟩
  f16 := ⟨Tryz.f175.name, by decide, Tryz.func175.trans (congrArg some (by kernel_rfl))⟩
  f17 := ⟨Tryz.f176.name, by decide, Tryz.func176.trans (congrArg some (by kernel_rfl))⟩
  f18 := ⟨Tryz.f177.name, by decide, Tryz.func177.trans (congrArg some (by kernel_rfl))⟩
  f19 := Tryz.func178.trans (congrArg some (by kernel_rfl))
  f20 := Tryz.func179.trans (congrArg some (by kernel_rfl))
  f30 := ⟨Tryz.f197.name, by decide, Tryz.func197.trans (congrArg some (by kernel_rfl))⟩
  f31 := Tryz.func198.trans (congrArg some (by kernel_rfl))
  f32 := Tryz.func199.trans (congrArg some (by kernel_rfl))
  f33 := ⟨Tryz.f200.name, by decide, Tryz.func200.trans (congrArg some (by kernel_rfl))⟩
  f34 := ⟨Tryz.f201.name, by decide, Tryz.func201.trans (congrArg some (by kernel_rfl))⟩
  f35 := ⟨Tryz.f202.name, by decide, Tryz.func202.trans (congrArg some (by kernel_rfl))⟩
  f40 := ⟨Tryz.f214.name, by decide, Tryz.func214.trans (congrArg some (by kernel_rfl))⟩
  t0 := Tryz.underlying0
  a0 := Tryz.isAgg0
  z0 := Tryz.sizeOf0
  v0 := Tryz.zeroValue0
  t3 := Tryz.underlying3
  a3 := Tryz.isAgg3
  z3 := Tryz.sizeOf3
  v3 := Tryz.zeroValue3
  t4 := Tryz.underlying4
  a4 := Tryz.isAgg4
  z4 := Tryz.sizeOf4
  v4 := Tryz.zeroValue4
  t5 := Tryz.underlying5
  a5 := Tryz.isAgg5
  z5 := Tryz.sizeOf5
  v5 := Tryz.zeroValue5
  t9 := Tryz.underlying9
  a9 := Tryz.isAgg9
  z9 := Tryz.sizeOf9
  v9 := Tryz.zeroValue9
  t22 := Tryz.underlying44
  a22 := Tryz.isAgg44
  z22 := Tryz.sizeOf44
  v22 := Tryz.zeroValue44
  t23 := Tryz.underlying44
  a23 := Tryz.isAgg44
  z23 := Tryz.sizeOf44
  v23 := Tryz.zeroValue44
  t25 := Tryz.underlying3
  a25 := Tryz.isAgg3
  z25 := Tryz.sizeOf3
  v25 := Tryz.zeroValue3
  t32 := Tryz.underlying137
  a32 := Tryz.isAgg137
  z32 := Tryz.sizeOf137
  v32 := Tryz.zeroValue137
  t35 := Tryz.underlying187
  a35 := Tryz.isAgg187
  z35 := Tryz.sizeOf187
  v35 := Tryz.zeroValue187
  t36 := Tryz.underlying188
  a36 := Tryz.isAgg188
  z36 := Tryz.sizeOf188
  v36 := Tryz.zeroValue188
  t41 := Tryz.underlying71
  a41 := Tryz.isAgg71
  z41 := Tryz.sizeOf71
  v41 := Tryz.zeroValue71
  t44 := Tryz.underlying164
  a44 := Tryz.isAgg164
  z44 := Tryz.sizeOf164
  v44 := Tryz.zeroValue164
  t46 := Tryz.underlying167
  a46 := Tryz.isAgg167
  z46 := Tryz.sizeOf167
  v46 := Tryz.zeroValue167
  t53 := Tryz.underlying211
  a53 := Tryz.isAgg211
  z53 := Tryz.sizeOf211
  v53 := Tryz.zeroValue211
  t57 := Tryz.underlying215
  a57 := Tryz.isAgg215
  z57 := Tryz.sizeOf215
  v57 := Tryz.zeroValue215
  t63 := Tryz.underlying230
  a63 := Tryz.isAgg230
  z63 := Tryz.sizeOf230
  v63 := Tryz.zeroValue230
  t64 := Tryz.underlying231
  a64 := Tryz.isAgg231
  z64 := Tryz.sizeOf231
  v64 := Tryz.zeroValue231 }
end Go.Proofs
namespace Go.Proofs
open Go.RowKit Go.Maps Go.Sort Go.Shelf
theorem YtebbcofojchkpaaGreatDoor.sortsA (m : Nat) : AnyZI.SortsIn Tryz.prog Tryz.sortedA_ren Fence.wide m :=
 ⟨fun blk off cap ss W hH hblk hsz => callsIn_wide.2 (AnyM.slices_Sort_int Tryz.sortA blk off cap ss W hH hblk hsz),
  fun p cap W => callsIn_wide.2 (AnyM.slices_Sort_int_none Tryz.sortA p cap W)⟩
theorem YtebbcofojchkpaaGreatDoor.sortedIK (Bm b nn : Nat) (D0 : DataW Unit) (w : World) (hB : Bm < w.heap.size) (hc : w.cell? ⟨Bm, 0, none⟩ = some (.map (some b))) (ho : w.ownsMap Tryz.prog 3 YtebbcofojchkpaaGreatDoor.Am.anyVI b nn D0) (hmax : Maps.size D0 ≤ maxLen) (hb : Maps.size D0 * 8 ≤ 140737488355328) :
  Calls Tryz.prog 42 #[.func (.func 97) #[] #[.pointer (some ⟨Bm, 0, none⟩)]] w fun e w' => ∃ (v : Value) (ss : List Int), e = .returned v ∧ ss.Perm (intKeys D0) ∧ w'.ownsRow w.heap.size 3 1 v ss.length ((ss.mergeSort (fun x y => decide (x ≤ y))).map encZ) ∧ (v = .slice none 0 0 ↔ ss = []) ∧ Below w.heap.size w w' := by
 have hseq : SeqGives Fence.wide 2 Tryz.prog 97 #[.pointer (some ⟨Bm, 0, none⟩)] encZ (fun ss => ss.Perm (intKeys D0)) (Maps.size D0) w :=
  AnyZI.keys_gives (ρ := Tryz.keysA_ren) { Tryz.keysA with } Fence.wide _ trivial rfl (by omega) Bm b nn D0 _ hB hc ho
 have cS := AnyZI.sorted_in Tryz.sortedA Fence.wide 5 trivial trivial trivial trivial rfl (by omega) (YtebbcofojchkpaaGreatDoor.sortsA _) (enters_of Tryz.func96 (by kernel_rfl) rfl) 97 #[.pointer (some ⟨Bm, 0, none⟩)] trivial (enters_of Tryz.func97 (by kernel_rfl) rfl) _ _ hmax hb _ hseq
 exact (callsIn_wide (n := 5)).1 cS
end Go.Proofs
namespace Go.Proofs.YtebbcofojchkpaaGreatDoor.Am
open Go Go.RowKit
section
variable {P : Program} {G : List (Nat × Obj)}
def ymV (e : Ty) (n : Int) : Option (List (den e)) := bif decide (0 ≤ n) && decide (n ≤ 1048576) then some [] else none
theorem ywI {f : FuncId} {e : Ty} {E : TypeId} (hfn : IsFn P f)
  (hc : ∀ (n : Nat) (w : World), n ≤ 1048576 → Calls P f #[.slice none 0 0, .int .i64 (n : Int)] w fun x w' => ∃ v, x = .returned v ∧ ((v = .slice none 0 0 ∧ w' = w) ∨ ∃ cap arr, v = .slice (some ⟨w.heap.size, 0, none⟩) 0 cap ∧ w' = w.drew.alloc (.cells arr E) ∧ cap * tsz e ≤ arr.size)) :
  SCok P G f ⟨⟨[(0, .nils), (1, .h (.i .i64))], []⟩, 1, [(none, ⟨[(0, .own 0)], [.osl e E]⟩)], fun (n : Int) => ymV e n⟩ := by
 obtain ⟨q, hq⟩ := zeF e
 have e0 : ∀ y : den (.sl e), zcU [.osl e E] [.v (.sl e) y] = [.osl 0 e E y] := fun y => by rw [zcU, hq]; rfl
 refine ⟨hfn, fun S0 w0 us E0 L0 (x : Int) (d : List (den e)) _ hul R hy => ?_⟩
 have hy : ymV e x = some d := hy
 unfold ymV at hy
 obtain ⟨hb, hy⟩ := zaC hy
 cases hy
 simp only [Bool.and_eq_true, decide_eq_true_eq] at hb
 obtain ⟨n, rfl⟩ := Int.eq_ofNat_of_zero_le hb.1
 have hul : us.length = 2 := hul
 obtain ⟨u, u2, rfl⟩ : ∃ u u2, us = [u, u2] := by
  match us, hul with
  | [u, u2], _ => exact ⟨u, u2, rfl⟩
 have hu : u = .slice none 0 0 := R.sl 0
 have hu2 : rep (.i .i64) S0 [u2] (n : Int) := R.sl 1
 have hu2 : u2 = .int .i64 (n : Int) := by have h : [u2] = [Value.int .i64 (n : Int)] := hu2; injection h
 subst hu; subst hu2
 have hL : L0 = [] := List.eq_nil_of_length_eq_zero R.lL
 have hE : E0 = [] := List.eq_nil_of_length_eq_zero R.lE
 subst hL; subst hE
 have fin : ∀ {v : Value} {w' : World} {q : Res}, HS ⟨S0, zcA [], w0⟩ S0 w' [q] → (∃ cs rs, q = .osl v 0 (tsz e) cs rs E ∧ cs = []) → v.oneCell' = true → ∃ v', Ending.returned v = .returned v' ∧ ∃ S' E' L' σo V', (∀ {γ : Type} (k : Ex → St → Option γ), out [] [(none, (⟨[(0, .own 0)], [.osl e E]⟩ : Shp))] ([] : List (den e)) k = k .normal σo) ∧ Mem.le S0 S' ∧ Pin 0 [] E' ∧ RelV ⟨S0, zcA [], w0⟩ S' E' L' σo V' w' ∧ Ver0 σo.hp ∧ 0 ≤ σo.hp.length ∧ v' = ybE (zzJ V' 0 1) := fun {v w' q} H hq0 h1 => by
  obtain ⟨cs, rs, rfl, rfl⟩ := hq0
  refine ⟨v, rfl, S0, [.osl 0 v (tsz e)], [.osl v 0 (tsz e) [] rs E], ⟨[(0, .own 0 0)], [.osl 0 e E []]⟩, fun _ => v, fun k => ?_, Mem.le_refl _, fun k e hk => absurd hk (Nat.not_lt_zero k), ⟨H, rfl, rfl, fun i o h => ?_, fun t => ?_⟩, ?_, Nat.zero_le _, rfl⟩
  ·show k (exOf none) ((Shp.put _ _).app []) = _
   rw [show (Shp.put (⟨[(0, .own 0)], [.osl e E]⟩ : Shp) ([] : List (den e))) = ⟨[(0, .own 0 0)], [.osl 0 e E []]⟩ from congrArg (fun hp => (⟨[(0, .own 0 0)], hp⟩ : St)) (e0 _)]
   rfl
  ·cases i with
   | zero => cases h; exact ⟨_, _, rfl, rfl, v, v, [], rs, rfl, rfl, rfl, .inl rfl⟩
   | succ i => simp at h
  ·cases t with
   | zero => exact VR.ofC (show VC S0 _ (.own 0 0) v from ⟨h1, _, rfl, fun r v' s he => by cases he; exact ⟨Nat.le_refl 0, fun _ => rfl⟩⟩)
   | succ t => trivial
  ·intro i ver e' T' xs' hi
   cases i with
   | zero => cases hi; rfl
   | succ i => simp at hi
 refine (hc n w0 (by have := hb.2; omega)).mono ?_
 rintro x w' ⟨v, rfl, ⟨rfl, rfl⟩ | ⟨cap, arr, rfl, rfl, hcap⟩⟩
 ·exact fin (HS.nil R.hs _ _) ⟨[], [], rfl, rfl⟩ rfl
 ·refine fin (R.hs.push (Ext.trans (Ext.drew w0) (Ext.alloc w0.drew _)) (r := .osl (sl w0.heap.size 0 0 cap) 0 (tsz e) [] arr.toList E) (.inr ⟨w0.heap.size, cap, (0, 0), rfl, Nat.zero_le _, by simp, by simpa using hcap, by simpa using zaE w0.drew _, .inl rfl⟩) fun b hb => by cases hb; exact Nat.le_refl _) ⟨[], arr.toList, rfl, rfl⟩ rfl
end
end Go.Proofs.YtebbcofojchkpaaGreatDoor.Am
namespace Go.Proofs
open Go.Shelf
def Tryz.growS_ren : Go.Shelf.Ren := ⟨fun | 4 => 102 | n => n, fun | 22 => 45 | 25 => 9 | 3 => 3 | 4 => 4 | 9 => 9 | 20 => 20 | 0 => 0 | n => n, fun | n => n⟩
theorem Tryz.growS : Go.Proofs.Lays8.n4 Tryz.prog Tryz.growS_ren := {
  mixed := by kernel_rfl
  f4 := ⟨Tryz.f102.name, by decide, Tryz.func102.trans (congrArg some (by kernel_rfl))⟩
  t0 := Tryz.underlying0
  a0 := Tryz.isAgg0
  z0 := Tryz.sizeOf0
  v0 := Tryz.zeroValue0
  t3 := Tryz.underlying3
  a3 := Tryz.isAgg3
  z3 := Tryz.sizeOf3
  v3 := Tryz.zeroValue3
  t4 := Tryz.underlying4
  a4 := Tryz.isAgg4
  z4 := Tryz.sizeOf4
  v4 := Tryz.zeroValue4
  t9 := Tryz.underlying9
  a9 := Tryz.isAgg9
  z9 := Tryz.sizeOf9
  v9 := Tryz.zeroValue9
  t20 := Tryz.underlying20
  a20 := Tryz.isAgg20
  z20 := Tryz.sizeOf20
  v20 := Tryz.zeroValue20
  t22 := Tryz.underlying45
  a22 := Tryz.isAgg45
  z22 := Tryz.sizeOf45
  v22 := Tryz.zeroValue45 }
end Go.Proofs
namespace Go.Proofs.YtebbcofojchkpaaGreatDoor.Am
open Go Go.RowKit
theorem growK (n : Nat) (w : World) (hn : n ≤ 1048576) : Calls Tryz.prog 102 #[.slice none 0 0, .int .i64 (n : Int)] w fun x w' => ∃ v, x = .returned v ∧ ((v = .slice none 0 0 ∧ w' = w) ∨ ∃ cap arr, v = .slice (some ⟨w.heap.size, 0, none⟩) 0 cap ∧ w' = w.drew.alloc (.cells arr 9) ∧ cap * tsz .s ≤ arr.size) := by
 obtain ⟨i0, hi, hz, hs, hb⟩ := (ygU (P := Tryz.prog) (τ := [(9, ⟨.s, 1, [.v .s (show Bs from [])], .s, 16⟩)]) (by kernel_rfl) (by kernel_rfl) 9 _ rfl).i
 have hs : i0.size = 1 := hs
 have hb : i0.bytes = 16 := hb
 rcases Nat.eq_zero_or_pos n with rfl | h0
 ·refine (Any8.slices_Grow_room Tryz.growS none 0 0 0 w (by omega) (by omega) (by omega) (by omega)).mono ?_
  rintro _ _ ⟨rfl, rfl⟩; exact ⟨_, rfl, .inl ⟨rfl, rfl⟩⟩
 ·refine (Any8.slices_Grow_grow Tryz.growS i0 _ hi hz (by omega) none 0 0 n [] w (by omega) (by omega) (by rw [hb]; omega) (by omega) (by simp) (fun _ => rfl) (fun a h => by cases h)).mono ?_
  rintro _ _ ⟨rfl, rfl⟩
  refine ⟨_, rfl, .inr ⟨_, _, rfl, rfl, ?_⟩⟩
  have hge := grownCap_ge w (0 + n) 0 9
  simp only [Array.size_append, size_zeroCells, List.size_toArray, List.length_nil]
  have h1 : (Value.cells (zV (⟨.s, 1, [.v .s (show Bs from [])], .s, 16⟩ : TI))).size = 1 := rfl
  rw [h1]
  show _ * 1 ≤ _
  have h2 : grownCap w (0 + n) 0 9 = grownCap w (0 + n) 0 (Tryz.growS_ren.t 25) := rfl
  rw [← h2]
  omega
end Go.Proofs.YtebbcofojchkpaaGreatDoor.Am
