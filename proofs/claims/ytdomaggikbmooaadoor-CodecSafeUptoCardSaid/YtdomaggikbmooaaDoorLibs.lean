/- Some functions of package strings: what they compute, and that they do. Conditions: as each theorem says. -/
import Derived.Test.YtdomaggikbmooaaDoorShelf
import Derived.Test.YtdomaggikbmooaaDoorBld
import Derived.Lib.SplitLaws
import Derived.Lib.ReplaceLaws
namespace Go.Proofs.YtdomaggikbmooaaDoor
open Go Go.RowKit
def Cut_p (s sep : List UInt8) : Option (List UInt8 × List UInt8 × Bool) := bif decide (s.length < 4294967281) then some (Lib.cut s sep) else none
theorem Cut_c {S : Mem} {w : World} (hS : Sub S w) (hG : GV S) {x0 x1 : List UInt8} {r : List UInt8 × List UInt8 × Bool} (hF : Cut_p x0 x1 = some r) :
    Calls Tryd.prog 37 #[str x0, str x1] w fun e w' => e = .returned (.tuple #[str (r.1), str (r.2.1), .bool (r.2.2)]) ∧ Ext w w' := by
  unfold Cut_p at hF
  by_cases h : x0.length < 4294967281
  · simp only [h, decide_true, cond_true, Option.some.injEq] at hF
    subst hF
    obtain ⟨m, hm⟩ := hG.cell hS
    refine (Tryd.strings_Cut ⟨x0.toArray⟩ ⟨x1.toArray⟩ m w (by rw [str_size]; exact h) hm).mono ?_
    rintro _ w' ⟨rfl, n, rfl⟩
    refine ⟨rfl, ?_⟩
    exact ⟨rfl, rfl, rfl, Nat.le_refl _, fun _ _ => rfl⟩
  · simp only [h, decide_false, cond_false] at hF; cases hF
def ascii (l : List UInt8) : Bool := l.all fun b => decide (b.toNat < 128)
def ContainsAny_p (s chars : List UInt8) : Option Bool := bif decide (s.length < 4294967281) && decide (chars.length < 4294967281) && ascii s && ascii chars then some (Lib.containsAny s chars) else none
theorem ascii_at {l : List UInt8} (h : ascii l = true) : ∀ (j : Nat) b, l[j]? = some b → b.toNat < 128 := fun j b hj => by
  have := List.all_eq_true.1 h b (List.mem_of_getElem? hj)
  simpa using this
theorem ContainsAny_c {S : Mem} {w : World} (_hS : Sub S w) {x0 x1 : List UInt8} {r : Bool} (hF : ContainsAny_p x0 x1 = some r) :
    Calls Tryd.prog 39 #[str x0, str x1] w fun e w' => e = .returned (.bool (r)) ∧ Ext w w' := by
  unfold ContainsAny_p at hF
  cases h : (decide (x0.length < 4294967281) && decide (x1.length < 4294967281) && ascii x0 && ascii x1) with
  | false => rw [h] at hF; cases hF
  | true =>
    rw [h] at hF
    simp only [cond_true, Option.some.injEq] at hF
    subst hF
    simp only [Bool.and_eq_true, decide_eq_true_eq] at h
    exact Tryd.strings_ContainsAny_laid ⟨x0.toArray⟩ ⟨x1.toArray⟩ w (by rw [str_size]; exact h.1.1.1) (by rw [str_size]; exact h.1.1.2) (ascii_at h.1.2) (ascii_at h.2)
def Join_p (xs : List (List UInt8)) (sep : List UInt8) : Option (List UInt8) := bif decide (xs.length ≤ 68719476736) && decide ((Lib.join xs sep).length ≤ 68719476736) then some (Lib.join xs sep) else none
theorem RL.strs {S : Mem} : ∀ {xs : List (List UInt8)} {cs : List Value}, RL S cs xs → cs = xs.map str
  | [], _, h => h
  | x :: xs, _, ⟨c, d, e, h1, h2⟩ => by rw [e, elT h1, RL.strs h2]; rfl
theorem Join_c {S : Mem} {w : World} (hS : Sub S w) {v0 : Value} {x0 : List (List UInt8)} (h0 : RdS S v0 x0) {x1 : List UInt8} {r : List UInt8} (hF : Join_p x0 x1 = some r) :
    Calls Tryd.prog 42 #[v0, str x1] w fun e w' => e = .returned (str (r)) ∧ Ext w w' := by
  unfold Join_p at hF
  cases h : (decide (x0.length ≤ 68719476736) && decide ((Lib.join x0 x1).length ≤ 68719476736)) with
  | false => rw [h] at hF; cases hF
  | true =>
    rw [h] at hF
    simp only [cond_true, Option.some.injEq] at hF
    subst hF
    simp only [Bool.and_eq_true, decide_eq_true_eq] at h
    obtain ⟨cs, h1, h2⟩ := h0
    have hcs := RL.strs h2
    have hm : (x0.map fun l => (⟨l.toArray⟩ : ByteArray)).map (·.data.toList) = x0 := by
      rw [List.map_map]; conv => rhs; rw [← List.map_id x0]
      refine List.map_congr_left fun l _ => ?_
      simp
    rcases h1 with ⟨rfl, hn, _⟩ | ⟨b, o, c, ds, T, fz, rfl, hc, hb, ho, hp⟩
    · obtain rfl : x0 = [] := List.eq_nil_of_length_eq_zero hn
      refine (Tryd.strings_Join_none none 0 ⟨x1.toArray⟩ w).mono ?_
      rintro _ w' ⟨rfl, rfl⟩
      exact ⟨rfl, Ext.refl _⟩
    · have hbw := hS _ _ hb
      have hj := Tryd.strings_Join b o c (x0.map fun l => (⟨l.toArray⟩ : ByteArray)) ⟨x1.toArray⟩ w (fun j x hx => by
        rw [cell_of_F hbw]
        have hjl : j < x0.length := by have := (List.getElem?_eq_some_iff.1 hx).1; simpa using this
        have h5 : (piece ds o (x0.length * Rp.sz (List UInt8)))[j]? = (x0.map str)[j]? := by rw [hp, hcs]
        rw [piece_eq, List.getElem?_take, if_pos (show j < x0.length * Rp.sz (List UInt8) from by show j < x0.length * 1; omega), List.getElem?_drop] at h5
        rw [h5]
        rw [List.getElem?_map] at hx ⊢
        obtain ⟨l, hl, rfl⟩ := Option.map_eq_some_iff.1 hx
        rw [hl]; rfl) (lt_of_heap hbw) (by simp; omega) (by simpa using hc) (by rw [hm]; have := h.2; simp only; omega)
      rw [hm] at hj
      rw [List.length_map] at hj
      refine hj.mono ?_
      rintro _ w' ⟨rfl, hx⟩
      exact ⟨rfl, hx⟩
def Split_p (s sep : List UInt8) : Option (List (List UInt8)) := bif decide (s.length < 4294967281) && decide (1 ≤ sep.length) then some (Lib.split s sep) else none
theorem RL.of_strs (S : Mem) : ∀ (xs : List (List UInt8)), RL S (xs.map str) xs
  | [] => rfl
  | _ :: xs => ⟨_, _, rfl, rpT, RL.of_strs S xs⟩
theorem RdS.newRow {S : Mem} {w : World} {xs : List (List UInt8)} {T : TypeId} : RdS (gr S w (w.alloc (.cells (xs.map str).toArray T))) (sl w.heap.size 0 xs.length xs.length) xs := by
  refine ⟨xs.map str, .inr ⟨w.heap.size, 0, xs.length, xs.map str, T, (0, 0), rfl, Nat.le_refl _, ?_, ?_, ?_⟩, RL.of_strs _ xs⟩
  · unfold gr; rw [if_neg (Nat.lt_irrefl _)]; exact heap_alloc_self w _
  · rw [List.length_map]; show 0 + xs.length * 1 ≤ _; omega
  · rw [piece_eq, List.drop_zero, List.take_of_length_le (by rw [List.length_map]; show _ ≤ xs.length * 1; omega)]
theorem Split_c {S : Mem} {w : World} (hS : Sub S w) (hG : GV S) {x0 x1 : List UInt8} {r : List (List UInt8)} (hF : Split_p x0 x1 = some r) :
    Calls Tryd.prog 44 #[str x0, str x1] w fun e w' => Ext w w' ∧ ∃ (v0' : Value), e = .returned (v0') ∧ RdS (gr S w w') v0' r := by
  unfold Split_p at hF
  cases h : (decide (x0.length < 4294967281) && decide (1 ≤ x1.length)) with
  | false => rw [h] at hF; cases hF
  | true =>
    rw [h] at hF
    simp only [cond_true, Option.some.injEq] at hF
    simp only [Bool.and_eq_true, decide_eq_true_eq] at h
    obtain ⟨m, hm⟩ := hG.cell hS
    refine (Tryd.strings_Split ⟨x0.toArray⟩ ⟨x1.toArray⟩ m w (by rw [str_size]; exact h.1) hm (by rw [str_size]; exact h.2)).mono ?_
    rintro _ w' ⟨rfl, rfl⟩
    have hlen := Lib.splitB_all ⟨x1.toArray⟩ (by rw [str_size]; exact h.2) 0 (Lib.countB ⟨x0.toArray⟩ ⟨x1.toArray⟩) ⟨x0.toArray⟩ rfl
    have hdata := Lib.splitB_data ⟨x1.toArray⟩ 0 (Lib.countB ⟨x0.toArray⟩ ⟨x1.toArray⟩) ⟨x0.toArray⟩
    have hF' : (Lib.splitB ⟨x1.toArray⟩ 0 (Lib.countB ⟨x0.toArray⟩ ⟨x1.toArray⟩) ⟨x0.toArray⟩).map (fun b => b.data.toList) = r := by rw [hdata, ← hF]; simp [Lib.split, Lib.countB]
    clear hF; have hF := hF'
    have hmap : (Lib.splitB ⟨x1.toArray⟩ 0 (Lib.countB ⟨x0.toArray⟩ ⟨x1.toArray⟩) ⟨x0.toArray⟩).map Value.string = r.map str := by
      rw [← hF, List.map_map]
      refine List.map_congr_left fun b _ => ?_
      simp [str]
    have hrl : r.length = Lib.countB ⟨x0.toArray⟩ ⟨x1.toArray⟩ + 1 := by rw [← hF, List.length_map, hlen]
    rw [hmap, ← hrl]
    exact ⟨Ext.alloc w _, _, rfl, RdS.newRow⟩
def ReplaceAll_p (s old new : List UInt8) : Option (List UInt8) := bif decide (s.length < 4294967281) && decide (1 ≤ old.length) && decide (s.length + Lib.countB ⟨s.toArray⟩ ⟨old.toArray⟩ * new.length ≤ 140737488355328) then some (Lib.replaceAll s old new) else none
theorem ReplaceAll_c {S : Mem} {w : World} (hS : Sub S w) (hG : GV S) {x0 x1 x2 : List UInt8} {r : List UInt8} (hF : ReplaceAll_p x0 x1 x2 = some r) :
    Calls Tryd.prog 45 #[str x0, str x1, str x2] w fun e w' => e = .returned (str (r)) ∧ Ext w w' := by
  unfold ReplaceAll_p at hF
  cases h : (decide (x0.length < 4294967281) && decide (1 ≤ x1.length) && decide (x0.length + Lib.countB ⟨x0.toArray⟩ ⟨x1.toArray⟩ * x2.length ≤ 140737488355328)) with
  | false => rw [h] at hF; cases hF
  | true =>
    rw [h] at hF
    simp only [cond_true, Option.some.injEq] at hF
    subst hF
    simp only [Bool.and_eq_true, decide_eq_true_eq] at h
    obtain ⟨m, hm⟩ := hG.cell hS
    exact Tryd.strings_ReplaceAll ⟨x0.toArray⟩ ⟨x1.toArray⟩ ⟨x2.toArray⟩ m w (by rw [str_size]; exact h.1.1) hm (by rw [str_size]; exact h.1.2) (by rw [str_size, str_size]; exact h.2)
end Go.Proofs.YtdomaggikbmooaaDoor
