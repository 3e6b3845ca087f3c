/- Steps of a walk over the memory of the second way. Conditions: as each theorem says. -/
import Derived.Test.YtdomaggikbmooaaDoorRp
import Derived.Lib.ConvBytes
namespace Go.Proofs.YtdomaggikbmooaaDoor
open Go Go.RowKit

section
variable {P : Program} {ops : Array Oper} {Q : Exit → Act → World → Prop} {rest : List Oper} {n : Nat} {m : FM} {w w' : World} {B : Bas} {S : Mem} {L : List Res}
variable {d : Nat} {op : Op} {ty : TypeId} {pos : String} {aft : Array Edge} {c v u : Value} {x y z lo hi : Operand} {T E T' : TypeId}

/-! ### Frames -/
theorem nameF {c : Code} (h : ∀ m0, (∀ t, look m0 t = look m t) → c.wp P Q (fr n m0) w) : c.wp P Q (fr n m) w := h m fun _ => rfl
theorem nameL (h : ∀ m0, (∀ t, look m0 t = look m t) → wpList P ops Q rest (fr n m0) w) : wpList P ops Q rest (fr n m) w := h m fun _ => rfl
theorem keep_refl (D : List Nat) (m : FM) : ∀ t, has D t = false → look m t = look m t := fun _ _ => rfl

theorem p_new (h : (execOp (ev n m) ⟨some d, op, ty, pos, aft, none⟩).run P w = .ok (.value c) w') (hr : wpList P ops Q rest (fr n ((d, c) :: m)) w') :
    wpList P ops Q (⟨some d, op, ty, pos, aft, none⟩ :: rest) (fr n m) w :=
  wpList_plain rfl fun K hK => by
    unfold Oper.wp; rw [eval_fr, h]; simp only [Oper.upon, put_fr]; exact hK _ _ hr
theorem p_void (h : (execOp (ev n m) ⟨none, op, ty, pos, aft, none⟩).run P w = .ok .skip w') (hr : wpList P ops Q rest (fr n m) w') :
    wpList P ops Q (⟨none, op, ty, pos, aft, none⟩ :: rest) (fr n m) w :=
  wpList_plain rfl fun K hK => by
    unfold Oper.wp; rw [eval_fr, h]; simp only [Oper.upon, put_fr_none]; exact hK _ _ hr

/-- An operation that leaves another world. -/
theorem p_of1 {φ : World → Value → Prop} (h : ∃ w' v, (execOp (ev n m) ⟨some d, op, ty, pos, aft, none⟩).run P w = .ok (.value v) w' ∧ φ w' v) (hr : ∀ w' v, φ w' v → wpList P ops Q rest (fr n ((d, v) :: m)) w') :
    wpList P ops Q (⟨some d, op, ty, pos, aft, none⟩ :: rest) (fr n m) w := by
  obtain ⟨w', v, h1, h2⟩ := h
  exact p_new h1 (hr w' v h2)
theorem p_ofb {φ : World → Nat → Prop} (h : ∃ w' b, (execOp (ev n m) ⟨some d, op, ty, pos, aft, none⟩).run P w = .ok (.value (.pointer (some ⟨b, 0, none⟩))) w' ∧ φ w' b) (hr : ∀ w' b, φ w' b → wpList P ops Q rest (fr n ((d, .pointer (some ⟨b, 0, none⟩)) :: m)) w') :
    wpList P ops Q (⟨some d, op, ty, pos, aft, none⟩ :: rest) (fr n m) w := by
  obtain ⟨w', v, h1, h2⟩ := h
  exact p_new h1 (hr w' v h2)
theorem p_ofs {φ : World → Prop} (h : ∃ w', (execOp (ev n m) ⟨none, op, ty, pos, aft, none⟩).run P w = .ok .skip w' ∧ φ w') (hr : ∀ w', φ w' → wpList P ops Q rest (fr n m) w') :
    wpList P ops Q (⟨none, op, ty, pos, aft, none⟩ :: rest) (fr n m) w := by
  obtain ⟨w', h1, h2⟩ := h
  exact p_void h1 (hr w' h2)
section
variable {nh k : Nat} {Φ : Kinds} {W : World} {vs : Nat → Value} {Fin : Act → Prop}
theorem t_valFG {ol : List Oper} {j : Nat} {b t : Bool} (hg' : gvl ol n m j = some t) (ht : t = b) (h : ∀ w, Ext W w → factsL Φ vs w (depsOf ⟨some d, op, ty, pos, aft, some (j, b)⟩) → (execOp (ev n m) ⟨some d, op, ty, pos, aft, some (j, b)⟩).run P w = .ok (.value c) w) (hk : Φ k = none) (hf : floats ol.toArray nh k = false)
    (hr : wpT P ol.toArray nh Φ W vs Fin (k + 1) rest (fr n ((d, c) :: m))) : wpT P ol.toArray nh Φ W vs Fin k (⟨some d, op, ty, pos, aft, some (j, b)⟩ :: rest) (fr n m) :=
  wpT_pure hk hf (by simp only [Region.wanted, yielded_fr, gvl_eq, hg', ht]; simp) (fun w hx hF => by rw [eval_fr]; exact h w hx hF) (by rw [put_fr]; exact hr)
theorem t_skipU {ol : List Oper} {dst : Option Nat} {j : Nat} {b : Bool} (hg' : gvl ol n m j = none) (hk : Φ k = none) (hr : wpT P ol.toArray nh Φ W vs Fin (k + 1) rest ((fr n m).put dst undef)) :
    wpT P ol.toArray nh Φ W vs Fin k (⟨dst, op, ty, pos, aft, some (j, b)⟩ :: rest) (fr n m) :=
  wpT_skip hk (by simp only [Region.wanted, yielded_fr, gvl_eq, hg']; rfl) hr
end
/-! ### Loops -/
theorem loopI {σ β : Type} {body : σ → Option (σ ⊕ β)} {c : Code} {m0 : FM} (D : List Nat) (I : σ → FM → World → Prop) {s0 : σ} {out : β} (hL : iter body s0 = some out) (h0 : I s0 m0 w)
    (round : ∀ k s m w, (∀ t, has D t = false → look m t = look m0 t) → I s m w → ∀ o, body s = some o → jnO o (iterN body k) some = some out →
      c.wp P (Exit.then (fun a' w' => ∃ s' m', a' = fr n m' ∧ (∀ t, has D t = false → look m' t = look m0 t) ∧ I s' m' w' ∧ iterN body k s' = some out) Q) (fr n m) w) : (Code.loop c).wp P Q (fr n m0) w := by
  refine loopF D (fun g m w => ∃ s, I s m w ∧ iterN body g s = some out) FU ⟨s0, h0, hL⟩ ?_
  rintro g m w hk ⟨s, hI, hs⟩
  cases g with
  | zero => cases hs
  | succ g =>
    obtain ⟨o, h1, h2⟩ := jn_some hs
    refine wp_mono (round g s m w hk hI o h1 h2) fun e a' w' hq => ?_
    cases e with
    | normal =>
      obtain ⟨s', m', e1, e2, e3, e4⟩ := hq
      exact ⟨g, m', Nat.lt_succ_self g, e1, e2, s', e3, e4⟩
    | _ => exact hq

/-! ### New blocks -/
theorem a_box {l : List Value} {e : Operand → Value} {dst : Option Tmp} {g : Option (Nat × Bool)} (H : HS B S w L) (hx : e x = .agg l.toArray) :
    ∃ w' b, (execOp e ⟨dst, .box T x, ty, pos, aft, g⟩).run P w = .ok (.value (.pointer (some ⟨b, 0, none⟩))) w' ∧ HS B S w' (.blk b l T :: L) := by
  refine ⟨w.alloc (.cells l.toArray T), w.heap.size, ?_, H.push (Ext.alloc w _) (heap_alloc_self w _) fun b hb => by cases hb; exact Nat.le_refl _⟩
  simp [execOp, run_box, hx, Value.cells]
theorem a_box1 {e : Operand → Value} {dst : Option Tmp} {g : Option (Nat × Bool)} (H : HS B S w L) (hx : e x = v) (hv : v.oneCell' = true) :
    ∃ w' b, (execOp e ⟨dst, .box T x, ty, pos, aft, g⟩).run P w = .ok (.value (.pointer (some ⟨b, 0, none⟩))) w' ∧ HS B S w' (.blk b [v] T :: L) := by
  have hc : v.cells = #[v] := by cases v <;> first | rfl | simp [Value.oneCell'] at hv
  refine ⟨w.alloc (.cells [v].toArray T), w.heap.size, ?_, H.push (Ext.alloc w _) (heap_alloc_self w _) fun b hb => by cases hb; exact Nat.le_refl _⟩
  simp [execOp, run_box, hx, hc]
theorem a_alloc {l : List Value} {z : Value} {e : Operand → Value} {dst : Option Tmp} {g : Option (Nat × Bool)} (H : HS B S w L) (hz : TZero P T z) (hl : z.cells.toList = l) :
    ∃ w' b, (execOp e ⟨dst, .alloc T, ty, pos, aft, g⟩).run P w = .ok (.value (.pointer (some ⟨b, 0, none⟩))) w' ∧ HS B S w' (.blk b l T :: L) := by
  refine ⟨w.alloc (.cells l.toArray T), w.heap.size, ?_, H.push (Ext.alloc w _) (heap_alloc_self w _) fun b hb => by cases hb; exact Nat.le_refl _⟩
  simp [execOp, run_allocZ hz, ← hl]

/-! ### Cells written -/
theorem frozen_of {b i N : Nat} {cs : List Value} {fz : Nat × Nat} (h : w.heap[b]? = some (.cells cs.toArray T fz)) (hf : okfz fz N) (hi : i < N) : w.frozen? ⟨b, i, none⟩ = false := by
  obtain ⟨lo, hi'⟩ := fz
  simp only [World.frozen?, h]
  rcases hf with hf | hf
  · injection hf with h1 h2; subst h1; subst h2; simp
  · simp only at hf
    have : ¬ lo ≤ i := by omega
    simp [this]
theorem heap_setCell_F {b i : Nat} {v : Value} {cs : List Value} {fz : Nat × Nat} (h : w.heap[b]? = some (.cells cs.toArray T fz)) :
    (w.setCell ⟨b, i, none⟩ v).heap[b]? = some (.cells (cs.set i v).toArray T fz) := by
  have hlt := lt_of_blk h
  have h' : w.heap[b] = .cells cs.toArray T fz := by simpa [Array.getElem?_eq_getElem hlt] using h
  show (w.heap.modify b _)[b]? = _
  rw [Array.getElem?_eq_getElem (by simpa using hlt), Array.getElem_modify_self, h']
  simp
theorem cell_of_F {b i : Nat} {cs : List Value} {fz : Nat × Nat} (h : w.heap[b]? = some (.cells cs.toArray T fz)) : w.cell? ⟨b, i, none⟩ = cs[i]? := by
  simp [World.cell?, h]
theorem run_storeCellsF {b o : Nat} {fz : Nat × Nat} : ∀ (vs : List Value) (i : Nat) (w : World) (cs : List Value), (∀ v ∈ vs, v.oneCell' = true) → w.heap[b]? = some (.cells cs.toArray T fz) → okfz fz cs.length → o + i + vs.length ≤ cs.length →
    ∃ w', (storeCells ⟨b, o, none⟩ vs i).run P w = .ok () w' ∧ w'.heap[b]? = some (.cells (lay cs (o + i) vs).toArray T fz) ∧ w'.heap.size = w.heap.size ∧ w'.os = w.os ∧ w'.tape = w.tape ∧ w'.output = w.output ∧ ∀ j, j ≠ b → w'.heap[j]? = w.heap[j]?
  | [], i, w, cs, _, h, _, _ => ⟨w, by simp [storeCells], by have : lay cs (o + i) [] = cs := by cases cs <;> rfl
                                                             rw [this]; exact h, rfl, rfl, rfl, rfl, fun _ _ => rfl⟩
  | v :: vs, i, w, cs, hone, h, hfz, hlen => by
    have hi : o + i < cs.length := by simp only [List.length_cons] at hlen; omega
    have hc : w.cell? ⟨b, o + i, none⟩ = some cs[o + i] := by rw [cell_of_F h]; simp [hi]
    have hst := run_store P w ⟨b, o + i, none⟩ v .plain (hone v (by simp))
    rw [hc] at hst
    simp only [frozen_of h hfz hi, Bool.false_eq_true, if_false] at hst
    have h2 := heap_setCell_F (i := o + i) (v := v) h
    have hlen2 : o + (i + 1) + vs.length ≤ (cs.set (o + i) v).length := by rw [List.length_set]; simp only [List.length_cons] at hlen; omega
    obtain ⟨w', e, hb, hs, h4, h5, h6, h7⟩ := run_storeCellsF vs (i + 1) (w.setCell ⟨b, o + i, none⟩ v) (cs.set (o + i) v) (fun u hu => hone u (by simp [hu])) h2 (by rw [List.length_set]; exact hfz) hlen2
    refine ⟨w', ?_, ?_, ?_, h4, h5, h6, ?_⟩
    · show (do store ((⟨b, o, none⟩ : Addr).add i) v; storeCells ⟨b, o, none⟩ vs (i + 1) : Sem Unit).run P w = _
      rw [add_addr, Sem.run_bind, hst]
      exact e
    · rw [hb]
      congr 2
      apply congrArg List.toArray
      apply List.ext_getElem?
      intro j
      rw [lay_get, lay_get]
      simp only [List.length_cons, List.length_set]
      by_cases h1 : o + (i + 1) ≤ j ∧ j < o + (i + 1) + vs.length ∧ j < cs.length
      · rw [if_pos h1, if_pos (by omega), show j - (o + i) = (j - (o + (i + 1))) + 1 by omega]; simp
      · rw [if_neg h1]
        by_cases h3 : j = o + i
        · subst h3; rw [if_pos (by omega)]; simp [hi]
        · rw [if_neg (by omega), List.getElem?_set_ne (by omega)]
    · rw [hs]; simp [World.setCell]
    · intro j hj; rw [h7 j hj]; exact Below.heap_setCell _ _ _ _ (by simpa using hj)
theorem run_storeAtF {b o sz : Nat} {cs l : List Value} {fz : Nat × Nat} (hs : ∀ w, (sizeOf T).run P w = .ok sz w) (hv : v.cells = l.toArray) (h : w.heap[b]? = some (.cells cs.toArray T' fz)) (hf : okfz fz cs.length) (hlen : l.length = sz) (hone : ∀ u ∈ l, u.oneCell' = true) (hsz : o + sz ≤ cs.length) :
    ∃ w', (Instr.storeAt T (.pointer (some ⟨b, o, none⟩)) v).run P w = .ok () w' ∧ w'.heap[b]? = some (.cells (lay cs o l).toArray T' fz) ∧ w'.heap.size = w.heap.size ∧ w'.os = w.os ∧ w'.tape = w.tape ∧ w'.output = w.output ∧ ∀ j, j ≠ b → w'.heap[j]? = w.heap[j]? := by
  obtain ⟨w', e, hb, rest⟩ := run_storeCellsF (P := P) (o := o) l 0 w cs hone h hf (by omega)
  refine ⟨w', ?_, hb, rest⟩
  simp [Instr.storeAt, Instr.sureAddr, storeVar, hs w, hv, hlen, e]
/-- A value's cells. -/
def CellsOf (v : Value) (l : List Value) : Prop := v.cells = l.toArray
theorem cells_agg (l : List Value) : CellsOf (.agg l.toArray) l := rfl
theorem cells_one (h : v.oneCell' = true) : CellsOf v [v] := by
  unfold CellsOf
  cases v <;> first | rfl | simp [Value.oneCell'] at h
def TSz (P : Program) (T : TypeId) (sz : Nat) : Prop := ∀ w, (sizeOf T).run P w = .ok sz w
theorem TAgg.sz {sz : Nat} (h : TAgg P T sz) : TSz P T sz := h.2
theorem TOne.sz (h : TOne P T) : TSz P T 1 := h.2
section
variable {e : Operand → Value} {dst : Option Tmp} {g : Option (Nat × Bool)}
theorem a_store {sz b o k : Nat} {cs l : List Value} (ts : TSz P T sz) (H : HS B S w L) (hp : e x = .pointer (some ⟨b, o, none⟩)) (hk : lkR L k = some (.blk b cs T')) (hy : e y = v) (hv : CellsOf v l)
    (hlen : l.length = sz) (hone : ∀ u ∈ l, u.oneCell' = true) (hsz : Nat.ble (o + sz) cs.length = true) :
    ∃ w', (execOp e ⟨none, .store T x y, ty, pos, aft, g⟩).run P w = .ok .skip w' ∧ HS B S w' (stR L k (.blk b (lay cs o l) T')) := by
  obtain ⟨w', he, hb, hs, h4, h5, h6, h7⟩ := run_storeAtF ts hv (H.own k _ hk) (.inl rfl) hlen hone (Nat.le_of_ble_eq_true hsz)
  refine ⟨w', ?_, H.upd hk (by omega) h4 h5 h6 (fun i _ hne => h7 i fun e => hne (by rw [e]; rfl)) hb fun b' hb' => .inl hb'⟩
  simp only [execOp, hp, hy, Sem.run_bind, he, Result.andThen, Sem.run_pure]
/-- An element of an own slice written. -/
theorem a_storeO {sz b i k M N c0 : Nat} {cs rs l : List Value} (ts : TSz P T sz) (H : HS B S w L) (hk : lkR L k = some (.osl (sl b 0 M c0) N sz cs rs T')) (hp : e x = .pointer (some ⟨b, 0 + i * sz, none⟩)) (hi : i < N) (hy : e y = v) (hv : CellsOf v l)
    (hlen : l.length = sz) (hone : ∀ u ∈ l, u.oneCell' = true) :
    ∃ w', (execOp e ⟨none, .store T x y, ty, pos, aft, g⟩).run P w = .ok .skip w' ∧ HS B S w' (stR L k (.osl (sl b 0 M c0) N sz (lay cs (i * sz) l) rs T')) := by
  rcases H.own k _ hk with ⟨h, _⟩ | ⟨b', c', fz, hv', h1, h2, h3, h4, h5⟩
  · cases h
  · injection hv' with e1 e2 e3
    injection e1 with e1
    injection e1 with e1 _ _
    subst e1; have e2 := e2.symm; subst e2; subst e3
    have hm : i * sz + sz ≤ N * sz := by
      have := Nat.mul_le_mul_right sz (show i + 1 ≤ N by omega)
      rw [Nat.add_mul, Nat.one_mul] at this
      exact this
    obtain ⟨w', he, hb, hs, g4, g5, g6, g7⟩ := run_storeAtF (o := 0 + i * sz) ts hv h4 h5 hlen hone (by rw [List.length_append]; omega)
    have hlay : lay (cs ++ rs) (0 + i * sz) l = lay cs (i * sz) l ++ rs := by
      apply List.ext_getElem?
      intro j
      rw [lay_get, Nat.zero_add]
      by_cases hj : i * sz ≤ j ∧ j < i * sz + l.length
      · rw [if_pos ⟨hj.1, hj.2, by rw [List.length_append]; omega⟩, List.getElem?_append_left (by rw [lay_length]; omega), lay_get, if_pos ⟨hj.1, hj.2, by omega⟩]
      · rw [if_neg (by omega)]
        by_cases hj2 : j < cs.length
        · rw [List.getElem?_append_left hj2, List.getElem?_append_left (by rw [lay_length]; omega), lay_get, if_neg (by omega)]
        · rw [List.getElem?_append_right (by omega), List.getElem?_append_right (by rw [lay_length]; omega), lay_length]
    refine ⟨w', ?_, H.upd hk (by omega) g4 g5 g6 (fun i _ hne => g7 i fun e => hne (by rw [e]; rfl)) (.inr ⟨b, c0, fz, rfl, h1, by rw [lay_length]; exact h2, ?_, by rw [← hlay]; exact hb, ?_⟩) fun b' hb' => .inl hb'⟩
    · simp only [execOp, hp, hy, Sem.run_bind, he, Result.andThen, Sem.run_pure]
    · rw [List.length_append, lay_length, ← List.length_append]; exact h3
    · rw [List.length_append, lay_length, ← List.length_append]; exact h5
/-! ### Cells read -/
theorem run_loadAggF {sz b o : Nat} {cs l : List Value} {fz : Nat × Nat} (ty : TAgg P T sz) (h : w.heap[b]? = some (.cells cs.toArray T' fz)) (hl : piece cs o sz = l) (hsz : o + sz ≤ cs.length) :
    (Instr.loadAt T (.pointer (some ⟨b, o, none⟩))).run P w = .ok (.agg l.toArray) w := by
  have hlen : l.length = sz := by rw [← hl]; exact piece_len hsz
  have := run_loadCells_list (P := P) w ⟨b, o, none⟩ l (fun j v hj => by
    rw [add_addr, cell_of_F h, ← hj, ← hl, piece_eq]
    have : j < sz := by rw [← hlen]; exact (List.getElem?_eq_some_iff.1 hj).1
    simp [this])
  rw [hlen] at this
  simp [Instr.loadAt, Instr.sureAddr, loadVar, ty.1 w, ty.2 w, this]
theorem run_loadOneF {b o : Nat} {cs : List Value} {fz : Nat × Nat} (ty : TOne P T) (h : w.heap[b]? = some (.cells cs.toArray T' fz)) (hl : piece cs o 1 = [v]) :
    (Instr.loadAt T (.pointer (some ⟨b, o, none⟩))).run P w = .ok v w := by
  have hv : cs[o]? = some v := by
    rw [piece_eq] at hl
    have := congrArg (·[0]?) hl
    simpa using this
  simp [Instr.loadAt, Instr.sureAddr, loadVar, ty.1 w, cell_of_F h, hv]
/-- A block of the call's own. -/
theorem h_load {sz b o k : Nat} {cs l : List Value} (tg : TAgg P T sz) (H : HS B S w L) (hp : e x = .pointer (some ⟨b, o, none⟩)) (hk : lkR L k = some (.blk b cs T')) (hl : piece cs o sz = l) (hsz : Nat.ble (o + sz) cs.length = true) :
    (execOp e ⟨dst, .load T x, ty, pos, aft, g⟩).run P w = .ok (.value (.agg l.toArray)) w := by
  simp only [execOp, hp, Sem.run_bind, run_loadAggF tg (H.own k _ hk) hl (Nat.le_of_ble_eq_true hsz), Result.andThen, Sem.run_pure]
theorem h_load1 {b o k : Nat} {cs : List Value} (tg : TOne P T) (H : HS B S w L) (hp : e x = .pointer (some ⟨b, o, none⟩)) (hk : lkR L k = some (.blk b cs T')) (hv : piece cs o 1 = [v]) :
    (execOp e ⟨dst, .load T x, ty, pos, aft, g⟩).run P w = .ok (.value v) w := by
  simp only [execOp, hp, Sem.run_bind, run_loadOneF tg (H.own k _ hk) hv, Result.andThen, Sem.run_pure]
/-- What is only read any more. -/
theorem s_load {sz b p o : Nat} {cs l : List Value} (tg : TAgg P T sz) (hS : Sub S w) (hp : e x = .pointer (some ⟨b, p + o, none⟩)) (hc : CellAt S b p cs) (hl : piece cs o sz = l) (hsz : Nat.ble (o + sz) cs.length = true) :
    (execOp e ⟨dst, .load T x, ty, pos, aft, g⟩).run P w = .ok (.value (.agg l.toArray)) w := by
  obtain ⟨ds, E', fz, h1, h2, h3⟩ := hc
  have h4 := Nat.le_of_ble_eq_true hsz
  have h5 : piece ds (p + o) sz = l := by rw [← hl, ← h3, piece_piece _ _ _ _ _ h4]
  simp only [execOp, hp, Sem.run_bind, run_loadAggF tg (hS _ _ h1) h5 (by omega), Result.andThen, Sem.run_pure]
theorem s_load1 {b p o : Nat} {cs : List Value} (tg : TOne P T) (hS : Sub S w) (hp : e x = .pointer (some ⟨b, p + o, none⟩)) (hc : CellAt S b p cs) (hv : piece cs o 1 = [v]) :
    (execOp e ⟨dst, .load T x, ty, pos, aft, g⟩).run P w = .ok (.value v) w := by
  obtain ⟨ds, E', fz, h1, h2, h3⟩ := hc
  have h4 : o + 1 ≤ cs.length := by
    have := congrArg List.length hv
    rw [piece_eq] at this
    simp at this
    omega
  have h5 : piece ds (p + o) 1 = [v] := by rw [← hv, ← h3, piece_piece _ _ _ _ _ h4]
  simp only [execOp, hp, Sem.run_bind, run_loadOneF tg (hS _ _ h1) h5, Result.andThen, Sem.run_pure]
/-- The places of a slice. -/
theorem r_addrV {sz b o i N c : Nat} {k : IntKind} {a : Int} (hu : P.underlying T = some (.slice E)) (hs : TSz P E sz) (hx : e x = v) (hv : v = sl b o N c) (hy : e y = .int k a) (ha : a = (i : Int)) (hi : i < N) :
    (execOp e ⟨dst, .indexAddr T x y, ty, pos, aft, g⟩).run P w = .ok (.value (.pointer (some ⟨b, o + i * sz, none⟩))) w := by
  subst ha; subst hv
  simp [execOp, Instr.indexAt, hx, hy, sl, asIntOf, Go.underlying, hu, hs w, hi, add_addr]
/-- An own slice: what holds of its value, and its cells. -/
theorem HS.ownAt (H : HS B S w L) {k N sz i : Nat} {cs rs : List Value} (hk : lkR L k = some (.osl v N sz cs rs T)) (hi : i < N) : ∃ b c, v = sl b 0 N c := by
  rcases H.own k _ hk with ⟨_, h, _⟩ | ⟨b, c, fz, h, _⟩
  · omega
  · exact ⟨b, c, h⟩
theorem HS.ownV {b k M N sz c : Nat} {cs rs : List Value} (H : HS B S w L) (hk : lkR L k = some (.osl (sl b 0 M c) N sz cs rs T)) : sl b 0 M c = sl b 0 N c := by
  rcases H.own k _ hk with ⟨h, _⟩ | ⟨b', c', fz, h, _⟩
  · cases h
  · injection h with e1 e2 e3
    rw [e2]
theorem o_load {sz b o k M N i c0 : Nat} {cs rs l : List Value} (tg : TAgg P T sz) (H : HS B S w L) (hk : lkR L k = some (.osl (sl b 0 M c0) N sz cs rs T')) (hp : e x = .pointer (some ⟨b, 0 + i * sz + o, none⟩)) (ho : o = 0) (hi : i < N) (hl : piece cs (i * sz) sz = l) :
    (execOp e ⟨dst, .load T x, ty, pos, aft, g⟩).run P w = .ok (.value (.agg l.toArray)) w := by
  subst ho
  rcases H.own k _ hk with ⟨h, _⟩ | ⟨b', c', fz, hv', h1, h2, h3, h4, h5⟩
  · cases h
  · injection hv' with e1 e2 e3
    injection e1 with e1
    injection e1 with e1 _ _
    subst e1; have e2 := e2.symm; subst e2; subst e3
    have hm : i * sz + sz ≤ N * sz := by
      have := Nat.mul_le_mul_right sz (show i + 1 ≤ N by omega)
      rw [Nat.add_mul, Nat.one_mul] at this
      exact this
    have hl' : piece (cs ++ rs) (0 + i * sz + 0) sz = l := by
      rw [← hl, piece_eq, piece_eq, List.drop_append_of_le_length (by omega), List.take_append_of_le_length (by rw [List.length_drop]; omega)]
      simp
    simp only [execOp, hp, Sem.run_bind, run_loadAggF tg h4 hl' (by rw [List.length_append]; omega), Result.andThen, Sem.run_pure]
theorem o_load1 {b k M N i c0 : Nat} {cs rs : List Value} (tg : TOne P T) (H : HS B S w L) (hk : lkR L k = some (.osl (sl b 0 M c0) N 1 cs rs T')) (hp : e x = .pointer (some ⟨b, 0 + i * 1, none⟩)) (hi : i < N) (hl : piece cs (i * 1) 1 = [v]) :
    (execOp e ⟨dst, .load T x, ty, pos, aft, g⟩).run P w = .ok (.value v) w := by
  rcases H.own k _ hk with ⟨h, _⟩ | ⟨b', c', fz, hv', h1, h2, h3, h4, h5⟩
  · cases h
  · injection hv' with e1 e2 e3
    injection e1 with e1
    injection e1 with e1 _ _
    subst e1; have e2 := e2.symm; subst e2; subst e3
    have hl' : piece (cs ++ rs) (0 + i * 1) 1 = [v] := by
      rw [← hl, piece_eq, piece_eq, List.drop_append_of_le_length (by omega), List.take_append_of_le_length (by rw [List.length_drop]; omega)]
      simp
    simp only [execOp, hp, Sem.run_bind, run_loadOneF tg h4 hl', Result.andThen, Sem.run_pure]
theorem r_lenW {sz N : Nat} {cs : List Value} (hu : P.underlying T = some (.slice E)) (hx : e x = v) (h : SlW w v N sz cs) :
    (execOp e ⟨dst, .call ⟨.builtin .len, #[x], #[T]⟩, ty, pos, aft, g⟩).run P w = .ok (.value (.int .i64 (N : Int))) w := by
  rcases h with ⟨rfl, rfl, _⟩ | ⟨b, o, c, ds, T', fz, rfl, _⟩ <;> exact r_lenL hu hx
theorem RdS.len {α : Type} [Rp α] {xs : List α} (h : RdS S v xs) (hS : Sub S w) : ∃ cs, SlW w v xs.length (Rp.sz α) cs := by
  obtain ⟨cs, h1, _⟩ := h
  exact ⟨cs, h1.w hS⟩
theorem r_lenR' {α : Type} [Rp α] {xs : List α} (hu : P.underlying T = some (.slice E)) (hx : e x = v) (h : RdS S v xs) (hS : Sub S w) :
    (execOp e ⟨dst, .call ⟨.builtin .len, #[x], #[T]⟩, ty, pos, aft, g⟩).run P w = .ok (.value (.int .i64 (xs.length : Int))) w := by
  obtain ⟨cs, h1⟩ := h.len hS
  exact r_lenW hu hx h1
theorem r_lenO {sz N N' k : Nat} {cs rs : List Value} (hu : P.underlying T = some (.slice E)) (hx : e x = v) (H : HS B S w L) (hk : lkR L k = some (.osl v N sz cs rs T')) (hN : N = N') :
    (execOp e ⟨dst, .call ⟨.builtin .len, #[x], #[T]⟩, ty, pos, aft, g⟩).run P w = .ok (.value (.int .i64 (N' : Int))) w := by
  subst hN; exact r_lenW hu hx (H.slW hk)

/-- Ways to a test. -/
theorem gs_at (k : Nat) {l : List Oper} (h : ∀ K : FM → World → Prop, (∀ m w, wpList P ops Q (l.drop k) (fr n m) w → K m w) → ∀ R : List Oper, (∀ m w, K m w → wpList P ops Q R (fr n m) w) → wpList P ops Q (l.take k ++ R) (fr n m) w) : wpList P ops Q l (fr n m) w := by
  have h2 := h (fun m w => wpList P ops Q (l.drop k) (fr n m) w) (fun _ _ h => h) (l.drop k) (fun _ _ h => h)
  rw [List.take_append_drop] at h2
  exact h2
theorem gvl_at {ol : List Oper} {n : Nat} {m : FM} {j t : Nat} {b : Bool} {o : Oper} (h1 : lko ol j = some o) (h2 : o.dst = some t) (h3 : ev n m (.tmp t) = .bool b) : gvl ol n m j = some b := by
  unfold gvl; rw [h1]
  obtain ⟨dst, _, _, _, _, _⟩ := o
  simp only at h2
  subst h2
  simp only [gvo, h3]
theorem keep_name {D : List Nat} {m1 m2 : FM} {X : Nat → Value} (hk : ∀ t, look m1 t = look m2 t) (h : ∀ t, has D t = false → look m2 t = X t) : ∀ t, has D t = false → look m1 t = X t := fun t ht => (hk t).trans (h t ht)
theorem p_skipU {ol : List Oper} {op : Op} {dst : Option Nat} {j : Nat} {b : Bool} (hg : gvl ol n m j = none) (hr : wpList P ol.toArray Q rest ((fr n m).put dst undef) w) : wpList P ol.toArray Q (⟨dst, op, ty, pos, aft, some (j, b)⟩ :: rest) (fr n m) w := by
  have hw : Region.wanted ⟨dst, op, ty, pos, aft, some (j, b)⟩ (yielded ol.toArray (fr n m).tmps) = false := by
    simp only [Region.wanted, yielded_fr, gvl_eq, hg]; rfl
  unfold wpList; rw [hw]; simp only [Bool.false_eq_true, if_false]; exact hr
/-- v[lo:hi] of a slice that is only read. -/
theorem r_subLH {α : Type} [Rp α] {xs : List α} {sz p h : Nat} {a b : Int} {k k' : IntKind} (hu : P.underlying T = some (.slice E)) (hs : TSz P E sz) (hx : e x = v) (hz : e lo = .int k' b) (hy : e hi = .int k a) (hb : b = (p : Int)) (ha : a = (h : Int)) (hr : RdS S v xs) (hp : p ≤ h) (hh : h ≤ xs.length) :
    (execOp e ⟨dst, .slice T x (some lo) (some hi) none, ty, pos, aft, g⟩).run P w = .ok (.value (subN v sz p h)) w := by
  obtain ⟨cs, h1, _⟩ := hr
  rcases h1 with ⟨rfl, h2, _⟩ | ⟨b', o, c, ds, T', fz, rfl, h3, _⟩
  · obtain rfl : h = 0 := by omega
    obtain rfl : p = 0 := by omega
    simp [execOp, Instr.sliceAt, Go.underlying, hu, Instr.slice, Instr.sliceBounds, hx, hy, hz, run_bound ha (Nat.le_refl _), run_bound hb (Nat.le_refl _), hs w, subN]
  · simp [execOp, Instr.sliceAt, Go.underlying, hu, Instr.slice, Instr.sliceBounds, hx, hy, hz, sl, run_bound ha (Nat.le_trans hh h3), run_bound hb hp, hs w, subN]
theorem r_subL {α : Type} [Rp α] {xs : List α} {sz p : Nat} {b : Int} {k' : IntKind} (hu : P.underlying T = some (.slice E)) (hs : TSz P E sz) (hx : e x = v) (hz : e lo = .int k' b) (hb : b = (p : Int)) (hr : RdS S v xs) (hp : p ≤ xs.length) :
    (execOp e ⟨dst, .slice T x (some lo) none none, ty, pos, aft, g⟩).run P w = .ok (.value (subN v sz p xs.length)) w := by
  obtain ⟨cs, h1, _⟩ := hr
  rcases h1 with ⟨rfl, h2, _⟩ | ⟨b', o, c, ds, T', fz, rfl, h3, _⟩
  · obtain rfl : p = 0 := by omega
    simp [execOp, Instr.sliceAt, Go.underlying, hu, Instr.slice, Instr.sliceBounds, hx, hz, run_bound hb (Nat.le_refl _), hs w, subN, h2]
  · simp [execOp, Instr.sliceAt, Go.underlying, hu, Instr.slice, Instr.sliceBounds, hx, hz, sl, run_bound hb hp, hs w, subN]
theorem r_subH {α : Type} [Rp α] {xs : List α} {sz h : Nat} {a : Int} {k : IntKind} (hu : P.underlying T = some (.slice E)) (hs : TSz P E sz) (hx : e x = v) (hy : e hi = .int k a) (ha : a = (h : Int)) (hr : RdS S v xs) (hh : h ≤ xs.length) :
    (execOp e ⟨dst, .slice T x none (some hi) none, ty, pos, aft, g⟩).run P w = .ok (.value (subN v sz 0 h)) w := by
  obtain ⟨cs, h1, _⟩ := hr
  rcases h1 with ⟨rfl, h2, _⟩ | ⟨b', o, c, ds, T', fz, rfl, h3, _⟩
  · obtain rfl : h = 0 := by omega
    simp [execOp, Instr.sliceAt, Go.underlying, hu, Instr.slice, Instr.sliceBounds, hx, hy, run_bound ha (Nat.le_refl _), hs w, subN]
  · simp [execOp, Instr.sliceAt, Go.underlying, hu, Instr.slice, Instr.sliceBounds, hx, hy, sl, run_bound ha (Nat.le_trans hh h3), hs w, subN]
/-- The bytes of a slice, as a string. -/
theorem r_strW {N : Nat} {T2 : TypeId} {l : List UInt8} (hs : P.underlying T = some (.slice E)) (he : P.underlying E = some (.int .u8)) (hd : P.underlying T2 = some .string) (hx : e x = v) (hr : SlW w v N 1 (u8s l)) :
    (execOp e ⟨dst, .convert T T2 x, ty, pos, aft, g⟩).run P w = .ok (.value (str l)) w := by
  have key : (convert T T2 v).run P w = .ok (str l) w := by
    have hl : l.length = N := by have := hr.len; rw [u8s_length] at this; omega
    rcases hr with ⟨rfl, _, h2⟩ | ⟨b, o, c, cs, T', fz, rfl, h3, h4, h5, h6⟩
    · have : l = [] := by simpa [u8s] using h2
      subst this
      rw [run_convert_bytes_string w T T2 E none 0 0 hs he hd]
      simp [Conv.bytesToString]
      rfl
    · have h7 := run_convert_bytes_arg (P := P) w T E hs he b o N c (l.map fun b => (b.toNat : Int)) (by simpa using hl) (fun i hi => by
        rw [cell_of_F h4]
        rw [piece_eq, Nat.mul_one] at h6
        have h8 : ((cs.drop o).take N)[i]? = (u8s l)[i]? := by rw [h6]
        rw [List.getElem?_take, if_pos hi, List.getElem?_drop] at h8
        rw [h8]
        have hi' : i < l.length := by omega
        simp [u8s, hi']) T2 hd
      rw [h7, u8s_strOf]
  simp [execOp, hx, key]
theorem r_strS {T2 : TypeId} {l : List UInt8} (hs : P.underlying T = some (.slice E)) (he : P.underlying E = some (.int .u8)) (hd : P.underlying T2 = some .string) (hx : e x = v) (hr : RdS S v l) (hS : Sub S w) :
    (execOp e ⟨dst, .convert T T2 x, ty, pos, aft, g⟩).run P w = .ok (.value (str l)) w := by
  obtain ⟨cs, h1, h2⟩ := hr
  rw [RL.is_u8s h2] at h1
  exact r_strW hs he hd hx (h1.w hS)
theorem r_strO {N k : Nat} {cs rs : List Value} {T2 : TypeId} {l : List UInt8} (hs : P.underlying T = some (.slice E)) (he : P.underlying E = some (.int .u8)) (hd : P.underlying T2 = some .string) (hx : e x = v) (H : HS B S w L) (hk : lkR L k = some (.osl v N 1 cs rs T')) (hr : RL S cs l) :
    (execOp e ⟨dst, .convert T T2 x, ty, pos, aft, g⟩).run P w = .ok (.value (str l)) w := by
  have h1 := H.slW hk
  rw [RL.is_u8s hr] at h1
  exact r_strW hs he hd hx h1
/-- A string, as bytes. -/
theorem a_bytes {T2 : TypeId} {l : List UInt8} {ud : TypeDesc} (hs : P.underlying T = some ud) (hd : P.underlying T2 = some (.slice E)) (he : P.underlying E = some (.int .u8)) (H : HS B S w L) (hx : e x = str l) :
    ∃ w' v, (execOp e ⟨dst, .convert T T2 x, ty, pos, aft, g⟩).run P w = .ok (.value v) w' ∧ ∃ rs, HS B S w' (.osl v l.length 1 (u8s l) rs E :: L) := by
  have hrun := Lib.run_convert_string_bytes (P := P) w T T2 E ⟨l.toArray⟩ hs hd he
  have hsz : (⟨l.toArray⟩ : ByteArray).size = l.length := str_size l
  rw [hsz] at hrun
  have hge := grownCap_ge w l.length 0 E
  have hc : Lib.bytesCells w E ⟨l.toArray⟩ = (u8s l ++ List.replicate (grownCap w l.length 0 E - l.length) (Value.int .u8 0)).toArray := by
    unfold Lib.bytesCells
    rw [hsz]
    apply Array.ext'
    simp [u8s]
  have hnew := Lib.bytesWorld_at_new w E ⟨l.toArray⟩
  have hlen : (Lib.bytesCells w E ⟨l.toArray⟩).size = grownCap w l.length 0 E := by rw [hc]; simp [u8s]; omega
  refine ⟨Lib.bytesWorld w E ⟨l.toArray⟩, sl w.heap.size 0 l.length (grownCap w l.length 0 E), by simp only [execOp, hx, str, Sem.run_bind, hrun, Result.andThen_ok, Sem.run_pure], List.replicate (grownCap w l.length 0 E - l.length) (Value.int .u8 0), ?_⟩
  refine H.push (w' := Lib.bytesWorld w E ⟨l.toArray⟩) ?_ (.inr ⟨w.heap.size, grownCap w l.length 0 E, _, rfl, hge, by simp [u8s], by simp [u8s]; omega, by rw [hnew, hc], .inr ?_⟩) fun b hb => by cases hb; exact Nat.le_refl _
  · refine ⟨?_, ?_, ?_, by rw [Lib.bytesWorld_size]; omega, fun k hk => Lib.bytesWorld_at_old w E _ k hk⟩ <;> simp [Lib.bytesWorld, World.freeze, World.alloc, World.drew, -World.alloc_eq, -World.drew_eq] <;> split <;> rfl
  · simp [u8s]
end
end
end Go.Proofs.YtdomaggikbmooaaDoor
