/- Steps of a walk: great arrays in blocks of their own, and calls of functions that stand in a slot. Conditions: as each theorem says. -/
import Derived.Test.YtmkomlbiaebddaaGreatDoorQsB
namespace Go.Proofs.YtmkomlbiaebddaaGreatDoor
open Go Go.RowKit
structure Vec (α : Type) (n : Nat) where
  l : List α
  h : l.length = n
section
variable {α : Type} {n : Nat}
theorem Vec.eq {x y : Vec α n} (h : x.l = y.l) : x = y := by cases x; cases y; simp at h; subst h; rfl
def vcl (cf : α → Value) (x : Vec α n) : List Value := x.l.map cf
theorem vcl_len (cf : α → Value) (x : Vec α n) : (vcl cf x).length = n := by simp [vcl, x.h]
def vrep (n : Nat) (z : α) : Vec α n := ⟨List.replicate n z, by simp⟩
def setV (x : Vec α n) (i : Int) (u : α) : Option (Vec α n) := bif decide (0 ≤ i) && decide (i < (n : Int)) then some ⟨x.l.set i.toNat u, by simp [x.h]⟩ else none
theorem setV_some {x r : Vec α n} {i : Int} {u : α} (h : setV x i u = some r) : i = (i.toNat : Int) ∧ i.toNat < n ∧ r.l = x.l.set i.toNat u := by
  unfold setV at h
  cases hc : decide (0 ≤ i) && decide (i < (n : Int)) with
  | false => rw [hc] at h; cases h
  | true =>
    rw [hc] at h
    obtain rfl := Option.some.inj h
    simp only [Bool.and_eq_true, decide_eq_true_eq] at hc
    exact ⟨by omega, by omega, rfl⟩
theorem idx_ltV {x : Vec α n} {i : Int} {u : α} (h : idx x.l i = some u) : i.toNat < n := by have := idx_lt h; rwa [x.h] at this
theorem vcl_piece (cf : α → Value) (x : Vec α n) : piece (vcl cf x) 0 x.l.length = x.l.map cf := by rw [piece_eq, vcl, List.drop_zero, List.take_of_length_le (by simp)]
theorem vcl_all (cf : α → Value) (x : Vec α n) : piece (vcl cf x) 0 n = vcl cf x := by
  have := vcl_piece cf x
  rw [x.h] at this; exact this
end
section
variable {P : Program} {w : World} {B : Bas} {S : Mem} {L : List Res} {T T' : TypeId} {e : Operand → Value} {x y : Operand} {v : Value} {dst : Option Tmp} {pos : String} {aft : Array Edge} {ty : TypeId} {g : Option (Nat × Bool)}
theorem h_loadV {α : Type} {n : Nat} {i : Int} {X : Vec α n} {u : α} {cf : α → Value} {b k : Nat} (tg : TOne P T) (H : HS B S w L) (hp : e x = .pointer (some ⟨b, 0 + i.toNat * 1, none⟩)) (hk : lkR L k = some (.blk b (vcl cf X) T')) (hi : idx X.l i = some u) :
    (execOp e ⟨dst, .load T x, ty, pos, aft, g⟩).run P w = .ok (.value (cf u)) w := h_loadA tg H hp hk hi (vcl_piece cf X)
theorem lay_set1 {α : Type} (cf : α → Value) (l : List α) (i : Nat) (u : α) (h : i < l.length) : lay (l.map cf) i [cf u] = (l.set i u).map cf := by
  apply List.ext_getElem?
  intro j
  rw [lay_get]
  by_cases hj : j = i
  · subst hj
    rw [if_pos (by simp; omega)]
    simp [h]
  · rw [if_neg (by simp; omega), List.getElem?_map, List.getElem?_map, List.getElem?_set_ne (by omega)]
theorem lay_all {l l' : List Value} (h : l.length = l'.length) : lay l 0 l' = l' := by
  apply List.ext_getElem?
  intro j
  rw [lay_get]
  by_cases hj : j < l'.length
  · rw [if_pos (by omega)]; simp
  · rw [if_neg (by omega), List.getElem?_eq_none (by omega), List.getElem?_eq_none (by omega)]
theorem a_storeV {α : Type} {n : Nat} {i : Int} {X R : Vec α n} {u : α} {cf : α → Value} {b k : Nat} (ts : TSz P T 1) (H : HS B S w L) (hp : e x = .pointer (some ⟨b, 0 + i.toNat * 1, none⟩)) (hk : lkR L k = some (.blk b (vcl cf X) T')) (hy : e y = cf u) (h1 : (cf u).oneCell' = true)
    (hs : setV X i u = some R) : ∃ w', (execOp e ⟨none, .store T x y, ty, pos, aft, g⟩).run P w = .ok .skip w' ∧ HS B S w' (stR L k (.blk b (vcl cf R) T')) := by
  obtain ⟨h2, h3, h4⟩ := setV_some hs
  have := a_store (k := k) (v := cf u) (l := [cf u]) (ty := ty) (pos := pos) (aft := aft) (g := g) ts H hp hk hy (cells_one h1) rfl (by simpa using h1) (by rw [vcl_len]; simp; omega)
  rw [Nat.mul_one, Nat.zero_add, vcl, lay_set1 cf X.l i.toNat u (by rw [X.h]; exact h3), ← h4] at this
  exact this
theorem a_storeVW {α : Type} {n : Nat} {X Y : Vec α n} {cf : α → Value} {b k : Nat} (ts : TSz P T n) (H : HS B S w L) (hp : e x = .pointer (some ⟨b, 0, none⟩)) (hk : lkR L k = some (.blk b (vcl cf X) T')) (hy : e y = .agg (vcl cf Y).toArray) (h1 : ∀ u, (cf u).oneCell' = true) :
    ∃ w', (execOp e ⟨none, .store T x y, ty, pos, aft, g⟩).run P w = .ok .skip w' ∧ HS B S w' (stR L k (.blk b (vcl cf Y) T')) := by
  have := a_store (k := k) (v := .agg (vcl cf Y).toArray) (l := vcl cf Y) (ty := ty) (pos := pos) (aft := aft) (g := g) ts H hp hk hy (cells_agg _) (vcl_len cf Y) (fun u hu => by
    simp only [vcl, List.mem_map] at hu
    obtain ⟨a, _, rfl⟩ := hu
    exact h1 a) (by rw [vcl_len]; simp)
  have e2 : lay (vcl cf X) 0 (vcl cf Y) = vcl cf Y := lay_all (by rw [vcl_len, vcl_len])
  rw [e2] at this
  exact this
end
theorem vcl_ble {α : Type} {n : Nat} (cf : α → Value) (x : Vec α n) : Nat.ble (0 + n) (vcl cf x).length = true := by rw [vcl_len]; simp
section
variable {P : Program} {e : Operand → Value} {dst : Option Tmp} {x : Operand} {ty : TypeId} {pos : String} {aft : Array Edge} {g : Option (Nat × Bool)} {w : World}
theorem r_com {T'} {k : IntKind} {a r : Int} (hk : k.signed = false) (hx : e x = .int k a) (h : bits .xor k k.max a = r) : (execOp e ⟨dst, .unOp .xor T' x, ty, pos, aft, g⟩).run P w = .ok (.value (.int k r)) w := by
  simp [execOp, hx, Op.unary, hk, Op.intBits, ← h, bits]
end
section
variable {P : Program} {w : World} {B : Bas} {S : Mem} {L : List Res} {T T' E dT sT : TypeId} {e : Operand → Value} {x y lo hi : Operand} {dst : Option Tmp} {pos : String} {aft : Array Edge} {ty : TypeId} {g : Option (Nat × Bool)} {k1 k2 : IntKind}
theorem r_sliceAL {n o b p : Nat} (hu : P.underlying T = some (.array n E)) (ts : TSz P E 1) (hx : e x = .pointer (some ⟨b, o, none⟩)) (hz : e lo = .int k1 (p : Int)) (hp : p < n) :
    (execOp e ⟨dst, .slice T x (some lo) none none, ty, pos, aft, g⟩).run P w = .ok (.value (.slice (some ⟨b, o + p, none⟩) (n - p) (n - p))) w := by
  have hne : ¬ n = p := by omega
  simp [execOp, Instr.sliceAt, Instr.sliceBounds, Instr.sureAddr, Go.underlying, hu, hx, hz, run_bound (P := P) (w := w) (rfl : (p : Int) = (p : Int)) (Nat.le_of_lt hp), ts w, hne, Addr.add]
theorem r_sliceAH {n o b h : Nat} (hu : P.underlying T = some (.array n E)) (ts : TSz P E 1) (hx : e x = .pointer (some ⟨b, o, none⟩)) (hy : e hi = .int k1 (h : Int)) (hh : h ≤ n) :
    (execOp e ⟨dst, .slice T x none (some hi) none, ty, pos, aft, g⟩).run P w = .ok (.value (.slice (some ⟨b, o, none⟩) h n)) w := by
  simp [execOp, Instr.sliceAt, Instr.sliceBounds, Instr.sureAddr, Go.underlying, hu, hx, hy, run_bound (P := P) (w := w) (rfl : (h : Int) = (h : Int)) hh, ts w, Addr.add]
theorem r_idxAV {α : Type} {n : Nat} {l : List α} {cf : α → Value} {cs : List Value} {i : Int} {u : α} (hu : P.underlying T = some (.array n E)) (tg : TOne P E) (hx : e x = .agg cs.toArray) (hy : e y = .int k1 i) (hc : cs = l.map cf) (hl : l.length = n) (h : idx l i = some u) :
    (execOp e ⟨dst, .index T x y, ty, pos, aft, g⟩).run P w = .ok (.value (cf u)) w := by
  obtain ⟨h1, h2⟩ := idx_some h
  have h3 := idx_lt h
  have hp := part1 (l := cs) (v := cf u) (o := i.toNat) tg (by rw [hc, List.getElem?_map, h2]; rfl) w
  have ha : 0 ≤ i := by omega
  have hb : i < (n : Int) := by omega
  simp [execOp, Instr.index, asIntOf, Go.underlying, hu, hx, hy, ha, hb, tg.2 w, hp]
theorem a_copyA {k b o1 o2 n1 c1 n2 c2 n : Nat} {cs l : List Value} (hu : P.underlying dT = some (.slice E)) (ts : TSz P E 1) (H : HS B S w L) (hx : e x = .slice (some ⟨b, o1, none⟩) n1 c1) (hy : e y = .slice (some ⟨b, o2, none⟩) n2 c2)
    (hk : lkR L k = some (.blk b cs T')) (hn : Nat.min n2 n1 = n) (hl : piece cs o2 n = l) (h1 : Nat.ble (o1 + n) cs.length = true) (h2 : Nat.ble (o2 + n) cs.length = true) (hone : ∀ u ∈ l, u.oneCell' = true) :
    ∃ w', (execOp e ⟨dst, .call ⟨.builtin .copy, #[x, y], #[dT, sT]⟩, ty, pos, aft, g⟩).run P w = .ok (.value (.int .i64 (n : Int))) w' ∧ HS B S w' (stR L k (.blk b (lay cs o1 l) T')) := by
  have hb := H.own k _ hk
  have hlen : l.length = n := by rw [← hl]; exact piece_len (Nat.le_of_ble_eq_true h2)
  obtain ⟨w', he, hb', hs, h4, h5, h6, h7⟩ := run_storeCellsF (P := P) (o := o1) l 0 w cs hone hb (.inl rfl) (by rw [hlen]; have := Nat.le_of_ble_eq_true h1; omega)
  have hld := run_loadCells_list (P := P) w ⟨b, o2, none⟩ l (fun j v hj => by
    rw [add_addr, cell_of_F hb, ← hj, ← hl, piece_eq]
    have : j < n := by rw [← hlen]; exact (List.getElem?_eq_some_iff.1 hj).1
    simp [List.getElem?_take, this])
  rw [hlen] at hld
  refine ⟨w', ?_, H.upd hk (by omega) h4 h5 h6 (fun i _ hne => h7 i fun e => hne (by rw [e]; rfl)) hb' fun b' hb' => .inl hb'⟩
  simp [execOp, resolve, invoke, builtin, hx, hy, Builtin.copy_, Go.underlying, hu, Builtin.lenOf, Builtin.firstCells, ts w, hn, hld, he, goInt]
end
section
variable {P : Program} {ops : Array Oper} {Q : Exit → Act → World → Prop} {rest : List Oper} {n : Nat} {m : FM} {w : World} {d : Nat} {ty : TypeId} {pos : String} {aft : Array Edge} {x : Operand}
variable {nh k : Nat} {Φ : Kinds} {W : World} {vs : Nat → Gv} {Fin : Act → Prop} {c : Value}
theorem t_callD {args : List Operand} {at_ : Array TypeId} {f : FuncId} {l : List Value} (hx : ev n m x = .func (.func f) #[] #[]) (hk : Φ k = some (.inl c)) (hf : floats ops nh k = false) (hfn : IsFn P f) (ha : args? n m args = l)
    (h : ∀ w, Ext W w → factsL Φ vs w (depsOf ⟨some d, .call ⟨.value x, args.toArray, at_⟩, ty, pos, aft, none⟩) → Calls P f l.toArray w fun e w' => e = .returned c ∧ Ext w w') (hr : wpT P ops nh Φ W vs Fin (k + 1) rest (fr n ((d, c) :: m))) :
    wpT P ops nh Φ W vs Fin k (⟨some d, .call ⟨.value x, args.toArray, at_⟩, ty, pos, aft, none⟩ :: rest) (fr n m) :=
  wpT_det rfl hk hf rfl (fun w hx' hF R hR => by
    rw [eval_fr]
    exact outcome_call (first := #[]) (cap := #[]) hfn hx (by simp [args_eq, ha]) ((h w hx' hF).mono fun e w' ⟨he, hx'⟩ => ⟨c, he, hR w' hx'⟩)) (by rw [put_fr]; exact hr)
end
end Go.Proofs.YtmkomlbiaebddaaGreatDoor
