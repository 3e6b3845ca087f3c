/- strings.Builder: what its methods do to a builder of the call's own. Conditions: as each theorem says. -/
import Derived.Test.YtmbcolbbekbccaaRows
import Derived.Test.YtmbcolbbekbccaaPu
import Derived.Lib.Builder
import Derived.Lib.UnsafeStr
import Derived.LaidEql
import Derived.Laws.Externs
namespace Go.Proofs.Ytmbcolbbekbccaa
open Go Go.RowKit
attribute [local irreducible] wpList wpT Code.wp Calls Code.rounds
theorem bu1 : Try.prog.underlying 97 = some (.pointer 99) := by kernel_rfl
theorem bu2 : Try.prog.underlying 134 = some .unsafePointer := by kernel_rfl
theorem bi1 : (Try.prog.info? 99).map (·.size) = some 2 := by kernel_rfl
theorem bl1 : liesAt Try.prog Try.prog.depth 99 (2 / Try.prog.cellsOf 99) 0 99 1 = true := by kernel_rfl
theorem bf0 : TField Try.prog 99 0 0 := fun _ _ _ => by kernel_rfl
theorem bf1 : TField Try.prog 99 1 1 := fun _ _ _ => by kernel_rfl
theorem bto : TOne Try.prog 97 := ⟨fun _ => by kernel_rfl, fun _ => by kernel_rfl⟩
theorem bto2 : TOne Try.prog 67 := ⟨fun _ => by kernel_rfl, fun _ => by kernel_rfl⟩
theorem btz : TSz Try.prog 97 1 := fun _ => by kernel_rfl
theorem bnoEsc (x : Value) (w : World) : (callFunc 82 [x].toArray).run Try.prog w = .ok (.value x) w := by
  have h := run_callFunc_extern (P := Try.prog) (w := w) (args := #[x]) Try.func82 (by kernel_rfl) (by kernel_rfl) (by kernel_rfl) (e := Extern.AbiNoEscape.same) (by kernel_rfl)
  show (callFunc 82 #[x]).run Try.prog w = _
  rw [h, Lib.run_noEscape]; rfl
def Builder_copyCheck_p (x0 : List UInt8) : Option (List UInt8) := some x0
section
variable {P : Program} {w : World} {B : Bas} {S : Mem} {L : List Res} {e : Operand → Value} {dst : Option Tmp} {g : Option (Nat × Bool)} {ty : TypeId} {pos : String} {aft : Array Edge} {x y : Operand} {T T1 T2 T' : TypeId} {a : Addr}
theorem r_eqPN (hu : P.underlying T = some (.pointer T1)) (hx : e x = .pointer none) (hy : e y = .pointer none) : (execOp e ⟨dst, .binOp .eql T x y T', ty, pos, aft, g⟩).run P w = .ok (.value (.bool true)) w := by
  have h : (Op.equal T (.pointer none) (.pointer none)).run P w = .ok true w := by
    have h : ∀ d, (Op.equalIn (d + 1) T (.pointer none) (.pointer none)).run P w = .ok true w := fun d => by simp [Op.equalIn, Go.underlying, hu]
    exact h 9999
  simp [execOp, eqGuard, binOp, hx, hy, h]
theorem r_eqPS (hu : P.underlying T = some (.pointer T1)) (hx : e x = .pointer (some a)) (hy : e y = .pointer none) : (execOp e ⟨dst, .binOp .eql T x y T', ty, pos, aft, g⟩).run P w = .ok (.value (.bool false)) w := by
  have h : (Op.equal T (.pointer (some a)) (.pointer none)).run P w = .ok false w := by
    have h : ∀ d, (Op.equalIn (d + 1) T (.pointer (some a)) (.pointer none)).run P w = .ok false w := fun d => by simp [Op.equalIn, Go.underlying, hu]
    exact h 9999
  simp [execOp, eqGuard, binOp, hx, hy, h]
theorem r_nePP {j : TypeInfo} (hu : P.underlying T = some (.pointer T1)) (hj : P.info? T1 = some j) (hx : e x = .pointer (some a)) (hy : e y = .pointer (some a)) : (execOp e ⟨dst, .binOp .neq T x y T', ty, pos, aft, g⟩).run P w = .ok (.value (.bool false)) w := by
  have h := Lib.run_neq_ptr_same (P := P) w a hu hj
  simp [execOp, eqGuard, hx, hy, h]
end
theorem Builder_copyCheck_c {S : Mem} {w : World} {b0_ : Nat} {x0 : List UInt8} {pv1 : Value} {pcs1 prs1 : List Value} {pa1 : Value} (H : HS ⟨S, keysR [.blk b0_ ([pa1] ++ ([pv1])) 99, .osl (pv1) (x0).length 1 pcs1 prs1 5], w⟩ S w [.blk b0_ ([pa1] ++ ([pv1])) 99, .osl (pv1) (x0).length 1 pcs1 prs1 5])
    (pg1 : RL S pcs1 x0) (pg2 : BA b0_ pa1) {r : List UInt8} (hF : Builder_copyCheck_p x0 = some r) :
    Calls Try.prog 75 #[.pointer (some ⟨b0_, 0, none⟩)] w fun e w' => ∃ (S2 : Mem) (pv2 : Value) (pcs2 prs2 : List Value) (pa2 : Value), e = .returned (.tuple #[]) ∧ HS ⟨S, keysR [.blk b0_ ([pa1] ++ ([pv1])) 99, .osl (pv1) (x0).length 1 pcs1 prs1 5], w⟩ S2 w' [.blk b0_ ([pa2] ++ ([pv2])) 99, .osl (pv2) (r).length 1 pcs2 prs2 5] ∧ RL S2 pcs2 r ∧ BA b0_ pa2 := by
  obtain rfl := Option.some.inj hF
  obtain ⟨j, hj, hjs⟩ := Option.map_eq_some_iff.1 bi1
  have hblk : w.heap[b0_]? = some (.cells ([pa1] ++ ([pv1])).toArray 99 (0, 0)) := H.own 0 _ rfl
  have hsh : w.shape? (⟨b0_, 0, none⟩ : Addr).block = some (99, 2) := by simp [World.shape?, hblk]
  refine enter (n := 20) Try.func75 rfl rfl rfl ?_
  rcases pg2 with rfl | rfl
  · refine wp_seq_k ?_; intro K1 hK1
    refine wp_region_lit ?_
    refine p_val (r_move (v := .pointer (some ⟨b0_, 0, none⟩)) rfl) ?_
    refine p_val (r_nilck rfl) ?_
    refine p_val (r_field bf0 rfl) ?_
    refine p_val (h_load1 (v := .pointer none) bto H rfl (k := 0) rfl rfl) ?_
    refine p_val (r_eqPN bu1 rfl rfl) ?_
    refine wpList_nil ?_
    refine x_norm ?_; refine hK1 _ _ ?_
    refine c_true rfl rfl ?_
    refine wp_region_lit ?_
    refine p_val (r_move (v := .pointer (some ⟨b0_, 0, none⟩)) rfl) ?_
    refine p_val (r_move (v := .pointer (some ⟨b0_, 0, none⟩)) rfl) ?_
    refine p_val (c := .pointer (some ⟨b0_, 0, none⟩)) (by
      have h := Lib.run_to_unsafe (P := Try.prog) w ⟨b0_, 0, none⟩ bu1 bu2 hj (by rw [hjs]; decide) hsh (Nat.zero_lt_succ 1)
      simp only [execOp]
      exact (by rw [Sem.run_bind]; erw [h]; rfl)) ?_
    refine p_callv (l := [.pointer (some ⟨b0_, 0, none⟩)]) rfl (bnoEsc _ _) ?_
    refine p_val (c := .pointer (some ⟨b0_, 0, none⟩)) (by
      have h := Lib.run_from_unsafe (P := Try.prog) w ⟨b0_, 0, none⟩ bu2 bu1 hj hsh bl1
      simp only [execOp]
      exact (by rw [Sem.run_bind]; erw [h]; rfl)) ?_
    refine p_val (r_nilck rfl) ?_
    refine p_val (r_field bf0 rfl) ?_
    refine p_ofs (a_store (k := 0) (v := .pointer (some ⟨b0_, 0, none⟩)) (l := [.pointer (some ⟨b0_, 0, none⟩)]) btz H rfl rfl rfl (cells_one rfl) rfl (fun u hu => List.all_eq_true.1 (rfl : ([Value.pointer (some ⟨b0_, 0, none⟩)]).all (·.oneCell') = true) u hu) rfl) ?_; clear H; intro w2 H
    refine wpList_nil ?_
    refine e_00 rfl ?_
    exact ⟨S, pv1, pcs1, prs1, .pointer (some ⟨b0_, 0, none⟩), rfl, H, pg1, .inr rfl⟩
  · refine wp_seq_k ?_; intro K1 hK1
    refine wp_region_lit ?_
    refine p_val (r_move (v := .pointer (some ⟨b0_, 0, none⟩)) rfl) ?_
    refine p_val (r_nilck rfl) ?_
    refine p_val (r_field bf0 rfl) ?_
    refine p_val (h_load1 (v := .pointer (some ⟨b0_, 0, none⟩)) bto H rfl (k := 0) rfl rfl) ?_
    refine p_val (r_eqPS bu1 rfl rfl) ?_
    refine wpList_nil ?_
    refine x_norm ?_; refine hK1 _ _ ?_
    refine c_false rfl rfl ?_
    refine wp_seq_k ?_; intro K2 hK2
    refine wp_region_lit ?_
    refine p_val (r_move (v := .pointer (some ⟨b0_, 0, none⟩)) rfl) ?_
    refine p_val (r_nilck rfl) ?_
    refine p_val (r_field bf0 rfl) ?_
    refine p_val (h_load1 (v := .pointer (some ⟨b0_, 0, none⟩)) bto H rfl (k := 0) rfl rfl) ?_
    refine p_val (r_move (v := .pointer (some ⟨b0_, 0, none⟩)) rfl) ?_
    refine p_val (r_nePP bu1 hj rfl rfl) ?_
    refine wpList_nil ?_
    refine x_norm ?_; refine hK2 _ _ ?_
    refine c_false rfl rfl ?_
    refine wp_skip ?_
    refine e_00 rfl ?_
    exact ⟨S, pv1, pcs1, prs1, .pointer (some ⟨b0_, 0, none⟩), rfl, H, pg1, .inr rfl⟩
theorem bus : Try.prog.underlying 67 = some (.slice 5) := by kernel_rfl
theorem bup : Try.prog.underlying 130 = some (.pointer 5) := by kernel_rfl
theorem buc : Try.prog.cellsOf 5 = 1 := by kernel_rfl
section
variable {P : Program} {w : World} {e : Operand → Value} {dst : Option Tmp} {g : Option (Nat × Bool)} {ty : TypeId} {pos : String} {aft : Array Edge} {x y : Operand} {T T1 : TypeId}
theorem r_usd {r : Value} {v : Value} {w' : World} (hx : e x = v) (h : (Builtin.unsafeSliceData_ #[T] ty #[v]).run P w = .ok r w') : (execOp e ⟨dst, .call ⟨.builtin .unsafeSliceData, #[x], #[T]⟩, ty, pos, aft, g⟩).run P w = .ok (.value r) w' := by
  simp [execOp, resolve, invoke, builtin, hx, h]
theorem r_ust {r : Value} {v u : Value} {w' : World} (hx : e x = v) (hy : e y = u) (h : (Builtin.unsafeString_ #[T, T1] ty #[v, u]).run P w = .ok r w') : (execOp e ⟨dst, .call ⟨.builtin .unsafeString, #[x, y], #[T, T1]⟩, ty, pos, aft, g⟩).run P w = .ok (.value r) w' := by
  simp [execOp, resolve, invoke, builtin, hx, hy, h]
theorem stR_rm : ∀ {L : List Res} {k : Nat} {x : Res}, rmR (stR L k x) k = rmR L k
  | [], _, _ => rfl
  | _ :: _, 0, _ => rfl
  | y :: l, k + 1, x => by simp only [stR, rmR, stR_rm (L := l) (k := k)]
end
theorem Builder_String_c {B : Bas} {S : Mem} {w : World} {L : List Res} {k1 k2 b : Nat} {a v : Value} {cs rs : List Value} {xs : List UInt8} (H : HS B S w L) (h1 : lkR L k1 = some (.blk b ([a] ++ ([v])) 99)) (h2 : lkR L k2 = some (.osl v xs.length 1 cs rs 5)) (h0 : RL S cs xs) (hl : xs.length ≤ 9223372036854775807) :
    Calls Try.prog 48 #[.pointer (some ⟨b, 0, none⟩)] w fun e w' => e = .returned (str xs) ∧ HS B S w' (rmR L k2) := by
  have hown := H.own k2 _ h2
  refine enter (n := 14) Try.func48 rfl rfl rfl ?_
  rcases hown with ⟨rfl, hn, hcs, hrs⟩ | ⟨gb, c, fz, rfl, hnc, hlen, hcap, hblk, hfz⟩
  · obtain rfl : xs = [] := List.eq_nil_of_length_eq_zero hn
    refine wp_seq_k ?_; intro K1 hK1
    refine wp_region_lit ?_
    refine p_val (r_assign (v := str ([] : List UInt8)) rfl) ?_
    refine wpList_nil ?_
    refine x_norm ?_; refine hK1 _ _ ?_
    refine wp_seq_k ?_; intro K2 hK2
    apply wp_region_ext 10 (kinds []) rfl rfl (by kernel_rfl); intro vs
    simp only [List.take_succ_cons, List.take_zero, List.drop_succ_cons, List.drop_zero]
    replace H := H.drew
    refine t_val (fun w hx => r_move (v := .pointer (some ⟨b, 0, none⟩)) rfl) rfl rfl ?_
    refine t_val (fun w hx => r_nilck rfl) rfl rfl ?_
    refine t_val (fun w hx => r_field bf1 rfl) rfl rfl ?_
    refine t_val (fun w hx => h_load1 (v := .slice none 0 0) bto2 (H.ext hx) rfl h1 rfl) rfl rfl ?_
    refine t_val (fun w hx => r_usd (r := .pointer none) rfl (Lib.run_unsafeSliceData_nil _ _ _ _ _)) rfl rfl ?_
    refine t_val (fun w hx => r_move (v := .pointer (some ⟨b, 0, none⟩)) rfl) rfl rfl ?_
    refine t_val (fun w hx => r_nilck rfl) rfl rfl ?_
    refine t_val (fun w hx => r_field bf1 rfl) rfl rfl ?_
    refine t_val (fun w hx => h_load1 (v := .slice none 0 0) bto2 (H.ext hx) rfl h1 rfl) rfl rfl ?_
    refine t_val (fun w hx => r_lenO bus rfl (H.ext hx) h2 rfl) rfl rfl ?_
    refine t_nil (fun w2 hx hF hA => ?_)
    replace H := H.ext hx; clear hx hF hA
    refine p_val (c := str ([] : List UInt8)) (r_ust rfl rfl (Lib.run_unsafeString_none _ _ _ _ _)) ?_
    replace H := H.rm k2
    refine p_val (r_assign (v := str ([] : List UInt8)) rfl) ?_
    refine wpList_nil ?_; refine on_norm ?_
    refine x_norm ?_; refine hK2 _ _ ?_
    refine wp_ret ?_
    refine e_1 rfl (q_tmp (v := str ([] : List UInt8)) rfl) ?_
    exact ⟨rfl, H⟩
  · by_cases hc : c = 0
    · subst hc
      obtain rfl : xs = [] := List.eq_nil_of_length_eq_zero (by omega)
      refine wp_seq_k ?_; intro K1 hK1
      refine wp_region_lit ?_
      refine p_val (r_assign (v := str ([] : List UInt8)) rfl) ?_
      refine wpList_nil ?_
      refine x_norm ?_; refine hK1 _ _ ?_
      refine wp_seq_k ?_; intro K2 hK2
      apply wp_region_ext 10 (kinds [(4, .inr (fun v _ => ∃ a, v = .pointer (some a)))]) rfl rfl (by kernel_rfl); intro vs
      simp only [List.take_succ_cons, List.take_zero, List.drop_succ_cons, List.drop_zero]
      replace H := H.drew
      refine t_val (fun w hx => r_move (v := .pointer (some ⟨b, 0, none⟩)) rfl) rfl rfl ?_
      refine t_val (fun w hx => r_nilck rfl) rfl rfl ?_
      refine t_val (fun w hx => r_field bf1 rfl) rfl rfl ?_
      refine t_val (fun w hx => h_load1 (v := sl gb 0 0 0) bto2 (H.ext hx) rfl h1 rfl) rfl rfl ?_
      refine wpT_low (φ := fun v _ => ∃ a, v = .pointer (some a)) rfl rfl (fun _ _ _ h _ => h) rfl (fun h => by cases h) (fun w hx hF R hR => by
        have hsh : w.shape? (⟨gb, 0, none⟩ : Addr).block = some (5, (cs ++ rs).toArray.size) := by
          have hb2 : w.heap[gb]? = some (.cells (cs ++ rs).toArray 5 fz) := by rw [hx.block gb (lt_of_heap hblk)]; exact hblk
          simp [World.shape?, hb2]
        have hrun := Lib.run_unsafeSliceData_zero (P := Try.prog) w #[67] 130 5 bup ⟨gb, 0, none⟩ 0 _ hsh
        rw [eval_fr, r_usd rfl hrun, outcome_value]
        exact hR (.pointer (some ⟨w.heap.size, 0, none⟩)) (w.alloc (.view ⟨gb, 0, none⟩ 5)) (Ext.alloc w _) ⟨_, rfl⟩ (fun h => by cases h)) ?_
      rw [put_fr]
      refine t_val (fun w hx => r_move (v := .pointer (some ⟨b, 0, none⟩)) rfl) rfl rfl ?_
      refine t_val (fun w hx => r_nilck rfl) rfl rfl ?_
      refine t_val (fun w hx => r_field bf1 rfl) rfl rfl ?_
      refine t_val (fun w hx => h_load1 (v := sl gb 0 0 0) bto2 (H.ext hx) rfl h1 rfl) rfl rfl ?_
      refine t_val (fun w hx => r_lenO bus rfl (H.ext hx) h2 rfl) rfl rfl ?_
      refine t_nil (fun w2 hx hF hA => ?_)
      obtain ⟨ad, had⟩ := fact_rel hF 4 rfl rfl
      replace H := H.ext hx; clear hx hF hA
      refine p_val (c := str ([] : List UInt8)) (r_ust (by exact had) rfl (Lib.run_unsafeString_none _ _ _ _ _)) ?_
      replace H := H.rm k2
      refine p_val (r_assign (v := str ([] : List UInt8)) rfl) ?_
      refine wpList_nil ?_; refine on_norm ?_
      refine x_norm ?_; refine hK2 _ _ ?_
      refine wp_ret ?_
      refine e_1 rfl (q_tmp (v := str ([] : List UInt8)) rfl) ?_
      exact ⟨rfl, H⟩
    · skip
      refine wp_seq_k ?_; intro K1 hK1
      refine wp_region_lit ?_
      refine p_val (r_assign (v := str ([] : List UInt8)) rfl) ?_
      refine wpList_nil ?_
      refine x_norm ?_; refine hK1 _ _ ?_
      refine wp_seq_k ?_; intro K2 hK2
      apply wp_region_ext 10 (kinds []) rfl rfl (by kernel_rfl); intro vs
      simp only [List.take_succ_cons, List.take_zero, List.drop_succ_cons, List.drop_zero]
      replace H := H.drew
      refine t_val (fun w hx => r_move (v := .pointer (some ⟨b, 0, none⟩)) rfl) rfl rfl ?_
      refine t_val (fun w hx => r_nilck rfl) rfl rfl ?_
      refine t_val (fun w hx => r_field bf1 rfl) rfl rfl ?_
      refine t_val (fun w hx => h_load1 (v := sl gb 0 xs.length c) bto2 (H.ext hx) rfl h1 rfl) rfl rfl ?_
      refine t_val (fun w hx => r_usd (r := .pointer (some ⟨gb, 0, none⟩)) rfl (Lib.run_unsafeSliceData_row _ _ _ _ _ _ hc)) rfl rfl ?_
      refine t_val (fun w hx => r_move (v := .pointer (some ⟨b, 0, none⟩)) rfl) rfl rfl ?_
      refine t_val (fun w hx => r_nilck rfl) rfl rfl ?_
      refine t_val (fun w hx => r_field bf1 rfl) rfl rfl ?_
      refine t_val (fun w hx => h_load1 (v := sl gb 0 xs.length c) bto2 (H.ext hx) rfl h1 rfl) rfl rfl ?_
      refine t_val (fun w hx => r_lenO bus rfl (H.ext hx) h2 rfl) rfl rfl ?_
      refine t_nil (fun w2 hx hF hA => ?_)
      have hb2 : w2.heap[gb]? = some (.cells (cs ++ rs).toArray 5 fz) := by rw [hx.block gb (lt_of_heap hblk)]; exact hblk
      replace H := H.ext hx; clear hx hF hA
      refine p_ofc (c := str xs) (φ := fun w' => HS B S w' (rmR L k2)) ?_ ?_
      · by_cases hx0 : xs = []
        · subst hx0
          exact ⟨w2, r_ust rfl rfl (Lib.run_unsafeString_none _ _ _ _ _), H.rm k2⟩
        · have hsh : w2.shape? gb = some (5, (cs ++ rs).toArray.size) := by simp [World.shape?, hb2]
          have hcs := RL.is_u8s h0
          have hxl : xs.length ≤ (cs ++ rs).length := by rw [List.length_append, hlen]; omega
          have hrun := Lib.run_unsafeString_row (P := Try.prog) w2 130 3 9 5 bup buc gb _ hsh xs hx0 (by simpa using hxl) hl (fun j x hj => by
            rw [add_addr, cell_of_F hb2, Nat.zero_add, List.getElem?_append_left (by have := (List.getElem?_eq_some_iff.1 hj).1; omega), hcs]
            exact u8s_get hj)
          refine ⟨_, r_ust rfl rfl hrun, ?_⟩
          have H2 := H.upd (w' := w2.freeze ⟨gb, 0, none⟩ xs.length) (r' := .osl (.slice none 0 0) 0 1 [] [] 5) h2 (by unfold World.freeze; split <;> simp) (by unfold World.freeze; split <;> rfl) (by unfold World.freeze; split <;> rfl) (by unfold World.freeze; split <;> rfl) (fun i hi hne => by
            have hig : gb ≠ i := fun e => hne (by rw [e]; rfl)
            unfold World.freeze; split
            · rfl
            · simp [Array.getElem?_modify, hig]) (.inl ⟨rfl, rfl, rfl, rfl⟩) (fun b hb => by cases hb)
          have H3 := H2.rm k2
          rw [stR_rm] at H3
          exact H3
      clear H; intro w3 H
      refine p_val (r_assign (v := str xs) rfl) ?_
      refine wpList_nil ?_; refine on_norm ?_
      refine x_norm ?_; refine hK2 _ _ ?_
      refine wp_ret ?_
      refine e_1 rfl (q_tmp (v := str xs) rfl) ?_
      exact ⟨rfl, H⟩
end Go.Proofs.Ytmbcolbbekbccaa
