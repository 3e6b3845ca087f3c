/- The law 'seneschallaw08.SignSigns' holds of every input whose arguments hold together at most 1048576 values and letters. Conditions: the arguments' bulk is at most 1048576. -/
import Derived.Test.YtmbcolbbekbccaaGreatRows
import Derived.ProofKit
import Derived.OpenShut
import Derived.Carry
import Derived.JoinedCond
import Derived.ChangeMaps5
import Derived.Test.YtmbcolbbekbccaaGreatQsL
namespace Go.Proofs.YtmbcolbbekbccaaGreat
open Go Go.RowKit
theorem by_dig (x : W4) {i r : Nat} (hi : i < 4) (hr : r < 8) {b : Int} (hb : b = ((8 * r : Nat) : Int)) : i8 ((((i64 (shrI .u64 ((wd x i).toNat : Int) b)) &&& (255 : UInt64))).toNat : Int) = UInt8.ofNat (nv x / 2 ^ (64 * i + 8 * r)) := by
 subst hb
 have h0 := (wd x i).toNat_lt
 have h1 : (wd x i).toNat / 2 ^ (8 * r) < 18446744073709551616 := Nat.lt_of_le_of_lt (Nat.div_le_self _ _) h0
 rw [shr_n (by show 8 * r ≤ 64; omega), i64_n, ← zkW _ _ _ hr, nv_wd x hi]
 apply UInt8.toNat_inj.1
 rw [UInt64.toNat_and, un64 h1, i8, show (255 : UInt64).toNat = 2 ^ 8 - 1 from rfl, Nat.and_two_pow_sub_one_eq_mod]
 simp only [UInt8.toNat_ofNat']
 omega
theorem bytes_inner (x : W4) {i : Nat} (hi : i < 4) (l : List UInt8) (hl : l.length ≤ 1000) : iter (r6_Bytes_b1 x ((i : Int), l)) ((56 : Int), l) = some (l ++ be 8 (nv x / 2 ^ (64 * i))) := by
 have e : ∀ k, k ≤ 8 → l ++ be k (nv x / 2 ^ (64 * i) / 2 ^ (8 * (8 - k))) = l ++ be k (nv x / 2 ^ (64 * i + 8 * (8 - k))) := fun k _ => by rw [Nat.div_div_eq_div_mul, ← Nat.pow_add]
 have := zcS (body := r6_Bytes_b1 x ((i : Int), l)) (fun k => ((56 : Int) - 8 * (k : Int), l ++ be k (nv x / 2 ^ (64 * i + 8 * (8 - k))))) 8 (by decide) (l ++ be 8 (nv x / 2 ^ (64 * i))) (fun k hk => by
  unfold r6_Bytes_b1
  simp only
  rw [zdE (by omega), wd_get x rfl hi, zhS (by simp; omega)]
  simp only [Option.bind_some]
  rw [by_dig x (r := 7 - k) hi (by omega) (by omega), zeH (by simp [zgY]; omega), w64_i (by omega) (by omega)]
  simp only [Option.bind_some]
  rw [show (56 : Int) - 8 * (k : Int) - 8 = 56 - 8 * ((k + 1 : Nat) : Int) by omega, be_succ, List.append_assoc, show 8 * (8 - (k + 1)) = 8 * (7 - k) by omega]
  rw [Nat.div_div_eq_div_mul, show (256 : Nat) = 2 ^ 8 from rfl, ← Nat.pow_add, show 64 * i + 8 * (7 - k) + 8 = 64 * i + 8 * (8 - k) by omega]) (by
  unfold r6_Bytes_b1
  simp only
  rw [zdA (by decide), show 64 * i + 8 * (8 - 8) = 64 * i by omega])
 simpa [be] using this
theorem bytes_ok (x : W4) : r6_Bytes_p x = some (be 32 (nv x)) := by
 unfold r6_Bytes_p
 have key : iter (r6_Bytes_b0 x) ((3 : Int), ([] : List UInt8)) = some (be 32 (nv x)) := by
  have := zcS (body := r6_Bytes_b0 x) (fun k => ((3 : Int) - (k : Int), be (8 * k) (nv x / 2 ^ (64 * (4 - k))))) 4 (by decide) (be 32 (nv x)) (fun k hk => by
   unfold r6_Bytes_b0
   simp only
   have h := bytes_inner x (i := 3 - k) (by omega) (be (8 * k) (nv x / 2 ^ (64 * (4 - k)))) (by rw [zgY]; omega)
   rw [show ((3 - k : Nat) : Int) = (3 : Int) - (k : Int) by omega] at h
   rw [zdE (by omega), h, w64_i (by omega) (by omega)]
   simp only [Option.bind_some]
   rw [show (3 : Int) - (k : Int) - 1 = 3 - ((k + 1 : Nat) : Int) by omega, show 8 * (k + 1) = 8 * k + 8 by omega, be_add, Nat.div_div_eq_div_mul, show (256 : Nat) ^ 8 = 2 ^ 64 from rfl, ← Nat.pow_add, show 64 * (4 - (k + 1)) + 64 = 64 * (4 - k) by omega, show 64 * (4 - (k + 1)) = 64 * (3 - k) by omega]) (by
   unfold r6_Bytes_b0
   simp only
   rw [zdA (by decide)]
   simp)
  simpa [be] using this
 rw [key]; rfl
theorem read_body {l : List UInt8} {k : Nat} {zs : List Nat} (hl : l.length ≤ 1000000000) (hk : k < l.length) (hzl : zs.length = (k + 1) / 2) (hzd : DL zs) (hzv : dval zs = bval (l.drop (l.length - k))) :
  ∃ zs', r6_Read_b0 l ((l.length : Int) - 1 - (k : Int), um zs) = some (.inl ((l.length : Int) - 1 - ((k + 1 : Nat) : Int), um zs')) ∧ zs'.length = (k + 1 + 1) / 2 ∧ DL zs' ∧ dval zs' = bval (l.drop (l.length - (k + 1))) := by
 obtain ⟨b, hb⟩ : ∃ b, l[l.length - 1 - k]? = some b := ⟨_, List.getElem?_eq_getElem (by omega)⟩
 have hz2 : ∃ (z2 : List Nat) (d : Nat), (bif ((Int.tmod ((k : Nat) : Int) 2) == 0) then (Option.bind (app (um zs) ([(0 : UInt32)] : List UInt32)) fun y1 => some (y1)) else (some (um zs))) = some (um z2) ∧ z2.length = k / 2 + 1 ∧ DL z2 ∧ dval z2 = dval zs ∧ z2[k / 2]? = some d := by
  rw [rem2]
  by_cases h2 : k % 2 = 0
  ·rw [h2, show (((0 : Nat) : Int) == 0) = true from rfl, show (0 : UInt32) = UInt32.ofNat 0 from rfl, app_um (by omega)]
   have := read_0 hzl h2
   exact ⟨zs ++ [0], 0, rfl, this.2, hzd.snoc (by decide), dval_snoc0 zs, this.1⟩
  ·rw [show (((k % 2 : Nat) : Int) == 0) = false by rw [beq_false_of_ne]; omega]
   obtain ⟨d, hd⟩ := read_1 hzl h2
   exact ⟨zs, d, rfl, by omega, hzd, rfl, hd⟩
 obtain ⟨z2, d, e, hz2l, hz2d, hz2v, hd⟩ := hz2
 obtain ⟨hd1, hD, hv⟩ := read_step hk hz2d (hz2v.trans hzv) hd hb
 refine ⟨_, ?_, by rw [List.length_set]; omega, hD, hv⟩
 have hbl := b.toNat_lt
 have hdl := hz2d.get hd
 have hq : w64 (Int.tdiv ((k : Nat) : Int) 2) = ((k / 2 : Nat) : Int) := quo2w (by omega)
 unfold r6_Read_b0
 simp only
 rw [zdE (by omega), w64_i (x := (l.length : Int) - 1) (by omega) (by omega), w64_n (n := k) (by omega) (by omega), e]
 simp only [Option.bind_some]
 rw [hq, zjZ rfl hd]
 simp only [Option.bind_some]
 rw [show (l.length : Int) - 1 - (k : Int) = ((l.length - 1 - k : Nat) : Int) by omega, idx_nat, hb]
 simp only [Option.bind_some]
 rw [rem2, w64_n (n := 8 * (k % 2)) (by omega) (by omega), zhS (decide_eq_true (Int.natCast_nonneg _))]
 simp only [Option.bind_some]
 have h3 : i32 (shlI .u32 (((i32 ((b.toNat : Int)))).toNat : Int) ((8 * (k % 2) : Nat) : Int)) = UInt32.ofNat (b.toNat * 256 ^ (k % 2)) := by
  rw [i32_n, un (by omega)]
  unfold shlI
  rw [read_shl k, i32_n]
 rw [h3]
 have h4 : UInt32.ofNat d ||| UInt32.ofNat (b.toNat * 256 ^ (k % 2)) = UInt32.ofNat (d + b.toNat * 256 ^ (k % 2)) := by
  apply UInt32.toNat_inj.1
  rcases p256 k with ⟨h0, e0⟩ | ⟨h0, e0⟩ <;> rw [e0] at hd1 ⊢
  ·obtain rfl : d = 0 := by omega
   rw [UInt32.toNat_or, un (by omega), un (by omega), un (by omega)]; simp
  ·rw [UInt32.toNat_or, un (by omega), un (by omega), un (by omega), Nat.or_comm, show b.toNat * 256 = b.toNat * 2 ^ 8 from rfl, Nat.mul_comm, ← Nat.two_pow_add_eq_or_of_lt (by omega), Nat.add_comm]
 rw [h4, setL_um rfl (by omega)]
 simp only [Option.bind_some]
 rw [w64_i (by omega) (by omega), show ((l.length - 1 - k : Nat) : Int) - 1 = (l.length : Int) - 1 - ((k + 1 : Nat) : Int) by omega]
theorem read_ok {l : List UInt8} (hl : l.length ≤ 1000000000) : r6_Read_p l = some (ud (bval l)) := by
 unfold r6_Read_p
 rw [w64_i (by omega) (by omega)]
 obtain ⟨b, hb, zs, rfl, hzl, hzd, hzv⟩ := zfI (body := r6_Read_b0 l)
  (fun s => ∃ (k : Nat) (zs : List Nat), s = ((l.length : Int) - 1 - (k : Int), um zs) ∧ k ≤ l.length ∧ zs.length = (k + 1) / 2 ∧ DL zs ∧ dval zs = bval (l.drop (l.length - k)))
  (fun s => (s.1 + 1).toNat) (fun b => ∃ zs : List Nat, b = um zs ∧ zs.length ≤ l.length ∧ DL zs ∧ dval zs = bval l) ((l.length : Int) - 1, ([] : List UInt32))
  ⟨0, [], by simp [um], Nat.zero_le _, rfl, DL.nil, by simp [dval, bval]⟩ (by simp; omega) (by
   rintro s ⟨k, zs, rfl, hk, hzl, hzd, hzv⟩
   by_cases h : k < l.length
   ·obtain ⟨zs', e, h1, h2, h3⟩ := read_body hl h hzl hzd hzv
    refine .inl ⟨_, e, ⟨k + 1, zs', rfl, by omega, h1, h2, h3⟩, ?_⟩
    show ((l.length : Int) - 1 - ((k + 1 : Nat) : Int) + 1).toNat < ((l.length : Int) - 1 - (k : Int) + 1).toNat
    omega
   ·obtain rfl : k = l.length := by omega
    refine .inr ⟨_, ?_, zs, rfl, by omega, hzd, by simpa using hzv⟩
    unfold r6_Read_b0
    simp only
    rw [zdA (by omega)])
 rw [hb]
 simp only [Option.bind_some]
 rw [trim_ok (by show zs.length ≤ _; omega) hzd, hzv]
 rfl
theorem sumR8 {s : List UInt8} (h : s.length ≤ 68719470000) : r8_Sum_p s = some (ud (eF s)) := by
 unfold r8_Sum_p
 have hb : bval (shaF s) < zaE := bval_two256 (shaF_len s)
 rw [sumR h, zaB, read_ok (by rw [shaF_len]; decide), zaB, zjQ, zaB, left_ok (zbS (zeY hb)) (zjU 1), zaB]
 rfl
theorem inverseR {a : Nat} (ha : a < zaE) (h0 : a % nn ≠ 0) : zeU 1 (ud a) = some (ud (invV 1 a)) := by
 rw [inverse_ok 1 (zeY ha) h0, (inv_f (m := 1) h0).1]
theorem rq_toA {P : Pt} : (rq P).1 = (toA P).2.2 ∧ (rq P).2.1 = ud (toA P).1 := by
 cases P with
 | none => exact ⟨rfl, by show ([] : List UInt32) = ud 0; unfold ud; rw [zjG]; rfl⟩
 | some q => exact ⟨rfl, rfl⟩
theorem toA_far {P : Pt} (h : (toA P).2.2 = true) : (toA P).1 = 0 := by
 cases P with
 | none => rfl
 | some q => cases h
theorem bytesR8 {a : Nat} (h : a < zaE) : zlC (ud a) = some (be 32 a) := by
 unfold zlC
 rw [out_ok h, zaB, bytes_ok, nv_tv h]; rfl
theorem many1 : r8_many_p 1 32 = some (Lib.repeatL [1] 32) := of_decide_eq_true (by kernel_rfl)
theorem many0 : r8_many_p 0 32 = some (Lib.repeatL [0] 32) := of_decide_eq_true (by kernel_rfl)
theorem fineB_lt {a : Nat} (h : a < nn) : fineB a = (a != 0) := by rw [fineB, decide_eq_true h, Bool.and_true]
theorem halfR {d k e : Nat} (hd : d < zaE) (hk : fineB k = true) (he : e < zaE) :
  r8_half_p (ud d) (ud k) (ud e) = some (bif okB d k e then (sigF d k e, true) else ([], false)) := by
 obtain ⟨k0, kn⟩ := fineB_iff.1 hk
 have k2 : k < zaE := Nat.lt_trans kn nn_lt2
 have hg : gx k = (toA (smul k PG)).1 := by unfold gx; rw [cmul_aff onT_GG]; rfl
 have gl : gx k < zaE := (ziP k GG).1
 unfold r8_half_p okB
 rw [pointR k2, zaB, rq_toA.1, rq_toA.2, ← hg]
 cases hf : (toA (smul k PG)).2.2 with
 | true => rw [cond_true, hg, toA_far hf, Nat.zero_mod, show ((0 : Nat) != 0) = false from rfl, Bool.false_and, Bool.and_false]; rfl
 | false =>
  rw [cond_false, zjQ, zaB, left_ok (zbS (zeY gl)) (zjU 1), zaB, show modN 1 = nn from rfl]
  rw [product_ok 1 (zeY (zjL _)) (zeY hd), zaB, show modN 1 = nn from rfl, sum_ok 1 (zeY he) (zeY (zjL _)), zaB, show modN 1 = nn from rfl]
  rw [inverseR k2 (by rw [Nat.mod_eq_of_lt kn]; exact k0), zaB, product_ok 1 (zeY (zjL _)) (zeY (invV_lt2 _ _)), zaB, show modN 1 = nn from rfl]
  rw [show (e + gx k % nn * d % nn) % nn * invV 1 k % nn = th d k e from rfl, fineR (zjL _), zaB, fineB_lt (Nat.mod_lt _ nn_pos), show (k != 0) = true by rw [bne_iff_ne]; exact k0, Bool.true_and]
  have ht : th d k e < nn := Nat.mod_lt _ nn_pos
  cases gx k % nn != 0 with
  | false => rfl
  | true =>
   rw [Bool.not_true, cond_false, fineR (th_lt2 d k e), zaB, fineB_lt ht, zaB, Bool.true_and]
   cases th d k e != 0 with
   | false => rfl
   | true =>
    rw [Bool.not_true, cond_false, cond_true, bytesR8 (zjL _), zaB, bytesR8 (th_lt2 d k e), zaB, zeH (by rw [zgY, zgY]; decide), zaB]
    rfl
theorem nonF_len (t : Tp) (i : Nat) : (nonF t i).length = 32 := zdO _ _
theorem rb0_ok {d e : Nat} (hd : d < zaE) (he : e < zaE) {t : Tp} (h1 : t.1.length = 32) (h2 : t.2.length = 32) {i : Nat} (hi : i < 16) :
  ziG (tv d) (ud e) ((tapeF t i).1, (tapeF t i).2, (i : Int)) = bif hitB d e t i then some (.inr (.inl (sigF d (bval (nonF t i)) e, 0))) else some (.inl ((tapeF t (i + 1)).1, (tapeF t (i + 1)).2, ((i + 1 : Nat) : Int))) := by
 obtain ⟨l1, l2⟩ := tapeF_len h1 h2 i
 have ln := nonF_len t i
 have gn := bval_two256 ln
 unfold ziG
 simp only []
 rw [zdE (by omega), macR (by omega) (by omega), zaB, show macF (tapeF t i).2 (tapeF t i).1 = nonF t i from rfl, read_ok (by omega), zaB, fineR gn, zaB]
 have hh : hitB d e t i = (fineB (bval (nonF t i)) && okB d (bval (nonF t i)) e) := by
  unfold hitB ofOK okB
  rw [ln, BEq.rfl, Bool.true_and, fineB]
  cases bval (nonF t i) != 0 with
  | false => simp
  | true => rfl
 have next : (Option.bind (app (nonF t i) ([0] : List UInt8)) fun y21 => Option.bind (zfF (tapeF t i).2 y21) fun y22 => Option.bind (zfF y22 (nonF t i)) fun y23 => some (Sum.inl (α := List UInt8 × List UInt8 × Int) (β := (List UInt8 × Int) ⊕ Unit) (y23, y22, w64 ((i : Int) + 1)))) = some (.inl ((tapeF t (i + 1)).1, (tapeF t (i + 1)).2, ((i + 1 : Nat) : Int))) := by
  rw [zeH (by rw [ln]; decide), zaB, macR (by omega) (by rw [List.length_append, ln]; decide), zaB, macR (by rw [zdO]; decide) (by omega), zaB, zjD (by omega) (by omega)]
  rfl
 rw [hh]
 cases hf : fineB (bval (nonF t i)) with
 | false => rw [cond_false, jn_l, Bool.false_and, cond_false]; exact next
 | true =>
  rw [cond_true, in_ok, nv_tv hd, zaB, halfR hd hf he, zaB, Bool.true_and]
  cases okB d (bval (nonF t i)) e with
  | true => rfl
  | false => rw [cond_false, cond_false, cond_false, jn_l]; exact next
theorem iter_tryR {d e : Nat} (hd : d < zaE) (he : e < zaE) {t : Tp} (h1 : t.1.length = 32) (h2 : t.2.length = 32) : ∀ n i k : Nat, i + n = 16 → n < k →
  iterN (ziG (tv d) (ud e)) k ((tapeF t i).1, (tapeF t i).2, (i : Int)) = some (match tryF d e t i n with | some s => .inl (s, 0) | none => .inr ())
 | 0, i, k + 1, hi, _ => by
  rw [tryF]
  exact zkD (by unfold ziG; rw [zdA (by show ¬ ((i : Int) < 16); omega)])
 | n + 1, i, k + 1, hi, hk => by
  have hb := rb0_ok hd he h1 h2 (i := i) (by omega)
  rw [tryF]
  cases hh : hitB d e t i with
  | true => rw [hh] at hb; exact zkD hb
  | false =>
   rw [hh] at hb
   rw [zjM hb]; exact iter_tryR hd he h1 h2 n (i + 1) k (by omega) (by omega)
theorem loopR {d e : Nat} (hd : d < zaE) (he : e < zaE) {t : Tp} (h1 : t.1.length = 32) (h2 : t.2.length = 32) :
  jn (Option.bind (iter (ziG (tv d) (ud e)) ((t.1, t.2, 0))) (fun e => jnO e (fun e1 => some (.inr (e1))) (fun e2 => some (.inl (e2))))) (fun _ => some ((([] : List UInt8), (81 : Int)))) (fun e => some (e)) = some (endF (tryF d e t 0 16)) := by
 have : iter (ziG (tv d) (ud e)) ((t.1, t.2, 0)) = some (match tryF d e t 0 16 with | some s => .inl (s, 0) | none => .inr ()) := iter_tryR hd he h1 h2 16 0 FU rfl (by decide)
 rw [this, zaB]
 cases tryF d e t 0 16 <;> rfl
theorem initR {d e : Nat} (g : List UInt8 → List UInt8 → Option (List UInt8 × Int)) : (Option.bind (app (be 32 d) (be 32 e)) fun y5 => Option.bind (r8_many_p (1 : UInt8) 32) fun y6 => Option.bind (r8_many_p (0 : UInt8) 32) fun y7 => Option.bind (app y6 ([0] : List UInt8)) fun y8 => Option.bind (app y8 y5) fun y9 => Option.bind (zfF y7 y9) fun y10 => Option.bind (zfF y10 y6) fun y11 => Option.bind (app y11 ([1] : List UInt8)) fun y12 => Option.bind (app y12 y5) fun y13 => Option.bind (zfF y10 y13) fun y14 => Option.bind (zfF y14 y11) fun y15 => g y15 y14) = g (tape0 d e).1 (tape0 d e).2 := by
 have lb : ∀ a, (be 32 a).length = 32 := zgY 32
 have l1 : (Lib.repeatL [(1 : UInt8)] 32).length = 32 := by decide
 have l0 : (Lib.repeatL [(0 : UInt8)] 32).length = 32 := by decide
 have la : (be 32 d ++ be 32 e).length = 64 := by rw [List.length_append, lb, lb]
 unfold tape0 stirF
 rw [zeH (by rw [lb, lb]; decide), zaB, many1, zaB, many0, zaB]
 generalize Lib.repeatL [(1 : UInt8)] 32 = a at l1 ⊢
 generalize Lib.repeatL [(0 : UInt8)] 32 = b at l0 ⊢
 generalize be 32 d ++ be 32 e = m at la ⊢
 rw [zeH (by rw [l1]; decide), zaB, zeH (by rw [List.length_append, l1, la]; decide), zaB, macR (by omega) (by rw [List.length_append, List.length_append, l1, la]; decide), zaB, macR (by rw [zdO]; decide) (by omega), zaB, List.append_assoc]
 simp only []
 generalize hq : macF b (a ++ ([0] ++ m)) = q
 have lq : q.length = 32 := by rw [← hq]; exact zdO _ _
 generalize hp : macF q a = p
 have lp : p.length = 32 := by rw [← hp]; exact zdO _ _
 rw [zeH (by rw [lp]; decide), zaB, zeH (by rw [List.length_append, lp, la]; decide), zaB, macR (by omega) (by rw [List.length_append, List.length_append, lp, la]; decide), zaB, macR (by rw [zdO]; decide) (by omega), zaB, List.append_assoc]
theorem signR {d : Nat} (hd : d < zaE) {s : List UInt8} (hs : s.length ≤ 68719470000) :
  r8_Sign_p (tv d) s = some (bif fineB d then endF (tryF d (eF s) (tape0 d (eF s)) 0 16) else ([], 80)) := by
 have he := eF_lt s
 have hl := tape0_len d (eF s)
 unfold r8_Sign_p r8_Fine_p
 rw [in_ok, nv_tv hd, zaB, fineR hd, zaB, zaB]
 cases hf : fineB d with
 | false => rfl
 | true =>
  rw [Bool.not_true, cond_false, cond_true, sumR8 hs, zaB, bytes_ok, nv_tv hd, zaB, bytesR8 he, zaB, initR fun y15 y14 => jn (Option.bind (iter (ziG (tv d) (ud (eF s))) ((y15, y14, 0))) (fun e => jnO e (fun e1 => some (.inr (e1))) (fun e2 => some (.inl (e2))))) (fun _ => some ((([] : List UInt8), (81 : Int)))) (fun e => some (e))]
  exact loopR hd he hl.1 hl.2
theorem signSigns_plain {x : W4} {s : List UInt8} (hs : s.length ≤ 4194304) : l8_SignSigns_p x s = some true := by
 have hd := nv_lt x
 rw [← tv_nv x]
 generalize nv x = d at hd
 unfold l8_SignSigns_p
 rw [sign_ok hd (by omega), zaB, signR hd (by omega), zaB, fixed_ok, zaB, cond_true, BEq.rfl, cond_true, BEq.rfl]
theorem signSigns_w (A : Nat) (hA : A < zaE) (s : List UInt8) (hs : s.length ≤ 4194304) (w : World) : Calls Tryz.prog 4 #[numV A, str s] w fun e w' => e = .returned (.bool true) ∧ Ext w w' := by
 have := l8_SignSigns_c (subMem w) (signSigns_plain (x := tv A) hs)
 rwa [clN_v] at this
section
open Go Go.RowKit Go.ChangeShapes Go.WideShapes Go.ChangeAt
section
variable {H : Type} {enc : TypeId × Value → H} {P : Program} {W W' : World}
theorem ext_trodAll (hl : laidOutB P = true) (hx : Below W.heap.size W W') : ∀ {ts : List TypeId} {vs : List Value} {ds : List (DataW H)} {ps : List MemPlace}, ts.all (fun t => P.readableRec t && decide (t < P.types.size)) = true →
  DataW.TrodAll enc P W 0 (fun _ => true) true ts vs ds ps → (∀ x ∈ ps, x.block < W.heap.size) → DataW.TrodAll enc P W' 0 (fun b => decide (b < W.heap.size)) true ts vs ds ps
 | [], vs, ds, ps, _, h, _ => by
  obtain ⟨rfl, rfl, rfl⟩ := trodAll_nil h
  exact trodAll_mk0
 | t :: ts, vs, ds, ps, ha, h, hlt => by
  obtain ⟨v, vs', d, ds', p, q, rfl, rfl, rfl, h0, hr⟩ := trodAll_cons h
  simp only [List.all_cons, Bool.and_eq_true, decide_eq_true_eq] at ha
  exact trodAll_cons_mk (Below.trod hl ha.1.1 ha.1.2 h0 hx fun x hx => hlt x (List.mem_append.2 (.inl hx)))
   (ext_trodAll hl hx ha.2 hr fun x hx => hlt x (List.mem_append.2 (.inr hx)))
theorem trodAll_length : ∀ {ts : List TypeId} {vs : List Value} {ds : List (DataW H)} {ps : List MemPlace} {w : World} {b : Nat} {sp : Nat → Bool} {hd : Bool}, DataW.TrodAll enc P w b sp hd ts vs ds ps → vs.length = ts.length ∧ ds.length = ts.length
 | [], vs, ds, ps, _, _, _, _, h => by
  obtain ⟨rfl, rfl, rfl⟩ := trodAll_nil h
  exact ⟨rfl, rfl⟩
 | t :: ts, vs, ds, ps, _, _, _, _, h => by
  obtain ⟨v, vs', d, ds', p, q, rfl, rfl, rfl, h0, hr⟩ := trodAll_cons h
  have := trodAll_length hr
  simp [this.1, this.2]
theorem law_post {f : Func} {s : ChangeSpec} {args : Array Value} {ds gs : List (DataW H)} {before : List MemPlace} {B : TypeId} {n : Nat} (hl : laidOutB P = true) (hv : s.vars = [])
  (hp : f.params.toList.all (fun t => P.readableRec t && decide (t < P.types.size)) = true) (hn : f.params.toList.length = n) (hB : P.underlying B = some .bool) (hr : f.resultTypes = #[B])
  (hfn : ∀ ds : List (DataW H), ds.length = n → (s.fn H (ds ++ [])).results = [.lit (.bool true)] ∧ (s.fn H (ds ++ [])).args = ds ∧ (s.fn H (ds ++ [])).vars = [])
  (hW : DataW.Whole enc P f.params.toList s.vars false W args.toList ds gs before) (hx : Ext W W') : s.post enc P f false true false false W args (.bool true) W' := by
 have hW' := hW
 obtain ⟨p, q, hA, hV, rfl, _, _⟩ := hW
 rw [hv] at hV
 obtain ⟨rfl, rfl⟩ := trodVars_none hV
 have hA : DataW.TrodAll enc P W 0 (fun _ => true) true f.params.toList args.toList ds p := hA
 have hlen := trodAll_length hA
 obtain ⟨f1, f2, f3⟩ := hfn ds (hlen.2.trans hn)
 refine ⟨ds, [], p ++ [], [], p, [], hW', ?_, ?_, ?_, Below.frame hx _, fun h => by cases h⟩
 ·rw [f1, hr]
  exact trodAll_mk1 (shut_bool hB _)
 ·rw [f2]
  exact ext_trodAll hl hx hp hA fun x hxp => by simpa using hW'.lt x (by simp [hxp])
 ·rw [f3, hv]; exact rfl
variable {b0 : Nat} {T E : TypeId} {v : Value}
theorem ok_cells {n : Nat} {ts : List TypeId} (hu : (∃ fs, P.underlying T = some (.struct fs)) ∨ ∃ m e, P.underlying T = some (.array m e)) (hc : P.cellsOf T = n) (ht : P.cellTypes P.depth T = some ts) (hn : ts.length = n) (h : Value.okWide P W .any b0 T v) :
  ∃ l : List Value, v = .agg l.toArray ∧ l.length = n ∧ ∀ (i : Nat) (u : Value), l[i]? = some u → ∃ t, ts[i]? = some t ∧ Cell.okWide P W .any b0 t u := by
 have h1 : ∃ cs, v = .agg cs ∧ cs.size = P.cellsOf T ∧ Row.okWide P W .any b0 T cs := by
  rcases hu with ⟨fs, hu⟩ | ⟨m, e, hu⟩ <;> simpa only [Value.okWide, hu] using h
 obtain ⟨cs, rfl, hsz, ts', ht', _, hall⟩ := h1
 rw [ht] at ht'
 obtain rfl : ts = ts' := osi ht'
 refine ⟨cs.toList, by simp, by simpa [hc] using hsz, fun i u hi => ?_⟩
 have hlt : i < ts.length := by
  have := (List.getElem?_eq_some_iff.1 hi).1
  rw [hn, ← hc, ← hsz]; simpa using this
 obtain ⟨t, h2, h3⟩ := hall i u (by simpa using hi)
 rw [Nat.mod_eq_of_lt hlt] at h2
 exact ⟨t, h2, h3⟩
theorem cell_u64 {u : Value} (he : P.underlying E = some (.int .u64)) (h : Cell.okWide P W .any b0 E u) : ∃ x, u = .int .u64 x ∧ U x := by
 simp only [Cell.okWide, Cell.ok, he] at h
 cases u <;> simp_all
 rename_i k n
 obtain ⟨rfl, h1⟩ := h
 simp only [IntKind.has, Bool.and_eq_true, decide_eq_true_eq] at h1
 have e1 : IntKind.u64.min = 0 := by decide
 have e2 : IntKind.u64.max = 18446744073709551615 := by decide
 unfold U
 omega
theorem num_of {a b c d : Int} (ha : U a) (hb : U b) (hc : U c) (hd : U d) : ∃ A, A < zaE ∧ ([.int .u64 a, .int .u64 b, .int .u64 c, .int .u64 d] : List Value) = numL A := by
 refine ⟨val4 a b c d, ?_, ?_⟩
 ·unfold val4 zaE
  unfold U at *
  omega
 ·refine numL_of ha hb hc hd ?_
  unfold val4
  unfold U at *
  omega
theorem ok_num (hu : P.underlying T = some (.array 4 E)) (he : P.underlying E = some (.int .u64)) (hc : P.cellsOf T = 4) (ht : P.cellTypes P.depth T = some [E, E, E, E]) (h : Value.okWide P W .any b0 T v) : ∃ A, A < zaE ∧ v = numV A := by
 obtain ⟨l, rfl, hl, hall⟩ := ok_cells (.inr ⟨4, E, hu⟩) hc ht rfl h
 obtain ⟨a, b, c, d, rfl⟩ : ∃ a b c d, l = [a, b, c, d] := by
  match l, hl with
  | [a, b, c, d], _ => exact ⟨a, b, c, d, rfl⟩
 have get : ∀ (i : Nat) (u : Value), [a, b, c, d][i]? = some u → ∃ x, u = .int .u64 x ∧ U x := fun i u hi => by
  obtain ⟨t, h1, h2⟩ := hall i u hi
  have : t = E := by
   match i, h1 with
   | 0, h1 => simpa using h1.symm
   | 1, h1 => simpa using h1.symm
   | 2, h1 => simpa using h1.symm
   | 3, h1 => simpa using h1.symm
   | i + 4, h1 => simp at h1
  subst this
  exact cell_u64 he h2
 obtain ⟨xa, rfl, ua⟩ := get 0 a rfl
 obtain ⟨xb, rfl, ub⟩ := get 1 b rfl
 obtain ⟨xc, rfl, uc⟩ := get 2 c rfl
 obtain ⟨xd, rfl, ud⟩ := get 3 d rfl
 obtain ⟨A, hA, e⟩ := num_of ua ub uc ud
 exact ⟨A, hA, by rw [e]⟩
theorem ok_str {sp : Nat → Bool} {d : DataW H} {ps : List MemPlace} (hu : P.underlying T = some .string) (h : Value.okWide P W .any b0 T v) (hd : DataW.Trod enc P W 0 sp true T v d ps) : ∃ l : List UInt8, v = str l ∧ l.length ≤ 9223372036854775807 ∧ d = .lit (.string l) := by
 obtain ⟨s, rfl, rfl, rfl, hs⟩ := Go.ChangeMaps.open_string hu h hd
 refine ⟨s.data.toList, ?_, ?_, rfl⟩
 ·show Value.string s = .string ⟨s.data.toList.toArray⟩
  simp
 ·have : maxLen = 9223372036854775807 := by decide
  rw [← this, Array.length_toList]; exact hs
end
end
section
open Go Go.RowKit Go.ChangeShapes Go.WideShapes Go.ChangeAt
attribute [local irreducible] Value.okWide
theorem own_signSigns : ownKnob Tryz.prog.godebug = none := by kernel_rfl
theorem contract_signSigns (H : Type) (enc : TypeId × Value → H) (W : World) (base : Nat) (args : Array Value) (ds gs : List (DataW H)) (before : List MemPlace)
  (hval : ∀ (j : Nat) t v, Tryz.f4.params[j]? = some t → args[j]? = some v → Value.okWide Tryz.prog W .any base t v)
  (hW : DataW.Whole enc Tryz.prog Tryz.f4.params.toList Rows.signSignsSpec.vars false W args.toList ds gs before) (hk : Rows.uptoSmall H (ds ++ gs) = true) :
  Calls Tryz.prog 4 args W fun e W' => ∃ v, e = .returned v ∧ Rows.signSignsSpec.post enc Tryz.prog Tryz.f4 false true false false W args v W' := by
 have hW' := hW
 obtain ⟨p, q, hA0, hV, rfl, _, _⟩ := hW
 have hA : DataW.TrodAll enc Tryz.prog W 0 (fun _ => true) true Tryz.f4.params.toList args.toList ds p := hA0
 rw [Tryz.params4] at hA hval
 obtain ⟨v0, vs0, d0, ds0, p0, q0, hargs, rfl, rfl, t0, r0⟩ := trodAll_cons hA
 obtain ⟨v1, vs1, d1, ds1, p1, q1, rfl, rfl, rfl, t1, r1⟩ := trodAll_cons r0
 obtain ⟨rfl, rfl, rfl⟩ := trodAll_nil r1
 obtain rfl : args = #[v0, v1] := by cases args; simp_all
 obtain ⟨rfl, rfl⟩ := trodVars_none hV
 obtain ⟨A0, h0, rfl⟩ := ok_num (E := 22) (show Tryz.prog.underlying 24 = some (.array 4 22) by kernel_rfl) (show Tryz.prog.underlying 22 = some (.int .u64) by kernel_rfl) (by kernel_rfl) (by kernel_rfl) (hval 0 24 v0 rfl rfl)
 obtain ⟨l1, rfl, hl1, e1⟩ := ok_str (show Tryz.prog.underlying 9 = some .string by kernel_rfl) (hval 1 9 v1 rfl rfl) t1
 rw [e1] at hk
 simp only [List.cons_append, List.nil_append, List.append_nil, Rows.uptoSmall, decide_eq_true_eq, Rows.uptoBulkAll, Rows.uptoBulk] at hk
 refine (signSigns_w A0 h0 l1 (by omega) W).mono fun e W' ⟨he, hx⟩ => ?_
 subst he
 refine ⟨_, rfl, law_post (B := 4) (n := 2) (by kernel_rfl) rfl (by kernel_rfl) (by kernel_rfl) (by kernel_rfl) (by kernel_rfl) (fun ds hds => ?_) hW' hx⟩
 match ds, hds with
 | [x0, x1], _ => exact ⟨rfl, rfl, rfl⟩
set_option maxRecDepth 100000 in
theorem lifted_signSigns (os : Os) (started : os.Started) (H : Type) (enc : TypeId × Value → H) (F : Stop.Interp) :
  ReturnsInHanded {} Tryz.checked os 4 .any ((Rows.OpenSpec.upto Rows.signSignsSpec).pre6 enc Tryz.prog Tryz.f4 Rows.signSignsUptoRow.domain false) (((Rows.OpenSpec.upto Rows.signSignsSpec).at F).post enc Tryz.prog Tryz.f4 false true false false) := by
 refine returnsInHanded_of_cond (C := Tryz.checked) (s := Rows.OpenSpec.upto Rows.signSignsSpec) (k := Rows.uptoSmall) rfl own_signSigns started (by kernel_rfl) Tryz.func4
  (OpenSpec.witness (enc := enc) (C := Tryz.checked) (s := Rows.OpenSpec.upto Rows.signSignsSpec) (k := Rows.uptoSmall) rfl false ⟨#[], #[.agg #[.int .u64 0, .int .u64 0, .int .u64 0, .int .u64 0], .string ⟨#[]⟩], []⟩ 8 (by kernel_rfl) (by kernel_rfl) (by kernel_rfl)
   (x := ([.agg [.lit (.int .u64 0), .lit (.int .u64 0), .lit (.int .u64 0), .lit (.int .u64 0)], .lit (.string [])], [], [])) (by kernel_rfl) rfl (by kernel_rfl)) ?_
 intro W base args ds gs before hval hW _ hk _
 exact contract_signSigns H enc W base args ds gs before hval hW hk
theorem signSigns_said : Rows.SignSignsUptoSaid :=
 OpenClaim.holds_of_cond 4 Tryz.f4 rfl rfl rfl rfl rfl rfl rfl ⟨rfl, rfl, rfl, rfl, rfl⟩ rfl rfl rfl rfl rfl (by kernel_rfl) Tryz.func4 (by kernel_rfl)
  (of_decide_eq_true (by kernel_rfl)) (by unfold Func.isWrapper; first | (rw [if_pos (by decide +kernel)]; kernel_rfl) | (rw [if_neg (by decide +kernel)]; exact ⟨rfl, rfl⟩))
  (fun os started H enc _ F => lifted_signSigns os started H enc F)
end
end Go.Proofs.YtmbcolbbekbccaaGreat
