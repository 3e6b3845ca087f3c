/- Points of the curve as the program holds them: plain lemmas, and their equality. Conditions: as each theorem says. -/
import Derived.Test.YtmbcolbbekbccaaInv
import Derived.Test.YtmbcolbbekbccaaMl
import Derived.Test.YtmbcolbbekbccaaEc
namespace Go.Proofs.Ytmbcolbbekbccaa
open Go Go.RowKit

theorem HP.name {w0 w : World} {L : List Ent} {k b A : Nat} {T : TypeId} {G : Prop} (H : HP w0 w L) (hk : lk L k = some (b, numL A, T)) (h : ∀ x, x = A → HP w0 w (st L k (b, numL x, T)) → G) : G :=
  h A rfl (HP.recast H hk rfl)
def fm (a b : Nat) : Nat := a * b % modN 0
def fa (a b : Nat) : Nat := (a + b) % modN 0
def fs (a b : Nat) : Nat := (a + (modN 0 - b % modN 0)) % modN 0
theorem fm_def (a b : Nat) : a * b % modN 0 = fm a b := rfl
theorem fa_def (a b : Nat) : (a + b) % modN 0 = fa a b := rfl
theorem fs_def (a b : Nat) : (a + (modN 0 - b % modN 0)) % modN 0 = fs a b := rfl
theorem modN_0 : modN 0 = PP := rfl
theorem fm_lt (a b : Nat) : fm a b < PP := Nat.mod_lt _ (modN_pos 0)
theorem fa_lt (a b : Nat) : fa a b < PP := Nat.mod_lt _ (modN_pos 0)
theorem fs_lt (a b : Nat) : fs a b < PP := Nat.mod_lt _ (modN_pos 0)
theorem PP_lt : PP < two256 := mod_PP.lt
theorem fm_lt2 (a b : Nat) : fm a b < two256 := Nat.lt_trans (fm_lt a b) PP_lt
theorem fa_lt2 (a b : Nat) : fa a b < two256 := Nat.lt_trans (fa_lt a b) PP_lt
theorem fs_lt2 (a b : Nat) : fs a b < two256 := Nat.lt_trans (fs_lt a b) PP_lt
theorem cl_fm (a b : Nat) : cl (fm a b) = cl a * cl b := (cl_mod _).trans (cl_mul a b)
theorem cl_fa (a b : Nat) : cl (fa a b) = cl a + cl b := (cl_mod _).trans (cl_add a b)
theorem cl_fs (a b : Nat) : cl (fs a b) = cl a - cl b := by
  have h : b % modN 0 ≤ PP := Nat.le_of_lt (Nat.mod_lt _ (modN_pos 0))
  have e : cl (fs a b) = cl a + cl (PP - b % modN 0) := (cl_mod _).trans (cl_add a _)
  rw [e, cl_neg h, show cl (b % modN 0) = cl b from cl_mod b]
  grobner
theorem fa_0 {a : Nat} (h : a < PP) : fa a 0 = a := Nat.mod_eq_of_lt h
theorem fa_0' {a : Nat} : (fa a 0 != a) = false ↔ a < PP := by
  constructor
  · intro h
    have h1 : fa a 0 = a := by simpa using h
    rw [← h1]; exact fa_lt a 0
  · intro h; rw [fa_0 h]; simp
theorem cl_inv (a : Nat) : cl (invV 0 a) = fi (cl a) := by
  unfold invV
  by_cases h : a % modN 0 = 0
  · rw [if_pos h]
    have : cl a = 0 := cl_eq0.2 h
    rw [this, fi_0, cl_0]
  · rw [if_neg h]
    have h2 := inv_pow (pr_modN 0) h
    refine fi_unique ?_
    rw [← cl_mul]
    exact cl_eq.2 (h2.trans (Nat.mod_eq_of_lt (one_lt_modN 0)).symm)
/-! ### Points -/
abbrev ptL (x y : Nat) (i : Bool) : List Value := numL x ++ (numL y ++ [.bool i])
abbrev ptV (x y : Nat) (i : Bool) : Value := .agg (ptL x y i).toArray
abbrev jcL (x y z : Nat) : List Value := numL x ++ (numL y ++ numL z)
abbrev jcV (x y z : Nat) : Value := .agg (jcL x y z).toArray
def onB (x y : Nat) (i : Bool) : Bool := bif i then x == 0 && y == 0 else decide (x < PP) && decide (y < PP) && (fm y y == fa (fs (fm x (fm x x)) (fm 3 x)) bb)
theorem onB_inf {x y : Nat} : onB x y true = (x == 0 && y == 0) := rfl
theorem onB_out1 {x y : Nat} (h : (fa x 0 != x) = true) : onB x y false = false := by
  have h1 : ¬ x < PP := fun hl => by rw [(fa_0').2 hl] at h; cases h
  simp [onB, h1]
theorem onB_out2 {x y : Nat} (h : (fa y 0 != y) = true) : onB x y false = false := by
  have h1 : ¬ y < PP := fun hl => by rw [(fa_0').2 hl] at h; cases h
  simp [onB, h1]
theorem onB_in {x y : Nat} (hx : (fa x 0 != x) = false) (hy : (fa y 0 != y) = false) : onB x y false = (fm y y == fa (fs (fm x (fm x x)) (fm 3 x)) bb) := by
  simp [onB, fa_0'.1 hx, fa_0'.1 hy]
theorem onB_lt {x y : Nat} (h : onB x y false = true) : x < PP ∧ y < PP := by
  simp [onB] at h; exact h.1
theorem onB_on {x y : Nat} (h : onB x y false = true) : onE (cl x) (cl y) := by
  have h1 : fm y y = fa (fs (fm x (fm x x)) (fm 3 x)) bb := by
    simp [onB] at h; exact h.2
  have h2 := congrArg cl h1
  rw [cl_fm, cl_fa, cl_fs, cl_fm, cl_fm, cl_fm] at h2
  exact h2
theorem onB_of {x y : Nat} (hx : x < PP) (hy : y < PP) (h : onE (cl x) (cl y)) : onB x y false = true := by
  have h1 : fm y y = fa (fs (fm x (fm x x)) (fm 3 x)) bb := by
    refine cl_inj (fm_lt _ _) (fa_lt _ _) ?_
    rw [cl_fm, cl_fa, cl_fs, cl_fm, cl_fm, cl_fm]
    exact h
  simp [onB, hx, hy, h1]
def jtwX (x y z : Nat) : Nat := fs (fm (fm 3 (fm (fs x (fm z z)) (fa x (fm z z)))) (fm 3 (fm (fs x (fm z z)) (fa x (fm z z))))) (fa (fm 4 (fm x (fm y y))) (fm 4 (fm x (fm y y))))
def jtwY (x y z : Nat) : Nat := fs (fm (fm 3 (fm (fs x (fm z z)) (fa x (fm z z)))) (fs (fm 4 (fm x (fm y y))) (jtwX x y z))) (fm 8 (fm (fm y y) (fm y y)))
def jtwZ (y z : Nat) : Nat := fm 2 (fm y z)
abbrev Tr : Type := Nat × Nat × Nat
abbrev jcT (t : Tr) : List Value := jcL t.1 t.2.1 t.2.2
def jtw (t : Tr) : Tr := (jtwX t.1 t.2.1 t.2.2, jtwY t.1 t.2.1 t.2.2, jtwZ t.2.1 t.2.2)
/-- The sum of two that are not far out: u, v: x's; s, t: y's, over one denominator. -/
def jad2 (p q : Tr) (u s h r : Nat) : Tr :=
  if h = 0 then (if r = 0 then jtw p else (0, 0, 0)) else
  (fs (fs (fm r r) (fm h (fm h h))) (fa (fm u (fm h h)) (fm u (fm h h))),
   fs (fm r (fs (fm u (fm h h)) (fs (fs (fm r r) (fm h (fm h h))) (fa (fm u (fm h h)) (fm u (fm h h)))))) (fm s (fm h (fm h h))),
   fm h (fm p.2.2 q.2.2))
def jad (p q : Tr) : Tr := if p.2.2 = 0 then q else if q.2.2 = 0 then p else
  jad2 p q (fm p.1 (fm q.2.2 q.2.2)) (fm p.2.1 (fm (fm q.2.2 q.2.2) q.2.2))
    (fs (fm q.1 (fm p.2.2 p.2.2)) (fm p.1 (fm q.2.2 q.2.2))) (fs (fm q.2.1 (fm (fm p.2.2 p.2.2) p.2.2)) (fm p.2.1 (fm (fm q.2.2 q.2.2) q.2.2)))
/-- At the end of the way. -/
def jend (t : Tr) : Nat × Nat × Bool := if t.2.2 % modN 0 = 0 then (0, 0, true) else
  (fm t.1 (fm (invV 0 t.2.2) (invV 0 t.2.2)), fm t.2.1 (fm (fm (invV 0 t.2.2) (invV 0 t.2.2)) (invV 0 t.2.2)), false)
def jof (x y : Nat) (i : Bool) : Tr := bif i then (0, 0, 0) else (x, y, 1)
abbrev ptT (t : Nat × Nat × Bool) : List Value := ptL t.1 t.2.1 t.2.2
def fn (a : Nat) : Nat := (modN 0 - a % modN 0) % modN 0
theorem fn_def (a : Nat) : (modN 0 - a % modN 0) % modN 0 = fn a := rfl
theorem fn_lt (a : Nat) : fn a < PP := Nat.mod_lt _ (modN_pos 0)
theorem fn_lt2 (a : Nat) : fn a < two256 := Nat.lt_trans (fn_lt a) PP_lt
theorem cl_fn (a : Nat) : cl (fn a) = - cl a := by
  have h : a % modN 0 ≤ PP := Nat.le_of_lt (Nat.mod_lt _ (modN_pos 0))
  have e : cl (fn a) = cl (PP - a % modN 0) := cl_mod _
  rw [e, cl_neg h, show cl (a % modN 0) = cl a from cl_mod a]
abbrev Ap : Type := Nat × Nat × Bool
def onT (t : Ap) : Bool := onB t.1 t.2.1 t.2.2
def cneg (t : Ap) : Ap := bif onT t then (t.1, fn t.2.1, t.2.2) else (0, 0, false)
def cerr (t : Ap) : Int := bif onT t then 0 else 70
def cadd (p q : Ap) : Ap := bif onT p && onT q then jend (jad (jof p.1 p.2.1 p.2.2) (jof q.1 q.2.1 q.2.2)) else (0, 0, false)
def cadde (p q : Ap) : Int := bif onT p && onT q then 0 else 70
theorem jtw_0 : jtw (0, 0, 0) = (0, 0, 0) := by kernel_rfl
/-- A multiple, by the bits of the number. -/
def jmul (p : Tr) (n : Nat) : Tr := if h : n = 0 then (0, 0, 0) else
  if n % 2 = 1 then jad (jtw (jmul p (n / 2))) p else jtw (jmul p (n / 2))
termination_by n
decreasing_by all_goals exact Nat.div_lt_self (Nat.pos_of_ne_zero h) (by decide)
theorem jmul_0 (p : Tr) : jmul p 0 = (0, 0, 0) := by rw [jmul]; simp
theorem jmul_1 {p : Tr} {n : Nat} (h : n % 2 = 1) : jmul p n = jad (jtw (jmul p (n / 2))) p := by
  rw [jmul, dif_neg (by omega), if_pos h]
theorem jmul_2 {p : Tr} {n : Nat} (h : n % 2 ≠ 1) : jmul p n = jtw (jmul p (n / 2)) := by
  by_cases h0 : n = 0
  · subst h0; rw [jmul_0]; exact jtw_0.symm
  · rw [jmul, dif_neg h0, if_neg h]
theorem half_pow (K : Nat) {k : Nat} (hk : 0 < k) : K / 2 ^ (k - 1) / 2 = K / 2 ^ k := by
  rw [Nat.div_div_eq_div_mul, ← Nat.pow_succ]
  congr 2; omega
theorem jmul_b1 {p : Tr} {K k : Nat} (hk : 0 < k) (hb : K / 2 ^ (k - 1) % 2 = 1) : jad (jtw (jmul p (K / 2 ^ k))) p = jmul p (K / 2 ^ (k - 1)) := by
  rw [jmul_1 hb, half_pow K hk]
theorem jmul_b0 {p : Tr} {K k : Nat} (hk : 0 < k) (hb : K / 2 ^ (k - 1) % 2 ≠ 1) : jtw (jmul p (K / 2 ^ k)) = jmul p (K / 2 ^ (k - 1)) := by
  rw [jmul_2 hb, half_pow K hk]
theorem jmul_top {p : Tr} {K : Nat} (hK : K < two256) : jmul p (K / 2 ^ 256) = (0, 0, 0) := by
  rw [Nat.div_eq_of_lt (show K < 2 ^ 256 from hK), jmul_0]
def cmul (k : Nat) (p : Ap) : Ap := bif onT p then jend (jmul (jof p.1 p.2.1 p.2.2) k) else (0, 0, false)
/-- Numbers below the modulus, all three. -/
def TL (t : Tr) : Prop := t.1 < two256 ∧ t.2.1 < two256 ∧ t.2.2 < two256
theorem TL_0 : TL (0, 0, 0) := ⟨two256_pos, two256_pos, two256_pos⟩
theorem TL_jtw (t : Tr) : TL (jtw t) := ⟨fs_lt2 _ _, fs_lt2 _ _, fm_lt2 _ _⟩
theorem TL_jad {p q : Tr} (hp : TL p) (hq : TL q) : TL (jad p q) := by
  unfold jad
  split
  · exact hq
  · split
    · exact hp
    · unfold jad2
      split
      · split
        · exact TL_jtw _
        · exact TL_0
      · exact ⟨fs_lt2 _ _, fs_lt2 _ _, fm_lt2 _ _⟩
theorem TL_jmul {p : Tr} (hp : TL p) (n : Nat) : TL (jmul p n) := by
  rw [jmul]
  split
  · exact TL_0
  · split
    · exact TL_jad (TL_jtw _) hp
    · exact TL_jtw _
theorem one_lt2 : 1 < two256 := by decide
theorem TL_jof {x y : Nat} {i : Bool} (hx : x < two256) (hy : y < two256) : TL (jof x y i) := by
  cases i
  · exact ⟨hx, hy, one_lt2⟩
  · exact TL_0
def AL (t : Ap) : Prop := t.1 < two256 ∧ t.2.1 < two256
theorem AL_0 (i : Bool) : AL (0, 0, i) := ⟨two256_pos, two256_pos⟩
theorem AL_jend (t : Tr) : AL (jend t) := by
  unfold jend
  split
  · exact AL_0 _
  · exact ⟨fm_lt2 _ _, fm_lt2 _ _⟩
theorem AL_cadd (p q : Ap) : AL (cadd p q) := by
  unfold cadd
  cases onT p && onT q
  · exact AL_0 _
  · exact AL_jend _
theorem AL_cmul (k : Nat) (p : Ap) : AL (cmul k p) := by
  unfold cmul
  cases onT p
  · exact AL_0 _
  · exact AL_jend _
theorem AL_cneg {p : Ap} (hp : AL p) : AL (cneg p) := by
  unfold cneg
  cases onT p
  · exact AL_0 _
  · exact ⟨hp.1, fn_lt2 _⟩
theorem zero_pt : ([.int .u64 0, .int .u64 0, .int .u64 0, .int .u64 0, .int .u64 0, .int .u64 0, .int .u64 0, .int .u64 0, .bool false] : List Value) = ptT (0, 0, false) := by
  show ([.int .u64 0, .int .u64 0, .int .u64 0, .int .u64 0] ++ ([.int .u64 0, .int .u64 0, .int .u64 0, .int .u64 0] ++ [.bool false]) : List Value) = _
  rw [num_0]
theorem zero_jc : ([.int .u64 0, .int .u64 0, .int .u64 0, .int .u64 0, .int .u64 0, .int .u64 0, .int .u64 0, .int .u64 0, .int .u64 0, .int .u64 0, .int .u64 0, .int .u64 0] : List Value) = jcT (0, 0, 0) := by
  show ([.int .u64 0, .int .u64 0, .int .u64 0, .int .u64 0] ++ ([.int .u64 0, .int .u64 0, .int .u64 0, .int .u64 0] ++ [.int .u64 0, .int .u64 0, .int .u64 0, .int .u64 0]) : List Value) = _
  rw [num_0]
/-! ### Equality of points -/
section
variable {P : Program} {T N B E T' : TypeId} {fs0 : Array Field}
theorem run_eqpt (hu : P.underlying T = some (.struct fs0)) (hf : fs0.toList.map (fun f => (f.name, f.type, f.offset)) = [("X", N, 0), ("Y", N, 4), ("Inf", B, 8)]) (hst : P.stoodInHeld T = false)
    (hN : P.underlying N = some (.array 4 E)) (he : P.underlying E = some (.int .u64)) (hs : ∀ w, (sizeOf E).run P w = .ok 1 w) (ha : ∀ w, (isAgg E).run P w = .ok false w)
    (gN : ∀ w, (isAgg N).run P w = .ok true w) (sN : ∀ w, (sizeOf N).run P w = .ok 4 w) (hB : P.underlying B = some .bool) (gB : ∀ w, (isAgg B).run P w = .ok false w)
    {x y x' y' : Nat} {i i' : Bool} (hx : x < two256) (hy : y < two256) (hx' : x' < two256) (hy' : y' < two256) (d : Nat) (w : World) :
    (Op.equalIn (d + 3) T (ptV x y i) (ptV x' y' i')).run P w = .ok (x == x' && (y == y' && i == i')) w := by
  obtain ⟨f0, f1, f2, rfl⟩ : ∃ f0 f1 f2, fs0 = #[f0, f1, f2] := by
    match fs0 with
    | ⟨[a, b, c]⟩ => exact ⟨a, b, c, rfl⟩
    | ⟨[]⟩ => simp at hf
    | ⟨[_]⟩ => simp at hf
    | ⟨[_, _]⟩ => simp at hf
    | ⟨_ :: _ :: _ :: _ :: _⟩ => simp at hf
  simp only [List.map_cons, List.map_nil, List.cons.injEq, Prod.mk.injEq, and_true] at hf
  obtain ⟨⟨n0, t0, o0⟩, ⟨n1, t1, o1⟩, ⟨n2, t2, o2⟩⟩ := hf
  have e1 := run_eqnumIn hN he hs ha x x' hx hx' d
  have e2 := run_eqnumIn hN he hs ha y y' hy hy' d
  have e3 : ∀ w, (Op.equalIn (d + 2) B (.bool i) (.bool i')).run P w = .ok (i == i') w := fun w => by simp [Op.equalIn, Go.underlying, hB]
  have p1 : ∀ (a b : Nat) (k : Bool) w, (part N (ptL a b k).toArray 0).run P w = .ok (.agg (numL a).toArray) w := fun a b k w => by
    simp [part, gN, sN, numL]
  have p2 : ∀ (a b : Nat) (k : Bool) w, (part N (ptL a b k).toArray 4).run P w = .ok (.agg (numL b).toArray) w := fun a b k w => by
    simp [part, gN, sN, numL]
  have p3 : ∀ (a b : Nat) (k : Bool) w, (part B (ptL a b k).toArray 8).run P w = .ok (.bool k) w := fun a b k w => by
    simp [part, gB, numL]
  unfold Op.equalIn
  simp only [Sem.run_bind, Go.underlying, run_program, Result.andThen_ok, hu, Sem.run_pure, hst, Bool.false_eq_true, if_false]
  simp [n0, n1, n2, t0, t1, t2, o0, o1, o2, p1, p2, p3, e1, e2, e3]
  cases h0 : x == x' <;> cases h1 : y == y' <;> cases h2 : i == i' <;> simp_all
variable {e : Operand → Value} {dst : Option Tmp} {g : Option (Nat × Bool)} {ty : TypeId} {pos : String} {aft : Array Edge} {a b : Operand} {w : World} {t : Bool}
theorem r_eqpt (hu : P.underlying T = some (.struct fs0)) (hf : fs0.toList.map (fun f => (f.name, f.type, f.offset)) = [("X", N, 0), ("Y", N, 4), ("Inf", B, 8)]) (hst : P.stoodInHeld T = false)
    (hN : P.underlying N = some (.array 4 E)) (he : P.underlying E = some (.int .u64)) (hs : ∀ w, (sizeOf E).run P w = .ok 1 w) (ha : ∀ w, (isAgg E).run P w = .ok false w)
    (gN : ∀ w, (isAgg N).run P w = .ok true w) (sN : ∀ w, (sizeOf N).run P w = .ok 4 w) (hB : P.underlying B = some .bool) (gB : ∀ w, (isAgg B).run P w = .ok false w) (hg : P.eqGuardType P.depth T = false)
    {x y x' y' : Nat} {i i' : Bool} (h1 : e a = ptV x y i) (h2 : e b = ptV x' y' i') (hx : x < two256) (hy : y < two256) (hx' : x' < two256) (hy' : y' < two256) (h : (x == x' && (y == y' && i == i')) = t) :
    (execOp e ⟨dst, .binOp .eql T a b T', ty, pos, aft, g⟩).run P w = .ok (.value (.bool t)) w := by
  have key : (Op.equal T (ptV x y i) (ptV x' y' i')).run P w = .ok (x == x' && (y == y' && i == i')) w := run_eqpt hu hf hst hN he hs ha gN sN hB gB hx hy hx' hy' 9997 w
  rw [← h]
  simp only [execOp, h1, h2, eqGuard, binOp, Sem.run_bind, run_program, Result.andThen_ok, hg]
  simp [hg, key]
theorem r_nept (hu : P.underlying T = some (.struct fs0)) (hf : fs0.toList.map (fun f => (f.name, f.type, f.offset)) = [("X", N, 0), ("Y", N, 4), ("Inf", B, 8)]) (hst : P.stoodInHeld T = false)
    (hN : P.underlying N = some (.array 4 E)) (he : P.underlying E = some (.int .u64)) (hs : ∀ w, (sizeOf E).run P w = .ok 1 w) (ha : ∀ w, (isAgg E).run P w = .ok false w)
    (gN : ∀ w, (isAgg N).run P w = .ok true w) (sN : ∀ w, (sizeOf N).run P w = .ok 4 w) (hB : P.underlying B = some .bool) (gB : ∀ w, (isAgg B).run P w = .ok false w) (hg : P.eqGuardType P.depth T = false)
    {x y x' y' : Nat} {i i' : Bool} (h1 : e a = ptV x y i) (h2 : e b = ptV x' y' i') (hx : x < two256) (hy : y < two256) (hx' : x' < two256) (hy' : y' < two256) (h : (!(x == x' && (y == y' && i == i'))) = t) :
    (execOp e ⟨dst, .binOp .neq T a b T', ty, pos, aft, g⟩).run P w = .ok (.value (.bool t)) w := by
  have key : (Op.equal T (ptV x y i) (ptV x' y' i')).run P w = .ok (x == x' && (y == y' && i == i')) w := run_eqpt hu hf hst hN he hs ha gN sN hB gB hx hy hx' hy' 9997 w
  rw [← h]
  simp only [execOp, h1, h2, eqGuard, binOp, Sem.run_bind, run_program, Result.andThen_ok, hg]
  simp [hg, key]
end
theorem r_makeFunc {P : Program} {e : Operand → Value} {dst : Option Tmp} {g : Option (Nat × Bool)} {ty : TypeId} {pos : String} {aft : Array Edge} {w : World} {f : FuncId} {fs : List Operand} {first : List Value} (h : fs.map e = first) :
    (execOp e ⟨dst, .makeFunc (.func f) fs.toArray #[], ty, pos, aft, g⟩).run P w = .ok (.value (.func (.func f) first.toArray #[])) w := by
  rw [← h]; simp [execOp, Instr.makeFunc]
/-! ### What the walks leave -/
theorem jtw_of {x y z zz yy m1 s1 x3 y3 : Nat} (hzz : zz = fm z z) (hyy : yy = fm y y) (hm : m1 = fm 3 (fm (fs x zz) (fa x zz))) (hs : s1 = fm 4 (fm x yy))
    (hx : x3 = fs (fm m1 m1) (fa s1 s1)) (hy : y3 = fs (fm m1 (fs s1 x3)) (fm 8 (fm yy yy))) : jtw (x, y, z) = (x3, y3, fm 2 (fm y z)) := by
  subst hzz hyy hm hs hx hy; rfl
theorem jad_z1 {p q : Tr} (h : (p.2.2 == 0) = true) : jad p q = q := by rw [jad, if_pos (by simpa using h)]
theorem jad_z2 {p q : Tr} (h1 : (p.2.2 == 0) = false) (h : (q.2.2 == 0) = true) : jad p q = p := by rw [jad, if_neg (by simpa using h1), if_pos (by simpa using h)]
theorem jad_of {x y z a b c pz qz u v s1 t1 hd rd : Nat} (h1 : (z == 0) = false) (h2 : (c == 0) = false) (hpz : pz = fm z z) (hqz : qz = fm c c) (hu : u = fm x qz) (hv : v = fm a pz)
    (hs1 : s1 = fm y (fm qz c)) (ht1 : t1 = fm b (fm pz z)) (hhd : hd = fs v u) (hrd : rd = fs t1 s1) : jad (x, y, z) (a, b, c) = jad2 (x, y, z) (a, b, c) u s1 hd rd := by
  subst hpz hqz hu hv hs1 ht1 hhd hrd
  rw [jad, if_neg (by simpa using h1), if_neg (by simpa using h2)]
theorem jad2_t {p q : Tr} {u s hd rd : Nat} (h : (hd == 0) = true) (h1 : (rd == 0) = true) : jad2 p q u s hd rd = jtw p := by rw [jad2, if_pos (by simpa using h), if_pos (by simpa using h1)]
theorem jad2_0 {p q : Tr} {u s hd rd : Nat} (h : (hd == 0) = true) (h1 : (rd == 0) = false) : jad2 p q u s hd rd = (0, 0, 0) := by rw [jad2, if_pos (by simpa using h), if_neg (by simpa using h1)]
theorem jad2_of {x y z a b c u s1 hd rd h2 h3 uh x3 y3 : Nat} (h : (hd == 0) = false) (hh2 : h2 = fm hd hd) (hh3 : h3 = fm hd h2) (huh : uh = fm u h2) (hx3 : x3 = fs (fs (fm rd rd) h3) (fa uh uh))
    (hy3 : y3 = fs (fm rd (fs uh x3)) (fm s1 h3)) : jad2 (x, y, z) (a, b, c) u s1 hd rd = (x3, y3, fm hd (fm z c)) := by
  subst hh2 hh3 huh hx3 hy3
  rw [jad2, if_neg (by simpa using h)]
theorem invE_t {z : Nat} (h : (invE 0 z != 0) = true) : z % modN 0 = 0 := by
  by_cases hz : z % modN 0 = 0
  · exact hz
  · rw [invE, if_neg hz] at h; exact absurd h (by decide)
theorem invE_f {z : Nat} (h : (invE 0 z != 0) = false) : z % modN 0 ≠ 0 := by
  intro hz; rw [invE, if_pos hz] at h; exact absurd h (by decide)
theorem jend_t {x y z : Nat} (h : (invE 0 z != 0) = true) : jend (x, y, z) = (0, 0, true) := by rw [jend, if_pos (invE_t h)]
theorem jend_f {x y z : Nat} (h : (invE 0 z != 0) = false) : jend (x, y, z) = (fm x (fm (invV 0 z) (invV 0 z)), fm y (fm (fm (invV 0 z) (invV 0 z)) (invV 0 z)), false) := by rw [jend, if_neg (invE_f h)]
theorem cneg_t {t : Ap} (h : onT t = true) : cneg t = (t.1, fn t.2.1, t.2.2) ∧ cerr t = 0 := by rw [cneg, cerr, h]; exact ⟨rfl, rfl⟩
theorem cneg_f {t : Ap} (h : onT t = false) : cneg t = (0, 0, false) ∧ cerr t = 70 := by rw [cneg, cerr, h]; exact ⟨rfl, rfl⟩
theorem cadd_t {p q : Ap} (h : onT p = true) (h' : onT q = true) : cadd p q = jend (jad (jof p.1 p.2.1 p.2.2) (jof q.1 q.2.1 q.2.2)) ∧ cadde p q = 0 := by rw [cadd, cadde, h, h']; exact ⟨rfl, rfl⟩
theorem cadd_f1 {p q : Ap} (h : onT p = false) : cadd p q = (0, 0, false) ∧ cadde p q = 70 := by rw [cadd, cadde, h]; exact ⟨rfl, rfl⟩
theorem cadd_f2 {p q : Ap} (h : onT q = false) : cadd p q = (0, 0, false) ∧ cadde p q = 70 := by rw [cadd, cadde, h, Bool.and_false]; exact ⟨rfl, rfl⟩
theorem cmul_t {k : Nat} {p : Ap} (h : onT p = true) : cmul k p = jend (jmul (jof p.1 p.2.1 p.2.2) k) ∧ cerr p = 0 := by rw [cmul, cerr, h]; exact ⟨rfl, rfl⟩
theorem cmul_f {k : Nat} {p : Ap} (h : onT p = false) : cmul k p = (0, 0, false) ∧ cerr p = 70 := by rw [cmul, cerr, h]; exact ⟨rfl, rfl⟩
/-- A point's bytes. -/
def cby (t : Ap) : List UInt8 := bif onT t then (bif t.2.2 then [0] else 4 :: (be 32 t.1 ++ be 32 t.2.1)) else []
theorem cby_f {t : Ap} (h : onT t = false) : cby t = [] ∧ cerr t = 70 := by rw [cby, cerr, h]; exact ⟨rfl, rfl⟩
theorem cby_0 {t : Ap} (h : onT t = true) (h' : t.2.2 = true) : cby t = [0] ∧ cerr t = 0 := by rw [cby, cerr, h, h']; exact ⟨rfl, rfl⟩
theorem cby_t {t : Ap} (h : onT t = true) (h' : t.2.2 = false) : cby t = 4 :: (be 32 t.1 ++ be 32 t.2.1) ∧ cerr t = 0 := by rw [cby, cerr, h, h']; exact ⟨rfl, rfl⟩
/-- The point of bytes. -/
def cofX (l : List UInt8) : Nat := ofV 0 ((l.drop 1).take 32)
def cofY (l : List UInt8) : Nat := ofV 0 (l.drop 33)
def cofB (l : List UInt8) : Bool := l.length == 65 && (l[0]? == some 4) && (ofE 0 ((l.drop 1).take 32) == 0 && (ofE 0 (l.drop 33) == 0 && onB (cofX l) (cofY l) false))
def cofV (l : List UInt8) : Ap := bif l == [0] then (0, 0, true) else bif cofB l then (cofX l, cofY l, false) else (0, 0, false)
def cofE (l : List UInt8) : Int := bif l == [0] then 0 else bif cofB l then 0 else 71
theorem cof_0 {l : List UInt8} (h : (l == [0]) = true) : cofV l = (0, 0, true) ∧ cofE l = 0 := by rw [cofV, cofE, h]; exact ⟨rfl, rfl⟩
theorem cof_f {l : List UInt8} (h : (l == [0]) = false) (hB : cofB l = false) : cofV l = (0, 0, false) ∧ cofE l = 71 := by rw [cofV, cofE, h, hB]; exact ⟨rfl, rfl⟩
theorem cof_t {l : List UInt8} (h : (l == [0]) = false) (hB : cofB l = true) : cofV l = (cofX l, cofY l, false) ∧ cofE l = 0 := by rw [cofV, cofE, h, hB]; exact ⟨rfl, rfl⟩
theorem cof_len {l : List UInt8} (h : ((l.length : Int) != 65) = false) : l.length = 65 := by simp at h; omega
theorem cofB_1 {l : List UInt8} (h : ((l.length : Int) != 65) = true) : cofB l = false := by
  have : (l.length == 65) = false := by simp at h ⊢; omega
  rw [cofB, this]; rfl
theorem cofB_2 {l : List UInt8} {c : UInt8} (hc : l[0]? = some c) (h : ((c.toNat : Int) != 4) = true) : cofB l = false := by
  have : (l[0]? == some (4 : UInt8)) = false := by
    rw [hc]; simp at h ⊢; rintro rfl; exact h rfl
  rw [cofB, this, Bool.and_false]; rfl
theorem cofB_3 {l : List UInt8} (h : (ofE 0 ((l.drop 1).take 32) != 0) = true) : cofB l = false := by
  have : (ofE 0 ((l.drop 1).take 32) == 0) = false := by simpa using h
  rw [cofB, this, Bool.false_and, Bool.and_false]
theorem cofB_4 {l : List UInt8} (h : (ofE 0 (l.drop 33) != 0) = true) : cofB l = false := by
  have : (ofE 0 (l.drop 33) == 0) = false := by simpa using h
  rw [cofB, this, Bool.false_and, Bool.and_false, Bool.and_false]
theorem cofB_5 {l : List UInt8} (h : (!onB (cofX l) (cofY l) false) = true) : cofB l = false := by
  have : onB (cofX l) (cofY l) false = false := by simpa using h
  rw [cofB, this, Bool.and_false, Bool.and_false, Bool.and_false]
theorem cofB_6 {l : List UInt8} {c : UInt8} (h1 : l.length = 65) (hc : l[0]? = some c) (h2 : ((c.toNat : Int) != 4) = false) (h3 : (ofE 0 ((l.drop 1).take 32) != 0) = false) (h4 : (ofE 0 (l.drop 33) != 0) = false) (h5 : (!onB (cofX l) (cofY l) false) = false) : cofB l = true := by
  have e1 : (l.length == 65) = true := by simp [h1]
  have e2 : (l[0]? == some (4 : UInt8)) = true := by
    rw [hc]; simp at h2 ⊢; exact UInt8.toNat_inj.1 (by have : (4 : UInt8).toNat = 4 := rfl; omega)
  have e3 : (ofE 0 ((l.drop 1).take 32) == 0) = true := by simpa using h3
  have e4 : (ofE 0 (l.drop 33) == 0) = true := by simpa using h4
  have e5 : onB (cofX l) (cofY l) false = true := by simpa using h5
  rw [cofB, e1, e2, e3, e4, e5]; rfl
/-- The base point. -/
def GX : Nat := 48439561293906451759052585252797914202762949526041747995844080717082404635286
def GY : Nat := 36134250956749795798585127919587881956611106672985015071877198253568414405109
theorem jof_t {x y : Nat} : jof x y true = (0, 0, 0) := rfl
theorem jof_f {x y : Nat} : jof x y false = (x, y, 1) := rfl
end Go.Proofs.Ytmbcolbbekbccaa
