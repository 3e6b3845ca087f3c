/- Steps of a walk: strings. Conditions: as each theorem says. -/
import Derived.Test.YtmbcolbbekbccaaBk
import Derived.Test.YtmbcolbbekbccaaInt
import Derived.Laws.BytesArg
namespace Go.Proofs.Ytmbcolbbekbccaa
open Go Go.RowKit

abbrev str (l : List UInt8) : Value := .string ⟨l.toArray⟩
def u8s (l : List UInt8) : List Value := l.map fun b => Value.int .u8 (b.toNat : Int)
theorem u8s_length (l : List UInt8) : (u8s l).length = l.length := by simp [u8s]
theorem u8s_get {l : List UInt8} {i : Nat} {b : UInt8} (h : l[i]? = some b) : (u8s l)[i]? = some (.int .u8 (b.toNat : Int)) := by simp [u8s, h]
theorem u8s_append (a b : List UInt8) : u8s a ++ u8s b = u8s (a ++ b) := by simp [u8s]
theorem u8s_snoc (a : List UInt8) (b : UInt8) : u8s a ++ [.int .u8 (b.toNat : Int)] = u8s (a ++ [b]) := by simp [u8s]
theorem u8s_one (b : UInt8) : ([.int .u8 (b.toNat : Int)] : List Value) = u8s [b] := rfl
theorem u8s_nil : ([] : List Value) = u8s [] := rfl
theorem u8s_ones (l : List UInt8) : ∀ v ∈ u8s l, v.oneCell' = true := by
  intro v hv
  simp only [u8s, List.mem_map] at hv
  obtain ⟨b, _, rfl⟩ := hv
  rfl
theorem str_size (l : List UInt8) : (⟨l.toArray⟩ : ByteArray).size = l.length := by simp [ByteArray.size]
theorem str_append (a b : List UInt8) : (⟨a.toArray⟩ : ByteArray) ++ ⟨b.toArray⟩ = ⟨(a ++ b).toArray⟩ := by
  apply ByteArray.ext
  simp
theorem str_extract (l : List UInt8) (p h : Nat) : (⟨l.toArray⟩ : ByteArray).extract p h = ⟨((l.take h).drop p).toArray⟩ := by
  apply ByteArray.ext
  simp [ByteArray.data_extract, List.extract_toArray, List.extract_eq_take_drop, List.drop_take]
theorem str_toList (l : List UInt8) : (⟨l.toArray⟩ : ByteArray).toList = l := by
  simp
theorem str_inj {a b : List UInt8} (h : str a = str b) : a = b := by
  have h1 : (⟨a.toArray⟩ : ByteArray) = ⟨b.toArray⟩ := by injection h
  have h2 := congrArg (fun x => x.data.toList) h1
  simpa using h2
section
variable {P : Program} {w : World} {e : Operand → Value} {dst : Option Tmp} {g : Option (Nat × Bool)} {ty : TypeId} {pos : String} {aft : Array Edge} {x y lo hi : Operand} {T : TypeId} {k k' : IntKind} {a b : Int} {l r : List UInt8} {t : Bool}
theorem r_lenT {N : Nat} (h1 : P.underlying T = some .string) (hx : e x = str l) (hN : l.length = N) :
    (execOp e ⟨dst, .call ⟨.builtin .len, #[x], #[T]⟩, ty, pos, aft, g⟩).run P w = .ok (.value (.int .i64 (N : Int))) w := by
  subst hN
  have := r_lenS (P := P) (w := w) (e := e) (dst := dst) (g := g) (ty := ty) (pos := pos) (aft := aft) (args := []) (at_ := []) h1 hx
  rw [this, str_size]
theorem r_idxT {i : Nat} {u : UInt8} (h1 : P.underlying T = some .string) (hx : e x = str l) (hy : e y = .int k a) (ha : a = (i : Int)) (hv : l[i]? = some u) :
    (execOp e ⟨dst, .index T x y, ty, pos, aft, g⟩).run P w = .ok (.value (.int .u8 (u.toNat : Int))) w := by
  subst ha
  have hi := (List.getElem?_eq_some_iff.1 hv).1
  have hv' := (List.getElem?_eq_some_iff.1 hv).2
  have h2 : (⟨l.toArray⟩ : ByteArray)[i]? = some u := by
    rw [getElem?_pos (⟨l.toArray⟩ : ByteArray) i (by simpa [ByteArray.size] using hi)]
    exact congrArg some hv'
  simp [execOp, Instr.index, asIntOf, Go.underlying, h1, hx, hy, h2]
theorem r_sliceT {p h : Nat} (h1 : P.underlying T = some .string) (hx : e x = str l) (hz : e lo = .int k' b) (hy : e hi = .int k a) (hb : b = (p : Int)) (ha : a = (h : Int)) (hp : p ≤ h) (hh : h ≤ l.length) (hr : (l.take h).drop p = r) :
    (execOp e ⟨dst, .slice T x (some lo) (some hi) none, ty, pos, aft, g⟩).run P w = .ok (.value (str r)) w := by
  simp [execOp, Instr.sliceAt, Instr.slice, Instr.sliceBounds, Go.underlying, h1, hx, hz, hy, run_bound (P := P) (w := w) ha (y := l.length) hh, run_bound (P := P) (w := w) hb hp, str_size, str_extract, hr]
theorem r_sliceTL {p : Nat} (h1 : P.underlying T = some .string) (hx : e x = str l) (hz : e lo = .int k' b) (hb : b = (p : Int)) (hp : p ≤ l.length) (hr : l.drop p = r) :
    (execOp e ⟨dst, .slice T x (some lo) none none, ty, pos, aft, g⟩).run P w = .ok (.value (str r)) w := by
  simp [execOp, Instr.sliceAt, Instr.slice, Instr.sliceBounds, Go.underlying, h1, hx, hz, run_bound (P := P) (w := w) hb hp, str_size, str_extract, hr]
theorem r_sliceTH {h : Nat} (h1 : P.underlying T = some .string) (hx : e x = str l) (hy : e hi = .int k a) (ha : a = (h : Int)) (hh : h ≤ l.length) (hr : l.take h = r) :
    (execOp e ⟨dst, .slice T x none (some hi) none, ty, pos, aft, g⟩).run P w = .ok (.value (str r)) w := by
  simp [execOp, Instr.sliceAt, Instr.slice, Instr.sliceBounds, Go.underlying, h1, hx, hy, run_bound (P := P) (w := w) ha (y := l.length) hh, str_size, str_extract, hr]
theorem u8s_strOf (l : List UInt8) : strOfNums (l.map fun b => (b.toNat : Int)) = ⟨l.toArray⟩ := by
  apply ByteArray.ext
  apply Array.toList_inj.1
  rw [strOfNums_data]
  simp [Function.comp_def]
theorem r_ofBytes {E T2 : TypeId} {v : Value} (hs : P.underlying T = some (.slice E)) (he : P.underlying E = some (.int .u8)) (hd : P.underlying T2 = some .string) (hx : e x = v) (hr : Rd w v (u8s l)) :
    (execOp e ⟨dst, .convert T T2 x, ty, pos, aft, g⟩).run P w = .ok (.value (str l)) w := by
  have key : (convert T T2 v).run P w = .ok (str l) w := by
    rcases hr with ⟨rfl, h2⟩ | ⟨b, o, c, cs, T', fz, rfl, h3, h4, h5, h6⟩
    · have : l = [] := by simpa [u8s] using h2
      subst this
      rw [run_convert_bytes_string w T T2 E none 0 0 hs he hd]
      simp [Conv.bytesToString]
      rfl
    · have h7 := run_convert_bytes_arg (P := P) w T E hs he b o (u8s l).length c (l.map fun b => (b.toNat : Int)) (by simp [u8s]) (fun i hi => by
        rw [cell_of_blk h4]
        rw [piece_eq] at h6
        have h8 : ((cs.drop o).take (u8s l).length)[i]? = (u8s l)[i]? := by rw [h6]
        rw [List.getElem?_take, if_pos hi, List.getElem?_drop] at h8
        rw [h8]
        rw [u8s_length] at hi
        simp [u8s, hi]) T2 hd
      rw [h7, u8s_strOf]
  simp [execOp, hx, key]
variable {l1 l2 : List UInt8} {T' : TypeId}
theorem run_cat (hn : l1.length + l2.length ≤ 9223372036854775807) : (Op.stringOp .add ⟨l1.toArray⟩ ⟨l2.toArray⟩).run P w = .ok (str (l1 ++ l2)) w := by
  simp only [Op.stringOp, str_size, str_append]
  rw [if_neg (by have : IntKind.i64.max = 9223372036854775807 := by decide
                 rw [this]; omega)]
  rfl
theorem r_cat (hx : e x = str l1) (hy : e y = str l2) (hn : l1.length + l2.length ≤ 9223372036854775807) (hr : l1 ++ l2 = r) :
    (execOp e ⟨dst, .binOp .add T x y T', ty, pos, aft, g⟩).run P w = .ok (.value (str r)) w := by
  have := run_cat (P := P) (w := w) hn
  simp [execOp, eqGuard, binOp, hx, hy, this, hr]
theorem r_eqT (hx : e x = str l1) (hy : e y = str l2) (h : (l1 == l2) = t) : (execOp e ⟨dst, .binOp .eql T x y T', ty, pos, aft, g⟩).run P w = .ok (.value (.bool t)) w := by
  simp [execOp, eqGuard, binOp, hx, hy, Op.stringOp, str_toList, ← h]
theorem r_neT (hx : e x = str l1) (hy : e y = str l2) (h : (l1 != l2) = t) : (execOp e ⟨dst, .binOp .neq T x y T', ty, pos, aft, g⟩).run P w = .ok (.value (.bool t)) w := by
  simp [execOp, eqGuard, binOp, hx, hy, Op.stringOp, str_toList, ← h, bne]
end
end Go.Proofs.Ytmbcolbbekbccaa
