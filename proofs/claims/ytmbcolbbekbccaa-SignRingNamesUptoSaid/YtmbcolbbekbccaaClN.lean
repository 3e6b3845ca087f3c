/- What some functions compute, and that they do. Conditions: as each theorem says. -/
import Derived.Test.YtmbcolbbekbccaaPu
namespace Go.Proofs.Ytmbcolbbekbccaa
open Go Go.RowKit
attribute [local irreducible] wpList wpT Code.wp Calls Code.rounds
def cl24 (x : UInt64 × UInt64 × UInt64 × UInt64) : List Value := [Value.int .u64 ((x.1.toNat : Int))] ++ ([Value.int .u64 ((x.2.1.toNat : Int))] ++ ([Value.int .u64 ((x.2.2.1.toNat : Int))] ++ ([Value.int .u64 ((x.2.2.2.toNat : Int))])))
theorem rp24c {S : Mem} (x : UInt64 × UInt64 × UInt64 × UInt64) : Rp.rep S (cl24 x) x := rpP (rpU64) (rpP (rpU64) (rpP (rpU64) (rpU64)))
theorem el24c {S : Mem} {c : List Value} {x : UInt64 × UInt64 × UInt64 × UInt64} (h : Rp.rep S c x) : c = cl24 x := by
  obtain ⟨c0, d0, rfl, h0, k1⟩ := elP h; obtain rfl := elU64 h0
  obtain ⟨c1, d1, rfl, h1, k2⟩ := elP k1; obtain rfl := elU64 h1
  obtain ⟨c2, d2, rfl, h2, k3⟩ := elP k2; obtain rfl := elU64 h2
  obtain rfl := elU64 k3; rfl
def cl29 (x : (UInt64 × UInt64 × UInt64 × UInt64) × (UInt64 × UInt64 × UInt64 × UInt64) × Bool) : List Value := cl24 x.1 ++ (cl24 x.2.1 ++ ([Value.bool (x.2.2)]))
theorem rp29c {S : Mem} (x : (UInt64 × UInt64 × UInt64 × UInt64) × (UInt64 × UInt64 × UInt64 × UInt64) × Bool) : Rp.rep S (cl29 x) x := rpP (rp24c _) (rpP (rp24c _) (rpB))
theorem el29c {S : Mem} {c : List Value} {x : (UInt64 × UInt64 × UInt64 × UInt64) × (UInt64 × UInt64 × UInt64 × UInt64) × Bool} (h : Rp.rep S c x) : c = cl29 x := by
  obtain ⟨c0, d0, rfl, h0, k1⟩ := elP h; obtain rfl := el24c h0
  obtain ⟨c1, d1, rfl, h1, k2⟩ := elP k1; obtain rfl := el24c h1
  obtain rfl := elB k2; rfl

end Go.Proofs.Ytmbcolbbekbccaa
