/-
  No cell of these rows narrows 'for every input' (looked for: loops, veiled, ifaces, maps, wideKeys, modest, calm, conditions, laid).
  DERIVED. THE GIVEN ROWS OF THIS SEAT. 6 by the template 'for every input the law returns true; each argument reads behind the call as it read before'; 0 by the template 'total and deterministic' (their statements: YtmbcolbbekbccaaGreatTotals.lean).
  GIVEN WITH THE SEED: the statements are not yours to turn. If you find one false, say at which input.
  Laid BY PROGRAM, IN A SANDBOX (cutbox-rows.mjs): the forced cells as the released guide's own fill.sh prints them over the translation 0549dfa3e13a6238… (all of the seat's roots in one cut). By AI agents, Wed Nov 11 2026. No macro, syntax, notation, axiom, sorry.
-/
import Derived.Test.YtmbcolbbekbccaaGreatChecked
import GoSem.Claim
import GoSem.ClaimJoined
import GoSem.ClaimMapViews
import Derived.JoinedTies
import Derived.KernelRfl
namespace Go.Proofs.YtmbcolbbekbccaaGreat
/- THE CELL 'sum', in the pinned program and in every row, IS THE sha256 OF THE DUMP (.gsa) THAT YtmbcolbbekbccaaGreatProg.lean LOADS. Nothing in Lean hashes anything: it is a label: what it is worth is what the hold of that sum in a sandbox is worth. -/
noncomputable def Tryz.pinned : Pinned := { name := "ytmbcolbbekbccaagreat", sum := "0549dfa3e13a623828d9850972d7a87ffbc5a2248fb9869e271d28a34880305b", checked := Tryz.checked }
namespace Rows
def none {H : Type} : Left H := { results := [], args := [] }

/-- 'seneschallaw08.SignPublic': WHATEVER THE INPUT: true; the input reads as it did. -/
def signPublicSpec : ChangeSpec := { name := "signPublic", fn := fun _ => fun
  | [d] => { results := [.lit (.bool true)], args := [d] }
  | _ => none }
def signPublicRow : OpenClaim := { program := "ytmbcolbbekbccaagreat", sum := "0549dfa3e13a623828d9850972d7a87ffbc5a2248fb9869e271d28a34880305b", func := "seneschal/seneschallaw08.SignPublic", spec := "signPublic", inPlace := ["math/bits.Sub64", "math/bits.Add64", "internal/abi.NoEscape", "internal/bytealg.MakeNoZero"], unfollowed := true, recurses := true, apart := false }
def SignPublicSaid : Prop := signPublicRow.holds Tryz.pinned (OpenSpec.ofChange signPublicSpec)

/-- ITS FALSE NEIGHBOUR: 'it returns false'. Refute it at one input. -/
def signPublicWrong : ChangeSpec := { name := "signPublic", fn := fun _ => fun
  | [d] => { results := [.lit (.bool false)], args := [d] }
  | _ => none }
def SignPublicWrongFalsely : Prop := signPublicRow.holds Tryz.pinned (OpenSpec.ofChange signPublicWrong)

/-- 'seneschallaw08.SignSigns': WHATEVER THE INPUT: true; the input reads as it did. -/
def signSignsSpec : ChangeSpec := { name := "signSigns", fn := fun _ => fun
  | [d1, d2] => { results := [.lit (.bool true)], args := [d1, d2] }
  | _ => none }
def signSignsRow : OpenClaim := { program := "ytmbcolbbekbccaagreat", sum := "0549dfa3e13a623828d9850972d7a87ffbc5a2248fb9869e271d28a34880305b", func := "seneschal/seneschallaw08.SignSigns", spec := "signSigns", inPlace := ["math/bits.Sub64", "math/bits.Add64", "internal/abi.NoEscape", "internal/bytealg.MakeNoZero"], unfollowed := true, recurses := true, apart := false }
def SignSignsSaid : Prop := signSignsRow.holds Tryz.pinned (OpenSpec.ofChange signSignsSpec)

/-- ITS FALSE NEIGHBOUR: 'it returns false'. Refute it at one input. -/
def signSignsWrong : ChangeSpec := { name := "signSigns", fn := fun _ => fun
  | [d1, d2] => { results := [.lit (.bool false)], args := [d1, d2] }
  | _ => none }
def SignSignsWrongFalsely : Prop := signSignsRow.holds Tryz.pinned (OpenSpec.ofChange signSignsWrong)

/-- 'seneschallaw08.SignVerifies': WHATEVER THE INPUT: true; the input reads as it did. -/
def signVerifiesSpec : ChangeSpec := { name := "signVerifies", fn := fun _ => fun
  | [d1, d2, d3] => { results := [.lit (.bool true)], args := [d1, d2, d3] }
  | _ => none }
def signVerifiesRow : OpenClaim := { program := "ytmbcolbbekbccaagreat", sum := "0549dfa3e13a623828d9850972d7a87ffbc5a2248fb9869e271d28a34880305b", func := "seneschal/seneschallaw08.SignVerifies", spec := "signVerifies", inPlace := ["math/bits.Sub64", "math/bits.Add64", "internal/abi.NoEscape", "internal/bytealg.MakeNoZero"], unfollowed := true, recurses := true, apart := false }
def SignVerifiesSaid : Prop := signVerifiesRow.holds Tryz.pinned (OpenSpec.ofChange signVerifiesSpec)

/-- ITS FALSE NEIGHBOUR: 'it returns false'. Refute it at one input. -/
def signVerifiesWrong : ChangeSpec := { name := "signVerifies", fn := fun _ => fun
  | [d1, d2, d3] => { results := [.lit (.bool false)], args := [d1, d2, d3] }
  | _ => none }
def SignVerifiesWrongFalsely : Prop := signVerifiesRow.holds Tryz.pinned (OpenSpec.ofChange signVerifiesWrong)

/-- 'seneschallaw08.SignRingMacs': WHATEVER THE INPUT: true; the input reads as it did. -/
def signRingMacsSpec : ChangeSpec := { name := "signRingMacs", fn := fun _ => fun
  | [d1, d2] => { results := [.lit (.bool true)], args := [d1, d2] }
  | _ => none }
def signRingMacsRow : OpenClaim := { program := "ytmbcolbbekbccaagreat", sum := "0549dfa3e13a623828d9850972d7a87ffbc5a2248fb9869e271d28a34880305b", func := "seneschal/seneschallaw08.SignRingMacs", spec := "signRingMacs", inPlace := ["internal/bytealg.MakeNoZero", "math/bits.Add64", "math/bits.Sub64", "internal/abi.NoEscape"], unfollowed := true, recurses := true, apart := false }
def SignRingMacsSaid : Prop := signRingMacsRow.holds Tryz.pinned (OpenSpec.ofChange signRingMacsSpec)

/-- ITS FALSE NEIGHBOUR: 'it returns false'. Refute it at one input. -/
def signRingMacsWrong : ChangeSpec := { name := "signRingMacs", fn := fun _ => fun
  | [d1, d2] => { results := [.lit (.bool false)], args := [d1, d2] }
  | _ => none }
def SignRingMacsWrongFalsely : Prop := signRingMacsRow.holds Tryz.pinned (OpenSpec.ofChange signRingMacsWrong)

/-- 'seneschallaw08.SignRingSigns': WHATEVER THE INPUT: true; the input reads as it did. -/
def signRingSignsSpec : ChangeSpec := { name := "signRingSigns", fn := fun _ => fun
  | [d1, d2] => { results := [.lit (.bool true)], args := [d1, d2] }
  | _ => none }
def signRingSignsRow : OpenClaim := { program := "ytmbcolbbekbccaagreat", sum := "0549dfa3e13a623828d9850972d7a87ffbc5a2248fb9869e271d28a34880305b", func := "seneschal/seneschallaw08.SignRingSigns", spec := "signRingSigns", inPlace := ["internal/bytealg.MakeNoZero", "math/bits.Add64", "math/bits.Sub64", "internal/abi.NoEscape", "sync/atomic.LoadUint32", "(*internal/sync.Mutex).Lock", "internal/race.Disable", "sync/atomic.CompareAndSwapInt32", "internal/race.Enable", "internal/race.Acquire", "(*internal/sync.Mutex).lockSlow", "internal/sync.runtime_canSpin", "internal/sync.runtime_doSpin", "internal/sync.throw", "internal/sync.runtime_nanotime", "internal/sync.runtime_SemacquireMutex", "sync/atomic.AddInt32", "(*internal/sync.Mutex).Unlock", "internal/race.ReleaseMerge", "(*internal/sync.Mutex).unlockSlow", "internal/sync.fatal", "internal/sync.runtime_Semrelease", "sync/atomic.StoreUint32"], unfollowed := true, recurses := true, apart := false }
def SignRingSignsSaid : Prop := signRingSignsRow.holds Tryz.pinned (OpenSpec.ofChange signRingSignsSpec)

/-- ITS FALSE NEIGHBOUR: 'it returns false'. Refute it at one input. -/
def signRingSignsWrong : ChangeSpec := { name := "signRingSigns", fn := fun _ => fun
  | [d1, d2] => { results := [.lit (.bool false)], args := [d1, d2] }
  | _ => none }
def SignRingSignsWrongFalsely : Prop := signRingSignsRow.holds Tryz.pinned (OpenSpec.ofChange signRingSignsWrong)

/-- 'seneschallaw08.SignRingKeeps': WHATEVER THE INPUT: true; the input reads as it did. -/
def signRingKeepsSpec : ChangeSpec := { name := "signRingKeeps", fn := fun _ => fun
  | [d1, d2, d3] => { results := [.lit (.bool true)], args := [d1, d2, d3] }
  | _ => none }
def signRingKeepsRow : OpenClaim := { program := "ytmbcolbbekbccaagreat", sum := "0549dfa3e13a623828d9850972d7a87ffbc5a2248fb9869e271d28a34880305b", func := "seneschal/seneschallaw08.SignRingKeeps", spec := "signRingKeeps", inPlace := ["internal/bytealg.MakeNoZero", "math/bits.Add64", "math/bits.Sub64", "internal/abi.NoEscape", "sync/atomic.LoadUint32", "(*internal/sync.Mutex).Lock", "internal/race.Disable", "sync/atomic.CompareAndSwapInt32", "internal/race.Enable", "internal/race.Acquire", "(*internal/sync.Mutex).lockSlow", "internal/sync.runtime_canSpin", "internal/sync.runtime_doSpin", "internal/sync.throw", "internal/sync.runtime_nanotime", "internal/sync.runtime_SemacquireMutex", "sync/atomic.AddInt32", "(*internal/sync.Mutex).Unlock", "internal/race.ReleaseMerge", "(*internal/sync.Mutex).unlockSlow", "internal/sync.fatal", "internal/sync.runtime_Semrelease", "sync/atomic.StoreUint32"], unfollowed := true, recurses := true, apart := false }
def SignRingKeepsSaid : Prop := signRingKeepsRow.holds Tryz.pinned (OpenSpec.ofChange signRingKeepsSpec)

/-- ITS FALSE NEIGHBOUR: 'it returns false'. Refute it at one input. -/
def signRingKeepsWrong : ChangeSpec := { name := "signRingKeeps", fn := fun _ => fun
  | [d1, d2, d3] => { results := [.lit (.bool false)], args := [d1, d2, d3] }
  | _ => none }
def SignRingKeepsWrongFalsely : Prop := signRingKeepsRow.holds Tryz.pinned (OpenSpec.ofChange signRingKeepsWrong)

/- THE SECOND FORM. 'bulk': how many values and letters a reading holds, each counted each time it is reached (what is shared counts as often as it is met; a slice's spare places count too). A statement '..UptoSaid' is the law's where the arguments, and the package variables that the reading takes, are together of bulk at most 1048576: NARROWER than '..Said'. Prove '..Said' where nothing that the law and all that it calls make is longer than what came in: it says more and counts as full. Else prove '..UptoSaid'. A law counts once. -/
mutual
def uptoBulk {H : Type} : DataW H → Nat
  | .lit (.string bytes) => bytes.length + 1
  | .lit _ => 1
  | .nil => 1
  | .ptr d => uptoBulk d + 1
  | .slice elems spare => uptoBulkAll elems + uptoBulkAll spare + 1
  | .agg parts => uptoBulkAll parts + 1
  | .iface _ d => uptoBulk d + 1
  | .map entries => uptoBulkEntries entries + 1
  | .held _ => 1
def uptoBulkAll {H : Type} : List (DataW H) → Nat
  | [] => 0
  | d :: r => uptoBulk d + uptoBulkAll r
def uptoBulkEntries {H : Type} : List (Lit × DataW H) → Nat
  | [] => 0
  | x :: r => uptoBulkEntry x + uptoBulkEntries r
def uptoBulkEntry {H : Type} : Lit × DataW H → Nat
  | (.string bytes, d) => bytes.length + uptoBulk d + 1
  | (_, d) => uptoBulk d + 1
 end
def uptoSmall : (H : Type) → List (DataW H) → Bool := fun _ ds => decide (uptoBulkAll ds ≤ 1048576)
def OpenSpec.upto (s : _root_.Go.ChangeSpec) : _root_.Go.OpenSpec := { _root_.Go.OpenSpec.ofChange s with cond := some uptoSmall }

/-- 'seneschallaw08.SignPublic', WHERE WHAT IT READS IS OF BULK AT MOST 1048576: true; the input reads as it did. -/
def signPublicUptoRow : OpenClaim := { program := "ytmbcolbbekbccaagreat", sum := "0549dfa3e13a623828d9850972d7a87ffbc5a2248fb9869e271d28a34880305b", func := "seneschal/seneschallaw08.SignPublic", spec := "signPublic", inPlace := ["math/bits.Sub64", "math/bits.Add64", "internal/abi.NoEscape", "internal/bytealg.MakeNoZero"], unfollowed := true, recurses := true, apart := false, narrowed := true }
def SignPublicUptoSaid : Prop := signPublicUptoRow.holds Tryz.pinned (OpenSpec.upto signPublicSpec)

/-- 'seneschallaw08.SignSigns', WHERE WHAT IT READS IS OF BULK AT MOST 1048576: true; the input reads as it did. -/
def signSignsUptoRow : OpenClaim := { program := "ytmbcolbbekbccaagreat", sum := "0549dfa3e13a623828d9850972d7a87ffbc5a2248fb9869e271d28a34880305b", func := "seneschal/seneschallaw08.SignSigns", spec := "signSigns", inPlace := ["math/bits.Sub64", "math/bits.Add64", "internal/abi.NoEscape", "internal/bytealg.MakeNoZero"], unfollowed := true, recurses := true, apart := false, narrowed := true }
def SignSignsUptoSaid : Prop := signSignsUptoRow.holds Tryz.pinned (OpenSpec.upto signSignsSpec)

/-- 'seneschallaw08.SignVerifies', WHERE WHAT IT READS IS OF BULK AT MOST 1048576: true; the input reads as it did. -/
def signVerifiesUptoRow : OpenClaim := { program := "ytmbcolbbekbccaagreat", sum := "0549dfa3e13a623828d9850972d7a87ffbc5a2248fb9869e271d28a34880305b", func := "seneschal/seneschallaw08.SignVerifies", spec := "signVerifies", inPlace := ["math/bits.Sub64", "math/bits.Add64", "internal/abi.NoEscape", "internal/bytealg.MakeNoZero"], unfollowed := true, recurses := true, apart := false, narrowed := true }
def SignVerifiesUptoSaid : Prop := signVerifiesUptoRow.holds Tryz.pinned (OpenSpec.upto signVerifiesSpec)

/-- 'seneschallaw08.SignRingMacs', WHERE WHAT IT READS IS OF BULK AT MOST 1048576: true; the input reads as it did. -/
def signRingMacsUptoRow : OpenClaim := { program := "ytmbcolbbekbccaagreat", sum := "0549dfa3e13a623828d9850972d7a87ffbc5a2248fb9869e271d28a34880305b", func := "seneschal/seneschallaw08.SignRingMacs", spec := "signRingMacs", inPlace := ["internal/bytealg.MakeNoZero", "math/bits.Add64", "math/bits.Sub64", "internal/abi.NoEscape"], unfollowed := true, recurses := true, apart := false, narrowed := true }
def SignRingMacsUptoSaid : Prop := signRingMacsUptoRow.holds Tryz.pinned (OpenSpec.upto signRingMacsSpec)

/-- 'seneschallaw08.SignRingSigns', WHERE WHAT IT READS IS OF BULK AT MOST 1048576: true; the input reads as it did. -/
def signRingSignsUptoRow : OpenClaim := { program := "ytmbcolbbekbccaagreat", sum := "0549dfa3e13a623828d9850972d7a87ffbc5a2248fb9869e271d28a34880305b", func := "seneschal/seneschallaw08.SignRingSigns", spec := "signRingSigns", inPlace := ["internal/bytealg.MakeNoZero", "math/bits.Add64", "math/bits.Sub64", "internal/abi.NoEscape", "sync/atomic.LoadUint32", "(*internal/sync.Mutex).Lock", "internal/race.Disable", "sync/atomic.CompareAndSwapInt32", "internal/race.Enable", "internal/race.Acquire", "(*internal/sync.Mutex).lockSlow", "internal/sync.runtime_canSpin", "internal/sync.runtime_doSpin", "internal/sync.throw", "internal/sync.runtime_nanotime", "internal/sync.runtime_SemacquireMutex", "sync/atomic.AddInt32", "(*internal/sync.Mutex).Unlock", "internal/race.ReleaseMerge", "(*internal/sync.Mutex).unlockSlow", "internal/sync.fatal", "internal/sync.runtime_Semrelease", "sync/atomic.StoreUint32"], unfollowed := true, recurses := true, apart := false, narrowed := true }
def SignRingSignsUptoSaid : Prop := signRingSignsUptoRow.holds Tryz.pinned (OpenSpec.upto signRingSignsSpec)

/-- 'seneschallaw08.SignRingKeeps', WHERE WHAT IT READS IS OF BULK AT MOST 1048576: true; the input reads as it did. -/
def signRingKeepsUptoRow : OpenClaim := { program := "ytmbcolbbekbccaagreat", sum := "0549dfa3e13a623828d9850972d7a87ffbc5a2248fb9869e271d28a34880305b", func := "seneschal/seneschallaw08.SignRingKeeps", spec := "signRingKeeps", inPlace := ["internal/bytealg.MakeNoZero", "math/bits.Add64", "math/bits.Sub64", "internal/abi.NoEscape", "sync/atomic.LoadUint32", "(*internal/sync.Mutex).Lock", "internal/race.Disable", "sync/atomic.CompareAndSwapInt32", "internal/race.Enable", "internal/race.Acquire", "(*internal/sync.Mutex).lockSlow", "internal/sync.runtime_canSpin", "internal/sync.runtime_doSpin", "internal/sync.throw", "internal/sync.runtime_nanotime", "internal/sync.runtime_SemacquireMutex", "sync/atomic.AddInt32", "(*internal/sync.Mutex).Unlock", "internal/race.ReleaseMerge", "(*internal/sync.Mutex).unlockSlow", "internal/sync.fatal", "internal/sync.runtime_Semrelease", "sync/atomic.StoreUint32"], unfollowed := true, recurses := true, apart := false, narrowed := true }
def SignRingKeepsUptoSaid : Prop := signRingKeepsUptoRow.holds Tryz.pinned (OpenSpec.upto signRingKeepsSpec)

end Rows
end Go.Proofs.YtmbcolbbekbccaaGreat
