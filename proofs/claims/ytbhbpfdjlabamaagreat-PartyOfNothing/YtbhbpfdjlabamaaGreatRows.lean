/-
  No cell of these rows narrows 'for every input' (looked for: loops, veiled, ifaces, maps, wideKeys, modest, calm, conditions, laid).
  DERIVED. THE GIVEN ROWS OF THIS SEAT. 25 by the template 'for every input the law returns true; each argument reads behind the call as it read before'; 0 by the template 'total and deterministic' (their statements: YtbhbpfdjlabamaaGreatTotals.lean).
  GIVEN WITH THE SEED: the statements are not yours to turn. If you find one false, say at which input.
  Laid BY PROGRAM, IN A SANDBOX (cutbox-rows.mjs): the forced cells as the released guide's own fill.sh prints them over the translation 95d9b35208f4d805… (all of the seat's roots in one cut). By AI agents, Wed Nov 11 2026. No macro, syntax, notation, axiom, sorry.
-/
import Derived.Test.YtbhbpfdjlabamaaGreatChecked
import GoSem.Claim
import GoSem.ClaimJoined
import GoSem.ClaimMapViews
import Derived.JoinedTies
import Derived.KernelRfl
namespace Go.Proofs.YtbhbpfdjlabamaaGreat
/- THE CELL 'sum', in the pinned program and in every row, IS THE sha256 OF THE DUMP (.gsa) THAT YtbhbpfdjlabamaaGreatProg.lean LOADS. Nothing in Lean hashes anything: it is a label: what it is worth is what the hold of that sum in a sandbox is worth. -/
noncomputable def Tryz.pinned : Pinned := { name := "ytbhbpfdjlabamaagreat", sum := "95d9b35208f4d8058694469af4b88caf148e837f0583b0e97f226afc00033d33", checked := Tryz.checked }
namespace Rows
def none {H : Type} : Left H := { results := [], args := [] }

/-- 'curialaw15.AuditForks': WHATEVER THE INPUT: true; the input reads as it did. -/
def auditForksSpec : ChangeSpec := { name := "auditForks", fn := fun _ => fun
  | [d1, d2] => { results := [.lit (.bool true)], args := [d1, d2] }
  | _ => none }
def auditForksRow : OpenClaim := { program := "ytbhbpfdjlabamaagreat", sum := "95d9b35208f4d8058694469af4b88caf148e837f0583b0e97f226afc00033d33", func := "curia/curialaw15.AuditForks", spec := "auditForks", inPlace := ["sync/atomic.StoreUint32", "sync/atomic.LoadUint32", "(*internal/sync.Mutex).Lock", "internal/race.Disable", "sync/atomic.CompareAndSwapInt32", "internal/race.Enable", "internal/race.Acquire", "(*internal/sync.Mutex).lockSlow", "internal/sync.runtime_canSpin", "internal/sync.runtime_doSpin", "internal/sync.throw", "internal/sync.runtime_nanotime", "internal/sync.runtime_SemacquireMutex", "sync/atomic.AddInt32", "(*internal/sync.Mutex).Unlock", "internal/race.ReleaseMerge", "(*internal/sync.Mutex).unlockSlow", "internal/sync.fatal", "internal/sync.runtime_Semrelease", "sync/atomic.AddInt64"], unfollowed := true, recurses := true, apart := false }
def AuditForksSaid : Prop := auditForksRow.holds Tryz.pinned (OpenSpec.ofChange auditForksSpec)

/-- ITS FALSE NEIGHBOUR: 'it returns false'. Refute it at one input. -/
def auditForksWrong : ChangeSpec := { name := "auditForks", fn := fun _ => fun
  | [d1, d2] => { results := [.lit (.bool false)], args := [d1, d2] }
  | _ => none }
def AuditForksWrongFalsely : Prop := auditForksRow.holds Tryz.pinned (OpenSpec.ofChange auditForksWrong)

/-- 'curialaw15.AuditOps': WHATEVER THE INPUT: true; the input reads as it did. -/
def auditOpsSpec : ChangeSpec := { name := "auditOps", fn := fun _ => fun
  | [d] => { results := [.lit (.bool true)], args := [d] }
  | _ => none }
def auditOpsRow : OpenClaim := { program := "ytbhbpfdjlabamaagreat", sum := "95d9b35208f4d8058694469af4b88caf148e837f0583b0e97f226afc00033d33", func := "curia/curialaw15.AuditOps", spec := "auditOps", inPlace := ["sync/atomic.StoreUint32", "sync/atomic.LoadUint32", "(*internal/sync.Mutex).Lock", "internal/race.Disable", "sync/atomic.CompareAndSwapInt32", "internal/race.Enable", "internal/race.Acquire", "(*internal/sync.Mutex).lockSlow", "internal/sync.runtime_canSpin", "internal/sync.runtime_doSpin", "internal/sync.throw", "internal/sync.runtime_nanotime", "internal/sync.runtime_SemacquireMutex", "sync/atomic.AddInt32", "(*internal/sync.Mutex).Unlock", "internal/race.ReleaseMerge", "(*internal/sync.Mutex).unlockSlow", "internal/sync.fatal", "internal/sync.runtime_Semrelease", "sync/atomic.AddInt64"], unfollowed := true, recurses := true, apart := false }
def AuditOpsSaid : Prop := auditOpsRow.holds Tryz.pinned (OpenSpec.ofChange auditOpsSpec)

/-- ITS FALSE NEIGHBOUR: 'it returns false'. Refute it at one input. -/
def auditOpsWrong : ChangeSpec := { name := "auditOps", fn := fun _ => fun
  | [d] => { results := [.lit (.bool false)], args := [d] }
  | _ => none }
def AuditOpsWrongFalsely : Prop := auditOpsRow.holds Tryz.pinned (OpenSpec.ofChange auditOpsWrong)

/-- 'curialaw13.PartyOfNothing': WHATEVER THE INPUT: true; the input reads as it did. -/
def partyOfNothingSpec : ChangeSpec := { name := "partyOfNothing", fn := fun _ => fun
  | [d] => { results := [.lit (.bool true)], args := [d] }
  | _ => none }
def partyOfNothingRow : OpenClaim := { program := "ytbhbpfdjlabamaagreat", sum := "95d9b35208f4d8058694469af4b88caf148e837f0583b0e97f226afc00033d33", func := "curia/curialaw13.PartyOfNothing", spec := "partyOfNothing", inPlace := ["sync/atomic.StoreUint32", "sync/atomic.LoadUint32", "(*internal/sync.Mutex).Lock", "internal/race.Disable", "sync/atomic.CompareAndSwapInt32", "internal/race.Enable", "internal/race.Acquire", "(*internal/sync.Mutex).lockSlow", "internal/sync.runtime_canSpin", "internal/sync.runtime_doSpin", "internal/sync.throw", "internal/sync.runtime_nanotime", "internal/sync.runtime_SemacquireMutex", "sync/atomic.AddInt32", "(*internal/sync.Mutex).Unlock", "internal/race.ReleaseMerge", "(*internal/sync.Mutex).unlockSlow", "internal/sync.fatal", "internal/sync.runtime_Semrelease", "sync/atomic.AddInt64"], unfollowed := true, recurses := true, apart := false }
def PartyOfNothingSaid : Prop := partyOfNothingRow.holds Tryz.pinned (OpenSpec.ofChange partyOfNothingSpec)

/-- ITS FALSE NEIGHBOUR: 'it returns false'. Refute it at one input. -/
def partyOfNothingWrong : ChangeSpec := { name := "partyOfNothing", fn := fun _ => fun
  | [d] => { results := [.lit (.bool false)], args := [d] }
  | _ => none }
def PartyOfNothingWrongFalsely : Prop := partyOfNothingRow.holds Tryz.pinned (OpenSpec.ofChange partyOfNothingWrong)

/-- 'curialaw13.PartyPlays': WHATEVER THE INPUT: true; the input reads as it did. -/
def partyPlaysSpec : ChangeSpec := { name := "partyPlays", fn := fun _ => fun
  | [d1, d2, d3, d4] => { results := [.lit (.bool true)], args := [d1, d2, d3, d4] }
  | _ => none }
def partyPlaysRow : OpenClaim := { program := "ytbhbpfdjlabamaagreat", sum := "95d9b35208f4d8058694469af4b88caf148e837f0583b0e97f226afc00033d33", func := "curia/curialaw13.PartyPlays", spec := "partyPlays", inPlace := ["sync/atomic.StoreUint32", "sync/atomic.LoadUint32", "(*internal/sync.Mutex).Lock", "internal/race.Disable", "sync/atomic.CompareAndSwapInt32", "internal/race.Enable", "internal/race.Acquire", "(*internal/sync.Mutex).lockSlow", "internal/sync.runtime_canSpin", "internal/sync.runtime_doSpin", "internal/sync.throw", "internal/sync.runtime_nanotime", "internal/sync.runtime_SemacquireMutex", "sync/atomic.AddInt32", "(*internal/sync.Mutex).Unlock", "internal/race.ReleaseMerge", "(*internal/sync.Mutex).unlockSlow", "internal/sync.fatal", "internal/sync.runtime_Semrelease", "sync/atomic.AddInt64"], unfollowed := true, recurses := true, apart := false }
def PartyPlaysSaid : Prop := partyPlaysRow.holds Tryz.pinned (OpenSpec.ofChange partyPlaysSpec)

/-- ITS FALSE NEIGHBOUR: 'it returns false'. Refute it at one input. -/
def partyPlaysWrong : ChangeSpec := { name := "partyPlays", fn := fun _ => fun
  | [d1, d2, d3, d4] => { results := [.lit (.bool false)], args := [d1, d2, d3, d4] }
  | _ => none }
def PartyPlaysWrongFalsely : Prop := partyPlaysRow.holds Tryz.pinned (OpenSpec.ofChange partyPlaysWrong)

/-- 'curialaw13.PartyOne': WHATEVER THE INPUT: true; the input reads as it did. -/
def partyOneSpec : ChangeSpec := { name := "partyOne", fn := fun _ => fun
  | [d1, d2] => { results := [.lit (.bool true)], args := [d1, d2] }
  | _ => none }
def partyOneRow : OpenClaim := { program := "ytbhbpfdjlabamaagreat", sum := "95d9b35208f4d8058694469af4b88caf148e837f0583b0e97f226afc00033d33", func := "curia/curialaw13.PartyOne", spec := "partyOne", inPlace := ["sync/atomic.StoreUint32", "sync/atomic.LoadUint32", "(*internal/sync.Mutex).Lock", "internal/race.Disable", "sync/atomic.CompareAndSwapInt32", "internal/race.Enable", "internal/race.Acquire", "(*internal/sync.Mutex).lockSlow", "internal/sync.runtime_canSpin", "internal/sync.runtime_doSpin", "internal/sync.throw", "internal/sync.runtime_nanotime", "internal/sync.runtime_SemacquireMutex", "sync/atomic.AddInt32", "(*internal/sync.Mutex).Unlock", "internal/race.ReleaseMerge", "(*internal/sync.Mutex).unlockSlow", "internal/sync.fatal", "internal/sync.runtime_Semrelease", "sync/atomic.AddInt64"], unfollowed := true, recurses := true, apart := false }
def PartyOneSaid : Prop := partyOneRow.holds Tryz.pinned (OpenSpec.ofChange partyOneSpec)

/-- ITS FALSE NEIGHBOUR: 'it returns false'. Refute it at one input. -/
def partyOneWrong : ChangeSpec := { name := "partyOne", fn := fun _ => fun
  | [d1, d2] => { results := [.lit (.bool false)], args := [d1, d2] }
  | _ => none }
def PartyOneWrongFalsely : Prop := partyOneRow.holds Tryz.pinned (OpenSpec.ofChange partyOneWrong)

/-- 'curialaw13.PartyGone': WHATEVER THE INPUT: true; the input reads as it did. -/
def partyGoneSpec : ChangeSpec := { name := "partyGone", fn := fun _ => fun
  | [d1, d2] => { results := [.lit (.bool true)], args := [d1, d2] }
  | _ => none }
def partyGoneRow : OpenClaim := { program := "ytbhbpfdjlabamaagreat", sum := "95d9b35208f4d8058694469af4b88caf148e837f0583b0e97f226afc00033d33", func := "curia/curialaw13.PartyGone", spec := "partyGone", inPlace := ["sync/atomic.StoreUint32", "sync/atomic.LoadUint32", "(*internal/sync.Mutex).Lock", "internal/race.Disable", "sync/atomic.CompareAndSwapInt32", "internal/race.Enable", "internal/race.Acquire", "(*internal/sync.Mutex).lockSlow", "internal/sync.runtime_canSpin", "internal/sync.runtime_doSpin", "internal/sync.throw", "internal/sync.runtime_nanotime", "internal/sync.runtime_SemacquireMutex", "sync/atomic.AddInt32", "(*internal/sync.Mutex).Unlock", "internal/race.ReleaseMerge", "(*internal/sync.Mutex).unlockSlow", "internal/sync.fatal", "internal/sync.runtime_Semrelease", "sync/atomic.AddInt64"], unfollowed := true, recurses := true, apart := false }
def PartyGoneSaid : Prop := partyGoneRow.holds Tryz.pinned (OpenSpec.ofChange partyGoneSpec)

/-- ITS FALSE NEIGHBOUR: 'it returns false'. Refute it at one input. -/
def partyGoneWrong : ChangeSpec := { name := "partyGone", fn := fun _ => fun
  | [d1, d2] => { results := [.lit (.bool false)], args := [d1, d2] }
  | _ => none }
def PartyGoneWrongFalsely : Prop := partyGoneRow.holds Tryz.pinned (OpenSpec.ofChange partyGoneWrong)

/-- 'curialaw13.PartyQuorum': WHATEVER THE INPUT: true; the input reads as it did. -/
def partyQuorumSpec : ChangeSpec := { name := "partyQuorum", fn := fun _ => fun
  | [d1, d2, d3, d4] => { results := [.lit (.bool true)], args := [d1, d2, d3, d4] }
  | _ => none }
def partyQuorumRow : OpenClaim := { program := "ytbhbpfdjlabamaagreat", sum := "95d9b35208f4d8058694469af4b88caf148e837f0583b0e97f226afc00033d33", func := "curia/curialaw13.PartyQuorum", spec := "partyQuorum", inPlace := ["sync/atomic.StoreUint32", "sync/atomic.LoadUint32", "(*internal/sync.Mutex).Lock", "internal/race.Disable", "sync/atomic.CompareAndSwapInt32", "internal/race.Enable", "internal/race.Acquire", "(*internal/sync.Mutex).lockSlow", "internal/sync.runtime_canSpin", "internal/sync.runtime_doSpin", "internal/sync.throw", "internal/sync.runtime_nanotime", "internal/sync.runtime_SemacquireMutex", "sync/atomic.AddInt32", "(*internal/sync.Mutex).Unlock", "internal/race.ReleaseMerge", "(*internal/sync.Mutex).unlockSlow", "internal/sync.fatal", "internal/sync.runtime_Semrelease", "sync/atomic.AddInt64"], unfollowed := true, recurses := true, apart := false }
def PartyQuorumSaid : Prop := partyQuorumRow.holds Tryz.pinned (OpenSpec.ofChange partyQuorumSpec)

/-- ITS FALSE NEIGHBOUR: 'it returns false'. Refute it at one input. -/
def partyQuorumWrong : ChangeSpec := { name := "partyQuorum", fn := fun _ => fun
  | [d1, d2, d3, d4] => { results := [.lit (.bool false)], args := [d1, d2, d3, d4] }
  | _ => none }
def PartyQuorumWrongFalsely : Prop := partyQuorumRow.holds Tryz.pinned (OpenSpec.ofChange partyQuorumWrong)

/-- 'curialaw13.PartyForged': WHATEVER THE INPUT: true; the input reads as it did. -/
def partyForgedSpec : ChangeSpec := { name := "partyForged", fn := fun _ => fun
  | [d1, d2, d3, d4] => { results := [.lit (.bool true)], args := [d1, d2, d3, d4] }
  | _ => none }
def partyForgedRow : OpenClaim := { program := "ytbhbpfdjlabamaagreat", sum := "95d9b35208f4d8058694469af4b88caf148e837f0583b0e97f226afc00033d33", func := "curia/curialaw13.PartyForged", spec := "partyForged", inPlace := ["sync/atomic.StoreUint32", "sync/atomic.LoadUint32", "(*internal/sync.Mutex).Lock", "internal/race.Disable", "sync/atomic.CompareAndSwapInt32", "internal/race.Enable", "internal/race.Acquire", "(*internal/sync.Mutex).lockSlow", "internal/sync.runtime_canSpin", "internal/sync.runtime_doSpin", "internal/sync.throw", "internal/sync.runtime_nanotime", "internal/sync.runtime_SemacquireMutex", "sync/atomic.AddInt32", "(*internal/sync.Mutex).Unlock", "internal/race.ReleaseMerge", "(*internal/sync.Mutex).unlockSlow", "internal/sync.fatal", "internal/sync.runtime_Semrelease", "sync/atomic.AddInt64"], unfollowed := true, recurses := true, apart := false }
def PartyForgedSaid : Prop := partyForgedRow.holds Tryz.pinned (OpenSpec.ofChange partyForgedSpec)

/-- ITS FALSE NEIGHBOUR: 'it returns false'. Refute it at one input. -/
def partyForgedWrong : ChangeSpec := { name := "partyForged", fn := fun _ => fun
  | [d1, d2, d3, d4] => { results := [.lit (.bool false)], args := [d1, d2, d3, d4] }
  | _ => none }
def PartyForgedWrongFalsely : Prop := partyForgedRow.holds Tryz.pinned (OpenSpec.ofChange partyForgedWrong)

/-- 'curialaw13.PartyLies': WHATEVER THE INPUT: true; the input reads as it did. -/
def partyLiesSpec : ChangeSpec := { name := "partyLies", fn := fun _ => fun
  | [d1, d2, d3, d4] => { results := [.lit (.bool true)], args := [d1, d2, d3, d4] }
  | _ => none }
def partyLiesRow : OpenClaim := { program := "ytbhbpfdjlabamaagreat", sum := "95d9b35208f4d8058694469af4b88caf148e837f0583b0e97f226afc00033d33", func := "curia/curialaw13.PartyLies", spec := "partyLies", inPlace := ["sync/atomic.StoreUint32", "sync/atomic.LoadUint32", "(*internal/sync.Mutex).Lock", "internal/race.Disable", "sync/atomic.CompareAndSwapInt32", "internal/race.Enable", "internal/race.Acquire", "(*internal/sync.Mutex).lockSlow", "internal/sync.runtime_canSpin", "internal/sync.runtime_doSpin", "internal/sync.throw", "internal/sync.runtime_nanotime", "internal/sync.runtime_SemacquireMutex", "sync/atomic.AddInt32", "(*internal/sync.Mutex).Unlock", "internal/race.ReleaseMerge", "(*internal/sync.Mutex).unlockSlow", "internal/sync.fatal", "internal/sync.runtime_Semrelease", "sync/atomic.AddInt64"], unfollowed := true, recurses := true, apart := false }
def PartyLiesSaid : Prop := partyLiesRow.holds Tryz.pinned (OpenSpec.ofChange partyLiesSpec)

/-- ITS FALSE NEIGHBOUR: 'it returns false'. Refute it at one input. -/
def partyLiesWrong : ChangeSpec := { name := "partyLies", fn := fun _ => fun
  | [d1, d2, d3, d4] => { results := [.lit (.bool false)], args := [d1, d2, d3, d4] }
  | _ => none }
def PartyLiesWrongFalsely : Prop := partyLiesRow.holds Tryz.pinned (OpenSpec.ofChange partyLiesWrong)

/-- 'curialaw13.PartyOwn': WHATEVER THE INPUT: true; the input reads as it did. -/
def partyOwnSpec : ChangeSpec := { name := "partyOwn", fn := fun _ => fun
  | [d1, d2] => { results := [.lit (.bool true)], args := [d1, d2] }
  | _ => none }
def partyOwnRow : OpenClaim := { program := "ytbhbpfdjlabamaagreat", sum := "95d9b35208f4d8058694469af4b88caf148e837f0583b0e97f226afc00033d33", func := "curia/curialaw13.PartyOwn", spec := "partyOwn", inPlace := ["sync/atomic.StoreUint32", "sync/atomic.LoadUint32", "(*internal/sync.Mutex).Lock", "internal/race.Disable", "sync/atomic.CompareAndSwapInt32", "internal/race.Enable", "internal/race.Acquire", "(*internal/sync.Mutex).lockSlow", "internal/sync.runtime_canSpin", "internal/sync.runtime_doSpin", "internal/sync.throw", "internal/sync.runtime_nanotime", "internal/sync.runtime_SemacquireMutex", "sync/atomic.AddInt32", "(*internal/sync.Mutex).Unlock", "internal/race.ReleaseMerge", "(*internal/sync.Mutex).unlockSlow", "internal/sync.fatal", "internal/sync.runtime_Semrelease", "sync/atomic.AddInt64"], unfollowed := true, recurses := true, apart := false }
def PartyOwnSaid : Prop := partyOwnRow.holds Tryz.pinned (OpenSpec.ofChange partyOwnSpec)

/-- ITS FALSE NEIGHBOUR: 'it returns false'. Refute it at one input. -/
def partyOwnWrong : ChangeSpec := { name := "partyOwn", fn := fun _ => fun
  | [d1, d2] => { results := [.lit (.bool false)], args := [d1, d2] }
  | _ => none }
def PartyOwnWrongFalsely : Prop := partyOwnRow.holds Tryz.pinned (OpenSpec.ofChange partyOwnWrong)

/-- 'curialaw13.PartyWelcome': WHATEVER THE INPUT: true; the input reads as it did. -/
def partyWelcomeSpec : ChangeSpec := { name := "partyWelcome", fn := fun _ => fun
  | [d1, d2, d3, d4] => { results := [.lit (.bool true)], args := [d1, d2, d3, d4] }
  | _ => none }
def partyWelcomeRow : OpenClaim := { program := "ytbhbpfdjlabamaagreat", sum := "95d9b35208f4d8058694469af4b88caf148e837f0583b0e97f226afc00033d33", func := "curia/curialaw13.PartyWelcome", spec := "partyWelcome", inPlace := ["sync/atomic.StoreUint32", "sync/atomic.LoadUint32", "(*internal/sync.Mutex).Lock", "internal/race.Disable", "sync/atomic.CompareAndSwapInt32", "internal/race.Enable", "internal/race.Acquire", "(*internal/sync.Mutex).lockSlow", "internal/sync.runtime_canSpin", "internal/sync.runtime_doSpin", "internal/sync.throw", "internal/sync.runtime_nanotime", "internal/sync.runtime_SemacquireMutex", "sync/atomic.AddInt32", "(*internal/sync.Mutex).Unlock", "internal/race.ReleaseMerge", "(*internal/sync.Mutex).unlockSlow", "internal/sync.fatal", "internal/sync.runtime_Semrelease", "sync/atomic.AddInt64"], unfollowed := true, recurses := true, apart := false }
def PartyWelcomeSaid : Prop := partyWelcomeRow.holds Tryz.pinned (OpenSpec.ofChange partyWelcomeSpec)

/-- ITS FALSE NEIGHBOUR: 'it returns false'. Refute it at one input. -/
def partyWelcomeWrong : ChangeSpec := { name := "partyWelcome", fn := fun _ => fun
  | [d1, d2, d3, d4] => { results := [.lit (.bool false)], args := [d1, d2, d3, d4] }
  | _ => none }
def PartyWelcomeWrongFalsely : Prop := partyWelcomeRow.holds Tryz.pinned (OpenSpec.ofChange partyWelcomeWrong)

/-- 'curialaw13.PartyForks': WHATEVER THE INPUT: true; the input reads as it did. -/
def partyForksSpec : ChangeSpec := { name := "partyForks", fn := fun _ => fun
  | [d1, d2, d3] => { results := [.lit (.bool true)], args := [d1, d2, d3] }
  | _ => none }
def partyForksRow : OpenClaim := { program := "ytbhbpfdjlabamaagreat", sum := "95d9b35208f4d8058694469af4b88caf148e837f0583b0e97f226afc00033d33", func := "curia/curialaw13.PartyForks", spec := "partyForks", inPlace := ["sync/atomic.StoreUint32", "sync/atomic.LoadUint32", "(*internal/sync.Mutex).Lock", "internal/race.Disable", "sync/atomic.CompareAndSwapInt32", "internal/race.Enable", "internal/race.Acquire", "(*internal/sync.Mutex).lockSlow", "internal/sync.runtime_canSpin", "internal/sync.runtime_doSpin", "internal/sync.throw", "internal/sync.runtime_nanotime", "internal/sync.runtime_SemacquireMutex", "sync/atomic.AddInt32", "(*internal/sync.Mutex).Unlock", "internal/race.ReleaseMerge", "(*internal/sync.Mutex).unlockSlow", "internal/sync.fatal", "internal/sync.runtime_Semrelease", "sync/atomic.AddInt64"], unfollowed := true, recurses := true, apart := false }
def PartyForksSaid : Prop := partyForksRow.holds Tryz.pinned (OpenSpec.ofChange partyForksSpec)

/-- ITS FALSE NEIGHBOUR: 'it returns false'. Refute it at one input. -/
def partyForksWrong : ChangeSpec := { name := "partyForks", fn := fun _ => fun
  | [d1, d2, d3] => { results := [.lit (.bool false)], args := [d1, d2, d3] }
  | _ => none }
def PartyForksWrongFalsely : Prop := partyForksRow.holds Tryz.pinned (OpenSpec.ofChange partyForksWrong)

/-- 'curialaw13.PartyExports': WHATEVER THE INPUT: true; the input reads as it did. -/
def partyExportsSpec : ChangeSpec := { name := "partyExports", fn := fun _ => fun
  | [d1, d2, d3] => { results := [.lit (.bool true)], args := [d1, d2, d3] }
  | _ => none }
def partyExportsRow : OpenClaim := { program := "ytbhbpfdjlabamaagreat", sum := "95d9b35208f4d8058694469af4b88caf148e837f0583b0e97f226afc00033d33", func := "curia/curialaw13.PartyExports", spec := "partyExports", inPlace := ["sync/atomic.StoreUint32", "sync/atomic.LoadUint32", "(*internal/sync.Mutex).Lock", "internal/race.Disable", "sync/atomic.CompareAndSwapInt32", "internal/race.Enable", "internal/race.Acquire", "(*internal/sync.Mutex).lockSlow", "internal/sync.runtime_canSpin", "internal/sync.runtime_doSpin", "internal/sync.throw", "internal/sync.runtime_nanotime", "internal/sync.runtime_SemacquireMutex", "sync/atomic.AddInt32", "(*internal/sync.Mutex).Unlock", "internal/race.ReleaseMerge", "(*internal/sync.Mutex).unlockSlow", "internal/sync.fatal", "internal/sync.runtime_Semrelease", "sync/atomic.AddInt64"], unfollowed := true, recurses := true, apart := false }
def PartyExportsSaid : Prop := partyExportsRow.holds Tryz.pinned (OpenSpec.ofChange partyExportsSpec)

/-- ITS FALSE NEIGHBOUR: 'it returns false'. Refute it at one input. -/
def partyExportsWrong : ChangeSpec := { name := "partyExports", fn := fun _ => fun
  | [d1, d2, d3] => { results := [.lit (.bool false)], args := [d1, d2, d3] }
  | _ => none }
def PartyExportsWrongFalsely : Prop := partyExportsRow.holds Tryz.pinned (OpenSpec.ofChange partyExportsWrong)

/-- 'curialaw13.PartyNew': WHATEVER THE INPUT: true; the input reads as it did. -/
def partyNewSpec : ChangeSpec := { name := "partyNew", fn := fun _ => fun
  | [d1, d2, d3] => { results := [.lit (.bool true)], args := [d1, d2, d3] }
  | _ => none }
def partyNewRow : OpenClaim := { program := "ytbhbpfdjlabamaagreat", sum := "95d9b35208f4d8058694469af4b88caf148e837f0583b0e97f226afc00033d33", func := "curia/curialaw13.PartyNew", spec := "partyNew", inPlace := ["sync/atomic.StoreUint32", "sync/atomic.LoadUint32", "(*internal/sync.Mutex).Lock", "internal/race.Disable", "sync/atomic.CompareAndSwapInt32", "internal/race.Enable", "internal/race.Acquire", "(*internal/sync.Mutex).lockSlow", "internal/sync.runtime_canSpin", "internal/sync.runtime_doSpin", "internal/sync.throw", "internal/sync.runtime_nanotime", "internal/sync.runtime_SemacquireMutex", "sync/atomic.AddInt32", "(*internal/sync.Mutex).Unlock", "internal/race.ReleaseMerge", "(*internal/sync.Mutex).unlockSlow", "internal/sync.fatal", "internal/sync.runtime_Semrelease", "sync/atomic.AddInt64"], unfollowed := true, recurses := true, apart := false }
def PartyNewSaid : Prop := partyNewRow.holds Tryz.pinned (OpenSpec.ofChange partyNewSpec)

/-- ITS FALSE NEIGHBOUR: 'it returns false'. Refute it at one input. -/
def partyNewWrong : ChangeSpec := { name := "partyNew", fn := fun _ => fun
  | [d1, d2, d3] => { results := [.lit (.bool false)], args := [d1, d2, d3] }
  | _ => none }
def PartyNewWrongFalsely : Prop := partyNewRow.holds Tryz.pinned (OpenSpec.ofChange partyNewWrong)

/-- 'curialaw13.PartyReplaced': WHATEVER THE INPUT: true; the input reads as it did. -/
def partyReplacedSpec : ChangeSpec := { name := "partyReplaced", fn := fun _ => fun
  | [d1, d2] => { results := [.lit (.bool true)], args := [d1, d2] }
  | _ => none }
def partyReplacedRow : OpenClaim := { program := "ytbhbpfdjlabamaagreat", sum := "95d9b35208f4d8058694469af4b88caf148e837f0583b0e97f226afc00033d33", func := "curia/curialaw13.PartyReplaced", spec := "partyReplaced", inPlace := ["sync/atomic.StoreUint32", "sync/atomic.LoadUint32", "(*internal/sync.Mutex).Lock", "internal/race.Disable", "sync/atomic.CompareAndSwapInt32", "internal/race.Enable", "internal/race.Acquire", "(*internal/sync.Mutex).lockSlow", "internal/sync.runtime_canSpin", "internal/sync.runtime_doSpin", "internal/sync.throw", "internal/sync.runtime_nanotime", "internal/sync.runtime_SemacquireMutex", "sync/atomic.AddInt32", "(*internal/sync.Mutex).Unlock", "internal/race.ReleaseMerge", "(*internal/sync.Mutex).unlockSlow", "internal/sync.fatal", "internal/sync.runtime_Semrelease", "sync/atomic.AddInt64"], unfollowed := true, recurses := true, apart := false }
def PartyReplacedSaid : Prop := partyReplacedRow.holds Tryz.pinned (OpenSpec.ofChange partyReplacedSpec)

/-- ITS FALSE NEIGHBOUR: 'it returns false'. Refute it at one input. -/
def partyReplacedWrong : ChangeSpec := { name := "partyReplaced", fn := fun _ => fun
  | [d1, d2] => { results := [.lit (.bool false)], args := [d1, d2] }
  | _ => none }
def PartyReplacedWrongFalsely : Prop := partyReplacedRow.holds Tryz.pinned (OpenSpec.ofChange partyReplacedWrong)

/-- 'curialaw14.WorldStale': WHATEVER THE INPUT: true; the input reads as it did. -/
def worldStaleSpec : ChangeSpec := { name := "worldStale", fn := fun _ => fun
  | [d1, d2] => { results := [.lit (.bool true)], args := [d1, d2] }
  | _ => none }
def worldStaleRow : OpenClaim := { program := "ytbhbpfdjlabamaagreat", sum := "95d9b35208f4d8058694469af4b88caf148e837f0583b0e97f226afc00033d33", func := "curia/curialaw14.WorldStale", spec := "worldStale", inPlace := ["sync/atomic.StoreUint32", "sync/atomic.LoadUint32", "(*internal/sync.Mutex).Lock", "internal/race.Disable", "sync/atomic.CompareAndSwapInt32", "internal/race.Enable", "internal/race.Acquire", "(*internal/sync.Mutex).lockSlow", "internal/sync.runtime_canSpin", "internal/sync.runtime_doSpin", "internal/sync.throw", "internal/sync.runtime_nanotime", "internal/sync.runtime_SemacquireMutex", "sync/atomic.AddInt32", "(*internal/sync.Mutex).Unlock", "internal/race.ReleaseMerge", "(*internal/sync.Mutex).unlockSlow", "internal/sync.fatal", "internal/sync.runtime_Semrelease", "sync/atomic.AddInt64", "sync/atomic.LoadInt64", "sync/atomic.StoreInt64"], unfollowed := true, recurses := true, apart := false }
def WorldStaleSaid : Prop := worldStaleRow.holds Tryz.pinned (OpenSpec.ofChange worldStaleSpec)

/-- ITS FALSE NEIGHBOUR: 'it returns false'. Refute it at one input. -/
def worldStaleWrong : ChangeSpec := { name := "worldStale", fn := fun _ => fun
  | [d1, d2] => { results := [.lit (.bool false)], args := [d1, d2] }
  | _ => none }
def WorldStaleWrongFalsely : Prop := worldStaleRow.holds Tryz.pinned (OpenSpec.ofChange worldStaleWrong)

/-- 'curialaw14.WorldVotes': WHATEVER THE INPUT: true; the input reads as it did. -/
def worldVotesSpec : ChangeSpec := { name := "worldVotes", fn := fun _ => fun
  | [d1, d2] => { results := [.lit (.bool true)], args := [d1, d2] }
  | _ => none }
def worldVotesRow : OpenClaim := { program := "ytbhbpfdjlabamaagreat", sum := "95d9b35208f4d8058694469af4b88caf148e837f0583b0e97f226afc00033d33", func := "curia/curialaw14.WorldVotes", spec := "worldVotes", inPlace := ["sync/atomic.StoreUint32", "sync/atomic.LoadUint32", "(*internal/sync.Mutex).Lock", "internal/race.Disable", "sync/atomic.CompareAndSwapInt32", "internal/race.Enable", "internal/race.Acquire", "(*internal/sync.Mutex).lockSlow", "internal/sync.runtime_canSpin", "internal/sync.runtime_doSpin", "internal/sync.throw", "internal/sync.runtime_nanotime", "internal/sync.runtime_SemacquireMutex", "sync/atomic.AddInt32", "(*internal/sync.Mutex).Unlock", "internal/race.ReleaseMerge", "(*internal/sync.Mutex).unlockSlow", "internal/sync.fatal", "internal/sync.runtime_Semrelease", "sync/atomic.AddInt64", "sync/atomic.LoadInt64", "sync/atomic.StoreInt64"], unfollowed := true, recurses := true, apart := false }
def WorldVotesSaid : Prop := worldVotesRow.holds Tryz.pinned (OpenSpec.ofChange worldVotesSpec)

/-- ITS FALSE NEIGHBOUR: 'it returns false'. Refute it at one input. -/
def worldVotesWrong : ChangeSpec := { name := "worldVotes", fn := fun _ => fun
  | [d1, d2] => { results := [.lit (.bool false)], args := [d1, d2] }
  | _ => none }
def WorldVotesWrongFalsely : Prop := worldVotesRow.holds Tryz.pinned (OpenSpec.ofChange worldVotesWrong)

/-- 'curialaw14.WorldOrder': WHATEVER THE INPUT: true; the input reads as it did. -/
def worldOrderSpec : ChangeSpec := { name := "worldOrder", fn := fun _ => fun
  | [d1, d2] => { results := [.lit (.bool true)], args := [d1, d2] }
  | _ => none }
def worldOrderRow : OpenClaim := { program := "ytbhbpfdjlabamaagreat", sum := "95d9b35208f4d8058694469af4b88caf148e837f0583b0e97f226afc00033d33", func := "curia/curialaw14.WorldOrder", spec := "worldOrder", inPlace := ["sync/atomic.StoreUint32", "sync/atomic.LoadUint32", "(*internal/sync.Mutex).Lock", "internal/race.Disable", "sync/atomic.CompareAndSwapInt32", "internal/race.Enable", "internal/race.Acquire", "(*internal/sync.Mutex).lockSlow", "internal/sync.runtime_canSpin", "internal/sync.runtime_doSpin", "internal/sync.throw", "internal/sync.runtime_nanotime", "internal/sync.runtime_SemacquireMutex", "sync/atomic.AddInt32", "(*internal/sync.Mutex).Unlock", "internal/race.ReleaseMerge", "(*internal/sync.Mutex).unlockSlow", "internal/sync.fatal", "internal/sync.runtime_Semrelease", "sync/atomic.AddInt64", "sync/atomic.LoadInt64", "sync/atomic.StoreInt64"], unfollowed := true, recurses := true, apart := false }
def WorldOrderSaid : Prop := worldOrderRow.holds Tryz.pinned (OpenSpec.ofChange worldOrderSpec)

/-- ITS FALSE NEIGHBOUR: 'it returns false'. Refute it at one input. -/
def worldOrderWrong : ChangeSpec := { name := "worldOrder", fn := fun _ => fun
  | [d1, d2] => { results := [.lit (.bool false)], args := [d1, d2] }
  | _ => none }
def WorldOrderWrongFalsely : Prop := worldOrderRow.holds Tryz.pinned (OpenSpec.ofChange worldOrderWrong)

/-- 'curialaw14.WorldFull': WHATEVER THE INPUT: true; the input reads as it did. -/
def worldFullSpec : ChangeSpec := { name := "worldFull", fn := fun _ => fun
  | [d] => { results := [.lit (.bool true)], args := [d] }
  | _ => none }
def worldFullRow : OpenClaim := { program := "ytbhbpfdjlabamaagreat", sum := "95d9b35208f4d8058694469af4b88caf148e837f0583b0e97f226afc00033d33", func := "curia/curialaw14.WorldFull", spec := "worldFull", inPlace := ["sync/atomic.StoreUint32", "sync/atomic.LoadUint32", "(*internal/sync.Mutex).Lock", "internal/race.Disable", "sync/atomic.CompareAndSwapInt32", "internal/race.Enable", "internal/race.Acquire", "(*internal/sync.Mutex).lockSlow", "internal/sync.runtime_canSpin", "internal/sync.runtime_doSpin", "internal/sync.throw", "internal/sync.runtime_nanotime", "internal/sync.runtime_SemacquireMutex", "sync/atomic.AddInt32", "(*internal/sync.Mutex).Unlock", "internal/race.ReleaseMerge", "(*internal/sync.Mutex).unlockSlow", "internal/sync.fatal", "internal/sync.runtime_Semrelease", "sync/atomic.AddInt64", "sync/atomic.LoadInt64", "sync/atomic.StoreInt64"], unfollowed := true, recurses := true, apart := false }
def WorldFullSaid : Prop := worldFullRow.holds Tryz.pinned (OpenSpec.ofChange worldFullSpec)

/-- ITS FALSE NEIGHBOUR: 'it returns false'. Refute it at one input. -/
def worldFullWrong : ChangeSpec := { name := "worldFull", fn := fun _ => fun
  | [d] => { results := [.lit (.bool false)], args := [d] }
  | _ => none }
def WorldFullWrongFalsely : Prop := worldFullRow.holds Tryz.pinned (OpenSpec.ofChange worldFullWrong)

/-- 'curialaw14.WorldErrs': WHATEVER THE INPUT: true; the input reads as it did. -/
def worldErrsSpec : ChangeSpec := { name := "worldErrs", fn := fun _ => fun
  | [d1, d2] => { results := [.lit (.bool true)], args := [d1, d2] }
  | _ => none }
def worldErrsRow : OpenClaim := { program := "ytbhbpfdjlabamaagreat", sum := "95d9b35208f4d8058694469af4b88caf148e837f0583b0e97f226afc00033d33", func := "curia/curialaw14.WorldErrs", spec := "worldErrs", inPlace := ["sync/atomic.StoreUint32", "sync/atomic.LoadUint32", "(*internal/sync.Mutex).Lock", "internal/race.Disable", "sync/atomic.CompareAndSwapInt32", "internal/race.Enable", "internal/race.Acquire", "(*internal/sync.Mutex).lockSlow", "internal/sync.runtime_canSpin", "internal/sync.runtime_doSpin", "internal/sync.throw", "internal/sync.runtime_nanotime", "internal/sync.runtime_SemacquireMutex", "sync/atomic.AddInt32", "(*internal/sync.Mutex).Unlock", "internal/race.ReleaseMerge", "(*internal/sync.Mutex).unlockSlow", "internal/sync.fatal", "internal/sync.runtime_Semrelease", "sync/atomic.AddInt64", "sync/atomic.LoadInt64", "sync/atomic.StoreInt64"], unfollowed := true, recurses := true, apart := false }
def WorldErrsSaid : Prop := worldErrsRow.holds Tryz.pinned (OpenSpec.ofChange worldErrsSpec)

/-- ITS FALSE NEIGHBOUR: 'it returns false'. Refute it at one input. -/
def worldErrsWrong : ChangeSpec := { name := "worldErrs", fn := fun _ => fun
  | [d1, d2] => { results := [.lit (.bool false)], args := [d1, d2] }
  | _ => none }
def WorldErrsWrongFalsely : Prop := worldErrsRow.holds Tryz.pinned (OpenSpec.ofChange worldErrsWrong)

/-- 'curialaw14.WorldGrows': WHATEVER THE INPUT: true; the input reads as it did. -/
def worldGrowsSpec : ChangeSpec := { name := "worldGrows", fn := fun _ => fun
  | [d] => { results := [.lit (.bool true)], args := [d] }
  | _ => none }
def worldGrowsRow : OpenClaim := { program := "ytbhbpfdjlabamaagreat", sum := "95d9b35208f4d8058694469af4b88caf148e837f0583b0e97f226afc00033d33", func := "curia/curialaw14.WorldGrows", spec := "worldGrows", inPlace := ["sync/atomic.StoreUint32", "sync/atomic.LoadUint32", "(*internal/sync.Mutex).Lock", "internal/race.Disable", "sync/atomic.CompareAndSwapInt32", "internal/race.Enable", "internal/race.Acquire", "(*internal/sync.Mutex).lockSlow", "internal/sync.runtime_canSpin", "internal/sync.runtime_doSpin", "internal/sync.throw", "internal/sync.runtime_nanotime", "internal/sync.runtime_SemacquireMutex", "sync/atomic.AddInt32", "(*internal/sync.Mutex).Unlock", "internal/race.ReleaseMerge", "(*internal/sync.Mutex).unlockSlow", "internal/sync.fatal", "internal/sync.runtime_Semrelease", "sync/atomic.AddInt64", "sync/atomic.LoadInt64", "sync/atomic.StoreInt64"], unfollowed := true, recurses := true, apart := false }
def WorldGrowsSaid : Prop := worldGrowsRow.holds Tryz.pinned (OpenSpec.ofChange worldGrowsSpec)

/-- ITS FALSE NEIGHBOUR: 'it returns false'. Refute it at one input. -/
def worldGrowsWrong : ChangeSpec := { name := "worldGrows", fn := fun _ => fun
  | [d] => { results := [.lit (.bool false)], args := [d] }
  | _ => none }
def WorldGrowsWrongFalsely : Prop := worldGrowsRow.holds Tryz.pinned (OpenSpec.ofChange worldGrowsWrong)

/-- 'curialaw14.WorldOfNothing': WHATEVER THE INPUT: true; the input reads as it did. -/
def worldOfNothingSpec : ChangeSpec := { name := "worldOfNothing", fn := fun _ => fun
  | [d1, d2] => { results := [.lit (.bool true)], args := [d1, d2] }
  | _ => none }
def worldOfNothingRow : OpenClaim := { program := "ytbhbpfdjlabamaagreat", sum := "95d9b35208f4d8058694469af4b88caf148e837f0583b0e97f226afc00033d33", func := "curia/curialaw14.WorldOfNothing", spec := "worldOfNothing", inPlace := ["sync/atomic.AddInt64", "(*internal/sync.Mutex).Lock", "internal/race.Disable", "sync/atomic.CompareAndSwapInt32", "internal/race.Enable", "internal/race.Acquire", "(*internal/sync.Mutex).lockSlow", "internal/sync.runtime_canSpin", "internal/sync.runtime_doSpin", "internal/sync.throw", "internal/sync.runtime_nanotime", "internal/sync.runtime_SemacquireMutex", "sync/atomic.AddInt32", "(*internal/sync.Mutex).Unlock", "internal/race.ReleaseMerge", "(*internal/sync.Mutex).unlockSlow", "internal/sync.fatal", "internal/sync.runtime_Semrelease", "sync/atomic.StoreUint32", "sync/atomic.LoadUint32", "sync/atomic.LoadInt64", "sync/atomic.StoreInt64"], unfollowed := true, recurses := true, apart := false }
def WorldOfNothingSaid : Prop := worldOfNothingRow.holds Tryz.pinned (OpenSpec.ofChange worldOfNothingSpec)

/-- ITS FALSE NEIGHBOUR: 'it returns false'. Refute it at one input. -/
def worldOfNothingWrong : ChangeSpec := { name := "worldOfNothing", fn := fun _ => fun
  | [d1, d2] => { results := [.lit (.bool false)], args := [d1, d2] }
  | _ => none }
def WorldOfNothingWrongFalsely : Prop := worldOfNothingRow.holds Tryz.pinned (OpenSpec.ofChange worldOfNothingWrong)

/-- 'curialaw14.WorldOwn': WHATEVER THE INPUT: true; the input reads as it did. -/
def worldOwnSpec : ChangeSpec := { name := "worldOwn", fn := fun _ => fun
  | [d] => { results := [.lit (.bool true)], args := [d] }
  | _ => none }
def worldOwnRow : OpenClaim := { program := "ytbhbpfdjlabamaagreat", sum := "95d9b35208f4d8058694469af4b88caf148e837f0583b0e97f226afc00033d33", func := "curia/curialaw14.WorldOwn", spec := "worldOwn", inPlace := ["sync/atomic.StoreUint32", "sync/atomic.LoadUint32", "(*internal/sync.Mutex).Lock", "internal/race.Disable", "sync/atomic.CompareAndSwapInt32", "internal/race.Enable", "internal/race.Acquire", "(*internal/sync.Mutex).lockSlow", "internal/sync.runtime_canSpin", "internal/sync.runtime_doSpin", "internal/sync.throw", "internal/sync.runtime_nanotime", "internal/sync.runtime_SemacquireMutex", "sync/atomic.AddInt32", "(*internal/sync.Mutex).Unlock", "internal/race.ReleaseMerge", "(*internal/sync.Mutex).unlockSlow", "internal/sync.fatal", "internal/sync.runtime_Semrelease", "sync/atomic.AddInt64", "sync/atomic.LoadInt64", "sync/atomic.StoreInt64"], unfollowed := true, recurses := true, apart := false }
def WorldOwnSaid : Prop := worldOwnRow.holds Tryz.pinned (OpenSpec.ofChange worldOwnSpec)

/-- ITS FALSE NEIGHBOUR: 'it returns false'. Refute it at one input. -/
def worldOwnWrong : ChangeSpec := { name := "worldOwn", fn := fun _ => fun
  | [d] => { results := [.lit (.bool false)], args := [d] }
  | _ => none }
def WorldOwnWrongFalsely : Prop := worldOwnRow.holds Tryz.pinned (OpenSpec.ofChange worldOwnWrong)

/-- 'curialaw14.WorldKinds': WHATEVER THE INPUT: true; the input reads as it did. -/
def worldKindsSpec : ChangeSpec := { name := "worldKinds", fn := fun _ => fun
  | [d1, d2, d3] => { results := [.lit (.bool true)], args := [d1, d2, d3] }
  | _ => none }
def worldKindsRow : OpenClaim := { program := "ytbhbpfdjlabamaagreat", sum := "95d9b35208f4d8058694469af4b88caf148e837f0583b0e97f226afc00033d33", func := "curia/curialaw14.WorldKinds", spec := "worldKinds", inPlace := ["sync/atomic.StoreUint32", "sync/atomic.LoadUint32", "(*internal/sync.Mutex).Lock", "internal/race.Disable", "sync/atomic.CompareAndSwapInt32", "internal/race.Enable", "internal/race.Acquire", "(*internal/sync.Mutex).lockSlow", "internal/sync.runtime_canSpin", "internal/sync.runtime_doSpin", "internal/sync.throw", "internal/sync.runtime_nanotime", "internal/sync.runtime_SemacquireMutex", "sync/atomic.AddInt32", "(*internal/sync.Mutex).Unlock", "internal/race.ReleaseMerge", "(*internal/sync.Mutex).unlockSlow", "internal/sync.fatal", "internal/sync.runtime_Semrelease", "sync/atomic.AddInt64", "sync/atomic.LoadInt64", "sync/atomic.StoreInt64"], unfollowed := true, recurses := true, apart := false }
def WorldKindsSaid : Prop := worldKindsRow.holds Tryz.pinned (OpenSpec.ofChange worldKindsSpec)

/-- ITS FALSE NEIGHBOUR: 'it returns false'. Refute it at one input. -/
def worldKindsWrong : ChangeSpec := { name := "worldKinds", fn := fun _ => fun
  | [d1, d2, d3] => { results := [.lit (.bool false)], args := [d1, d2, d3] }
  | _ => none }
def WorldKindsWrongFalsely : Prop := worldKindsRow.holds Tryz.pinned (OpenSpec.ofChange worldKindsWrong)

/-- 'curiatop.TopBack': WHATEVER THE INPUT: true; the input reads as it did. -/
def topBackSpec : ChangeSpec := { name := "topBack", fn := fun _ => fun
  | [d1, d2] => { results := [.lit (.bool true)], args := [d1, d2] }
  | _ => none }
def topBackRow : OpenClaim := { program := "ytbhbpfdjlabamaagreat", sum := "95d9b35208f4d8058694469af4b88caf148e837f0583b0e97f226afc00033d33", func := "curia/curiatop.TopBack", spec := "topBack", inPlace := ["sync/atomic.StoreUint32", "sync/atomic.LoadUint32", "(*internal/sync.Mutex).Lock", "internal/race.Disable", "sync/atomic.CompareAndSwapInt32", "internal/race.Enable", "internal/race.Acquire", "(*internal/sync.Mutex).lockSlow", "internal/sync.runtime_canSpin", "internal/sync.runtime_doSpin", "internal/sync.throw", "internal/sync.runtime_nanotime", "internal/sync.runtime_SemacquireMutex", "sync/atomic.AddInt32", "(*internal/sync.Mutex).Unlock", "internal/race.ReleaseMerge", "(*internal/sync.Mutex).unlockSlow", "internal/sync.fatal", "internal/sync.runtime_Semrelease", "sync/atomic.AddInt64", "sync/atomic.LoadInt64", "sync/atomic.StoreInt64"], unfollowed := true, recurses := true, apart := false }
def TopBackSaid : Prop := topBackRow.holds Tryz.pinned (OpenSpec.ofChange topBackSpec)

/-- ITS FALSE NEIGHBOUR: 'it returns false'. Refute it at one input. -/
def topBackWrong : ChangeSpec := { name := "topBack", fn := fun _ => fun
  | [d1, d2] => { results := [.lit (.bool false)], args := [d1, d2] }
  | _ => none }
def TopBackWrongFalsely : Prop := topBackRow.holds Tryz.pinned (OpenSpec.ofChange topBackWrong)

/- THE SECOND FORM. 'bulk': how many values and letters a reading holds, each counted each time it is reached (what is shared counts as often as it is met; a slice's spare places count too). A statement '..UptoSaid' is the law's where the arguments, and the package variables that the reading takes, are together of bulk at most 1048576: NARROWER than '..Said'. Prove '..Said' where nothing that the law and all that it calls make is longer than what came in: it says more and counts as full. Else prove '..UptoSaid'. A law counts once. -/
mutual
def uptoBulk {H : Type} : DataW H → Nat
  | .lit (.string bytes) => bytes.length + 1
  | .lit _ => 1
  | .nil => 1
  | .ptr d => uptoBulk d + 1
  | .slice elems spare => uptoBulkAll elems + uptoBulkAll spare + 1
  | .agg parts => uptoBulkAll parts + 1
  | .iface _ d => uptoBulk d + 1
  | .map entries => uptoBulkEntries entries + 1
  | .held _ => 1
def uptoBulkAll {H : Type} : List (DataW H) → Nat
  | [] => 0
  | d :: r => uptoBulk d + uptoBulkAll r
def uptoBulkEntries {H : Type} : List (Lit × DataW H) → Nat
  | [] => 0
  | x :: r => uptoBulkEntry x + uptoBulkEntries r
def uptoBulkEntry {H : Type} : Lit × DataW H → Nat
  | (.string bytes, d) => bytes.length + uptoBulk d + 1
  | (_, d) => uptoBulk d + 1
 end
def uptoSmall : (H : Type) → List (DataW H) → Bool := fun _ ds => decide (uptoBulkAll ds ≤ 1048576)
def OpenSpec.upto (s : _root_.Go.ChangeSpec) : _root_.Go.OpenSpec := { _root_.Go.OpenSpec.ofChange s with cond := some uptoSmall }

/-- 'curialaw15.AuditForks', WHERE WHAT IT READS IS OF BULK AT MOST 1048576: true; the input reads as it did. -/
def auditForksUptoRow : OpenClaim := { program := "ytbhbpfdjlabamaagreat", sum := "95d9b35208f4d8058694469af4b88caf148e837f0583b0e97f226afc00033d33", func := "curia/curialaw15.AuditForks", spec := "auditForks", inPlace := ["sync/atomic.StoreUint32", "sync/atomic.LoadUint32", "(*internal/sync.Mutex).Lock", "internal/race.Disable", "sync/atomic.CompareAndSwapInt32", "internal/race.Enable", "internal/race.Acquire", "(*internal/sync.Mutex).lockSlow", "internal/sync.runtime_canSpin", "internal/sync.runtime_doSpin", "internal/sync.throw", "internal/sync.runtime_nanotime", "internal/sync.runtime_SemacquireMutex", "sync/atomic.AddInt32", "(*internal/sync.Mutex).Unlock", "internal/race.ReleaseMerge", "(*internal/sync.Mutex).unlockSlow", "internal/sync.fatal", "internal/sync.runtime_Semrelease", "sync/atomic.AddInt64"], unfollowed := true, recurses := true, apart := false, narrowed := true }
def AuditForksUptoSaid : Prop := auditForksUptoRow.holds Tryz.pinned (OpenSpec.upto auditForksSpec)

/-- 'curialaw15.AuditOps', WHERE WHAT IT READS IS OF BULK AT MOST 1048576: true; the input reads as it did. -/
def auditOpsUptoRow : OpenClaim := { program := "ytbhbpfdjlabamaagreat", sum := "95d9b35208f4d8058694469af4b88caf148e837f0583b0e97f226afc00033d33", func := "curia/curialaw15.AuditOps", spec := "auditOps", inPlace := ["sync/atomic.StoreUint32", "sync/atomic.LoadUint32", "(*internal/sync.Mutex).Lock", "internal/race.Disable", "sync/atomic.CompareAndSwapInt32", "internal/race.Enable", "internal/race.Acquire", "(*internal/sync.Mutex).lockSlow", "internal/sync.runtime_canSpin", "internal/sync.runtime_doSpin", "internal/sync.throw", "internal/sync.runtime_nanotime", "internal/sync.runtime_SemacquireMutex", "sync/atomic.AddInt32", "(*internal/sync.Mutex).Unlock", "internal/race.ReleaseMerge", "(*internal/sync.Mutex).unlockSlow", "internal/sync.fatal", "internal/sync.runtime_Semrelease", "sync/atomic.AddInt64"], unfollowed := true, recurses := true, apart := false, narrowed := true }
def AuditOpsUptoSaid : Prop := auditOpsUptoRow.holds Tryz.pinned (OpenSpec.upto auditOpsSpec)

/-- 'curialaw13.PartyOfNothing', WHERE WHAT IT READS IS OF BULK AT MOST 1048576: true; the input reads as it did. -/
def partyOfNothingUptoRow : OpenClaim := { program := "ytbhbpfdjlabamaagreat", sum := "95d9b35208f4d8058694469af4b88caf148e837f0583b0e97f226afc00033d33", func := "curia/curialaw13.PartyOfNothing", spec := "partyOfNothing", inPlace := ["sync/atomic.StoreUint32", "sync/atomic.LoadUint32", "(*internal/sync.Mutex).Lock", "internal/race.Disable", "sync/atomic.CompareAndSwapInt32", "internal/race.Enable", "internal/race.Acquire", "(*internal/sync.Mutex).lockSlow", "internal/sync.runtime_canSpin", "internal/sync.runtime_doSpin", "internal/sync.throw", "internal/sync.runtime_nanotime", "internal/sync.runtime_SemacquireMutex", "sync/atomic.AddInt32", "(*internal/sync.Mutex).Unlock", "internal/race.ReleaseMerge", "(*internal/sync.Mutex).unlockSlow", "internal/sync.fatal", "internal/sync.runtime_Semrelease", "sync/atomic.AddInt64"], unfollowed := true, recurses := true, apart := false, narrowed := true }
def PartyOfNothingUptoSaid : Prop := partyOfNothingUptoRow.holds Tryz.pinned (OpenSpec.upto partyOfNothingSpec)

/-- 'curialaw13.PartyPlays', WHERE WHAT IT READS IS OF BULK AT MOST 1048576: true; the input reads as it did. -/
def partyPlaysUptoRow : OpenClaim := { program := "ytbhbpfdjlabamaagreat", sum := "95d9b35208f4d8058694469af4b88caf148e837f0583b0e97f226afc00033d33", func := "curia/curialaw13.PartyPlays", spec := "partyPlays", inPlace := ["sync/atomic.StoreUint32", "sync/atomic.LoadUint32", "(*internal/sync.Mutex).Lock", "internal/race.Disable", "sync/atomic.CompareAndSwapInt32", "internal/race.Enable", "internal/race.Acquire", "(*internal/sync.Mutex).lockSlow", "internal/sync.runtime_canSpin", "internal/sync.runtime_doSpin", "internal/sync.throw", "internal/sync.runtime_nanotime", "internal/sync.runtime_SemacquireMutex", "sync/atomic.AddInt32", "(*internal/sync.Mutex).Unlock", "internal/race.ReleaseMerge", "(*internal/sync.Mutex).unlockSlow", "internal/sync.fatal", "internal/sync.runtime_Semrelease", "sync/atomic.AddInt64"], unfollowed := true, recurses := true, apart := false, narrowed := true }
def PartyPlaysUptoSaid : Prop := partyPlaysUptoRow.holds Tryz.pinned (OpenSpec.upto partyPlaysSpec)

/-- 'curialaw13.PartyOne', WHERE WHAT IT READS IS OF BULK AT MOST 1048576: true; the input reads as it did. -/
def partyOneUptoRow : OpenClaim := { program := "ytbhbpfdjlabamaagreat", sum := "95d9b35208f4d8058694469af4b88caf148e837f0583b0e97f226afc00033d33", func := "curia/curialaw13.PartyOne", spec := "partyOne", inPlace := ["sync/atomic.StoreUint32", "sync/atomic.LoadUint32", "(*internal/sync.Mutex).Lock", "internal/race.Disable", "sync/atomic.CompareAndSwapInt32", "internal/race.Enable", "internal/race.Acquire", "(*internal/sync.Mutex).lockSlow", "internal/sync.runtime_canSpin", "internal/sync.runtime_doSpin", "internal/sync.throw", "internal/sync.runtime_nanotime", "internal/sync.runtime_SemacquireMutex", "sync/atomic.AddInt32", "(*internal/sync.Mutex).Unlock", "internal/race.ReleaseMerge", "(*internal/sync.Mutex).unlockSlow", "internal/sync.fatal", "internal/sync.runtime_Semrelease", "sync/atomic.AddInt64"], unfollowed := true, recurses := true, apart := false, narrowed := true }
def PartyOneUptoSaid : Prop := partyOneUptoRow.holds Tryz.pinned (OpenSpec.upto partyOneSpec)

/-- 'curialaw13.PartyGone', WHERE WHAT IT READS IS OF BULK AT MOST 1048576: true; the input reads as it did. -/
def partyGoneUptoRow : OpenClaim := { program := "ytbhbpfdjlabamaagreat", sum := "95d9b35208f4d8058694469af4b88caf148e837f0583b0e97f226afc00033d33", func := "curia/curialaw13.PartyGone", spec := "partyGone", inPlace := ["sync/atomic.StoreUint32", "sync/atomic.LoadUint32", "(*internal/sync.Mutex).Lock", "internal/race.Disable", "sync/atomic.CompareAndSwapInt32", "internal/race.Enable", "internal/race.Acquire", "(*internal/sync.Mutex).lockSlow", "internal/sync.runtime_canSpin", "internal/sync.runtime_doSpin", "internal/sync.throw", "internal/sync.runtime_nanotime", "internal/sync.runtime_SemacquireMutex", "sync/atomic.AddInt32", "(*internal/sync.Mutex).Unlock", "internal/race.ReleaseMerge", "(*internal/sync.Mutex).unlockSlow", "internal/sync.fatal", "internal/sync.runtime_Semrelease", "sync/atomic.AddInt64"], unfollowed := true, recurses := true, apart := false, narrowed := true }
def PartyGoneUptoSaid : Prop := partyGoneUptoRow.holds Tryz.pinned (OpenSpec.upto partyGoneSpec)

/-- 'curialaw13.PartyQuorum', WHERE WHAT IT READS IS OF BULK AT MOST 1048576: true; the input reads as it did. -/
def partyQuorumUptoRow : OpenClaim := { program := "ytbhbpfdjlabamaagreat", sum := "95d9b35208f4d8058694469af4b88caf148e837f0583b0e97f226afc00033d33", func := "curia/curialaw13.PartyQuorum", spec := "partyQuorum", inPlace := ["sync/atomic.StoreUint32", "sync/atomic.LoadUint32", "(*internal/sync.Mutex).Lock", "internal/race.Disable", "sync/atomic.CompareAndSwapInt32", "internal/race.Enable", "internal/race.Acquire", "(*internal/sync.Mutex).lockSlow", "internal/sync.runtime_canSpin", "internal/sync.runtime_doSpin", "internal/sync.throw", "internal/sync.runtime_nanotime", "internal/sync.runtime_SemacquireMutex", "sync/atomic.AddInt32", "(*internal/sync.Mutex).Unlock", "internal/race.ReleaseMerge", "(*internal/sync.Mutex).unlockSlow", "internal/sync.fatal", "internal/sync.runtime_Semrelease", "sync/atomic.AddInt64"], unfollowed := true, recurses := true, apart := false, narrowed := true }
def PartyQuorumUptoSaid : Prop := partyQuorumUptoRow.holds Tryz.pinned (OpenSpec.upto partyQuorumSpec)

/-- 'curialaw13.PartyForged', WHERE WHAT IT READS IS OF BULK AT MOST 1048576: true; the input reads as it did. -/
def partyForgedUptoRow : OpenClaim := { program := "ytbhbpfdjlabamaagreat", sum := "95d9b35208f4d8058694469af4b88caf148e837f0583b0e97f226afc00033d33", func := "curia/curialaw13.PartyForged", spec := "partyForged", inPlace := ["sync/atomic.StoreUint32", "sync/atomic.LoadUint32", "(*internal/sync.Mutex).Lock", "internal/race.Disable", "sync/atomic.CompareAndSwapInt32", "internal/race.Enable", "internal/race.Acquire", "(*internal/sync.Mutex).lockSlow", "internal/sync.runtime_canSpin", "internal/sync.runtime_doSpin", "internal/sync.throw", "internal/sync.runtime_nanotime", "internal/sync.runtime_SemacquireMutex", "sync/atomic.AddInt32", "(*internal/sync.Mutex).Unlock", "internal/race.ReleaseMerge", "(*internal/sync.Mutex).unlockSlow", "internal/sync.fatal", "internal/sync.runtime_Semrelease", "sync/atomic.AddInt64"], unfollowed := true, recurses := true, apart := false, narrowed := true }
def PartyForgedUptoSaid : Prop := partyForgedUptoRow.holds Tryz.pinned (OpenSpec.upto partyForgedSpec)

/-- 'curialaw13.PartyLies', WHERE WHAT IT READS IS OF BULK AT MOST 1048576: true; the input reads as it did. -/
def partyLiesUptoRow : OpenClaim := { program := "ytbhbpfdjlabamaagreat", sum := "95d9b35208f4d8058694469af4b88caf148e837f0583b0e97f226afc00033d33", func := "curia/curialaw13.PartyLies", spec := "partyLies", inPlace := ["sync/atomic.StoreUint32", "sync/atomic.LoadUint32", "(*internal/sync.Mutex).Lock", "internal/race.Disable", "sync/atomic.CompareAndSwapInt32", "internal/race.Enable", "internal/race.Acquire", "(*internal/sync.Mutex).lockSlow", "internal/sync.runtime_canSpin", "internal/sync.runtime_doSpin", "internal/sync.throw", "internal/sync.runtime_nanotime", "internal/sync.runtime_SemacquireMutex", "sync/atomic.AddInt32", "(*internal/sync.Mutex).Unlock", "internal/race.ReleaseMerge", "(*internal/sync.Mutex).unlockSlow", "internal/sync.fatal", "internal/sync.runtime_Semrelease", "sync/atomic.AddInt64"], unfollowed := true, recurses := true, apart := false, narrowed := true }
def PartyLiesUptoSaid : Prop := partyLiesUptoRow.holds Tryz.pinned (OpenSpec.upto partyLiesSpec)

/-- 'curialaw13.PartyOwn', WHERE WHAT IT READS IS OF BULK AT MOST 1048576: true; the input reads as it did. -/
def partyOwnUptoRow : OpenClaim := { program := "ytbhbpfdjlabamaagreat", sum := "95d9b35208f4d8058694469af4b88caf148e837f0583b0e97f226afc00033d33", func := "curia/curialaw13.PartyOwn", spec := "partyOwn", inPlace := ["sync/atomic.StoreUint32", "sync/atomic.LoadUint32", "(*internal/sync.Mutex).Lock", "internal/race.Disable", "sync/atomic.CompareAndSwapInt32", "internal/race.Enable", "internal/race.Acquire", "(*internal/sync.Mutex).lockSlow", "internal/sync.runtime_canSpin", "internal/sync.runtime_doSpin", "internal/sync.throw", "internal/sync.runtime_nanotime", "internal/sync.runtime_SemacquireMutex", "sync/atomic.AddInt32", "(*internal/sync.Mutex).Unlock", "internal/race.ReleaseMerge", "(*internal/sync.Mutex).unlockSlow", "internal/sync.fatal", "internal/sync.runtime_Semrelease", "sync/atomic.AddInt64"], unfollowed := true, recurses := true, apart := false, narrowed := true }
def PartyOwnUptoSaid : Prop := partyOwnUptoRow.holds Tryz.pinned (OpenSpec.upto partyOwnSpec)

/-- 'curialaw13.PartyWelcome', WHERE WHAT IT READS IS OF BULK AT MOST 1048576: true; the input reads as it did. -/
def partyWelcomeUptoRow : OpenClaim := { program := "ytbhbpfdjlabamaagreat", sum := "95d9b35208f4d8058694469af4b88caf148e837f0583b0e97f226afc00033d33", func := "curia/curialaw13.PartyWelcome", spec := "partyWelcome", inPlace := ["sync/atomic.StoreUint32", "sync/atomic.LoadUint32", "(*internal/sync.Mutex).Lock", "internal/race.Disable", "sync/atomic.CompareAndSwapInt32", "internal/race.Enable", "internal/race.Acquire", "(*internal/sync.Mutex).lockSlow", "internal/sync.runtime_canSpin", "internal/sync.runtime_doSpin", "internal/sync.throw", "internal/sync.runtime_nanotime", "internal/sync.runtime_SemacquireMutex", "sync/atomic.AddInt32", "(*internal/sync.Mutex).Unlock", "internal/race.ReleaseMerge", "(*internal/sync.Mutex).unlockSlow", "internal/sync.fatal", "internal/sync.runtime_Semrelease", "sync/atomic.AddInt64"], unfollowed := true, recurses := true, apart := false, narrowed := true }
def PartyWelcomeUptoSaid : Prop := partyWelcomeUptoRow.holds Tryz.pinned (OpenSpec.upto partyWelcomeSpec)

/-- 'curialaw13.PartyForks', WHERE WHAT IT READS IS OF BULK AT MOST 1048576: true; the input reads as it did. -/
def partyForksUptoRow : OpenClaim := { program := "ytbhbpfdjlabamaagreat", sum := "95d9b35208f4d8058694469af4b88caf148e837f0583b0e97f226afc00033d33", func := "curia/curialaw13.PartyForks", spec := "partyForks", inPlace := ["sync/atomic.StoreUint32", "sync/atomic.LoadUint32", "(*internal/sync.Mutex).Lock", "internal/race.Disable", "sync/atomic.CompareAndSwapInt32", "internal/race.Enable", "internal/race.Acquire", "(*internal/sync.Mutex).lockSlow", "internal/sync.runtime_canSpin", "internal/sync.runtime_doSpin", "internal/sync.throw", "internal/sync.runtime_nanotime", "internal/sync.runtime_SemacquireMutex", "sync/atomic.AddInt32", "(*internal/sync.Mutex).Unlock", "internal/race.ReleaseMerge", "(*internal/sync.Mutex).unlockSlow", "internal/sync.fatal", "internal/sync.runtime_Semrelease", "sync/atomic.AddInt64"], unfollowed := true, recurses := true, apart := false, narrowed := true }
def PartyForksUptoSaid : Prop := partyForksUptoRow.holds Tryz.pinned (OpenSpec.upto partyForksSpec)

/-- 'curialaw13.PartyExports', WHERE WHAT IT READS IS OF BULK AT MOST 1048576: true; the input reads as it did. -/
def partyExportsUptoRow : OpenClaim := { program := "ytbhbpfdjlabamaagreat", sum := "95d9b35208f4d8058694469af4b88caf148e837f0583b0e97f226afc00033d33", func := "curia/curialaw13.PartyExports", spec := "partyExports", inPlace := ["sync/atomic.StoreUint32", "sync/atomic.LoadUint32", "(*internal/sync.Mutex).Lock", "internal/race.Disable", "sync/atomic.CompareAndSwapInt32", "internal/race.Enable", "internal/race.Acquire", "(*internal/sync.Mutex).lockSlow", "internal/sync.runtime_canSpin", "internal/sync.runtime_doSpin", "internal/sync.throw", "internal/sync.runtime_nanotime", "internal/sync.runtime_SemacquireMutex", "sync/atomic.AddInt32", "(*internal/sync.Mutex).Unlock", "internal/race.ReleaseMerge", "(*internal/sync.Mutex).unlockSlow", "internal/sync.fatal", "internal/sync.runtime_Semrelease", "sync/atomic.AddInt64"], unfollowed := true, recurses := true, apart := false, narrowed := true }
def PartyExportsUptoSaid : Prop := partyExportsUptoRow.holds Tryz.pinned (OpenSpec.upto partyExportsSpec)

/-- 'curialaw13.PartyNew', WHERE WHAT IT READS IS OF BULK AT MOST 1048576: true; the input reads as it did. -/
def partyNewUptoRow : OpenClaim := { program := "ytbhbpfdjlabamaagreat", sum := "95d9b35208f4d8058694469af4b88caf148e837f0583b0e97f226afc00033d33", func := "curia/curialaw13.PartyNew", spec := "partyNew", inPlace := ["sync/atomic.StoreUint32", "sync/atomic.LoadUint32", "(*internal/sync.Mutex).Lock", "internal/race.Disable", "sync/atomic.CompareAndSwapInt32", "internal/race.Enable", "internal/race.Acquire", "(*internal/sync.Mutex).lockSlow", "internal/sync.runtime_canSpin", "internal/sync.runtime_doSpin", "internal/sync.throw", "internal/sync.runtime_nanotime", "internal/sync.runtime_SemacquireMutex", "sync/atomic.AddInt32", "(*internal/sync.Mutex).Unlock", "internal/race.ReleaseMerge", "(*internal/sync.Mutex).unlockSlow", "internal/sync.fatal", "internal/sync.runtime_Semrelease", "sync/atomic.AddInt64"], unfollowed := true, recurses := true, apart := false, narrowed := true }
def PartyNewUptoSaid : Prop := partyNewUptoRow.holds Tryz.pinned (OpenSpec.upto partyNewSpec)

/-- 'curialaw13.PartyReplaced', WHERE WHAT IT READS IS OF BULK AT MOST 1048576: true; the input reads as it did. -/
def partyReplacedUptoRow : OpenClaim := { program := "ytbhbpfdjlabamaagreat", sum := "95d9b35208f4d8058694469af4b88caf148e837f0583b0e97f226afc00033d33", func := "curia/curialaw13.PartyReplaced", spec := "partyReplaced", inPlace := ["sync/atomic.StoreUint32", "sync/atomic.LoadUint32", "(*internal/sync.Mutex).Lock", "internal/race.Disable", "sync/atomic.CompareAndSwapInt32", "internal/race.Enable", "internal/race.Acquire", "(*internal/sync.Mutex).lockSlow", "internal/sync.runtime_canSpin", "internal/sync.runtime_doSpin", "internal/sync.throw", "internal/sync.runtime_nanotime", "internal/sync.runtime_SemacquireMutex", "sync/atomic.AddInt32", "(*internal/sync.Mutex).Unlock", "internal/race.ReleaseMerge", "(*internal/sync.Mutex).unlockSlow", "internal/sync.fatal", "internal/sync.runtime_Semrelease", "sync/atomic.AddInt64"], unfollowed := true, recurses := true, apart := false, narrowed := true }
def PartyReplacedUptoSaid : Prop := partyReplacedUptoRow.holds Tryz.pinned (OpenSpec.upto partyReplacedSpec)

/-- 'curialaw14.WorldStale', WHERE WHAT IT READS IS OF BULK AT MOST 1048576: true; the input reads as it did. -/
def worldStaleUptoRow : OpenClaim := { program := "ytbhbpfdjlabamaagreat", sum := "95d9b35208f4d8058694469af4b88caf148e837f0583b0e97f226afc00033d33", func := "curia/curialaw14.WorldStale", spec := "worldStale", inPlace := ["sync/atomic.StoreUint32", "sync/atomic.LoadUint32", "(*internal/sync.Mutex).Lock", "internal/race.Disable", "sync/atomic.CompareAndSwapInt32", "internal/race.Enable", "internal/race.Acquire", "(*internal/sync.Mutex).lockSlow", "internal/sync.runtime_canSpin", "internal/sync.runtime_doSpin", "internal/sync.throw", "internal/sync.runtime_nanotime", "internal/sync.runtime_SemacquireMutex", "sync/atomic.AddInt32", "(*internal/sync.Mutex).Unlock", "internal/race.ReleaseMerge", "(*internal/sync.Mutex).unlockSlow", "internal/sync.fatal", "internal/sync.runtime_Semrelease", "sync/atomic.AddInt64", "sync/atomic.LoadInt64", "sync/atomic.StoreInt64"], unfollowed := true, recurses := true, apart := false, narrowed := true }
def WorldStaleUptoSaid : Prop := worldStaleUptoRow.holds Tryz.pinned (OpenSpec.upto worldStaleSpec)

/-- 'curialaw14.WorldVotes', WHERE WHAT IT READS IS OF BULK AT MOST 1048576: true; the input reads as it did. -/
def worldVotesUptoRow : OpenClaim := { program := "ytbhbpfdjlabamaagreat", sum := "95d9b35208f4d8058694469af4b88caf148e837f0583b0e97f226afc00033d33", func := "curia/curialaw14.WorldVotes", spec := "worldVotes", inPlace := ["sync/atomic.StoreUint32", "sync/atomic.LoadUint32", "(*internal/sync.Mutex).Lock", "internal/race.Disable", "sync/atomic.CompareAndSwapInt32", "internal/race.Enable", "internal/race.Acquire", "(*internal/sync.Mutex).lockSlow", "internal/sync.runtime_canSpin", "internal/sync.runtime_doSpin", "internal/sync.throw", "internal/sync.runtime_nanotime", "internal/sync.runtime_SemacquireMutex", "sync/atomic.AddInt32", "(*internal/sync.Mutex).Unlock", "internal/race.ReleaseMerge", "(*internal/sync.Mutex).unlockSlow", "internal/sync.fatal", "internal/sync.runtime_Semrelease", "sync/atomic.AddInt64", "sync/atomic.LoadInt64", "sync/atomic.StoreInt64"], unfollowed := true, recurses := true, apart := false, narrowed := true }
def WorldVotesUptoSaid : Prop := worldVotesUptoRow.holds Tryz.pinned (OpenSpec.upto worldVotesSpec)

/-- 'curialaw14.WorldOrder', WHERE WHAT IT READS IS OF BULK AT MOST 1048576: true; the input reads as it did. -/
def worldOrderUptoRow : OpenClaim := { program := "ytbhbpfdjlabamaagreat", sum := "95d9b35208f4d8058694469af4b88caf148e837f0583b0e97f226afc00033d33", func := "curia/curialaw14.WorldOrder", spec := "worldOrder", inPlace := ["sync/atomic.StoreUint32", "sync/atomic.LoadUint32", "(*internal/sync.Mutex).Lock", "internal/race.Disable", "sync/atomic.CompareAndSwapInt32", "internal/race.Enable", "internal/race.Acquire", "(*internal/sync.Mutex).lockSlow", "internal/sync.runtime_canSpin", "internal/sync.runtime_doSpin", "internal/sync.throw", "internal/sync.runtime_nanotime", "internal/sync.runtime_SemacquireMutex", "sync/atomic.AddInt32", "(*internal/sync.Mutex).Unlock", "internal/race.ReleaseMerge", "(*internal/sync.Mutex).unlockSlow", "internal/sync.fatal", "internal/sync.runtime_Semrelease", "sync/atomic.AddInt64", "sync/atomic.LoadInt64", "sync/atomic.StoreInt64"], unfollowed := true, recurses := true, apart := false, narrowed := true }
def WorldOrderUptoSaid : Prop := worldOrderUptoRow.holds Tryz.pinned (OpenSpec.upto worldOrderSpec)

/-- 'curialaw14.WorldFull', WHERE WHAT IT READS IS OF BULK AT MOST 1048576: true; the input reads as it did. -/
def worldFullUptoRow : OpenClaim := { program := "ytbhbpfdjlabamaagreat", sum := "95d9b35208f4d8058694469af4b88caf148e837f0583b0e97f226afc00033d33", func := "curia/curialaw14.WorldFull", spec := "worldFull", inPlace := ["sync/atomic.StoreUint32", "sync/atomic.LoadUint32", "(*internal/sync.Mutex).Lock", "internal/race.Disable", "sync/atomic.CompareAndSwapInt32", "internal/race.Enable", "internal/race.Acquire", "(*internal/sync.Mutex).lockSlow", "internal/sync.runtime_canSpin", "internal/sync.runtime_doSpin", "internal/sync.throw", "internal/sync.runtime_nanotime", "internal/sync.runtime_SemacquireMutex", "sync/atomic.AddInt32", "(*internal/sync.Mutex).Unlock", "internal/race.ReleaseMerge", "(*internal/sync.Mutex).unlockSlow", "internal/sync.fatal", "internal/sync.runtime_Semrelease", "sync/atomic.AddInt64", "sync/atomic.LoadInt64", "sync/atomic.StoreInt64"], unfollowed := true, recurses := true, apart := false, narrowed := true }
def WorldFullUptoSaid : Prop := worldFullUptoRow.holds Tryz.pinned (OpenSpec.upto worldFullSpec)

/-- 'curialaw14.WorldErrs', WHERE WHAT IT READS IS OF BULK AT MOST 1048576: true; the input reads as it did. -/
def worldErrsUptoRow : OpenClaim := { program := "ytbhbpfdjlabamaagreat", sum := "95d9b35208f4d8058694469af4b88caf148e837f0583b0e97f226afc00033d33", func := "curia/curialaw14.WorldErrs", spec := "worldErrs", inPlace := ["sync/atomic.StoreUint32", "sync/atomic.LoadUint32", "(*internal/sync.Mutex).Lock", "internal/race.Disable", "sync/atomic.CompareAndSwapInt32", "internal/race.Enable", "internal/race.Acquire", "(*internal/sync.Mutex).lockSlow", "internal/sync.runtime_canSpin", "internal/sync.runtime_doSpin", "internal/sync.throw", "internal/sync.runtime_nanotime", "internal/sync.runtime_SemacquireMutex", "sync/atomic.AddInt32", "(*internal/sync.Mutex).Unlock", "internal/race.ReleaseMerge", "(*internal/sync.Mutex).unlockSlow", "internal/sync.fatal", "internal/sync.runtime_Semrelease", "sync/atomic.AddInt64", "sync/atomic.LoadInt64", "sync/atomic.StoreInt64"], unfollowed := true, recurses := true, apart := false, narrowed := true }
def WorldErrsUptoSaid : Prop := worldErrsUptoRow.holds Tryz.pinned (OpenSpec.upto worldErrsSpec)

/-- 'curialaw14.WorldGrows', WHERE WHAT IT READS IS OF BULK AT MOST 1048576: true; the input reads as it did. -/
def worldGrowsUptoRow : OpenClaim := { program := "ytbhbpfdjlabamaagreat", sum := "95d9b35208f4d8058694469af4b88caf148e837f0583b0e97f226afc00033d33", func := "curia/curialaw14.WorldGrows", spec := "worldGrows", inPlace := ["sync/atomic.StoreUint32", "sync/atomic.LoadUint32", "(*internal/sync.Mutex).Lock", "internal/race.Disable", "sync/atomic.CompareAndSwapInt32", "internal/race.Enable", "internal/race.Acquire", "(*internal/sync.Mutex).lockSlow", "internal/sync.runtime_canSpin", "internal/sync.runtime_doSpin", "internal/sync.throw", "internal/sync.runtime_nanotime", "internal/sync.runtime_SemacquireMutex", "sync/atomic.AddInt32", "(*internal/sync.Mutex).Unlock", "internal/race.ReleaseMerge", "(*internal/sync.Mutex).unlockSlow", "internal/sync.fatal", "internal/sync.runtime_Semrelease", "sync/atomic.AddInt64", "sync/atomic.LoadInt64", "sync/atomic.StoreInt64"], unfollowed := true, recurses := true, apart := false, narrowed := true }
def WorldGrowsUptoSaid : Prop := worldGrowsUptoRow.holds Tryz.pinned (OpenSpec.upto worldGrowsSpec)

/-- 'curialaw14.WorldOfNothing', WHERE WHAT IT READS IS OF BULK AT MOST 1048576: true; the input reads as it did. -/
def worldOfNothingUptoRow : OpenClaim := { program := "ytbhbpfdjlabamaagreat", sum := "95d9b35208f4d8058694469af4b88caf148e837f0583b0e97f226afc00033d33", func := "curia/curialaw14.WorldOfNothing", spec := "worldOfNothing", inPlace := ["sync/atomic.AddInt64", "(*internal/sync.Mutex).Lock", "internal/race.Disable", "sync/atomic.CompareAndSwapInt32", "internal/race.Enable", "internal/race.Acquire", "(*internal/sync.Mutex).lockSlow", "internal/sync.runtime_canSpin", "internal/sync.runtime_doSpin", "internal/sync.throw", "internal/sync.runtime_nanotime", "internal/sync.runtime_SemacquireMutex", "sync/atomic.AddInt32", "(*internal/sync.Mutex).Unlock", "internal/race.ReleaseMerge", "(*internal/sync.Mutex).unlockSlow", "internal/sync.fatal", "internal/sync.runtime_Semrelease", "sync/atomic.StoreUint32", "sync/atomic.LoadUint32", "sync/atomic.LoadInt64", "sync/atomic.StoreInt64"], unfollowed := true, recurses := true, apart := false, narrowed := true }
def WorldOfNothingUptoSaid : Prop := worldOfNothingUptoRow.holds Tryz.pinned (OpenSpec.upto worldOfNothingSpec)

/-- 'curialaw14.WorldOwn', WHERE WHAT IT READS IS OF BULK AT MOST 1048576: true; the input reads as it did. -/
def worldOwnUptoRow : OpenClaim := { program := "ytbhbpfdjlabamaagreat", sum := "95d9b35208f4d8058694469af4b88caf148e837f0583b0e97f226afc00033d33", func := "curia/curialaw14.WorldOwn", spec := "worldOwn", inPlace := ["sync/atomic.StoreUint32", "sync/atomic.LoadUint32", "(*internal/sync.Mutex).Lock", "internal/race.Disable", "sync/atomic.CompareAndSwapInt32", "internal/race.Enable", "internal/race.Acquire", "(*internal/sync.Mutex).lockSlow", "internal/sync.runtime_canSpin", "internal/sync.runtime_doSpin", "internal/sync.throw", "internal/sync.runtime_nanotime", "internal/sync.runtime_SemacquireMutex", "sync/atomic.AddInt32", "(*internal/sync.Mutex).Unlock", "internal/race.ReleaseMerge", "(*internal/sync.Mutex).unlockSlow", "internal/sync.fatal", "internal/sync.runtime_Semrelease", "sync/atomic.AddInt64", "sync/atomic.LoadInt64", "sync/atomic.StoreInt64"], unfollowed := true, recurses := true, apart := false, narrowed := true }
def WorldOwnUptoSaid : Prop := worldOwnUptoRow.holds Tryz.pinned (OpenSpec.upto worldOwnSpec)

/-- 'curialaw14.WorldKinds', WHERE WHAT IT READS IS OF BULK AT MOST 1048576: true; the input reads as it did. -/
def worldKindsUptoRow : OpenClaim := { program := "ytbhbpfdjlabamaagreat", sum := "95d9b35208f4d8058694469af4b88caf148e837f0583b0e97f226afc00033d33", func := "curia/curialaw14.WorldKinds", spec := "worldKinds", inPlace := ["sync/atomic.StoreUint32", "sync/atomic.LoadUint32", "(*internal/sync.Mutex).Lock", "internal/race.Disable", "sync/atomic.CompareAndSwapInt32", "internal/race.Enable", "internal/race.Acquire", "(*internal/sync.Mutex).lockSlow", "internal/sync.runtime_canSpin", "internal/sync.runtime_doSpin", "internal/sync.throw", "internal/sync.runtime_nanotime", "internal/sync.runtime_SemacquireMutex", "sync/atomic.AddInt32", "(*internal/sync.Mutex).Unlock", "internal/race.ReleaseMerge", "(*internal/sync.Mutex).unlockSlow", "internal/sync.fatal", "internal/sync.runtime_Semrelease", "sync/atomic.AddInt64", "sync/atomic.LoadInt64", "sync/atomic.StoreInt64"], unfollowed := true, recurses := true, apart := false, narrowed := true }
def WorldKindsUptoSaid : Prop := worldKindsUptoRow.holds Tryz.pinned (OpenSpec.upto worldKindsSpec)

/-- 'curiatop.TopBack', WHERE WHAT IT READS IS OF BULK AT MOST 1048576: true; the input reads as it did. -/
def topBackUptoRow : OpenClaim := { program := "ytbhbpfdjlabamaagreat", sum := "95d9b35208f4d8058694469af4b88caf148e837f0583b0e97f226afc00033d33", func := "curia/curiatop.TopBack", spec := "topBack", inPlace := ["sync/atomic.StoreUint32", "sync/atomic.LoadUint32", "(*internal/sync.Mutex).Lock", "internal/race.Disable", "sync/atomic.CompareAndSwapInt32", "internal/race.Enable", "internal/race.Acquire", "(*internal/sync.Mutex).lockSlow", "internal/sync.runtime_canSpin", "internal/sync.runtime_doSpin", "internal/sync.throw", "internal/sync.runtime_nanotime", "internal/sync.runtime_SemacquireMutex", "sync/atomic.AddInt32", "(*internal/sync.Mutex).Unlock", "internal/race.ReleaseMerge", "(*internal/sync.Mutex).unlockSlow", "internal/sync.fatal", "internal/sync.runtime_Semrelease", "sync/atomic.AddInt64", "sync/atomic.LoadInt64", "sync/atomic.StoreInt64"], unfollowed := true, recurses := true, apart := false, narrowed := true }
def TopBackUptoSaid : Prop := topBackUptoRow.holds Tryz.pinned (OpenSpec.upto topBackSpec)

end Rows
end Go.Proofs.YtbhbpfdjlabamaaGreat
