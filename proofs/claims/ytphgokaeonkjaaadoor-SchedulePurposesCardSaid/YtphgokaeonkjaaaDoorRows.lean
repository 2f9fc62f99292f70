/-
  NARROWER THAN 'FOR EVERY INPUT', by the rows' own cells (each row's printed sentence says how): DeriveStepSpec: laid · DeriveScalarSpec: laid · DeriveChain: laid · DeriveKeysSpec: laid · DeriveMixed: laid · ScheduleLadderSpec: laid · ScheduleAbove: laid · ScheduleEpochSpec: laid · ScheduleChain: laid · ScheduleKeysSpec: laid · DerivePrivate: laid · DeriveHashed: laid · SchedulePurposes: laid.
  DERIVED. THE GIVEN ROWS OF THIS SEAT. 13 by the template 'for every input the law returns true; each argument reads behind the call as it read before'; 0 by the template 'total and deterministic' (their statements: YtphgokaeonkjaaaDoorTotals.lean).
  GIVEN WITH THE SEED: the statements are not yours to turn. If you find one false, say at which input.
  Laid BY PROGRAM, IN A SANDBOX (cutbox-rows.mjs): the forced cells as the released guide's own fill.sh prints them over the translation aba303dcdd5e3d77… (all of the seat's roots in one cut). By AI agents, Wed Nov 11 2026. No macro, syntax, notation, axiom, sorry.
-/
import Derived.Test.YtphgokaeonkjaaaDoorChecked
import GoSem.Claim
import GoSem.ClaimJoined
import GoSem.ClaimMapViews
import Derived.JoinedTies
import Derived.KernelRfl
namespace Go.Proofs.YtphgokaeonkjaaaDoor
/- THE CELL 'sum', in the pinned program and in every row, IS THE sha256 OF THE DUMP (.gsa) THAT YtphgokaeonkjaaaDoorProg.lean LOADS. Nothing in Lean hashes anything: it is a label: what it is worth is what the hold of that sum in a sandbox is worth. -/
noncomputable def Tryd.pinned : Pinned := { name := "ytphgokaeonkjaaadoor", sum := "aba303dcdd5e3d77f809decdec04c911285a879a47fa8861f386bbfb18536c20", checked := Tryd.checked }
namespace Rows
def none {H : Type} : Left H := { results := [], args := [] }

/- WHAT THE LISTED PACKAGE-LEVEL VARIABLES READ AS WHEN THE CALL BEGINS. Each datum BY PROGRAM (the guide's laid-datum.mjs) off the statement by which the dump's own 'gosem.cut.vars' lays the variable. In a bare row this is a premise. The card (YtphgokaeonkjaaaDoorCards.lean) ties it to the program's text. -/
def laid_chartroom_digest_start {H : Type} : DataW H := .agg [.lit (.int .u32 1779033703), .lit (.int .u32 3144134277), .lit (.int .u32 1013904242), .lit (.int .u32 2773480762), .lit (.int .u32 1359893119), .lit (.int .u32 2600822924), .lit (.int .u32 528734635), .lit (.int .u32 1541459225)]
def laid_chartroom_digest_numbers {H : Type} : DataW H := .agg [.lit (.int .u32 1116352408), .lit (.int .u32 1899447441), .lit (.int .u32 3049323471), .lit (.int .u32 3921009573), .lit (.int .u32 961987163), .lit (.int .u32 1508970993), .lit (.int .u32 2453635748), .lit (.int .u32 2870763221), .lit (.int .u32 3624381080), .lit (.int .u32 310598401), .lit (.int .u32 607225278), .lit (.int .u32 1426881987), .lit (.int .u32 1925078388), .lit (.int .u32 2162078206), .lit (.int .u32 2614888103), .lit (.int .u32 3248222580), .lit (.int .u32 3835390401), .lit (.int .u32 4022224774), .lit (.int .u32 264347078), .lit (.int .u32 604807628), .lit (.int .u32 770255983), .lit (.int .u32 1249150122), .lit (.int .u32 1555081692), .lit (.int .u32 1996064986), .lit (.int .u32 2554220882), .lit (.int .u32 2821834349), .lit (.int .u32 2952996808), .lit (.int .u32 3210313671), .lit (.int .u32 3336571891), .lit (.int .u32 3584528711), .lit (.int .u32 113926993), .lit (.int .u32 338241895), .lit (.int .u32 666307205), .lit (.int .u32 773529912), .lit (.int .u32 1294757372), .lit (.int .u32 1396182291), .lit (.int .u32 1695183700), .lit (.int .u32 1986661051), .lit (.int .u32 2177026350), .lit (.int .u32 2456956037), .lit (.int .u32 2730485921), .lit (.int .u32 2820302411), .lit (.int .u32 3259730800), .lit (.int .u32 3345764771), .lit (.int .u32 3516065817), .lit (.int .u32 3600352804), .lit (.int .u32 4094571909), .lit (.int .u32 275423344), .lit (.int .u32 430227734), .lit (.int .u32 506948616), .lit (.int .u32 659060556), .lit (.int .u32 883997877), .lit (.int .u32 958139571), .lit (.int .u32 1322822218), .lit (.int .u32 1537002063), .lit (.int .u32 1747873779), .lit (.int .u32 1955562222), .lit (.int .u32 2024104815), .lit (.int .u32 2227730452), .lit (.int .u32 2361852424), .lit (.int .u32 2428436474), .lit (.int .u32 2756734187), .lit (.int .u32 3204031479), .lit (.int .u32 3329325298)]
def laid_bytes_ErrTooLarge {H : Type} : DataW H := .iface "*errors.errorString" (.ptr (.agg [.lit (.string [98, 121, 116, 101, 115, 46, 66, 117, 102, 102, 101, 114, 58, 32, 116, 111, 111, 32, 108, 97, 114, 103, 101])]))
def laid_chartroom_schedule_labels {H : Type} : DataW H := .agg [.lit (.string [105, 110, 105, 116]), .lit (.string [99, 111, 109, 109, 105, 116]), .lit (.string [99, 104, 105, 108, 100])]

/-- 'chartroomlaw07.DeriveStepSpec': WHATEVER THE INPUT: true; the input reads as it did. -/
def deriveStepSpecSpec : ChangeSpec := { name := "deriveStepSpec", fn := fun _ => fun
  | [d1, d2] => { results := [.lit (.bool true)], args := [d1, d2] }
  | _ => none }
def deriveStepSpecRow : OpenClaim := { program := "ytphgokaeonkjaaadoor", sum := "aba303dcdd5e3d77f809decdec04c911285a879a47fa8861f386bbfb18536c20", func := "chartroom/chartroomlaw07.DeriveStepSpec", spec := "deriveStepSpec", unfollowed := true, recurses := true, named := ["bytes.ErrTooLarge", "chartroom/digest.start", "chartroom/digest.numbers", "math/bits.divideError", "math/bits.overflowError"], apart := false, laid := [("chartroom/digest.start", laid_chartroom_digest_start), ("chartroom/digest.numbers", laid_chartroom_digest_numbers), ("bytes.ErrTooLarge", laid_bytes_ErrTooLarge)] }
def DeriveStepSpecSaid : Prop := deriveStepSpecRow.holds Tryd.pinned (OpenSpec.ofChange deriveStepSpecSpec)

/-- ITS FALSE NEIGHBOUR: 'it returns false'. Refute it at one input. -/
def deriveStepSpecWrong : ChangeSpec := { name := "deriveStepSpec", fn := fun _ => fun
  | [d1, d2] => { results := [.lit (.bool false)], args := [d1, d2] }
  | _ => none }
def DeriveStepSpecWrongFalsely : Prop := deriveStepSpecRow.holds Tryd.pinned (OpenSpec.ofChange deriveStepSpecWrong)

/-- 'chartroomlaw07.DeriveScalarSpec': WHATEVER THE INPUT: true; the input reads as it did. -/
def deriveScalarSpecSpec : ChangeSpec := { name := "deriveScalarSpec", fn := fun _ => fun
  | [d1, d2] => { results := [.lit (.bool true)], args := [d1, d2] }
  | _ => none }
def deriveScalarSpecRow : OpenClaim := { program := "ytphgokaeonkjaaadoor", sum := "aba303dcdd5e3d77f809decdec04c911285a879a47fa8861f386bbfb18536c20", func := "chartroom/chartroomlaw07.DeriveScalarSpec", spec := "deriveScalarSpec", unfollowed := true, recurses := true, named := ["bytes.ErrTooLarge", "chartroom/digest.start", "chartroom/digest.numbers", "math/bits.divideError", "math/bits.overflowError"], apart := false, laid := [("chartroom/digest.start", laid_chartroom_digest_start), ("chartroom/digest.numbers", laid_chartroom_digest_numbers), ("bytes.ErrTooLarge", laid_bytes_ErrTooLarge)] }
def DeriveScalarSpecSaid : Prop := deriveScalarSpecRow.holds Tryd.pinned (OpenSpec.ofChange deriveScalarSpecSpec)

/-- ITS FALSE NEIGHBOUR: 'it returns false'. Refute it at one input. -/
def deriveScalarSpecWrong : ChangeSpec := { name := "deriveScalarSpec", fn := fun _ => fun
  | [d1, d2] => { results := [.lit (.bool false)], args := [d1, d2] }
  | _ => none }
def DeriveScalarSpecWrongFalsely : Prop := deriveScalarSpecRow.holds Tryd.pinned (OpenSpec.ofChange deriveScalarSpecWrong)

/-- 'chartroomlaw07.DeriveChain': WHATEVER THE INPUT: true; the input reads as it did. -/
def deriveChainSpec : ChangeSpec := { name := "deriveChain", fn := fun _ => fun
  | [d1, d2, d3] => { results := [.lit (.bool true)], args := [d1, d2, d3] }
  | _ => none }
def deriveChainRow : OpenClaim := { program := "ytphgokaeonkjaaadoor", sum := "aba303dcdd5e3d77f809decdec04c911285a879a47fa8861f386bbfb18536c20", func := "chartroom/chartroomlaw07.DeriveChain", spec := "deriveChain", unfollowed := true, recurses := true, named := ["bytes.ErrTooLarge", "chartroom/digest.start", "chartroom/digest.numbers", "math/bits.divideError", "math/bits.overflowError"], apart := false, laid := [("chartroom/digest.start", laid_chartroom_digest_start), ("chartroom/digest.numbers", laid_chartroom_digest_numbers), ("bytes.ErrTooLarge", laid_bytes_ErrTooLarge)] }
def DeriveChainSaid : Prop := deriveChainRow.holds Tryd.pinned (OpenSpec.ofChange deriveChainSpec)

/-- ITS FALSE NEIGHBOUR: 'it returns false'. Refute it at one input. -/
def deriveChainWrong : ChangeSpec := { name := "deriveChain", fn := fun _ => fun
  | [d1, d2, d3] => { results := [.lit (.bool false)], args := [d1, d2, d3] }
  | _ => none }
def DeriveChainWrongFalsely : Prop := deriveChainRow.holds Tryd.pinned (OpenSpec.ofChange deriveChainWrong)

/-- 'chartroomlaw07.DeriveKeysSpec': WHATEVER THE INPUT: true; the input reads as it did. -/
def deriveKeysSpecSpec : ChangeSpec := { name := "deriveKeysSpec", fn := fun _ => fun
  | [d1, d2, d3, d4, d5] => { results := [.lit (.bool true)], args := [d1, d2, d3, d4, d5] }
  | _ => none }
def deriveKeysSpecRow : OpenClaim := { program := "ytphgokaeonkjaaadoor", sum := "aba303dcdd5e3d77f809decdec04c911285a879a47fa8861f386bbfb18536c20", func := "chartroom/chartroomlaw07.DeriveKeysSpec", spec := "deriveKeysSpec", unfollowed := true, recurses := true, named := ["bytes.ErrTooLarge", "chartroom/digest.start", "chartroom/digest.numbers", "math/bits.divideError", "math/bits.overflowError"], apart := false, laid := [("chartroom/digest.start", laid_chartroom_digest_start), ("chartroom/digest.numbers", laid_chartroom_digest_numbers), ("bytes.ErrTooLarge", laid_bytes_ErrTooLarge)] }
def DeriveKeysSpecSaid : Prop := deriveKeysSpecRow.holds Tryd.pinned (OpenSpec.ofChange deriveKeysSpecSpec)

/-- ITS FALSE NEIGHBOUR: 'it returns false'. Refute it at one input. -/
def deriveKeysSpecWrong : ChangeSpec := { name := "deriveKeysSpec", fn := fun _ => fun
  | [d1, d2, d3, d4, d5] => { results := [.lit (.bool false)], args := [d1, d2, d3, d4, d5] }
  | _ => none }
def DeriveKeysSpecWrongFalsely : Prop := deriveKeysSpecRow.holds Tryd.pinned (OpenSpec.ofChange deriveKeysSpecWrong)

/-- 'chartroomlaw07.DeriveMixed': WHATEVER THE INPUT: true; the input reads as it did. -/
def deriveMixedSpec : ChangeSpec := { name := "deriveMixed", fn := fun _ => fun
  | [d1, d2, d3] => { results := [.lit (.bool true)], args := [d1, d2, d3] }
  | _ => none }
def deriveMixedRow : OpenClaim := { program := "ytphgokaeonkjaaadoor", sum := "aba303dcdd5e3d77f809decdec04c911285a879a47fa8861f386bbfb18536c20", func := "chartroom/chartroomlaw07.DeriveMixed", spec := "deriveMixed", unfollowed := true, recurses := true, named := ["bytes.ErrTooLarge", "chartroom/digest.start", "chartroom/digest.numbers", "math/bits.divideError", "math/bits.overflowError"], apart := false, laid := [("chartroom/digest.start", laid_chartroom_digest_start), ("chartroom/digest.numbers", laid_chartroom_digest_numbers), ("bytes.ErrTooLarge", laid_bytes_ErrTooLarge)] }
def DeriveMixedSaid : Prop := deriveMixedRow.holds Tryd.pinned (OpenSpec.ofChange deriveMixedSpec)

/-- ITS FALSE NEIGHBOUR: 'it returns false'. Refute it at one input. -/
def deriveMixedWrong : ChangeSpec := { name := "deriveMixed", fn := fun _ => fun
  | [d1, d2, d3] => { results := [.lit (.bool false)], args := [d1, d2, d3] }
  | _ => none }
def DeriveMixedWrongFalsely : Prop := deriveMixedRow.holds Tryd.pinned (OpenSpec.ofChange deriveMixedWrong)

/-- 'chartroomlaw22.ScheduleLadderSpec': WHATEVER THE INPUT: true; the input reads as it did. -/
def scheduleLadderSpecSpec : ChangeSpec := { name := "scheduleLadderSpec", fn := fun _ => fun
  | [d1, d2] => { results := [.lit (.bool true)], args := [d1, d2] }
  | _ => none }
def scheduleLadderSpecRow : OpenClaim := { program := "ytphgokaeonkjaaadoor", sum := "aba303dcdd5e3d77f809decdec04c911285a879a47fa8861f386bbfb18536c20", func := "chartroom/chartroomlaw22.ScheduleLadderSpec", spec := "scheduleLadderSpec", unfollowed := true, recurses := true, named := ["bytes.ErrTooLarge", "chartroom/digest.start", "chartroom/digest.numbers", "math/bits.divideError", "math/bits.overflowError", "chartroom/schedule.labels"], apart := false, laid := [("chartroom/digest.start", laid_chartroom_digest_start), ("chartroom/digest.numbers", laid_chartroom_digest_numbers), ("bytes.ErrTooLarge", laid_bytes_ErrTooLarge), ("chartroom/schedule.labels", laid_chartroom_schedule_labels)] }
def ScheduleLadderSpecSaid : Prop := scheduleLadderSpecRow.holds Tryd.pinned (OpenSpec.ofChange scheduleLadderSpecSpec)

/-- ITS FALSE NEIGHBOUR: 'it returns false'. Refute it at one input. -/
def scheduleLadderSpecWrong : ChangeSpec := { name := "scheduleLadderSpec", fn := fun _ => fun
  | [d1, d2] => { results := [.lit (.bool false)], args := [d1, d2] }
  | _ => none }
def ScheduleLadderSpecWrongFalsely : Prop := scheduleLadderSpecRow.holds Tryd.pinned (OpenSpec.ofChange scheduleLadderSpecWrong)

/-- 'chartroomlaw22.ScheduleAbove': WHATEVER THE INPUT: true; the input reads as it did. -/
def scheduleAboveSpec : ChangeSpec := { name := "scheduleAbove", fn := fun _ => fun
  | [d1, d2, d3] => { results := [.lit (.bool true)], args := [d1, d2, d3] }
  | _ => none }
def scheduleAboveRow : OpenClaim := { program := "ytphgokaeonkjaaadoor", sum := "aba303dcdd5e3d77f809decdec04c911285a879a47fa8861f386bbfb18536c20", func := "chartroom/chartroomlaw22.ScheduleAbove", spec := "scheduleAbove", unfollowed := true, recurses := true, named := ["bytes.ErrTooLarge", "chartroom/digest.start", "chartroom/digest.numbers", "math/bits.divideError", "math/bits.overflowError", "chartroom/schedule.labels"], apart := false, laid := [("chartroom/digest.start", laid_chartroom_digest_start), ("chartroom/digest.numbers", laid_chartroom_digest_numbers), ("bytes.ErrTooLarge", laid_bytes_ErrTooLarge), ("chartroom/schedule.labels", laid_chartroom_schedule_labels)] }
def ScheduleAboveSaid : Prop := scheduleAboveRow.holds Tryd.pinned (OpenSpec.ofChange scheduleAboveSpec)

/-- ITS FALSE NEIGHBOUR: 'it returns false'. Refute it at one input. -/
def scheduleAboveWrong : ChangeSpec := { name := "scheduleAbove", fn := fun _ => fun
  | [d1, d2, d3] => { results := [.lit (.bool false)], args := [d1, d2, d3] }
  | _ => none }
def ScheduleAboveWrongFalsely : Prop := scheduleAboveRow.holds Tryd.pinned (OpenSpec.ofChange scheduleAboveWrong)

/-- 'chartroomlaw22.ScheduleEpochSpec': WHATEVER THE INPUT: true; the input reads as it did. -/
def scheduleEpochSpecSpec : ChangeSpec := { name := "scheduleEpochSpec", fn := fun _ => fun
  | [d1, d2] => { results := [.lit (.bool true)], args := [d1, d2] }
  | _ => none }
def scheduleEpochSpecRow : OpenClaim := { program := "ytphgokaeonkjaaadoor", sum := "aba303dcdd5e3d77f809decdec04c911285a879a47fa8861f386bbfb18536c20", func := "chartroom/chartroomlaw22.ScheduleEpochSpec", spec := "scheduleEpochSpec", unfollowed := true, recurses := true, named := ["bytes.ErrTooLarge", "chartroom/digest.start", "chartroom/digest.numbers", "math/bits.divideError", "math/bits.overflowError", "chartroom/schedule.labels"], apart := false, laid := [("chartroom/digest.start", laid_chartroom_digest_start), ("chartroom/digest.numbers", laid_chartroom_digest_numbers), ("bytes.ErrTooLarge", laid_bytes_ErrTooLarge), ("chartroom/schedule.labels", laid_chartroom_schedule_labels)] }
def ScheduleEpochSpecSaid : Prop := scheduleEpochSpecRow.holds Tryd.pinned (OpenSpec.ofChange scheduleEpochSpecSpec)

/-- ITS FALSE NEIGHBOUR: 'it returns false'. Refute it at one input. -/
def scheduleEpochSpecWrong : ChangeSpec := { name := "scheduleEpochSpec", fn := fun _ => fun
  | [d1, d2] => { results := [.lit (.bool false)], args := [d1, d2] }
  | _ => none }
def ScheduleEpochSpecWrongFalsely : Prop := scheduleEpochSpecRow.holds Tryd.pinned (OpenSpec.ofChange scheduleEpochSpecWrong)

/-- 'chartroomlaw22.ScheduleChain': WHATEVER THE INPUT: true; the input reads as it did. -/
def scheduleChainSpec : ChangeSpec := { name := "scheduleChain", fn := fun _ => fun
  | [d1, d2, d3] => { results := [.lit (.bool true)], args := [d1, d2, d3] }
  | _ => none }
def scheduleChainRow : OpenClaim := { program := "ytphgokaeonkjaaadoor", sum := "aba303dcdd5e3d77f809decdec04c911285a879a47fa8861f386bbfb18536c20", func := "chartroom/chartroomlaw22.ScheduleChain", spec := "scheduleChain", unfollowed := true, recurses := true, named := ["bytes.ErrTooLarge", "chartroom/digest.start", "chartroom/digest.numbers", "math/bits.divideError", "math/bits.overflowError", "chartroom/schedule.labels"], apart := false, laid := [("chartroom/digest.start", laid_chartroom_digest_start), ("chartroom/digest.numbers", laid_chartroom_digest_numbers), ("bytes.ErrTooLarge", laid_bytes_ErrTooLarge), ("chartroom/schedule.labels", laid_chartroom_schedule_labels)] }
def ScheduleChainSaid : Prop := scheduleChainRow.holds Tryd.pinned (OpenSpec.ofChange scheduleChainSpec)

/-- ITS FALSE NEIGHBOUR: 'it returns false'. Refute it at one input. -/
def scheduleChainWrong : ChangeSpec := { name := "scheduleChain", fn := fun _ => fun
  | [d1, d2, d3] => { results := [.lit (.bool false)], args := [d1, d2, d3] }
  | _ => none }
def ScheduleChainWrongFalsely : Prop := scheduleChainRow.holds Tryd.pinned (OpenSpec.ofChange scheduleChainWrong)

/-- 'chartroomlaw22.ScheduleKeysSpec': WHATEVER THE INPUT: true; the input reads as it did. -/
def scheduleKeysSpecSpec : ChangeSpec := { name := "scheduleKeysSpec", fn := fun _ => fun
  | [d1, d2, d3, d4] => { results := [.lit (.bool true)], args := [d1, d2, d3, d4] }
  | _ => none }
def scheduleKeysSpecRow : OpenClaim := { program := "ytphgokaeonkjaaadoor", sum := "aba303dcdd5e3d77f809decdec04c911285a879a47fa8861f386bbfb18536c20", func := "chartroom/chartroomlaw22.ScheduleKeysSpec", spec := "scheduleKeysSpec", unfollowed := true, recurses := true, named := ["bytes.ErrTooLarge", "chartroom/digest.start", "chartroom/digest.numbers", "math/bits.divideError", "math/bits.overflowError", "chartroom/schedule.labels"], apart := false, laid := [("chartroom/digest.start", laid_chartroom_digest_start), ("chartroom/digest.numbers", laid_chartroom_digest_numbers), ("bytes.ErrTooLarge", laid_bytes_ErrTooLarge), ("chartroom/schedule.labels", laid_chartroom_schedule_labels)] }
def ScheduleKeysSpecSaid : Prop := scheduleKeysSpecRow.holds Tryd.pinned (OpenSpec.ofChange scheduleKeysSpecSpec)

/-- ITS FALSE NEIGHBOUR: 'it returns false'. Refute it at one input. -/
def scheduleKeysSpecWrong : ChangeSpec := { name := "scheduleKeysSpec", fn := fun _ => fun
  | [d1, d2, d3, d4] => { results := [.lit (.bool false)], args := [d1, d2, d3, d4] }
  | _ => none }
def ScheduleKeysSpecWrongFalsely : Prop := scheduleKeysSpecRow.holds Tryd.pinned (OpenSpec.ofChange scheduleKeysSpecWrong)

/-- 'chartroomlaw07.DerivePrivate': WHATEVER THE INPUT: true; the input reads as it did. -/
def derivePrivateSpec : ChangeSpec := { name := "derivePrivate", fn := fun _ => fun
  | [d1, d2] => { results := [.lit (.bool true)], args := [d1, d2] }
  | _ => none }
def derivePrivateRow : OpenClaim := { program := "ytphgokaeonkjaaadoor", sum := "aba303dcdd5e3d77f809decdec04c911285a879a47fa8861f386bbfb18536c20", func := "chartroom/chartroomlaw07.DerivePrivate", spec := "derivePrivate", unfollowed := true, recurses := true, named := ["bytes.ErrTooLarge", "chartroom/digest.start", "chartroom/digest.numbers", "math/bits.divideError", "math/bits.overflowError"], apart := false, laid := [("chartroom/digest.start", laid_chartroom_digest_start), ("chartroom/digest.numbers", laid_chartroom_digest_numbers), ("bytes.ErrTooLarge", laid_bytes_ErrTooLarge)] }
def DerivePrivateSaid : Prop := derivePrivateRow.holds Tryd.pinned (OpenSpec.ofChange derivePrivateSpec)

/-- ITS FALSE NEIGHBOUR: 'it returns false'. Refute it at one input. -/
def derivePrivateWrong : ChangeSpec := { name := "derivePrivate", fn := fun _ => fun
  | [d1, d2] => { results := [.lit (.bool false)], args := [d1, d2] }
  | _ => none }
def DerivePrivateWrongFalsely : Prop := derivePrivateRow.holds Tryd.pinned (OpenSpec.ofChange derivePrivateWrong)

/-- 'chartroomlaw07.DeriveHashed': WHATEVER THE INPUT: true; the input reads as it did. -/
def deriveHashedSpec : ChangeSpec := { name := "deriveHashed", fn := fun _ => fun
  | [d1, d2, d3] => { results := [.lit (.bool true)], args := [d1, d2, d3] }
  | _ => none }
def deriveHashedRow : OpenClaim := { program := "ytphgokaeonkjaaadoor", sum := "aba303dcdd5e3d77f809decdec04c911285a879a47fa8861f386bbfb18536c20", func := "chartroom/chartroomlaw07.DeriveHashed", spec := "deriveHashed", unfollowed := true, recurses := true, named := ["bytes.ErrTooLarge", "chartroom/digest.start", "chartroom/digest.numbers", "math/bits.divideError", "math/bits.overflowError"], apart := false, laid := [("chartroom/digest.start", laid_chartroom_digest_start), ("chartroom/digest.numbers", laid_chartroom_digest_numbers), ("bytes.ErrTooLarge", laid_bytes_ErrTooLarge)] }
def DeriveHashedSaid : Prop := deriveHashedRow.holds Tryd.pinned (OpenSpec.ofChange deriveHashedSpec)

/-- ITS FALSE NEIGHBOUR: 'it returns false'. Refute it at one input. -/
def deriveHashedWrong : ChangeSpec := { name := "deriveHashed", fn := fun _ => fun
  | [d1, d2, d3] => { results := [.lit (.bool false)], args := [d1, d2, d3] }
  | _ => none }
def DeriveHashedWrongFalsely : Prop := deriveHashedRow.holds Tryd.pinned (OpenSpec.ofChange deriveHashedWrong)

/-- 'chartroomlaw22.SchedulePurposes': WHATEVER THE INPUT: true; the input reads as it did. -/
def schedulePurposesSpec : ChangeSpec := { name := "schedulePurposes", fn := fun _ => fun
  | [d1, d2, d3, d4] => { results := [.lit (.bool true)], args := [d1, d2, d3, d4] }
  | _ => none }
def schedulePurposesRow : OpenClaim := { program := "ytphgokaeonkjaaadoor", sum := "aba303dcdd5e3d77f809decdec04c911285a879a47fa8861f386bbfb18536c20", func := "chartroom/chartroomlaw22.SchedulePurposes", spec := "schedulePurposes", unfollowed := true, recurses := true, named := ["bytes.ErrTooLarge", "chartroom/digest.start", "chartroom/digest.numbers", "math/bits.divideError", "math/bits.overflowError", "chartroom/schedule.labels"], apart := false, laid := [("chartroom/digest.start", laid_chartroom_digest_start), ("chartroom/digest.numbers", laid_chartroom_digest_numbers), ("bytes.ErrTooLarge", laid_bytes_ErrTooLarge), ("chartroom/schedule.labels", laid_chartroom_schedule_labels)] }
def SchedulePurposesSaid : Prop := schedulePurposesRow.holds Tryd.pinned (OpenSpec.ofChange schedulePurposesSpec)

/-- ITS FALSE NEIGHBOUR: 'it returns false'. Refute it at one input. -/
def schedulePurposesWrong : ChangeSpec := { name := "schedulePurposes", fn := fun _ => fun
  | [d1, d2, d3, d4] => { results := [.lit (.bool false)], args := [d1, d2, d3, d4] }
  | _ => none }
def SchedulePurposesWrongFalsely : Prop := schedulePurposesRow.holds Tryd.pinned (OpenSpec.ofChange schedulePurposesWrong)

/- THE SECOND FORM. 'bulk': how many values and letters a reading holds, each counted each time it is reached (what is shared counts as often as it is met; a slice's spare places count too). A statement '..UptoSaid' is the law's where the arguments, and the package variables that the reading takes, are together of bulk at most 1048576: NARROWER than '..Said'. Prove '..Said' where nothing that the law and all that it calls make is longer than what came in: it says more and counts as full. Else prove '..UptoSaid'. A law counts once. -/
mutual
def uptoBulk {H : Type} : DataW H → Nat
  | .lit (.string bytes) => bytes.length + 1
  | .lit _ => 1
  | .nil => 1
  | .ptr d => uptoBulk d + 1
  | .slice elems spare => uptoBulkAll elems + uptoBulkAll spare + 1
  | .agg parts => uptoBulkAll parts + 1
  | .iface _ d => uptoBulk d + 1
  | .map entries => uptoBulkEntries entries + 1
  | .held _ => 1
def uptoBulkAll {H : Type} : List (DataW H) → Nat
  | [] => 0
  | d :: r => uptoBulk d + uptoBulkAll r
def uptoBulkEntries {H : Type} : List (Lit × DataW H) → Nat
  | [] => 0
  | x :: r => uptoBulkEntry x + uptoBulkEntries r
def uptoBulkEntry {H : Type} : Lit × DataW H → Nat
  | (.string bytes, d) => bytes.length + uptoBulk d + 1
  | (_, d) => uptoBulk d + 1
 end
def uptoSmall : (H : Type) → List (DataW H) → Bool := fun _ ds => decide (uptoBulkAll ds ≤ 1048576)
def OpenSpec.upto (s : _root_.Go.ChangeSpec) : _root_.Go.OpenSpec := { _root_.Go.OpenSpec.ofChange s with cond := some uptoSmall }

/-- 'chartroomlaw07.DeriveStepSpec', WHERE WHAT IT READS IS OF BULK AT MOST 1048576: true; the input reads as it did. -/
def deriveStepSpecUptoRow : OpenClaim := { program := "ytphgokaeonkjaaadoor", sum := "aba303dcdd5e3d77f809decdec04c911285a879a47fa8861f386bbfb18536c20", func := "chartroom/chartroomlaw07.DeriveStepSpec", spec := "deriveStepSpec", unfollowed := true, recurses := true, named := ["bytes.ErrTooLarge", "chartroom/digest.start", "chartroom/digest.numbers", "math/bits.divideError", "math/bits.overflowError"], apart := false, laid := [("chartroom/digest.start", laid_chartroom_digest_start), ("chartroom/digest.numbers", laid_chartroom_digest_numbers), ("bytes.ErrTooLarge", laid_bytes_ErrTooLarge)], narrowed := true }
def DeriveStepSpecUptoSaid : Prop := deriveStepSpecUptoRow.holds Tryd.pinned (OpenSpec.upto deriveStepSpecSpec)

/-- 'chartroomlaw07.DeriveScalarSpec', WHERE WHAT IT READS IS OF BULK AT MOST 1048576: true; the input reads as it did. -/
def deriveScalarSpecUptoRow : OpenClaim := { program := "ytphgokaeonkjaaadoor", sum := "aba303dcdd5e3d77f809decdec04c911285a879a47fa8861f386bbfb18536c20", func := "chartroom/chartroomlaw07.DeriveScalarSpec", spec := "deriveScalarSpec", unfollowed := true, recurses := true, named := ["bytes.ErrTooLarge", "chartroom/digest.start", "chartroom/digest.numbers", "math/bits.divideError", "math/bits.overflowError"], apart := false, laid := [("chartroom/digest.start", laid_chartroom_digest_start), ("chartroom/digest.numbers", laid_chartroom_digest_numbers), ("bytes.ErrTooLarge", laid_bytes_ErrTooLarge)], narrowed := true }
def DeriveScalarSpecUptoSaid : Prop := deriveScalarSpecUptoRow.holds Tryd.pinned (OpenSpec.upto deriveScalarSpecSpec)

/-- 'chartroomlaw07.DeriveChain', WHERE WHAT IT READS IS OF BULK AT MOST 1048576: true; the input reads as it did. -/
def deriveChainUptoRow : OpenClaim := { program := "ytphgokaeonkjaaadoor", sum := "aba303dcdd5e3d77f809decdec04c911285a879a47fa8861f386bbfb18536c20", func := "chartroom/chartroomlaw07.DeriveChain", spec := "deriveChain", unfollowed := true, recurses := true, named := ["bytes.ErrTooLarge", "chartroom/digest.start", "chartroom/digest.numbers", "math/bits.divideError", "math/bits.overflowError"], apart := false, laid := [("chartroom/digest.start", laid_chartroom_digest_start), ("chartroom/digest.numbers", laid_chartroom_digest_numbers), ("bytes.ErrTooLarge", laid_bytes_ErrTooLarge)], narrowed := true }
def DeriveChainUptoSaid : Prop := deriveChainUptoRow.holds Tryd.pinned (OpenSpec.upto deriveChainSpec)

/-- 'chartroomlaw07.DeriveKeysSpec', WHERE WHAT IT READS IS OF BULK AT MOST 1048576: true; the input reads as it did. -/
def deriveKeysSpecUptoRow : OpenClaim := { program := "ytphgokaeonkjaaadoor", sum := "aba303dcdd5e3d77f809decdec04c911285a879a47fa8861f386bbfb18536c20", func := "chartroom/chartroomlaw07.DeriveKeysSpec", spec := "deriveKeysSpec", unfollowed := true, recurses := true, named := ["bytes.ErrTooLarge", "chartroom/digest.start", "chartroom/digest.numbers", "math/bits.divideError", "math/bits.overflowError"], apart := false, laid := [("chartroom/digest.start", laid_chartroom_digest_start), ("chartroom/digest.numbers", laid_chartroom_digest_numbers), ("bytes.ErrTooLarge", laid_bytes_ErrTooLarge)], narrowed := true }
def DeriveKeysSpecUptoSaid : Prop := deriveKeysSpecUptoRow.holds Tryd.pinned (OpenSpec.upto deriveKeysSpecSpec)

/-- 'chartroomlaw07.DeriveMixed', WHERE WHAT IT READS IS OF BULK AT MOST 1048576: true; the input reads as it did. -/
def deriveMixedUptoRow : OpenClaim := { program := "ytphgokaeonkjaaadoor", sum := "aba303dcdd5e3d77f809decdec04c911285a879a47fa8861f386bbfb18536c20", func := "chartroom/chartroomlaw07.DeriveMixed", spec := "deriveMixed", unfollowed := true, recurses := true, named := ["bytes.ErrTooLarge", "chartroom/digest.start", "chartroom/digest.numbers", "math/bits.divideError", "math/bits.overflowError"], apart := false, laid := [("chartroom/digest.start", laid_chartroom_digest_start), ("chartroom/digest.numbers", laid_chartroom_digest_numbers), ("bytes.ErrTooLarge", laid_bytes_ErrTooLarge)], narrowed := true }
def DeriveMixedUptoSaid : Prop := deriveMixedUptoRow.holds Tryd.pinned (OpenSpec.upto deriveMixedSpec)

/-- 'chartroomlaw22.ScheduleLadderSpec', WHERE WHAT IT READS IS OF BULK AT MOST 1048576: true; the input reads as it did. -/
def scheduleLadderSpecUptoRow : OpenClaim := { program := "ytphgokaeonkjaaadoor", sum := "aba303dcdd5e3d77f809decdec04c911285a879a47fa8861f386bbfb18536c20", func := "chartroom/chartroomlaw22.ScheduleLadderSpec", spec := "scheduleLadderSpec", unfollowed := true, recurses := true, named := ["bytes.ErrTooLarge", "chartroom/digest.start", "chartroom/digest.numbers", "math/bits.divideError", "math/bits.overflowError", "chartroom/schedule.labels"], apart := false, laid := [("chartroom/digest.start", laid_chartroom_digest_start), ("chartroom/digest.numbers", laid_chartroom_digest_numbers), ("bytes.ErrTooLarge", laid_bytes_ErrTooLarge), ("chartroom/schedule.labels", laid_chartroom_schedule_labels)], narrowed := true }
def ScheduleLadderSpecUptoSaid : Prop := scheduleLadderSpecUptoRow.holds Tryd.pinned (OpenSpec.upto scheduleLadderSpecSpec)

/-- 'chartroomlaw22.ScheduleAbove', WHERE WHAT IT READS IS OF BULK AT MOST 1048576: true; the input reads as it did. -/
def scheduleAboveUptoRow : OpenClaim := { program := "ytphgokaeonkjaaadoor", sum := "aba303dcdd5e3d77f809decdec04c911285a879a47fa8861f386bbfb18536c20", func := "chartroom/chartroomlaw22.ScheduleAbove", spec := "scheduleAbove", unfollowed := true, recurses := true, named := ["bytes.ErrTooLarge", "chartroom/digest.start", "chartroom/digest.numbers", "math/bits.divideError", "math/bits.overflowError", "chartroom/schedule.labels"], apart := false, laid := [("chartroom/digest.start", laid_chartroom_digest_start), ("chartroom/digest.numbers", laid_chartroom_digest_numbers), ("bytes.ErrTooLarge", laid_bytes_ErrTooLarge), ("chartroom/schedule.labels", laid_chartroom_schedule_labels)], narrowed := true }
def ScheduleAboveUptoSaid : Prop := scheduleAboveUptoRow.holds Tryd.pinned (OpenSpec.upto scheduleAboveSpec)

/-- 'chartroomlaw22.ScheduleEpochSpec', WHERE WHAT IT READS IS OF BULK AT MOST 1048576: true; the input reads as it did. -/
def scheduleEpochSpecUptoRow : OpenClaim := { program := "ytphgokaeonkjaaadoor", sum := "aba303dcdd5e3d77f809decdec04c911285a879a47fa8861f386bbfb18536c20", func := "chartroom/chartroomlaw22.ScheduleEpochSpec", spec := "scheduleEpochSpec", unfollowed := true, recurses := true, named := ["bytes.ErrTooLarge", "chartroom/digest.start", "chartroom/digest.numbers", "math/bits.divideError", "math/bits.overflowError", "chartroom/schedule.labels"], apart := false, laid := [("chartroom/digest.start", laid_chartroom_digest_start), ("chartroom/digest.numbers", laid_chartroom_digest_numbers), ("bytes.ErrTooLarge", laid_bytes_ErrTooLarge), ("chartroom/schedule.labels", laid_chartroom_schedule_labels)], narrowed := true }
def ScheduleEpochSpecUptoSaid : Prop := scheduleEpochSpecUptoRow.holds Tryd.pinned (OpenSpec.upto scheduleEpochSpecSpec)

/-- 'chartroomlaw22.ScheduleChain', WHERE WHAT IT READS IS OF BULK AT MOST 1048576: true; the input reads as it did. -/
def scheduleChainUptoRow : OpenClaim := { program := "ytphgokaeonkjaaadoor", sum := "aba303dcdd5e3d77f809decdec04c911285a879a47fa8861f386bbfb18536c20", func := "chartroom/chartroomlaw22.ScheduleChain", spec := "scheduleChain", unfollowed := true, recurses := true, named := ["bytes.ErrTooLarge", "chartroom/digest.start", "chartroom/digest.numbers", "math/bits.divideError", "math/bits.overflowError", "chartroom/schedule.labels"], apart := false, laid := [("chartroom/digest.start", laid_chartroom_digest_start), ("chartroom/digest.numbers", laid_chartroom_digest_numbers), ("bytes.ErrTooLarge", laid_bytes_ErrTooLarge), ("chartroom/schedule.labels", laid_chartroom_schedule_labels)], narrowed := true }
def ScheduleChainUptoSaid : Prop := scheduleChainUptoRow.holds Tryd.pinned (OpenSpec.upto scheduleChainSpec)

/-- 'chartroomlaw22.ScheduleKeysSpec', WHERE WHAT IT READS IS OF BULK AT MOST 1048576: true; the input reads as it did. -/
def scheduleKeysSpecUptoRow : OpenClaim := { program := "ytphgokaeonkjaaadoor", sum := "aba303dcdd5e3d77f809decdec04c911285a879a47fa8861f386bbfb18536c20", func := "chartroom/chartroomlaw22.ScheduleKeysSpec", spec := "scheduleKeysSpec", unfollowed := true, recurses := true, named := ["bytes.ErrTooLarge", "chartroom/digest.start", "chartroom/digest.numbers", "math/bits.divideError", "math/bits.overflowError", "chartroom/schedule.labels"], apart := false, laid := [("chartroom/digest.start", laid_chartroom_digest_start), ("chartroom/digest.numbers", laid_chartroom_digest_numbers), ("bytes.ErrTooLarge", laid_bytes_ErrTooLarge), ("chartroom/schedule.labels", laid_chartroom_schedule_labels)], narrowed := true }
def ScheduleKeysSpecUptoSaid : Prop := scheduleKeysSpecUptoRow.holds Tryd.pinned (OpenSpec.upto scheduleKeysSpecSpec)

/-- 'chartroomlaw07.DerivePrivate', WHERE WHAT IT READS IS OF BULK AT MOST 1048576: true; the input reads as it did. -/
def derivePrivateUptoRow : OpenClaim := { program := "ytphgokaeonkjaaadoor", sum := "aba303dcdd5e3d77f809decdec04c911285a879a47fa8861f386bbfb18536c20", func := "chartroom/chartroomlaw07.DerivePrivate", spec := "derivePrivate", unfollowed := true, recurses := true, named := ["bytes.ErrTooLarge", "chartroom/digest.start", "chartroom/digest.numbers", "math/bits.divideError", "math/bits.overflowError"], apart := false, laid := [("chartroom/digest.start", laid_chartroom_digest_start), ("chartroom/digest.numbers", laid_chartroom_digest_numbers), ("bytes.ErrTooLarge", laid_bytes_ErrTooLarge)], narrowed := true }
def DerivePrivateUptoSaid : Prop := derivePrivateUptoRow.holds Tryd.pinned (OpenSpec.upto derivePrivateSpec)

/-- 'chartroomlaw07.DeriveHashed', WHERE WHAT IT READS IS OF BULK AT MOST 1048576: true; the input reads as it did. -/
def deriveHashedUptoRow : OpenClaim := { program := "ytphgokaeonkjaaadoor", sum := "aba303dcdd5e3d77f809decdec04c911285a879a47fa8861f386bbfb18536c20", func := "chartroom/chartroomlaw07.DeriveHashed", spec := "deriveHashed", unfollowed := true, recurses := true, named := ["bytes.ErrTooLarge", "chartroom/digest.start", "chartroom/digest.numbers", "math/bits.divideError", "math/bits.overflowError"], apart := false, laid := [("chartroom/digest.start", laid_chartroom_digest_start), ("chartroom/digest.numbers", laid_chartroom_digest_numbers), ("bytes.ErrTooLarge", laid_bytes_ErrTooLarge)], narrowed := true }
def DeriveHashedUptoSaid : Prop := deriveHashedUptoRow.holds Tryd.pinned (OpenSpec.upto deriveHashedSpec)

/-- 'chartroomlaw22.SchedulePurposes', WHERE WHAT IT READS IS OF BULK AT MOST 1048576: true; the input reads as it did. -/
def schedulePurposesUptoRow : OpenClaim := { program := "ytphgokaeonkjaaadoor", sum := "aba303dcdd5e3d77f809decdec04c911285a879a47fa8861f386bbfb18536c20", func := "chartroom/chartroomlaw22.SchedulePurposes", spec := "schedulePurposes", unfollowed := true, recurses := true, named := ["bytes.ErrTooLarge", "chartroom/digest.start", "chartroom/digest.numbers", "math/bits.divideError", "math/bits.overflowError", "chartroom/schedule.labels"], apart := false, laid := [("chartroom/digest.start", laid_chartroom_digest_start), ("chartroom/digest.numbers", laid_chartroom_digest_numbers), ("bytes.ErrTooLarge", laid_bytes_ErrTooLarge), ("chartroom/schedule.labels", laid_chartroom_schedule_labels)], narrowed := true }
def SchedulePurposesUptoSaid : Prop := schedulePurposesUptoRow.holds Tryd.pinned (OpenSpec.upto schedulePurposesSpec)

end Rows
end Go.Proofs.YtphgokaeonkjaaaDoor
