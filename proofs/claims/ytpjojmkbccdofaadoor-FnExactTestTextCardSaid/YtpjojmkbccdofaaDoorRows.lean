/-
  NARROWER THAN 'FOR EVERY INPUT', by the rows' own cells (each row's printed sentence says how): FnExactPartText: laid · FnExactObservedText: laid · FnExactShotText: laid · FnExactStandText: laid · FnExactWatchText: laid · FnExactTestText: laid · FnExactGateText: laid · FnExactGroupText: laid · FnExactVersionText: laid · FnExactVerifiedText: laid · FnExactIncidentText: laid.
  DERIVED. THE GIVEN ROWS OF THIS SEAT. 11 by the template 'for every input the law returns true; each argument reads behind the call as it read before'; 0 by the template 'total and deterministic' (their statements: YtpjojmkbccdofaaDoorTotals.lean).
  GIVEN WITH THE SEED: the statements are not yours to turn. If you find one false, say at which input.
  Laid BY PROGRAM, IN A SANDBOX (cutbox-rows.mjs): the forced cells as the released guide's own fill.sh prints them over the translation f491eb35091a0b31… (all of the seat's roots in one cut). By AI agents, Wed Nov 11 2026. No macro, syntax, notation, axiom, sorry.
-/
import Derived.Test.YtpjojmkbccdofaaDoorChecked
import GoSem.Claim
import GoSem.ClaimJoined
import GoSem.ClaimMapViews
import Derived.JoinedTies
import Derived.KernelRfl
namespace Go.Proofs.YtpjojmkbccdofaaDoor
/- THE CELL 'sum', in the pinned program and in every row, IS THE sha256 OF THE DUMP (.gsa) THAT YtpjojmkbccdofaaDoorProg.lean LOADS. Nothing in Lean hashes anything: it is a label: what it is worth is what the hold of that sum in a sandbox is worth. -/
noncomputable def Tryd.pinned : Pinned := { name := "ytpjojmkbccdofaadoor", sum := "f491eb35091a0b31d73da937a276cf638c889064bc5649b1ee2ca2e391925e6f", checked := Tryd.checked }
namespace Rows
def none {H : Type} : Left H := { results := [], args := [] }

/- WHAT THE LISTED PACKAGE-LEVEL VARIABLES READ AS WHEN THE CALL BEGINS. Each datum BY PROGRAM (the guide's laid-datum.mjs) off the statement by which the dump's own 'gosem.cut.vars' lays the variable. In a bare row this is a premise. The card (YtpjojmkbccdofaaDoorCards.lean) ties it to the program's text. -/
def laid_math_bits_deBruijn32tab {H : Type} : DataW H := .agg [.lit (.int .u8 0), .lit (.int .u8 1), .lit (.int .u8 28), .lit (.int .u8 2), .lit (.int .u8 29), .lit (.int .u8 14), .lit (.int .u8 24), .lit (.int .u8 3), .lit (.int .u8 30), .lit (.int .u8 22), .lit (.int .u8 20), .lit (.int .u8 15), .lit (.int .u8 25), .lit (.int .u8 17), .lit (.int .u8 4), .lit (.int .u8 8), .lit (.int .u8 31), .lit (.int .u8 27), .lit (.int .u8 13), .lit (.int .u8 23), .lit (.int .u8 21), .lit (.int .u8 19), .lit (.int .u8 16), .lit (.int .u8 7), .lit (.int .u8 26), .lit (.int .u8 12), .lit (.int .u8 18), .lit (.int .u8 6), .lit (.int .u8 11), .lit (.int .u8 5), .lit (.int .u8 10), .lit (.int .u8 9)]
def laid_math_bits_deBruijn64tab {H : Type} : DataW H := .agg [.lit (.int .u8 0), .lit (.int .u8 1), .lit (.int .u8 56), .lit (.int .u8 2), .lit (.int .u8 57), .lit (.int .u8 49), .lit (.int .u8 28), .lit (.int .u8 3), .lit (.int .u8 61), .lit (.int .u8 58), .lit (.int .u8 42), .lit (.int .u8 50), .lit (.int .u8 38), .lit (.int .u8 29), .lit (.int .u8 17), .lit (.int .u8 4), .lit (.int .u8 62), .lit (.int .u8 47), .lit (.int .u8 59), .lit (.int .u8 36), .lit (.int .u8 45), .lit (.int .u8 43), .lit (.int .u8 51), .lit (.int .u8 22), .lit (.int .u8 53), .lit (.int .u8 39), .lit (.int .u8 33), .lit (.int .u8 30), .lit (.int .u8 24), .lit (.int .u8 18), .lit (.int .u8 12), .lit (.int .u8 5), .lit (.int .u8 63), .lit (.int .u8 55), .lit (.int .u8 48), .lit (.int .u8 27), .lit (.int .u8 60), .lit (.int .u8 41), .lit (.int .u8 37), .lit (.int .u8 16), .lit (.int .u8 46), .lit (.int .u8 35), .lit (.int .u8 44), .lit (.int .u8 21), .lit (.int .u8 52), .lit (.int .u8 32), .lit (.int .u8 23), .lit (.int .u8 11), .lit (.int .u8 54), .lit (.int .u8 26), .lit (.int .u8 40), .lit (.int .u8 15), .lit (.int .u8 34), .lit (.int .u8 20), .lit (.int .u8 31), .lit (.int .u8 10), .lit (.int .u8 25), .lit (.int .u8 14), .lit (.int .u8 19), .lit (.int .u8 9), .lit (.int .u8 13), .lit (.int .u8 8), .lit (.int .u8 7), .lit (.int .u8 6)]
def laid_internal_strconv_uint64pow10 {H : Type} : DataW H := .agg [.lit (.int .u64 1), .lit (.int .u64 10), .lit (.int .u64 100), .lit (.int .u64 1000), .lit (.int .u64 10000), .lit (.int .u64 100000), .lit (.int .u64 1000000), .lit (.int .u64 10000000), .lit (.int .u64 100000000), .lit (.int .u64 1000000000), .lit (.int .u64 10000000000), .lit (.int .u64 100000000000), .lit (.int .u64 1000000000000), .lit (.int .u64 10000000000000), .lit (.int .u64 100000000000000), .lit (.int .u64 1000000000000000), .lit (.int .u64 10000000000000000), .lit (.int .u64 100000000000000000), .lit (.int .u64 1000000000000000000), .lit (.int .u64 10000000000000000000)]

/-- 'laws.FnExactPartText': WHATEVER THE INPUT: true; the input reads as it did. -/
def fnExactPartTextSpec : ChangeSpec := { name := "fnExactPartText", fn := fun _ => fun
  | [d] => { results := [.lit (.bool true)], args := [d] }
  | _ => none }
def fnExactPartTextRow : OpenClaim := { program := "ytpjojmkbccdofaadoor", sum := "f491eb35091a0b31d73da937a276cf638c889064bc5649b1ee2ca2e391925e6f", func := "loop.example/g01013/laws.FnExactPartText", spec := "fnExactPartText", inPlace := ["internal/abi.NoEscape", "internal/bytealg.MakeNoZero"], named := ["internal/strconv.uint64pow10", "math/bits.deBruijn32tab", "math/bits.deBruijn64tab"], apart := false, laid := [("math/bits.deBruijn32tab", laid_math_bits_deBruijn32tab), ("math/bits.deBruijn64tab", laid_math_bits_deBruijn64tab), ("internal/strconv.uint64pow10", laid_internal_strconv_uint64pow10)] }
def FnExactPartTextSaid : Prop := fnExactPartTextRow.holds Tryd.pinned (OpenSpec.ofChange fnExactPartTextSpec)

/-- ITS FALSE NEIGHBOUR: 'it returns false'. Refute it at one input. -/
def fnExactPartTextWrong : ChangeSpec := { name := "fnExactPartText", fn := fun _ => fun
  | [d] => { results := [.lit (.bool false)], args := [d] }
  | _ => none }
def FnExactPartTextWrongFalsely : Prop := fnExactPartTextRow.holds Tryd.pinned (OpenSpec.ofChange fnExactPartTextWrong)

/-- 'laws.FnExactObservedText': WHATEVER THE INPUT: true; the input reads as it did. -/
def fnExactObservedTextSpec : ChangeSpec := { name := "fnExactObservedText", fn := fun _ => fun
  | [d] => { results := [.lit (.bool true)], args := [d] }
  | _ => none }
def fnExactObservedTextRow : OpenClaim := { program := "ytpjojmkbccdofaadoor", sum := "f491eb35091a0b31d73da937a276cf638c889064bc5649b1ee2ca2e391925e6f", func := "loop.example/g01013/laws.FnExactObservedText", spec := "fnExactObservedText", inPlace := ["internal/abi.NoEscape", "internal/bytealg.MakeNoZero"], named := ["internal/strconv.uint64pow10", "math/bits.deBruijn32tab", "math/bits.deBruijn64tab"], apart := false, laid := [("math/bits.deBruijn32tab", laid_math_bits_deBruijn32tab), ("math/bits.deBruijn64tab", laid_math_bits_deBruijn64tab), ("internal/strconv.uint64pow10", laid_internal_strconv_uint64pow10)] }
def FnExactObservedTextSaid : Prop := fnExactObservedTextRow.holds Tryd.pinned (OpenSpec.ofChange fnExactObservedTextSpec)

/-- ITS FALSE NEIGHBOUR: 'it returns false'. Refute it at one input. -/
def fnExactObservedTextWrong : ChangeSpec := { name := "fnExactObservedText", fn := fun _ => fun
  | [d] => { results := [.lit (.bool false)], args := [d] }
  | _ => none }
def FnExactObservedTextWrongFalsely : Prop := fnExactObservedTextRow.holds Tryd.pinned (OpenSpec.ofChange fnExactObservedTextWrong)

/-- 'laws.FnExactShotText': WHATEVER THE INPUT: true; the input reads as it did. -/
def fnExactShotTextSpec : ChangeSpec := { name := "fnExactShotText", fn := fun _ => fun
  | [d] => { results := [.lit (.bool true)], args := [d] }
  | _ => none }
def fnExactShotTextRow : OpenClaim := { program := "ytpjojmkbccdofaadoor", sum := "f491eb35091a0b31d73da937a276cf638c889064bc5649b1ee2ca2e391925e6f", func := "loop.example/g01013/laws.FnExactShotText", spec := "fnExactShotText", inPlace := ["internal/abi.NoEscape", "internal/bytealg.MakeNoZero"], named := ["internal/strconv.uint64pow10", "math/bits.deBruijn32tab", "math/bits.deBruijn64tab"], apart := false, laid := [("math/bits.deBruijn32tab", laid_math_bits_deBruijn32tab), ("math/bits.deBruijn64tab", laid_math_bits_deBruijn64tab), ("internal/strconv.uint64pow10", laid_internal_strconv_uint64pow10)] }
def FnExactShotTextSaid : Prop := fnExactShotTextRow.holds Tryd.pinned (OpenSpec.ofChange fnExactShotTextSpec)

/-- ITS FALSE NEIGHBOUR: 'it returns false'. Refute it at one input. -/
def fnExactShotTextWrong : ChangeSpec := { name := "fnExactShotText", fn := fun _ => fun
  | [d] => { results := [.lit (.bool false)], args := [d] }
  | _ => none }
def FnExactShotTextWrongFalsely : Prop := fnExactShotTextRow.holds Tryd.pinned (OpenSpec.ofChange fnExactShotTextWrong)

/-- 'laws.FnExactStandText': WHATEVER THE INPUT: true; the input reads as it did. -/
def fnExactStandTextSpec : ChangeSpec := { name := "fnExactStandText", fn := fun _ => fun
  | [d] => { results := [.lit (.bool true)], args := [d] }
  | _ => none }
def fnExactStandTextRow : OpenClaim := { program := "ytpjojmkbccdofaadoor", sum := "f491eb35091a0b31d73da937a276cf638c889064bc5649b1ee2ca2e391925e6f", func := "loop.example/g01013/laws.FnExactStandText", spec := "fnExactStandText", inPlace := ["internal/abi.NoEscape", "internal/bytealg.MakeNoZero"], named := ["internal/strconv.uint64pow10", "math/bits.deBruijn32tab", "math/bits.deBruijn64tab"], apart := false, laid := [("math/bits.deBruijn32tab", laid_math_bits_deBruijn32tab), ("math/bits.deBruijn64tab", laid_math_bits_deBruijn64tab), ("internal/strconv.uint64pow10", laid_internal_strconv_uint64pow10)] }
def FnExactStandTextSaid : Prop := fnExactStandTextRow.holds Tryd.pinned (OpenSpec.ofChange fnExactStandTextSpec)

/-- ITS FALSE NEIGHBOUR: 'it returns false'. Refute it at one input. -/
def fnExactStandTextWrong : ChangeSpec := { name := "fnExactStandText", fn := fun _ => fun
  | [d] => { results := [.lit (.bool false)], args := [d] }
  | _ => none }
def FnExactStandTextWrongFalsely : Prop := fnExactStandTextRow.holds Tryd.pinned (OpenSpec.ofChange fnExactStandTextWrong)

/-- 'laws.FnExactWatchText': WHATEVER THE INPUT: true; the input reads as it did. -/
def fnExactWatchTextSpec : ChangeSpec := { name := "fnExactWatchText", fn := fun _ => fun
  | [d] => { results := [.lit (.bool true)], args := [d] }
  | _ => none }
def fnExactWatchTextRow : OpenClaim := { program := "ytpjojmkbccdofaadoor", sum := "f491eb35091a0b31d73da937a276cf638c889064bc5649b1ee2ca2e391925e6f", func := "loop.example/g01013/laws.FnExactWatchText", spec := "fnExactWatchText", inPlace := ["internal/abi.NoEscape", "internal/bytealg.MakeNoZero"], named := ["internal/strconv.uint64pow10", "math/bits.deBruijn32tab", "math/bits.deBruijn64tab"], apart := false, laid := [("math/bits.deBruijn32tab", laid_math_bits_deBruijn32tab), ("math/bits.deBruijn64tab", laid_math_bits_deBruijn64tab), ("internal/strconv.uint64pow10", laid_internal_strconv_uint64pow10)] }
def FnExactWatchTextSaid : Prop := fnExactWatchTextRow.holds Tryd.pinned (OpenSpec.ofChange fnExactWatchTextSpec)

/-- ITS FALSE NEIGHBOUR: 'it returns false'. Refute it at one input. -/
def fnExactWatchTextWrong : ChangeSpec := { name := "fnExactWatchText", fn := fun _ => fun
  | [d] => { results := [.lit (.bool false)], args := [d] }
  | _ => none }
def FnExactWatchTextWrongFalsely : Prop := fnExactWatchTextRow.holds Tryd.pinned (OpenSpec.ofChange fnExactWatchTextWrong)

/-- 'laws.FnExactTestText': WHATEVER THE INPUT: true; the input reads as it did. -/
def fnExactTestTextSpec : ChangeSpec := { name := "fnExactTestText", fn := fun _ => fun
  | [d] => { results := [.lit (.bool true)], args := [d] }
  | _ => none }
def fnExactTestTextRow : OpenClaim := { program := "ytpjojmkbccdofaadoor", sum := "f491eb35091a0b31d73da937a276cf638c889064bc5649b1ee2ca2e391925e6f", func := "loop.example/g01013/laws.FnExactTestText", spec := "fnExactTestText", inPlace := ["internal/abi.NoEscape", "internal/bytealg.MakeNoZero"], named := ["internal/strconv.uint64pow10", "math/bits.deBruijn32tab", "math/bits.deBruijn64tab"], apart := false, laid := [("math/bits.deBruijn32tab", laid_math_bits_deBruijn32tab), ("math/bits.deBruijn64tab", laid_math_bits_deBruijn64tab), ("internal/strconv.uint64pow10", laid_internal_strconv_uint64pow10)] }
def FnExactTestTextSaid : Prop := fnExactTestTextRow.holds Tryd.pinned (OpenSpec.ofChange fnExactTestTextSpec)

/-- ITS FALSE NEIGHBOUR: 'it returns false'. Refute it at one input. -/
def fnExactTestTextWrong : ChangeSpec := { name := "fnExactTestText", fn := fun _ => fun
  | [d] => { results := [.lit (.bool false)], args := [d] }
  | _ => none }
def FnExactTestTextWrongFalsely : Prop := fnExactTestTextRow.holds Tryd.pinned (OpenSpec.ofChange fnExactTestTextWrong)

/-- 'laws.FnExactGateText': WHATEVER THE INPUT: true; the input reads as it did. -/
def fnExactGateTextSpec : ChangeSpec := { name := "fnExactGateText", fn := fun _ => fun
  | [d] => { results := [.lit (.bool true)], args := [d] }
  | _ => none }
def fnExactGateTextRow : OpenClaim := { program := "ytpjojmkbccdofaadoor", sum := "f491eb35091a0b31d73da937a276cf638c889064bc5649b1ee2ca2e391925e6f", func := "loop.example/g01013/laws.FnExactGateText", spec := "fnExactGateText", inPlace := ["internal/abi.NoEscape", "internal/bytealg.MakeNoZero"], named := ["internal/strconv.uint64pow10", "math/bits.deBruijn32tab", "math/bits.deBruijn64tab"], apart := false, laid := [("math/bits.deBruijn32tab", laid_math_bits_deBruijn32tab), ("math/bits.deBruijn64tab", laid_math_bits_deBruijn64tab), ("internal/strconv.uint64pow10", laid_internal_strconv_uint64pow10)] }
def FnExactGateTextSaid : Prop := fnExactGateTextRow.holds Tryd.pinned (OpenSpec.ofChange fnExactGateTextSpec)

/-- ITS FALSE NEIGHBOUR: 'it returns false'. Refute it at one input. -/
def fnExactGateTextWrong : ChangeSpec := { name := "fnExactGateText", fn := fun _ => fun
  | [d] => { results := [.lit (.bool false)], args := [d] }
  | _ => none }
def FnExactGateTextWrongFalsely : Prop := fnExactGateTextRow.holds Tryd.pinned (OpenSpec.ofChange fnExactGateTextWrong)

/-- 'laws.FnExactGroupText': WHATEVER THE INPUT: true; the input reads as it did. -/
def fnExactGroupTextSpec : ChangeSpec := { name := "fnExactGroupText", fn := fun _ => fun
  | [d] => { results := [.lit (.bool true)], args := [d] }
  | _ => none }
def fnExactGroupTextRow : OpenClaim := { program := "ytpjojmkbccdofaadoor", sum := "f491eb35091a0b31d73da937a276cf638c889064bc5649b1ee2ca2e391925e6f", func := "loop.example/g01013/laws.FnExactGroupText", spec := "fnExactGroupText", inPlace := ["internal/abi.NoEscape", "internal/bytealg.MakeNoZero"], unfollowed := true, recurses := true, named := ["internal/strconv.uint64pow10", "math/bits.deBruijn32tab", "math/bits.deBruijn64tab"], apart := false, laid := [("math/bits.deBruijn32tab", laid_math_bits_deBruijn32tab), ("math/bits.deBruijn64tab", laid_math_bits_deBruijn64tab), ("internal/strconv.uint64pow10", laid_internal_strconv_uint64pow10)] }
def FnExactGroupTextSaid : Prop := fnExactGroupTextRow.holds Tryd.pinned (OpenSpec.ofChange fnExactGroupTextSpec)

/-- ITS FALSE NEIGHBOUR: 'it returns false'. Refute it at one input. -/
def fnExactGroupTextWrong : ChangeSpec := { name := "fnExactGroupText", fn := fun _ => fun
  | [d] => { results := [.lit (.bool false)], args := [d] }
  | _ => none }
def FnExactGroupTextWrongFalsely : Prop := fnExactGroupTextRow.holds Tryd.pinned (OpenSpec.ofChange fnExactGroupTextWrong)

/-- 'laws.FnExactVersionText': WHATEVER THE INPUT: true; the input reads as it did. -/
def fnExactVersionTextSpec : ChangeSpec := { name := "fnExactVersionText", fn := fun _ => fun
  | [d] => { results := [.lit (.bool true)], args := [d] }
  | _ => none }
def fnExactVersionTextRow : OpenClaim := { program := "ytpjojmkbccdofaadoor", sum := "f491eb35091a0b31d73da937a276cf638c889064bc5649b1ee2ca2e391925e6f", func := "loop.example/g01013/laws.FnExactVersionText", spec := "fnExactVersionText", named := ["internal/strconv.uint64pow10", "math/bits.deBruijn32tab", "math/bits.deBruijn64tab"], apart := false, laid := [("math/bits.deBruijn32tab", laid_math_bits_deBruijn32tab), ("math/bits.deBruijn64tab", laid_math_bits_deBruijn64tab), ("internal/strconv.uint64pow10", laid_internal_strconv_uint64pow10)] }
def FnExactVersionTextSaid : Prop := fnExactVersionTextRow.holds Tryd.pinned (OpenSpec.ofChange fnExactVersionTextSpec)

/-- ITS FALSE NEIGHBOUR: 'it returns false'. Refute it at one input. -/
def fnExactVersionTextWrong : ChangeSpec := { name := "fnExactVersionText", fn := fun _ => fun
  | [d] => { results := [.lit (.bool false)], args := [d] }
  | _ => none }
def FnExactVersionTextWrongFalsely : Prop := fnExactVersionTextRow.holds Tryd.pinned (OpenSpec.ofChange fnExactVersionTextWrong)

/-- 'laws.FnExactVerifiedText': WHATEVER THE INPUT: true; the input reads as it did. -/
def fnExactVerifiedTextSpec : ChangeSpec := { name := "fnExactVerifiedText", fn := fun _ => fun
  | [d] => { results := [.lit (.bool true)], args := [d] }
  | _ => none }
def fnExactVerifiedTextRow : OpenClaim := { program := "ytpjojmkbccdofaadoor", sum := "f491eb35091a0b31d73da937a276cf638c889064bc5649b1ee2ca2e391925e6f", func := "loop.example/g01013/laws.FnExactVerifiedText", spec := "fnExactVerifiedText", inPlace := ["internal/abi.NoEscape", "internal/bytealg.MakeNoZero"], named := ["internal/strconv.uint64pow10", "math/bits.deBruijn32tab", "math/bits.deBruijn64tab"], apart := false, laid := [("math/bits.deBruijn32tab", laid_math_bits_deBruijn32tab), ("math/bits.deBruijn64tab", laid_math_bits_deBruijn64tab), ("internal/strconv.uint64pow10", laid_internal_strconv_uint64pow10)] }
def FnExactVerifiedTextSaid : Prop := fnExactVerifiedTextRow.holds Tryd.pinned (OpenSpec.ofChange fnExactVerifiedTextSpec)

/-- ITS FALSE NEIGHBOUR: 'it returns false'. Refute it at one input. -/
def fnExactVerifiedTextWrong : ChangeSpec := { name := "fnExactVerifiedText", fn := fun _ => fun
  | [d] => { results := [.lit (.bool false)], args := [d] }
  | _ => none }
def FnExactVerifiedTextWrongFalsely : Prop := fnExactVerifiedTextRow.holds Tryd.pinned (OpenSpec.ofChange fnExactVerifiedTextWrong)

/-- 'laws.FnExactIncidentText': WHATEVER THE INPUT: true; the input reads as it did. -/
def fnExactIncidentTextSpec : ChangeSpec := { name := "fnExactIncidentText", fn := fun _ => fun
  | [d] => { results := [.lit (.bool true)], args := [d] }
  | _ => none }
def fnExactIncidentTextRow : OpenClaim := { program := "ytpjojmkbccdofaadoor", sum := "f491eb35091a0b31d73da937a276cf638c889064bc5649b1ee2ca2e391925e6f", func := "loop.example/g01013/laws.FnExactIncidentText", spec := "fnExactIncidentText", inPlace := ["internal/abi.NoEscape", "internal/bytealg.MakeNoZero"], named := ["internal/strconv.uint64pow10", "math/bits.deBruijn32tab", "math/bits.deBruijn64tab"], apart := false, laid := [("math/bits.deBruijn32tab", laid_math_bits_deBruijn32tab), ("math/bits.deBruijn64tab", laid_math_bits_deBruijn64tab), ("internal/strconv.uint64pow10", laid_internal_strconv_uint64pow10)] }
def FnExactIncidentTextSaid : Prop := fnExactIncidentTextRow.holds Tryd.pinned (OpenSpec.ofChange fnExactIncidentTextSpec)

/-- ITS FALSE NEIGHBOUR: 'it returns false'. Refute it at one input. -/
def fnExactIncidentTextWrong : ChangeSpec := { name := "fnExactIncidentText", fn := fun _ => fun
  | [d] => { results := [.lit (.bool false)], args := [d] }
  | _ => none }
def FnExactIncidentTextWrongFalsely : Prop := fnExactIncidentTextRow.holds Tryd.pinned (OpenSpec.ofChange fnExactIncidentTextWrong)

/- THE SECOND FORM. 'bulk': how many values and letters a reading holds, each counted each time it is reached (what is shared counts as often as it is met; a slice's spare places count too). A statement '..UptoSaid' is the law's where the arguments, and the package variables that the reading takes, are together of bulk at most 1048576: NARROWER than '..Said'. Prove '..Said' where nothing that the law and all that it calls make is longer than what came in: it says more and counts as full. Else prove '..UptoSaid'. A law counts once. -/
mutual
def uptoBulk {H : Type} : DataW H → Nat
  | .lit (.string bytes) => bytes.length + 1
  | .lit _ => 1
  | .nil => 1
  | .ptr d => uptoBulk d + 1
  | .slice elems spare => uptoBulkAll elems + uptoBulkAll spare + 1
  | .agg parts => uptoBulkAll parts + 1
  | .iface _ d => uptoBulk d + 1
  | .map entries => uptoBulkEntries entries + 1
  | .held _ => 1
def uptoBulkAll {H : Type} : List (DataW H) → Nat
  | [] => 0
  | d :: r => uptoBulk d + uptoBulkAll r
def uptoBulkEntries {H : Type} : List (Lit × DataW H) → Nat
  | [] => 0
  | x :: r => uptoBulkEntry x + uptoBulkEntries r
def uptoBulkEntry {H : Type} : Lit × DataW H → Nat
  | (.string bytes, d) => bytes.length + uptoBulk d + 1
  | (_, d) => uptoBulk d + 1
 end
def uptoSmall : (H : Type) → List (DataW H) → Bool := fun _ ds => decide (uptoBulkAll ds ≤ 1048576)
def OpenSpec.upto (s : _root_.Go.ChangeSpec) : _root_.Go.OpenSpec := { _root_.Go.OpenSpec.ofChange s with cond := some uptoSmall }

/-- 'laws.FnExactPartText', WHERE WHAT IT READS IS OF BULK AT MOST 1048576: true; the input reads as it did. -/
def fnExactPartTextUptoRow : OpenClaim := { program := "ytpjojmkbccdofaadoor", sum := "f491eb35091a0b31d73da937a276cf638c889064bc5649b1ee2ca2e391925e6f", func := "loop.example/g01013/laws.FnExactPartText", spec := "fnExactPartText", inPlace := ["internal/abi.NoEscape", "internal/bytealg.MakeNoZero"], named := ["internal/strconv.uint64pow10", "math/bits.deBruijn32tab", "math/bits.deBruijn64tab"], apart := false, laid := [("math/bits.deBruijn32tab", laid_math_bits_deBruijn32tab), ("math/bits.deBruijn64tab", laid_math_bits_deBruijn64tab), ("internal/strconv.uint64pow10", laid_internal_strconv_uint64pow10)], narrowed := true }
def FnExactPartTextUptoSaid : Prop := fnExactPartTextUptoRow.holds Tryd.pinned (OpenSpec.upto fnExactPartTextSpec)

/-- 'laws.FnExactObservedText', WHERE WHAT IT READS IS OF BULK AT MOST 1048576: true; the input reads as it did. -/
def fnExactObservedTextUptoRow : OpenClaim := { program := "ytpjojmkbccdofaadoor", sum := "f491eb35091a0b31d73da937a276cf638c889064bc5649b1ee2ca2e391925e6f", func := "loop.example/g01013/laws.FnExactObservedText", spec := "fnExactObservedText", inPlace := ["internal/abi.NoEscape", "internal/bytealg.MakeNoZero"], named := ["internal/strconv.uint64pow10", "math/bits.deBruijn32tab", "math/bits.deBruijn64tab"], apart := false, laid := [("math/bits.deBruijn32tab", laid_math_bits_deBruijn32tab), ("math/bits.deBruijn64tab", laid_math_bits_deBruijn64tab), ("internal/strconv.uint64pow10", laid_internal_strconv_uint64pow10)], narrowed := true }
def FnExactObservedTextUptoSaid : Prop := fnExactObservedTextUptoRow.holds Tryd.pinned (OpenSpec.upto fnExactObservedTextSpec)

/-- 'laws.FnExactShotText', WHERE WHAT IT READS IS OF BULK AT MOST 1048576: true; the input reads as it did. -/
def fnExactShotTextUptoRow : OpenClaim := { program := "ytpjojmkbccdofaadoor", sum := "f491eb35091a0b31d73da937a276cf638c889064bc5649b1ee2ca2e391925e6f", func := "loop.example/g01013/laws.FnExactShotText", spec := "fnExactShotText", inPlace := ["internal/abi.NoEscape", "internal/bytealg.MakeNoZero"], named := ["internal/strconv.uint64pow10", "math/bits.deBruijn32tab", "math/bits.deBruijn64tab"], apart := false, laid := [("math/bits.deBruijn32tab", laid_math_bits_deBruijn32tab), ("math/bits.deBruijn64tab", laid_math_bits_deBruijn64tab), ("internal/strconv.uint64pow10", laid_internal_strconv_uint64pow10)], narrowed := true }
def FnExactShotTextUptoSaid : Prop := fnExactShotTextUptoRow.holds Tryd.pinned (OpenSpec.upto fnExactShotTextSpec)

/-- 'laws.FnExactStandText', WHERE WHAT IT READS IS OF BULK AT MOST 1048576: true; the input reads as it did. -/
def fnExactStandTextUptoRow : OpenClaim := { program := "ytpjojmkbccdofaadoor", sum := "f491eb35091a0b31d73da937a276cf638c889064bc5649b1ee2ca2e391925e6f", func := "loop.example/g01013/laws.FnExactStandText", spec := "fnExactStandText", inPlace := ["internal/abi.NoEscape", "internal/bytealg.MakeNoZero"], named := ["internal/strconv.uint64pow10", "math/bits.deBruijn32tab", "math/bits.deBruijn64tab"], apart := false, laid := [("math/bits.deBruijn32tab", laid_math_bits_deBruijn32tab), ("math/bits.deBruijn64tab", laid_math_bits_deBruijn64tab), ("internal/strconv.uint64pow10", laid_internal_strconv_uint64pow10)], narrowed := true }
def FnExactStandTextUptoSaid : Prop := fnExactStandTextUptoRow.holds Tryd.pinned (OpenSpec.upto fnExactStandTextSpec)

/-- 'laws.FnExactWatchText', WHERE WHAT IT READS IS OF BULK AT MOST 1048576: true; the input reads as it did. -/
def fnExactWatchTextUptoRow : OpenClaim := { program := "ytpjojmkbccdofaadoor", sum := "f491eb35091a0b31d73da937a276cf638c889064bc5649b1ee2ca2e391925e6f", func := "loop.example/g01013/laws.FnExactWatchText", spec := "fnExactWatchText", inPlace := ["internal/abi.NoEscape", "internal/bytealg.MakeNoZero"], named := ["internal/strconv.uint64pow10", "math/bits.deBruijn32tab", "math/bits.deBruijn64tab"], apart := false, laid := [("math/bits.deBruijn32tab", laid_math_bits_deBruijn32tab), ("math/bits.deBruijn64tab", laid_math_bits_deBruijn64tab), ("internal/strconv.uint64pow10", laid_internal_strconv_uint64pow10)], narrowed := true }
def FnExactWatchTextUptoSaid : Prop := fnExactWatchTextUptoRow.holds Tryd.pinned (OpenSpec.upto fnExactWatchTextSpec)

/-- 'laws.FnExactTestText', WHERE WHAT IT READS IS OF BULK AT MOST 1048576: true; the input reads as it did. -/
def fnExactTestTextUptoRow : OpenClaim := { program := "ytpjojmkbccdofaadoor", sum := "f491eb35091a0b31d73da937a276cf638c889064bc5649b1ee2ca2e391925e6f", func := "loop.example/g01013/laws.FnExactTestText", spec := "fnExactTestText", inPlace := ["internal/abi.NoEscape", "internal/bytealg.MakeNoZero"], named := ["internal/strconv.uint64pow10", "math/bits.deBruijn32tab", "math/bits.deBruijn64tab"], apart := false, laid := [("math/bits.deBruijn32tab", laid_math_bits_deBruijn32tab), ("math/bits.deBruijn64tab", laid_math_bits_deBruijn64tab), ("internal/strconv.uint64pow10", laid_internal_strconv_uint64pow10)], narrowed := true }
def FnExactTestTextUptoSaid : Prop := fnExactTestTextUptoRow.holds Tryd.pinned (OpenSpec.upto fnExactTestTextSpec)

/-- 'laws.FnExactGateText', WHERE WHAT IT READS IS OF BULK AT MOST 1048576: true; the input reads as it did. -/
def fnExactGateTextUptoRow : OpenClaim := { program := "ytpjojmkbccdofaadoor", sum := "f491eb35091a0b31d73da937a276cf638c889064bc5649b1ee2ca2e391925e6f", func := "loop.example/g01013/laws.FnExactGateText", spec := "fnExactGateText", inPlace := ["internal/abi.NoEscape", "internal/bytealg.MakeNoZero"], named := ["internal/strconv.uint64pow10", "math/bits.deBruijn32tab", "math/bits.deBruijn64tab"], apart := false, laid := [("math/bits.deBruijn32tab", laid_math_bits_deBruijn32tab), ("math/bits.deBruijn64tab", laid_math_bits_deBruijn64tab), ("internal/strconv.uint64pow10", laid_internal_strconv_uint64pow10)], narrowed := true }
def FnExactGateTextUptoSaid : Prop := fnExactGateTextUptoRow.holds Tryd.pinned (OpenSpec.upto fnExactGateTextSpec)

/-- 'laws.FnExactGroupText', WHERE WHAT IT READS IS OF BULK AT MOST 1048576: true; the input reads as it did. -/
def fnExactGroupTextUptoRow : OpenClaim := { program := "ytpjojmkbccdofaadoor", sum := "f491eb35091a0b31d73da937a276cf638c889064bc5649b1ee2ca2e391925e6f", func := "loop.example/g01013/laws.FnExactGroupText", spec := "fnExactGroupText", inPlace := ["internal/abi.NoEscape", "internal/bytealg.MakeNoZero"], unfollowed := true, recurses := true, named := ["internal/strconv.uint64pow10", "math/bits.deBruijn32tab", "math/bits.deBruijn64tab"], apart := false, laid := [("math/bits.deBruijn32tab", laid_math_bits_deBruijn32tab), ("math/bits.deBruijn64tab", laid_math_bits_deBruijn64tab), ("internal/strconv.uint64pow10", laid_internal_strconv_uint64pow10)], narrowed := true }
def FnExactGroupTextUptoSaid : Prop := fnExactGroupTextUptoRow.holds Tryd.pinned (OpenSpec.upto fnExactGroupTextSpec)

/-- 'laws.FnExactVersionText', WHERE WHAT IT READS IS OF BULK AT MOST 1048576: true; the input reads as it did. -/
def fnExactVersionTextUptoRow : OpenClaim := { program := "ytpjojmkbccdofaadoor", sum := "f491eb35091a0b31d73da937a276cf638c889064bc5649b1ee2ca2e391925e6f", func := "loop.example/g01013/laws.FnExactVersionText", spec := "fnExactVersionText", named := ["internal/strconv.uint64pow10", "math/bits.deBruijn32tab", "math/bits.deBruijn64tab"], apart := false, laid := [("math/bits.deBruijn32tab", laid_math_bits_deBruijn32tab), ("math/bits.deBruijn64tab", laid_math_bits_deBruijn64tab), ("internal/strconv.uint64pow10", laid_internal_strconv_uint64pow10)], narrowed := true }
def FnExactVersionTextUptoSaid : Prop := fnExactVersionTextUptoRow.holds Tryd.pinned (OpenSpec.upto fnExactVersionTextSpec)

/-- 'laws.FnExactVerifiedText', WHERE WHAT IT READS IS OF BULK AT MOST 1048576: true; the input reads as it did. -/
def fnExactVerifiedTextUptoRow : OpenClaim := { program := "ytpjojmkbccdofaadoor", sum := "f491eb35091a0b31d73da937a276cf638c889064bc5649b1ee2ca2e391925e6f", func := "loop.example/g01013/laws.FnExactVerifiedText", spec := "fnExactVerifiedText", inPlace := ["internal/abi.NoEscape", "internal/bytealg.MakeNoZero"], named := ["internal/strconv.uint64pow10", "math/bits.deBruijn32tab", "math/bits.deBruijn64tab"], apart := false, laid := [("math/bits.deBruijn32tab", laid_math_bits_deBruijn32tab), ("math/bits.deBruijn64tab", laid_math_bits_deBruijn64tab), ("internal/strconv.uint64pow10", laid_internal_strconv_uint64pow10)], narrowed := true }
def FnExactVerifiedTextUptoSaid : Prop := fnExactVerifiedTextUptoRow.holds Tryd.pinned (OpenSpec.upto fnExactVerifiedTextSpec)

/-- 'laws.FnExactIncidentText', WHERE WHAT IT READS IS OF BULK AT MOST 1048576: true; the input reads as it did. -/
def fnExactIncidentTextUptoRow : OpenClaim := { program := "ytpjojmkbccdofaadoor", sum := "f491eb35091a0b31d73da937a276cf638c889064bc5649b1ee2ca2e391925e6f", func := "loop.example/g01013/laws.FnExactIncidentText", spec := "fnExactIncidentText", inPlace := ["internal/abi.NoEscape", "internal/bytealg.MakeNoZero"], named := ["internal/strconv.uint64pow10", "math/bits.deBruijn32tab", "math/bits.deBruijn64tab"], apart := false, laid := [("math/bits.deBruijn32tab", laid_math_bits_deBruijn32tab), ("math/bits.deBruijn64tab", laid_math_bits_deBruijn64tab), ("internal/strconv.uint64pow10", laid_internal_strconv_uint64pow10)], narrowed := true }
def FnExactIncidentTextUptoSaid : Prop := fnExactIncidentTextUptoRow.holds Tryd.pinned (OpenSpec.upto fnExactIncidentTextSpec)

end Rows
end Go.Proofs.YtpjojmkbccdofaaDoor
