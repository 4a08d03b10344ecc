/-
  NARROWER THAN 'FOR EVERY INPUT', by the rows' own cells (each row's printed sentence says how): Hashes: laid · Roots: laid · Known: laid · Encodes: laid · Included: laid · Proves: laid · Consistent: laid · Decodes: laid.
  DERIVED. THE GIVEN ROWS OF THIS SEAT. 8 by the template 'for every input the law returns true; each argument reads behind the call as it read before'; 0 by the template 'total and deterministic' (their statements: YtlmecmapkijcnaaDoorTotals.lean).
  GIVEN WITH THE SEED: the statements are not yours to turn. If you find one false, say at which input.
  Laid BY PROGRAM, IN A SANDBOX (cutbox-rows.mjs): the forced cells as the released guide's own fill.sh prints them over the translation 138b57b53319757c… (all of the seat's roots in one cut). By AI agents, Wed Nov 11 2026. No macro, syntax, notation, axiom, sorry.
-/
import Derived.Test.YtlmecmapkijcnaaDoorChecked
import GoSem.Claim
import GoSem.ClaimJoined
import GoSem.ClaimMapViews
import Derived.JoinedTies
import Derived.KernelRfl
namespace Go.Proofs.YtlmecmapkijcnaaDoor
/- THE CELL 'sum', in the pinned program and in every row, IS THE sha256 OF THE DUMP (.gsa) THAT YtlmecmapkijcnaaDoorProg.lean LOADS. Nothing in Lean hashes anything: it is a label: what it is worth is what the hold of that sum in a sandbox is worth. -/
noncomputable def Tryd.pinned : Pinned := { name := "ytlmecmapkijcnaadoor", sum := "138b57b53319757cb570d98135a4f299d74aa45ba3be3774afc04ec5fad62ea0", checked := Tryd.checked }
namespace Rows
def none {H : Type} : Left H := { results := [], args := [] }

/- WHAT THE LISTED PACKAGE-LEVEL VARIABLES READ AS WHEN THE CALL BEGINS. Each datum BY PROGRAM (the guide's laid-datum.mjs) off the statement by which the dump's own 'gosem.cut.vars' lays the variable. In a bare row this is a premise. The card (YtlmecmapkijcnaaDoorCards.lean) ties it to the program's text. -/
def laid_forks_sums_words {H : Type} : DataW H := .agg [.lit (.int .u32 1116352408), .lit (.int .u32 1899447441), .lit (.int .u32 3049323471), .lit (.int .u32 3921009573), .lit (.int .u32 961987163), .lit (.int .u32 1508970993), .lit (.int .u32 2453635748), .lit (.int .u32 2870763221), .lit (.int .u32 3624381080), .lit (.int .u32 310598401), .lit (.int .u32 607225278), .lit (.int .u32 1426881987), .lit (.int .u32 1925078388), .lit (.int .u32 2162078206), .lit (.int .u32 2614888103), .lit (.int .u32 3248222580), .lit (.int .u32 3835390401), .lit (.int .u32 4022224774), .lit (.int .u32 264347078), .lit (.int .u32 604807628), .lit (.int .u32 770255983), .lit (.int .u32 1249150122), .lit (.int .u32 1555081692), .lit (.int .u32 1996064986), .lit (.int .u32 2554220882), .lit (.int .u32 2821834349), .lit (.int .u32 2952996808), .lit (.int .u32 3210313671), .lit (.int .u32 3336571891), .lit (.int .u32 3584528711), .lit (.int .u32 113926993), .lit (.int .u32 338241895), .lit (.int .u32 666307205), .lit (.int .u32 773529912), .lit (.int .u32 1294757372), .lit (.int .u32 1396182291), .lit (.int .u32 1695183700), .lit (.int .u32 1986661051), .lit (.int .u32 2177026350), .lit (.int .u32 2456956037), .lit (.int .u32 2730485921), .lit (.int .u32 2820302411), .lit (.int .u32 3259730800), .lit (.int .u32 3345764771), .lit (.int .u32 3516065817), .lit (.int .u32 3600352804), .lit (.int .u32 4094571909), .lit (.int .u32 275423344), .lit (.int .u32 430227734), .lit (.int .u32 506948616), .lit (.int .u32 659060556), .lit (.int .u32 883997877), .lit (.int .u32 958139571), .lit (.int .u32 1322822218), .lit (.int .u32 1537002063), .lit (.int .u32 1747873779), .lit (.int .u32 1955562222), .lit (.int .u32 2024104815), .lit (.int .u32 2227730452), .lit (.int .u32 2361852424), .lit (.int .u32 2428436474), .lit (.int .u32 2756734187), .lit (.int .u32 3204031479), .lit (.int .u32 3329325298)]
def laid_forks_sums_first {H : Type} : DataW H := .agg [.lit (.int .u32 1779033703), .lit (.int .u32 3144134277), .lit (.int .u32 1013904242), .lit (.int .u32 2773480762), .lit (.int .u32 1359893119), .lit (.int .u32 2600822924), .lit (.int .u32 528734635), .lit (.int .u32 1541459225)]
def laid_errors_errorType {H : Type} : DataW H := .iface "internal/reflectlite.rtype" (.agg [.ptr (.lit (.string [101, 114, 114, 111, 114]))])

/-- 'forkslaw.Hashes': WHATEVER THE INPUT: true; the input reads as it did. -/
def hashesSpec : ChangeSpec := { name := "hashes", fn := fun _ => fun
  | [d] => { results := [.lit (.bool true)], args := [d] }
  | _ => none }
def hashesRow : OpenClaim := { program := "ytlmecmapkijcnaadoor", sum := "138b57b53319757cb570d98135a4f299d74aa45ba3be3774afc04ec5fad62ea0", func := "forks/forkslaw.Hashes", spec := "hashes", named := ["forks/sums.first", "forks/sums.words"], apart := false, laid := [("forks/sums.words", laid_forks_sums_words), ("forks/sums.first", laid_forks_sums_first)] }
def HashesSaid : Prop := hashesRow.holds Tryd.pinned (OpenSpec.ofChange hashesSpec)

/-- ITS FALSE NEIGHBOUR: 'it returns false'. Refute it at one input. -/
def hashesWrong : ChangeSpec := { name := "hashes", fn := fun _ => fun
  | [d] => { results := [.lit (.bool false)], args := [d] }
  | _ => none }
def HashesWrongFalsely : Prop := hashesRow.holds Tryd.pinned (OpenSpec.ofChange hashesWrong)

/-- 'forkslaw.Roots': WHATEVER THE INPUT: true; the input reads as it did. -/
def rootsSpec : ChangeSpec := { name := "roots", fn := fun _ => fun
  | [d1, d2] => { results := [.lit (.bool true)], args := [d1, d2] }
  | _ => none }
def rootsRow : OpenClaim := { program := "ytlmecmapkijcnaadoor", sum := "138b57b53319757cb570d98135a4f299d74aa45ba3be3774afc04ec5fad62ea0", func := "forks/forkslaw.Roots", spec := "roots", inPlace := ["(*sync.WaitGroup).Add", "internal/race.ReleaseMerge", "internal/race.Disable", "internal/race.Enable", "internal/synctest.IsInBubble", "internal/synctest.Associate[sync.WaitGroup]", "sync.fatal", "sync/atomic.OrUint64", "sync/atomic.AddUint64", "internal/race.Read", "sync/atomic.LoadUint64", "sync/atomic.StoreUint64", "internal/synctest.Disassociate[sync.WaitGroup]", "sync.runtime_Semrelease", "(*sync.WaitGroup).Done", "sync/atomic.AddInt64", "(*sync.WaitGroup).Wait", "internal/race.Acquire", "internal/synctest.IsAssociated[sync.WaitGroup]", "sync/atomic.CompareAndSwapUint64", "internal/race.Write", "sync.runtime_SemacquireWaitGroup"], unfollowed := true, recurses := true, named := ["forks/sums.first", "forks/sums.words"], leaving := true, apart := false, laid := [("forks/sums.words", laid_forks_sums_words), ("forks/sums.first", laid_forks_sums_first)] }
def RootsSaid : Prop := rootsRow.holds Tryd.pinned (OpenSpec.ofChange rootsSpec)

/-- ITS FALSE NEIGHBOUR: 'it returns false'. Refute it at one input. -/
def rootsWrong : ChangeSpec := { name := "roots", fn := fun _ => fun
  | [d1, d2] => { results := [.lit (.bool false)], args := [d1, d2] }
  | _ => none }
def RootsWrongFalsely : Prop := rootsRow.holds Tryd.pinned (OpenSpec.ofChange rootsWrong)

/-- 'forkskeep.Known': WHATEVER THE INPUT: true; the input reads as it did. -/
def knownSpec : ChangeSpec := { name := "known", fn := fun _ => fun
  | [] => { results := [.lit (.bool true)], args := [] }
  | _ => none }
def knownRow : OpenClaim := { program := "ytlmecmapkijcnaadoor", sum := "138b57b53319757cb570d98135a4f299d74aa45ba3be3774afc04ec5fad62ea0", func := "forks/forkskeep.Known", spec := "known", inPlace := ["(*sync.WaitGroup).Add", "internal/race.ReleaseMerge", "internal/race.Disable", "internal/race.Enable", "internal/synctest.IsInBubble", "internal/synctest.Associate[sync.WaitGroup]", "sync.fatal", "sync/atomic.OrUint64", "sync/atomic.AddUint64", "internal/race.Read", "sync/atomic.LoadUint64", "sync/atomic.StoreUint64", "internal/synctest.Disassociate[sync.WaitGroup]", "sync.runtime_Semrelease", "(*sync.WaitGroup).Done", "sync/atomic.AddInt64", "(*sync.WaitGroup).Wait", "internal/race.Acquire", "internal/synctest.IsAssociated[sync.WaitGroup]", "sync/atomic.CompareAndSwapUint64", "internal/race.Write", "sync.runtime_SemacquireWaitGroup"], unfollowed := true, recurses := true, named := ["forks/sums.first", "forks/sums.words"], leaving := true, apart := false, laid := [("forks/sums.words", laid_forks_sums_words), ("forks/sums.first", laid_forks_sums_first)] }
def KnownSaid : Prop := knownRow.holds Tryd.pinned (OpenSpec.ofChange knownSpec)

/-- ITS FALSE NEIGHBOUR: 'it returns false'. Refute it at one input. -/
def knownWrong : ChangeSpec := { name := "known", fn := fun _ => fun
  | [] => { results := [.lit (.bool false)], args := [] }
  | _ => none }
def KnownWrongFalsely : Prop := knownRow.holds Tryd.pinned (OpenSpec.ofChange knownWrong)

/-- 'forkslaw.Encodes': WHATEVER THE INPUT: true; the input reads as it did. -/
def encodesSpec : ChangeSpec := { name := "encodes", fn := fun _ => fun
  | [d] => { results := [.lit (.bool true)], args := [d] }
  | _ => none }
def encodesRow : OpenClaim := { program := "ytlmecmapkijcnaadoor", sum := "138b57b53319757cb570d98135a4f299d74aa45ba3be3774afc04ec5fad62ea0", func := "forks/forkslaw.Encodes", spec := "encodes", inPlace := ["internal/reflectlite.TypeOf", "internal/reflectlite.ValueOf", "(internal/reflectlite.Value).Type", "(internal/reflectlite.Value).IsNil", "(internal/reflectlite.Value).Elem", "(internal/reflectlite.Value).Set"], unfollowed := true, recurses := true, named := ["errors.errorType"], leaving := true, apart := false, laid := [("errors.errorType", laid_errors_errorType)] }
def EncodesSaid : Prop := encodesRow.holds Tryd.pinned (OpenSpec.ofChange encodesSpec)

/-- ITS FALSE NEIGHBOUR: 'it returns false'. Refute it at one input. -/
def encodesWrong : ChangeSpec := { name := "encodes", fn := fun _ => fun
  | [d] => { results := [.lit (.bool false)], args := [d] }
  | _ => none }
def EncodesWrongFalsely : Prop := encodesRow.holds Tryd.pinned (OpenSpec.ofChange encodesWrong)

/-- 'forkslaw.Included': WHATEVER THE INPUT: true; the input reads as it did. -/
def includedSpec : ChangeSpec := { name := "included", fn := fun _ => fun
  | [d1, d2, d3, d4, d5] => { results := [.lit (.bool true)], args := [d1, d2, d3, d4, d5] }
  | _ => none }
def includedRow : OpenClaim := { program := "ytlmecmapkijcnaadoor", sum := "138b57b53319757cb570d98135a4f299d74aa45ba3be3774afc04ec5fad62ea0", func := "forks/forkslaw.Included", spec := "included", inPlace := ["internal/reflectlite.TypeOf", "internal/reflectlite.ValueOf", "(internal/reflectlite.Value).Type", "(internal/reflectlite.Value).IsNil", "(internal/reflectlite.Value).Elem", "(internal/reflectlite.Value).Set"], unfollowed := true, recurses := true, named := ["forks/sums.first", "forks/sums.words", "errors.errorType"], leaving := true, apart := false, laid := [("forks/sums.words", laid_forks_sums_words), ("forks/sums.first", laid_forks_sums_first), ("errors.errorType", laid_errors_errorType)] }
def IncludedSaid : Prop := includedRow.holds Tryd.pinned (OpenSpec.ofChange includedSpec)

/-- ITS FALSE NEIGHBOUR: 'it returns false'. Refute it at one input. -/
def includedWrong : ChangeSpec := { name := "included", fn := fun _ => fun
  | [d1, d2, d3, d4, d5] => { results := [.lit (.bool false)], args := [d1, d2, d3, d4, d5] }
  | _ => none }
def IncludedWrongFalsely : Prop := includedRow.holds Tryd.pinned (OpenSpec.ofChange includedWrong)

/-- 'forkslaw.Proves': WHATEVER THE INPUT: true; the input reads as it did. -/
def provesSpec : ChangeSpec := { name := "proves", fn := fun _ => fun
  | [d1, d2, d3] => { results := [.lit (.bool true)], args := [d1, d2, d3] }
  | _ => none }
def provesRow : OpenClaim := { program := "ytlmecmapkijcnaadoor", sum := "138b57b53319757cb570d98135a4f299d74aa45ba3be3774afc04ec5fad62ea0", func := "forks/forkslaw.Proves", spec := "proves", inPlace := ["internal/reflectlite.TypeOf", "internal/reflectlite.ValueOf", "(internal/reflectlite.Value).Type", "(internal/reflectlite.Value).IsNil", "(internal/reflectlite.Value).Elem", "(internal/reflectlite.Value).Set"], unfollowed := true, recurses := true, named := ["forks/sums.first", "forks/sums.words", "errors.errorType"], leaving := true, apart := false, laid := [("forks/sums.words", laid_forks_sums_words), ("forks/sums.first", laid_forks_sums_first), ("errors.errorType", laid_errors_errorType)] }
def ProvesSaid : Prop := provesRow.holds Tryd.pinned (OpenSpec.ofChange provesSpec)

/-- ITS FALSE NEIGHBOUR: 'it returns false'. Refute it at one input. -/
def provesWrong : ChangeSpec := { name := "proves", fn := fun _ => fun
  | [d1, d2, d3] => { results := [.lit (.bool false)], args := [d1, d2, d3] }
  | _ => none }
def ProvesWrongFalsely : Prop := provesRow.holds Tryd.pinned (OpenSpec.ofChange provesWrong)

/-- 'forkslaw.Consistent': WHATEVER THE INPUT: true; the input reads as it did. -/
def consistentSpec : ChangeSpec := { name := "consistent", fn := fun _ => fun
  | [d1, d2, d3, d4, d5] => { results := [.lit (.bool true)], args := [d1, d2, d3, d4, d5] }
  | _ => none }
def consistentRow : OpenClaim := { program := "ytlmecmapkijcnaadoor", sum := "138b57b53319757cb570d98135a4f299d74aa45ba3be3774afc04ec5fad62ea0", func := "forks/forkslaw.Consistent", spec := "consistent", inPlace := ["internal/reflectlite.TypeOf", "internal/reflectlite.ValueOf", "(internal/reflectlite.Value).Type", "(internal/reflectlite.Value).IsNil", "(internal/reflectlite.Value).Elem", "(internal/reflectlite.Value).Set"], unfollowed := true, recurses := true, named := ["forks/sums.first", "forks/sums.words", "errors.errorType"], leaving := true, apart := false, laid := [("forks/sums.words", laid_forks_sums_words), ("forks/sums.first", laid_forks_sums_first), ("errors.errorType", laid_errors_errorType)] }
def ConsistentSaid : Prop := consistentRow.holds Tryd.pinned (OpenSpec.ofChange consistentSpec)

/-- ITS FALSE NEIGHBOUR: 'it returns false'. Refute it at one input. -/
def consistentWrong : ChangeSpec := { name := "consistent", fn := fun _ => fun
  | [d1, d2, d3, d4, d5] => { results := [.lit (.bool false)], args := [d1, d2, d3, d4, d5] }
  | _ => none }
def ConsistentWrongFalsely : Prop := consistentRow.holds Tryd.pinned (OpenSpec.ofChange consistentWrong)

/-- 'forkslaw.Decodes': WHATEVER THE INPUT: true; the input reads as it did. -/
def decodesSpec : ChangeSpec := { name := "decodes", fn := fun _ => fun
  | [d] => { results := [.lit (.bool true)], args := [d] }
  | _ => none }
def decodesRow : OpenClaim := { program := "ytlmecmapkijcnaadoor", sum := "138b57b53319757cb570d98135a4f299d74aa45ba3be3774afc04ec5fad62ea0", func := "forks/forkslaw.Decodes", spec := "decodes", inPlace := ["internal/reflectlite.TypeOf", "internal/reflectlite.ValueOf", "(internal/reflectlite.Value).Type", "(internal/reflectlite.Value).IsNil", "(internal/reflectlite.Value).Elem", "(internal/reflectlite.Value).Set"], unfollowed := true, recurses := true, named := ["errors.errorType"], leaving := true, apart := false, laid := [("errors.errorType", laid_errors_errorType)] }
def DecodesSaid : Prop := decodesRow.holds Tryd.pinned (OpenSpec.ofChange decodesSpec)

/-- ITS FALSE NEIGHBOUR: 'it returns false'. Refute it at one input. -/
def decodesWrong : ChangeSpec := { name := "decodes", fn := fun _ => fun
  | [d] => { results := [.lit (.bool false)], args := [d] }
  | _ => none }
def DecodesWrongFalsely : Prop := decodesRow.holds Tryd.pinned (OpenSpec.ofChange decodesWrong)

/- THE SECOND FORM. 'bulk': how many values and letters a reading holds, each counted each time it is reached (what is shared counts as often as it is met; a slice's spare places count too). A statement '..UptoSaid' is the law's where the arguments, and the package variables that the reading takes, are together of bulk at most 1048576: NARROWER than '..Said'. Prove '..Said' where nothing that the law and all that it calls make is longer than what came in: it says more and counts as full. Else prove '..UptoSaid'. A law counts once. -/
mutual
def uptoBulk {H : Type} : DataW H → Nat
  | .lit (.string bytes) => bytes.length + 1
  | .lit _ => 1
  | .nil => 1
  | .ptr d => uptoBulk d + 1
  | .slice elems spare => uptoBulkAll elems + uptoBulkAll spare + 1
  | .agg parts => uptoBulkAll parts + 1
  | .iface _ d => uptoBulk d + 1
  | .map entries => uptoBulkEntries entries + 1
  | .held _ => 1
def uptoBulkAll {H : Type} : List (DataW H) → Nat
  | [] => 0
  | d :: r => uptoBulk d + uptoBulkAll r
def uptoBulkEntries {H : Type} : List (Lit × DataW H) → Nat
  | [] => 0
  | x :: r => uptoBulkEntry x + uptoBulkEntries r
def uptoBulkEntry {H : Type} : Lit × DataW H → Nat
  | (.string bytes, d) => bytes.length + uptoBulk d + 1
  | (_, d) => uptoBulk d + 1
 end
def uptoSmall : (H : Type) → List (DataW H) → Bool := fun _ ds => decide (uptoBulkAll ds ≤ 1048576)
def OpenSpec.upto (s : _root_.Go.ChangeSpec) : _root_.Go.OpenSpec := { _root_.Go.OpenSpec.ofChange s with cond := some uptoSmall }

/-- 'forkslaw.Hashes', WHERE WHAT IT READS IS OF BULK AT MOST 1048576: true; the input reads as it did. -/
def hashesUptoRow : OpenClaim := { program := "ytlmecmapkijcnaadoor", sum := "138b57b53319757cb570d98135a4f299d74aa45ba3be3774afc04ec5fad62ea0", func := "forks/forkslaw.Hashes", spec := "hashes", named := ["forks/sums.first", "forks/sums.words"], apart := false, laid := [("forks/sums.words", laid_forks_sums_words), ("forks/sums.first", laid_forks_sums_first)], narrowed := true }
def HashesUptoSaid : Prop := hashesUptoRow.holds Tryd.pinned (OpenSpec.upto hashesSpec)

/-- 'forkslaw.Roots', WHERE WHAT IT READS IS OF BULK AT MOST 1048576: true; the input reads as it did. -/
def rootsUptoRow : OpenClaim := { program := "ytlmecmapkijcnaadoor", sum := "138b57b53319757cb570d98135a4f299d74aa45ba3be3774afc04ec5fad62ea0", func := "forks/forkslaw.Roots", spec := "roots", inPlace := ["(*sync.WaitGroup).Add", "internal/race.ReleaseMerge", "internal/race.Disable", "internal/race.Enable", "internal/synctest.IsInBubble", "internal/synctest.Associate[sync.WaitGroup]", "sync.fatal", "sync/atomic.OrUint64", "sync/atomic.AddUint64", "internal/race.Read", "sync/atomic.LoadUint64", "sync/atomic.StoreUint64", "internal/synctest.Disassociate[sync.WaitGroup]", "sync.runtime_Semrelease", "(*sync.WaitGroup).Done", "sync/atomic.AddInt64", "(*sync.WaitGroup).Wait", "internal/race.Acquire", "internal/synctest.IsAssociated[sync.WaitGroup]", "sync/atomic.CompareAndSwapUint64", "internal/race.Write", "sync.runtime_SemacquireWaitGroup"], unfollowed := true, recurses := true, named := ["forks/sums.first", "forks/sums.words"], leaving := true, apart := false, laid := [("forks/sums.words", laid_forks_sums_words), ("forks/sums.first", laid_forks_sums_first)], narrowed := true }
def RootsUptoSaid : Prop := rootsUptoRow.holds Tryd.pinned (OpenSpec.upto rootsSpec)

/-- 'forkskeep.Known', WHERE WHAT IT READS IS OF BULK AT MOST 1048576: true; the input reads as it did. -/
def knownUptoRow : OpenClaim := { program := "ytlmecmapkijcnaadoor", sum := "138b57b53319757cb570d98135a4f299d74aa45ba3be3774afc04ec5fad62ea0", func := "forks/forkskeep.Known", spec := "known", inPlace := ["(*sync.WaitGroup).Add", "internal/race.ReleaseMerge", "internal/race.Disable", "internal/race.Enable", "internal/synctest.IsInBubble", "internal/synctest.Associate[sync.WaitGroup]", "sync.fatal", "sync/atomic.OrUint64", "sync/atomic.AddUint64", "internal/race.Read", "sync/atomic.LoadUint64", "sync/atomic.StoreUint64", "internal/synctest.Disassociate[sync.WaitGroup]", "sync.runtime_Semrelease", "(*sync.WaitGroup).Done", "sync/atomic.AddInt64", "(*sync.WaitGroup).Wait", "internal/race.Acquire", "internal/synctest.IsAssociated[sync.WaitGroup]", "sync/atomic.CompareAndSwapUint64", "internal/race.Write", "sync.runtime_SemacquireWaitGroup"], unfollowed := true, recurses := true, named := ["forks/sums.first", "forks/sums.words"], leaving := true, apart := false, laid := [("forks/sums.words", laid_forks_sums_words), ("forks/sums.first", laid_forks_sums_first)], narrowed := true }
def KnownUptoSaid : Prop := knownUptoRow.holds Tryd.pinned (OpenSpec.upto knownSpec)

/-- 'forkslaw.Encodes', WHERE WHAT IT READS IS OF BULK AT MOST 1048576: true; the input reads as it did. -/
def encodesUptoRow : OpenClaim := { program := "ytlmecmapkijcnaadoor", sum := "138b57b53319757cb570d98135a4f299d74aa45ba3be3774afc04ec5fad62ea0", func := "forks/forkslaw.Encodes", spec := "encodes", inPlace := ["internal/reflectlite.TypeOf", "internal/reflectlite.ValueOf", "(internal/reflectlite.Value).Type", "(internal/reflectlite.Value).IsNil", "(internal/reflectlite.Value).Elem", "(internal/reflectlite.Value).Set"], unfollowed := true, recurses := true, named := ["errors.errorType"], leaving := true, apart := false, laid := [("errors.errorType", laid_errors_errorType)], narrowed := true }
def EncodesUptoSaid : Prop := encodesUptoRow.holds Tryd.pinned (OpenSpec.upto encodesSpec)

/-- 'forkslaw.Included', WHERE WHAT IT READS IS OF BULK AT MOST 1048576: true; the input reads as it did. -/
def includedUptoRow : OpenClaim := { program := "ytlmecmapkijcnaadoor", sum := "138b57b53319757cb570d98135a4f299d74aa45ba3be3774afc04ec5fad62ea0", func := "forks/forkslaw.Included", spec := "included", inPlace := ["internal/reflectlite.TypeOf", "internal/reflectlite.ValueOf", "(internal/reflectlite.Value).Type", "(internal/reflectlite.Value).IsNil", "(internal/reflectlite.Value).Elem", "(internal/reflectlite.Value).Set"], unfollowed := true, recurses := true, named := ["forks/sums.first", "forks/sums.words", "errors.errorType"], leaving := true, apart := false, laid := [("forks/sums.words", laid_forks_sums_words), ("forks/sums.first", laid_forks_sums_first), ("errors.errorType", laid_errors_errorType)], narrowed := true }
def IncludedUptoSaid : Prop := includedUptoRow.holds Tryd.pinned (OpenSpec.upto includedSpec)

/-- 'forkslaw.Proves', WHERE WHAT IT READS IS OF BULK AT MOST 1048576: true; the input reads as it did. -/
def provesUptoRow : OpenClaim := { program := "ytlmecmapkijcnaadoor", sum := "138b57b53319757cb570d98135a4f299d74aa45ba3be3774afc04ec5fad62ea0", func := "forks/forkslaw.Proves", spec := "proves", inPlace := ["internal/reflectlite.TypeOf", "internal/reflectlite.ValueOf", "(internal/reflectlite.Value).Type", "(internal/reflectlite.Value).IsNil", "(internal/reflectlite.Value).Elem", "(internal/reflectlite.Value).Set"], unfollowed := true, recurses := true, named := ["forks/sums.first", "forks/sums.words", "errors.errorType"], leaving := true, apart := false, laid := [("forks/sums.words", laid_forks_sums_words), ("forks/sums.first", laid_forks_sums_first), ("errors.errorType", laid_errors_errorType)], narrowed := true }
def ProvesUptoSaid : Prop := provesUptoRow.holds Tryd.pinned (OpenSpec.upto provesSpec)

/-- 'forkslaw.Consistent', WHERE WHAT IT READS IS OF BULK AT MOST 1048576: true; the input reads as it did. -/
def consistentUptoRow : OpenClaim := { program := "ytlmecmapkijcnaadoor", sum := "138b57b53319757cb570d98135a4f299d74aa45ba3be3774afc04ec5fad62ea0", func := "forks/forkslaw.Consistent", spec := "consistent", inPlace := ["internal/reflectlite.TypeOf", "internal/reflectlite.ValueOf", "(internal/reflectlite.Value).Type", "(internal/reflectlite.Value).IsNil", "(internal/reflectlite.Value).Elem", "(internal/reflectlite.Value).Set"], unfollowed := true, recurses := true, named := ["forks/sums.first", "forks/sums.words", "errors.errorType"], leaving := true, apart := false, laid := [("forks/sums.words", laid_forks_sums_words), ("forks/sums.first", laid_forks_sums_first), ("errors.errorType", laid_errors_errorType)], narrowed := true }
def ConsistentUptoSaid : Prop := consistentUptoRow.holds Tryd.pinned (OpenSpec.upto consistentSpec)

/-- 'forkslaw.Decodes', WHERE WHAT IT READS IS OF BULK AT MOST 1048576: true; the input reads as it did. -/
def decodesUptoRow : OpenClaim := { program := "ytlmecmapkijcnaadoor", sum := "138b57b53319757cb570d98135a4f299d74aa45ba3be3774afc04ec5fad62ea0", func := "forks/forkslaw.Decodes", spec := "decodes", inPlace := ["internal/reflectlite.TypeOf", "internal/reflectlite.ValueOf", "(internal/reflectlite.Value).Type", "(internal/reflectlite.Value).IsNil", "(internal/reflectlite.Value).Elem", "(internal/reflectlite.Value).Set"], unfollowed := true, recurses := true, named := ["errors.errorType"], leaving := true, apart := false, laid := [("errors.errorType", laid_errors_errorType)], narrowed := true }
def DecodesUptoSaid : Prop := decodesUptoRow.holds Tryd.pinned (OpenSpec.upto decodesSpec)

end Rows
end Go.Proofs.YtlmecmapkijcnaaDoor
