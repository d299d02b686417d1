/- What is proved: facts of the program's types, in the form that the calculus asks. Conditions: none. -/
import Derived.Test.YtlghgdgpbnlpmaaWk
import Derived.ChangeKeysEq
namespace Go.Proofs.Ytlghgdgpbnlpmaa
open Go.RowKit
set_option maxRecDepth 100000

instance one2 : One Try.prog 2 := ⟨Try.isAgg2, Try.sizeOf2⟩
instance one3 : One Try.prog 3 := ⟨Try.isAgg3, Try.sizeOf3⟩
instance ze3 : Ze Try.prog 3 [Value.int IntKind.i64 0] := ⟨_, Try.zeroValue3, rfl⟩
instance one5 : One Try.prog 5 := ⟨Try.isAgg5, Try.sizeOf5⟩
instance one9 : One Try.prog 9 := ⟨Try.isAgg9, Try.sizeOf9⟩
instance st9 : StT Try.prog 9 := ⟨Try.underlying9⟩
instance one22 : One Try.prog 22 := ⟨Try.isAgg22, Try.sizeOf22⟩
instance one24 : One Try.prog 24 := ⟨Try.isAgg24, Try.sizeOf24⟩
instance sl24 : SlT Try.prog 24 68 11 136 := ⟨Try.underlying24, ⟨Try.t68, _, by kernel_rfl, rfl, rfl, rfl, rfl⟩, by decide⟩
instance ag26 : Ag Try.prog 26 1 := ⟨Try.isAgg26, Try.sizeOf26⟩
instance bd26 : BdT Try.prog 26 [Value.slice none 0 0] [(0, 1)] := bd_struct Try.zeroValue26 rfl Try.underlying26 (fun w => by simp [Try.sizeOf24])
instance ze26 : Ze Try.prog 26 [Value.slice none 0 0] := ⟨_, Try.zeroValue26, rfl⟩
instance fld26_0 : Fld Try.prog 26 0 0 := ⟨fun A w => by simp [Instr.fieldAt, Try.runUnderlying26, Instr.sureAddr, fieldPlace, Try.sizeOf24]⟩
instance ag28 : Ag Try.prog 28 1 := ⟨Try.isAgg28, Try.sizeOf28⟩
instance ze28 : Ze Try.prog 28 [Value.slice none 0 0] := ⟨_, Try.zeroValue28, rfl⟩
instance fld28_0 : Fld Try.prog 28 0 0 := ⟨fun A w => by simp [Instr.fieldAt, Try.runUnderlying28, Instr.sureAddr, fieldPlace, Try.sizeOf26]⟩
instance ag30 : Ag Try.prog 30 4 := ⟨Try.isAgg30, Try.sizeOf30⟩
instance bd30 : BdT Try.prog 30 [Value.int IntKind.i64 0, Value.int IntKind.i64 0, Value.int IntKind.i64 0, Value.int IntKind.i64 0] [(0, 1), (1, 1), (2, 1), (3, 1)] := bd_array Try.zeroValue30 rfl Try.underlying30 Try.sizeOf2 (fun i x hx => by
  match i, hx with
  | 0, hx => simpa using hx
  | 1, hx => simpa using hx
  | 2, hx => simpa using hx
  | 3, hx => simpa using hx
  | i + 4, hx => simp at hx)
instance ze30 : Ze Try.prog 30 [Value.int IntKind.i64 0, Value.int IntKind.i64 0, Value.int IntKind.i64 0, Value.int IntKind.i64 0] := ⟨_, Try.zeroValue30, rfl⟩
instance ar30 : ArT Try.prog 30 4 2 1 := ⟨Try.underlying30, Try.sizeOf2, by decide⟩
instance one31 : One Try.prog 31 := ⟨Try.isAgg31, Try.sizeOf31⟩
instance sl31 : SlT Try.prog 31 81 4 40 := ⟨Try.underlying31, ⟨Try.t81, _, by kernel_rfl, rfl, rfl, rfl, rfl⟩, by decide⟩
instance one32 : One Try.prog 32 := ⟨Try.isAgg32, Try.sizeOf32⟩
instance sl32 : SlT Try.prog 32 83 3 64 := ⟨Try.underlying32, ⟨Try.t83, _, by kernel_rfl, rfl, rfl, rfl, rfl⟩, by decide⟩
instance ag34 : Ag Try.prog 34 2 := ⟨Try.isAgg34, Try.sizeOf34⟩
instance bd34 : BdT Try.prog 34 [Value.slice none 0 0, Value.slice none 0 0] [(0, 1), (1, 1)] := bd_struct Try.zeroValue34 rfl Try.underlying34 (fun w => by simp [Try.sizeOf31, Try.sizeOf32])
instance ze34 : Ze Try.prog 34 [Value.slice none 0 0, Value.slice none 0 0] := ⟨_, Try.zeroValue34, rfl⟩
instance fld34_0 : Fld Try.prog 34 0 0 := ⟨fun A w => by simp [Instr.fieldAt, Try.runUnderlying34, Instr.sureAddr, fieldPlace, Try.sizeOf31]⟩
instance fld34_1 : Fld Try.prog 34 1 1 := ⟨fun A w => by simp [Instr.fieldAt, Try.runUnderlying34, Instr.sureAddr, fieldPlace, Try.sizeOf32]⟩
instance one36 : One Try.prog 36 := ⟨Try.isAgg36, Try.sizeOf36⟩
instance sl36 : SlT Try.prog 36 42 3 24 := ⟨Try.underlying36, ⟨Try.t42, _, by kernel_rfl, rfl, rfl, rfl, rfl⟩, by decide⟩
instance ag38 : Ag Try.prog 38 3 := ⟨Try.isAgg38, Try.sizeOf38⟩
instance bd38 : BdT Try.prog 38 [Value.slice none 0 0, Value.slice none 0 0, Value.slice none 0 0] [(0, 2), (2, 1)] := bd_struct Try.zeroValue38 rfl Try.underlying38 (fun w => by simp [Try.sizeOf34, Try.sizeOf36])
instance ze38 : Ze Try.prog 38 [Value.slice none 0 0, Value.slice none 0 0, Value.slice none 0 0] := ⟨_, Try.zeroValue38, rfl⟩
instance fld38_0 : Fld Try.prog 38 0 0 := ⟨fun A w => by simp [Instr.fieldAt, Try.runUnderlying38, Instr.sureAddr, fieldPlace, Try.sizeOf34]⟩
instance fld38_1 : Fld Try.prog 38 1 2 := ⟨fun A w => by simp [Instr.fieldAt, Try.runUnderlying38, Instr.sureAddr, fieldPlace, Try.sizeOf36]⟩
instance ag40 : Ag Try.prog 40 10 := ⟨Try.isAgg40, Try.sizeOf40⟩
instance bd40 : BdT Try.prog 40 [Value.int IntKind.i64 0, Value.int IntKind.i64 0, Value.int IntKind.i64 0, Value.int IntKind.i64 0, Value.int IntKind.i64 0, Value.int IntKind.i64 0, Value.int IntKind.i64 0, Value.slice none 0 0, Value.slice none 0 0, Value.slice none 0 0] [(0, 1), (1, 1), (2, 1), (3, 4), (7, 3)] := bd_struct Try.zeroValue40 rfl Try.underlying40 (fun w => by simp [Try.sizeOf2, Try.sizeOf3, Try.sizeOf30, Try.sizeOf38])
instance ze40 : Ze Try.prog 40 [Value.int IntKind.i64 0, Value.int IntKind.i64 0, Value.int IntKind.i64 0, Value.int IntKind.i64 0, Value.int IntKind.i64 0, Value.int IntKind.i64 0, Value.int IntKind.i64 0, Value.slice none 0 0, Value.slice none 0 0, Value.slice none 0 0] := ⟨_, Try.zeroValue40, rfl⟩
instance fld40_0 : Fld Try.prog 40 0 0 := ⟨fun A w => by simp [Instr.fieldAt, Try.runUnderlying40, Instr.sureAddr, fieldPlace, Try.sizeOf3]⟩
instance fld40_1 : Fld Try.prog 40 1 1 := ⟨fun A w => by simp [Instr.fieldAt, Try.runUnderlying40, Instr.sureAddr, fieldPlace, Try.sizeOf2]⟩
instance fld40_2 : Fld Try.prog 40 2 2 := ⟨fun A w => by simp [Instr.fieldAt, Try.runUnderlying40, Instr.sureAddr, fieldPlace, Try.sizeOf2]⟩
instance fld40_3 : Fld Try.prog 40 3 3 := ⟨fun A w => by simp [Instr.fieldAt, Try.runUnderlying40, Instr.sureAddr, fieldPlace, Try.sizeOf30]⟩
instance fld40_4 : Fld Try.prog 40 4 7 := ⟨fun A w => by simp [Instr.fieldAt, Try.runUnderlying40, Instr.sureAddr, fieldPlace, Try.sizeOf38]⟩
instance ag42 : Ag Try.prog 42 3 := ⟨Try.isAgg42, Try.sizeOf42⟩
instance bd42 : BdT Try.prog 42 [Value.int IntKind.i64 0, Value.int IntKind.i64 0, Value.int IntKind.i64 0] [(0, 1), (1, 1), (2, 1)] := bd_struct Try.zeroValue42 rfl Try.underlying42 (fun w => by simp [Try.sizeOf2, Try.sizeOf3])
instance ze42 : Ze Try.prog 42 [Value.int IntKind.i64 0, Value.int IntKind.i64 0, Value.int IntKind.i64 0] := ⟨_, Try.zeroValue42, rfl⟩
instance fld42_0 : Fld Try.prog 42 0 0 := ⟨fun A w => by simp [Instr.fieldAt, Try.runUnderlying42, Instr.sureAddr, fieldPlace, Try.sizeOf3]⟩
instance fld42_1 : Fld Try.prog 42 1 1 := ⟨fun A w => by simp [Instr.fieldAt, Try.runUnderlying42, Instr.sureAddr, fieldPlace, Try.sizeOf2]⟩
instance fld42_2 : Fld Try.prog 42 2 2 := ⟨fun A w => by simp [Instr.fieldAt, Try.runUnderlying42, Instr.sureAddr, fieldPlace, Try.sizeOf2]⟩
instance one43 : One Try.prog 43 := ⟨Try.isAgg43, Try.sizeOf43⟩
instance ag46 : Ag Try.prog 46 10 := ⟨Try.isAgg46, Try.sizeOf46⟩
instance bd46 : BdT Try.prog 46 [Value.int IntKind.i64 0, Value.int IntKind.i64 0, Value.int IntKind.i64 0, Value.int IntKind.i64 0, Value.int IntKind.i64 0, Value.int IntKind.i64 0, Value.int IntKind.i64 0, Value.slice none 0 0, Value.slice none 0 0, Value.slice none 0 0] [(0, 1), (1, 1), (2, 1), (3, 4), (7, 3)] := bd_struct Try.zeroValue46 rfl Try.underlying46 (fun w => by simp [Try.sizeOf2, Try.sizeOf3, Try.sizeOf30, Try.sizeOf38])
instance ze46 : Ze Try.prog 46 [Value.int IntKind.i64 0, Value.int IntKind.i64 0, Value.int IntKind.i64 0, Value.int IntKind.i64 0, Value.int IntKind.i64 0, Value.int IntKind.i64 0, Value.int IntKind.i64 0, Value.slice none 0 0, Value.slice none 0 0, Value.slice none 0 0] := ⟨_, Try.zeroValue46, rfl⟩
instance fld46_0 : Fld Try.prog 46 0 0 := ⟨fun A w => by simp [Instr.fieldAt, Try.runUnderlying46, Instr.sureAddr, fieldPlace, Try.sizeOf3]⟩
instance fld46_1 : Fld Try.prog 46 1 1 := ⟨fun A w => by simp [Instr.fieldAt, Try.runUnderlying46, Instr.sureAddr, fieldPlace, Try.sizeOf2]⟩
instance fld46_2 : Fld Try.prog 46 2 2 := ⟨fun A w => by simp [Instr.fieldAt, Try.runUnderlying46, Instr.sureAddr, fieldPlace, Try.sizeOf2]⟩
instance fld46_3 : Fld Try.prog 46 3 3 := ⟨fun A w => by simp [Instr.fieldAt, Try.runUnderlying46, Instr.sureAddr, fieldPlace, Try.sizeOf30]⟩
instance fld46_4 : Fld Try.prog 46 4 7 := ⟨fun A w => by simp [Instr.fieldAt, Try.runUnderlying46, Instr.sureAddr, fieldPlace, Try.sizeOf38]⟩
instance one52 : One Try.prog 52 := ⟨Try.isAgg52, Try.sizeOf52⟩
instance one57 : One Try.prog 57 := ⟨Try.isAgg57, Try.sizeOf57⟩
instance sl57 : SlT Try.prog 57 2 1 8 := ⟨Try.underlying57, ⟨Try.t2, _, by kernel_rfl, rfl, rfl, rfl, rfl⟩, by decide⟩
instance one60 : One Try.prog 60 := ⟨Try.isAgg60, Try.sizeOf60⟩
instance ag68 : Ag Try.prog 68 11 := ⟨Try.isAgg68, Try.sizeOf68⟩
instance bd68 : BdT Try.prog 68 [Value.int IntKind.i64 0, Value.int IntKind.i64 0, Value.int IntKind.i64 0, Value.int IntKind.i64 0, Value.int IntKind.i64 0, Value.int IntKind.i64 0, Value.int IntKind.i64 0, Value.int IntKind.i64 0, Value.slice none 0 0, Value.slice none 0 0, Value.slice none 0 0] [(0, 1), (1, 10)] := bd_struct Try.zeroValue68 rfl Try.underlying68 (fun w => by simp [Try.sizeOf2, Try.sizeOf46])
instance ze68 : Ze Try.prog 68 [Value.int IntKind.i64 0, Value.int IntKind.i64 0, Value.int IntKind.i64 0, Value.int IntKind.i64 0, Value.int IntKind.i64 0, Value.int IntKind.i64 0, Value.int IntKind.i64 0, Value.int IntKind.i64 0, Value.slice none 0 0, Value.slice none 0 0, Value.slice none 0 0] := ⟨_, Try.zeroValue68, rfl⟩
instance fld68_0 : Fld Try.prog 68 0 0 := ⟨fun A w => by simp [Instr.fieldAt, Try.runUnderlying68, Instr.sureAddr, fieldPlace, Try.sizeOf2]⟩
instance fld68_1 : Fld Try.prog 68 1 1 := ⟨fun A w => by simp [Instr.fieldAt, Try.runUnderlying68, Instr.sureAddr, fieldPlace, Try.sizeOf46]⟩
instance one72 : One Try.prog 72 := ⟨Try.isAgg72, Try.sizeOf72⟩
instance sl72 : SlT Try.prog 72 46 10 128 := ⟨Try.underlying72, ⟨Try.t46, _, by kernel_rfl, rfl, rfl, rfl, rfl⟩, by decide⟩
instance ag75 : Ag Try.prog 75 16 := ⟨Try.isAgg75, Try.sizeOf75⟩
instance ar75 : ArT Try.prog 75 4 30 4 := ⟨Try.underlying75, Try.sizeOf30, by decide⟩
instance ag77 : Ag Try.prog 77 20 := ⟨Try.isAgg77, Try.sizeOf77⟩
instance bd77 : BdT Try.prog 77 [Value.int IntKind.i64 0, Value.int IntKind.i64 0, Value.slice none 0 0, Value.int IntKind.i64 0, Value.int IntKind.i64 0, Value.int IntKind.i64 0, Value.int IntKind.i64 0, Value.int IntKind.i64 0, Value.int IntKind.i64 0, Value.int IntKind.i64 0, Value.int IntKind.i64 0, Value.int IntKind.i64 0, Value.int IntKind.i64 0, Value.int IntKind.i64 0, Value.int IntKind.i64 0, Value.int IntKind.i64 0, Value.int IntKind.i64 0, Value.int IntKind.i64 0, Value.int IntKind.i64 0, Value.int IntKind.i64 0] [(0, 1), (1, 1), (2, 1), (3, 1), (4, 16)] := bd_struct Try.zeroValue77 rfl Try.underlying77 (fun w => by simp [Try.sizeOf2, Try.sizeOf26, Try.sizeOf3, Try.sizeOf75])
instance fld77_0 : Fld Try.prog 77 0 0 := ⟨fun A w => by simp [Instr.fieldAt, Try.runUnderlying77, Instr.sureAddr, fieldPlace, Try.sizeOf3]⟩
instance fld77_1 : Fld Try.prog 77 1 1 := ⟨fun A w => by simp [Instr.fieldAt, Try.runUnderlying77, Instr.sureAddr, fieldPlace, Try.sizeOf3]⟩
instance fld77_2 : Fld Try.prog 77 2 2 := ⟨fun A w => by simp [Instr.fieldAt, Try.runUnderlying77, Instr.sureAddr, fieldPlace, Try.sizeOf26]⟩
instance fld77_3 : Fld Try.prog 77 3 3 := ⟨fun A w => by simp [Instr.fieldAt, Try.runUnderlying77, Instr.sureAddr, fieldPlace, Try.sizeOf2]⟩
instance fld77_4 : Fld Try.prog 77 4 4 := ⟨fun A w => by simp [Instr.fieldAt, Try.runUnderlying77, Instr.sureAddr, fieldPlace, Try.sizeOf75]⟩
instance ag79 : Ag Try.prog 79 2 := ⟨Try.isAgg79, Try.sizeOf79⟩
instance bd79 : BdT Try.prog 79 [Value.int IntKind.i64 0, Value.int IntKind.i64 0] [(0, 1), (1, 1)] := bd_struct Try.zeroValue79 rfl Try.underlying79 (fun w => by simp [Try.sizeOf2, Try.sizeOf3])
instance ze79 : Ze Try.prog 79 [Value.int IntKind.i64 0, Value.int IntKind.i64 0] := ⟨_, Try.zeroValue79, rfl⟩
instance fld79_0 : Fld Try.prog 79 0 0 := ⟨fun A w => by simp [Instr.fieldAt, Try.runUnderlying79, Instr.sureAddr, fieldPlace, Try.sizeOf3]⟩
instance fld79_1 : Fld Try.prog 79 1 1 := ⟨fun A w => by simp [Instr.fieldAt, Try.runUnderlying79, Instr.sureAddr, fieldPlace, Try.sizeOf2]⟩
instance ag81 : Ag Try.prog 81 4 := ⟨Try.isAgg81, Try.sizeOf81⟩
instance bd81 : BdT Try.prog 81 [Value.int IntKind.i64 0, Value.int IntKind.i64 0, Value.string { data := #[] }, Value.int IntKind.i64 0] [(0, 2), (2, 1), (3, 1)] := bd_struct Try.zeroValue81 rfl Try.underlying81 (fun w => by simp [Try.sizeOf2, Try.sizeOf79, Try.sizeOf9])
instance ze81 : Ze Try.prog 81 [Value.int IntKind.i64 0, Value.int IntKind.i64 0, Value.string { data := #[] }, Value.int IntKind.i64 0] := ⟨_, Try.zeroValue81, rfl⟩
instance fld81_0 : Fld Try.prog 81 0 0 := ⟨fun A w => by simp [Instr.fieldAt, Try.runUnderlying81, Instr.sureAddr, fieldPlace, Try.sizeOf79]⟩
instance fld81_1 : Fld Try.prog 81 1 2 := ⟨fun A w => by simp [Instr.fieldAt, Try.runUnderlying81, Instr.sureAddr, fieldPlace, Try.sizeOf9]⟩
instance fld81_2 : Fld Try.prog 81 2 3 := ⟨fun A w => by simp [Instr.fieldAt, Try.runUnderlying81, Instr.sureAddr, fieldPlace, Try.sizeOf2]⟩
instance ag83 : Ag Try.prog 83 3 := ⟨Try.isAgg83, Try.sizeOf83⟩
instance bd83 : BdT Try.prog 83 [Value.string { data := #[] }, Value.slice none 0 0, Value.slice none 0 0] [(0, 1), (1, 2)] := bd_struct Try.zeroValue83 rfl Try.underlying83 (fun w => by simp [Try.sizeOf34, Try.sizeOf9])
instance ze83 : Ze Try.prog 83 [Value.string { data := #[] }, Value.slice none 0 0, Value.slice none 0 0] := ⟨_, Try.zeroValue83, rfl⟩
instance fld83_0 : Fld Try.prog 83 0 0 := ⟨fun A w => by simp [Instr.fieldAt, Try.runUnderlying83, Instr.sureAddr, fieldPlace, Try.sizeOf9]⟩
instance fld83_1 : Fld Try.prog 83 1 1 := ⟨fun A w => by simp [Instr.fieldAt, Try.runUnderlying83, Instr.sureAddr, fieldPlace, Try.sizeOf34]⟩
instance one103 : One Try.prog 103 := ⟨Try.isAgg103, Try.sizeOf103⟩
instance sl103 : SlT Try.prog 103 79 2 16 := ⟨Try.underlying103, ⟨Try.t79, _, by kernel_rfl, rfl, rfl, rfl, rfl⟩, by decide⟩
instance ag116 : Ag Try.prog 116 4 := ⟨Try.isAgg116, Try.sizeOf116⟩
instance ze116 : Ze Try.prog 116 [Value.slice none 0 0, Value.slice none 0 0, Value.slice none 0 0, Value.slice none 0 0] := ⟨_, Try.zeroValue116, rfl⟩
instance ar116 : ArT Try.prog 116 4 57 1 := ⟨Try.underlying116, Try.sizeOf57, by decide⟩
instance one118 : One Try.prog 118 := ⟨Try.isAgg118, Try.sizeOf118⟩
instance sl118 : SlT Try.prog 118 133 2 16 := ⟨Try.underlying118, ⟨Try.t133, _, by kernel_rfl, rfl, rfl, rfl, rfl⟩, by decide⟩
instance ag120 : Ag Try.prog 120 4 := ⟨Try.isAgg120, Try.sizeOf120⟩
instance bd120 : BdT Try.prog 120 [Value.slice none 0 0, Value.slice none 0 0, Value.slice none 0 0, Value.slice none 0 0] [(0, 1), (1, 1), (2, 1), (3, 1)] := bd_array Try.zeroValue120 rfl Try.underlying120 Try.sizeOf118 (fun i x hx => by
  match i, hx with
  | 0, hx => simpa using hx
  | 1, hx => simpa using hx
  | 2, hx => simpa using hx
  | 3, hx => simpa using hx
  | i + 4, hx => simp at hx)
instance ze120 : Ze Try.prog 120 [Value.slice none 0 0, Value.slice none 0 0, Value.slice none 0 0, Value.slice none 0 0] := ⟨_, Try.zeroValue120, rfl⟩
instance ar120 : ArT Try.prog 120 4 118 1 := ⟨Try.underlying120, Try.sizeOf118, by decide⟩
instance one128 : One Try.prog 128 := ⟨Try.isAgg128, Try.sizeOf128⟩
instance ag133 : Ag Try.prog 133 2 := ⟨Try.isAgg133, Try.sizeOf133⟩
instance bd133 : BdT Try.prog 133 [Value.int IntKind.i64 0, Value.int IntKind.i64 0] [(0, 1), (1, 1)] := bd_array Try.zeroValue133 rfl Try.underlying133 Try.sizeOf2 (fun i x hx => by
  match i, hx with
  | 0, hx => simpa using hx
  | 1, hx => simpa using hx
  | i + 2, hx => simp at hx)
instance ze133 : Ze Try.prog 133 [Value.int IntKind.i64 0, Value.int IntKind.i64 0] := ⟨_, Try.zeroValue133, rfl⟩
instance ar133 : ArT Try.prog 133 2 2 1 := ⟨Try.underlying133, Try.sizeOf2, by decide⟩
instance one147 : One Try.prog 147 := ⟨Try.isAgg147, Try.sizeOf147⟩
instance one155 : One Try.prog 155 := ⟨Try.isAgg155, Try.sizeOf155⟩
instance one156 : One Try.prog 156 := ⟨Try.isAgg156, Try.sizeOf156⟩
instance sl156 : SlT Try.prog 156 3 1 8 := ⟨Try.underlying156, ⟨Try.t3, _, by kernel_rfl, rfl, rfl, rfl, rfl⟩, by decide⟩
instance one157 : One Try.prog 157 := ⟨Try.isAgg157, Try.sizeOf157⟩
instance ze157 : Ze Try.prog 157 [Value.int IntKind.u64 0] := ⟨_, Try.zeroValue157, rfl⟩
instance eq30 : EqT Try.prog 30 [.i .i64, .i .i64, .i .i64, .i .i64] := ⟨fun us vs b w hq => by
  obtain ⟨u0, v0, us0, vs0, c0, r0, rfl, rfl, he0, hq0, rfl⟩ := eqS_cons hq
  obtain ⟨a0, b0, rfl, rfl, rfl⟩ := eqC_i he0
  obtain ⟨u1, v1, us1, vs1, c1, r1, rfl, rfl, he1, hq1, rfl⟩ := eqS_cons hq0
  obtain ⟨a1, b1, rfl, rfl, rfl⟩ := eqC_i he1
  obtain ⟨u2, v2, us2, vs2, c2, r2, rfl, rfl, he2, hq2, rfl⟩ := eqS_cons hq1
  obtain ⟨a2, b2, rfl, rfl, rfl⟩ := eqC_i he2
  obtain ⟨u3, v3, us3, vs3, c3, r3, rfl, rfl, he3, hq3, rfl⟩ := eqS_cons hq2
  obtain ⟨a3, b3, rfl, rfl, rfl⟩ := eqC_i he3
  obtain ⟨rfl, rfl, rfl⟩ := eqS_nil hq3
  have hu2 := Try.underlying2
  have hz2 := Try.sizeOf2
  have ha2 := Try.isAgg2
  have hz30 := Try.sizeOf30
  have ha30 := Try.isAgg30
  have hc9 : Try.prog.cellsOf 2 = 1 := by kernel_rfl
  rw [run_equalIn_array (w := w) 9999 _ _ Try.underlying30 (i := Try.t2) (by kernel_rfl), hc9]
  simp only [show List.range 4 = [0, 1, 2, 3] from rfl]
  simp [Op.eqItems, part, hz2]
  go_simp
  all_goals by_cases h0 : a0 = b0
  all_goals by_cases h1 : a1 = b1
  all_goals by_cases h2 : a2 = b2
  all_goals by_cases h3 : a3 = b3
  all_goals simp [h0, h1, h2, h3]
  , by kernel_rfl⟩
instance eq42 : EqT Try.prog 42 [.i .i64, .i .i64, .i .i64] := ⟨fun us vs b w hq => by
  obtain ⟨u0, v0, us0, vs0, c0, r0, rfl, rfl, he0, hq0, rfl⟩ := eqS_cons hq
  obtain ⟨a0, b0, rfl, rfl, rfl⟩ := eqC_i he0
  obtain ⟨u1, v1, us1, vs1, c1, r1, rfl, rfl, he1, hq1, rfl⟩ := eqS_cons hq0
  obtain ⟨a1, b1, rfl, rfl, rfl⟩ := eqC_i he1
  obtain ⟨u2, v2, us2, vs2, c2, r2, rfl, rfl, he2, hq2, rfl⟩ := eqS_cons hq1
  obtain ⟨a2, b2, rfl, rfl, rfl⟩ := eqC_i he2
  obtain ⟨rfl, rfl, rfl⟩ := eqS_nil hq2
  have hu2 := Try.underlying2
  have hz2 := Try.sizeOf2
  have ha2 := Try.isAgg2
  have hu3 := Try.underlying3
  have hz3 := Try.sizeOf3
  have ha3 := Try.isAgg3
  have hs42 : Try.prog.underlying 42 = some (.struct (Try.prog.fieldsOf 42)) := by kernel_rfl
  have hp42 : Try.prog.stoodInHeld 42 = false := by kernel_rfl
  have hz42 := Try.sizeOf42
  have ha42 := Try.isAgg42
  rw [run_equalIn_agg w 9999 42 _ _ hs42 hp42]
  simp only [Program.fieldsOf, Try.underlying42]
  go_simp
  all_goals by_cases h0 : a0 = b0
  all_goals by_cases h1 : a1 = b1
  all_goals by_cases h2 : a2 = b2
  all_goals simp [h0, h1, h2]
  , by kernel_rfl⟩
instance eq81 : EqT Try.prog 81 [.i .i64, .i .i64, .s, .i .i64] := ⟨fun us vs b w hq => by
  obtain ⟨u0, v0, us0, vs0, c0, r0, rfl, rfl, he0, hq0, rfl⟩ := eqS_cons hq
  obtain ⟨a0, b0, rfl, rfl, rfl⟩ := eqC_i he0
  obtain ⟨u1, v1, us1, vs1, c1, r1, rfl, rfl, he1, hq1, rfl⟩ := eqS_cons hq0
  obtain ⟨a1, b1, rfl, rfl, rfl⟩ := eqC_i he1
  obtain ⟨u2, v2, us2, vs2, c2, r2, rfl, rfl, he2, hq2, rfl⟩ := eqS_cons hq1
  obtain ⟨a2, b2, rfl, rfl, rfl⟩ := eqC_s he2
  obtain ⟨u3, v3, us3, vs3, c3, r3, rfl, rfl, he3, hq3, rfl⟩ := eqS_cons hq2
  obtain ⟨a3, b3, rfl, rfl, rfl⟩ := eqC_i he3
  obtain ⟨rfl, rfl, rfl⟩ := eqS_nil hq3
  have hu2 := Try.underlying2
  have hz2 := Try.sizeOf2
  have ha2 := Try.isAgg2
  have hu3 := Try.underlying3
  have hz3 := Try.sizeOf3
  have ha3 := Try.isAgg3
  have hu9 := Try.underlying9
  have hz9 := Try.sizeOf9
  have ha9 := Try.isAgg9
  have hs79 : Try.prog.underlying 79 = some (.struct (Try.prog.fieldsOf 79)) := by kernel_rfl
  have hp79 : Try.prog.stoodInHeld 79 = false := by kernel_rfl
  have hz79 := Try.sizeOf79
  have ha79 := Try.isAgg79
  have hs81 : Try.prog.underlying 81 = some (.struct (Try.prog.fieldsOf 81)) := by kernel_rfl
  have hp81 : Try.prog.stoodInHeld 81 = false := by kernel_rfl
  have hz81 := Try.sizeOf81
  have ha81 := Try.isAgg81
  rw [run_equalIn_agg w 9999 81 _ _ hs81 hp81]
  simp only [Program.fieldsOf, Try.underlying81]
  have e79 := fun d xs ys w => (run_equalIn_agg (w := w) d 79 xs ys hs79 hp79)
  simp only [Program.fieldsOf, Try.underlying79] at e79
  have f79 := e79 9997
  clear hs79 hp79 hs81 hp81
  go_simp
  all_goals by_cases h0 : a0 = b0
  all_goals by_cases h1 : a1 = b1
  all_goals by_cases h2 : a2.toList = b2.toList
  all_goals by_cases h3 : a3 = b3
  all_goals simp [h0, h1, h2, h3]
  , by kernel_rfl⟩
theorem tyok2 : TyOk Try.prog 2 { k := 1, it := true, ik := some .i64 } where
  one := fun _ _ => inferInstance
  ag := fun h => absurd h (by decide)
  sz := fun _ h => absurd rfl h
  el := fun _ _ _ h => by cases h
  ar := fun _ _ h => by cases h
  fo := fun _ _ h => by cases h
  z := fun _ h => by cases h
  bz := fun _ _ h => by cases h
  bo := fun h => absurd h (by decide)
  st := fun h => absurd h (by decide)
  np := fun h => absurd h (by decide)
  it := fun _ => ⟨_, Try.underlying2⟩
  ik := fun _ h => by cases h; exact Try.underlying2
  nf := fun h => absurd h (by decide)
  ix := fun _ _ _ h => by cases h
  eq := fun _ h => by cases h
theorem tyok3 : TyOk Try.prog 3 { k := 1, z := some [Value.int IntKind.i64 0], it := true, ik := some .i64 } where
  one := fun _ _ => inferInstance
  ag := fun h => absurd h (by decide)
  sz := fun _ h => absurd rfl h
  el := fun _ _ _ h => by cases h
  ar := fun _ _ h => by cases h
  fo := fun _ _ h => by cases h
  z := fun _ h => by cases h; infer_instance
  bz := fun _ _ h => by cases h
  bo := fun h => absurd h (by decide)
  st := fun h => absurd h (by decide)
  np := fun h => absurd h (by decide)
  it := fun _ => ⟨_, Try.underlying3⟩
  ik := fun _ h => by cases h; exact Try.underlying3
  nf := fun h => absurd h (by decide)
  ix := fun _ _ _ h => by cases h
  eq := fun _ h => by cases h
theorem tyok5 : TyOk Try.prog 5 { k := 1, it := true, ik := some .u8 } where
  one := fun _ _ => inferInstance
  ag := fun h => absurd h (by decide)
  sz := fun _ h => absurd rfl h
  el := fun _ _ _ h => by cases h
  ar := fun _ _ h => by cases h
  fo := fun _ _ h => by cases h
  z := fun _ h => by cases h
  bz := fun _ _ h => by cases h
  bo := fun h => absurd h (by decide)
  st := fun h => absurd h (by decide)
  np := fun h => absurd h (by decide)
  it := fun _ => ⟨_, Try.underlying5⟩
  ik := fun _ h => by cases h; exact Try.underlying5
  nf := fun h => absurd h (by decide)
  ix := fun _ _ _ h => by cases h
  eq := fun _ h => by cases h
theorem tyok9 : TyOk Try.prog 9 { k := 1, st := true } where
  one := fun _ _ => inferInstance
  ag := fun h => absurd h (by decide)
  sz := fun _ h => absurd rfl h
  el := fun _ _ _ h => by cases h
  ar := fun _ _ h => by cases h
  fo := fun _ _ h => by cases h
  z := fun _ h => by cases h
  bz := fun _ _ h => by cases h
  bo := fun h => absurd h (by decide)
  st := fun _ => inferInstance
  np := fun h => absurd h (by decide)
  it := fun h => absurd h (by decide)
  ik := fun _ h => by cases h
  nf := fun h => absurd h (by decide)
  ix := fun _ _ _ h => by cases h
  eq := fun _ h => by cases h
theorem tyok22 : TyOk Try.prog 22 { k := 1, it := true, ik := some .u32 } where
  one := fun _ _ => inferInstance
  ag := fun h => absurd h (by decide)
  sz := fun _ h => absurd rfl h
  el := fun _ _ _ h => by cases h
  ar := fun _ _ h => by cases h
  fo := fun _ _ h => by cases h
  z := fun _ h => by cases h
  bz := fun _ _ h => by cases h
  bo := fun h => absurd h (by decide)
  st := fun h => absurd h (by decide)
  np := fun h => absurd h (by decide)
  it := fun _ => ⟨_, Try.underlying22⟩
  ik := fun _ h => by cases h; exact Try.underlying22
  nf := fun h => absurd h (by decide)
  ix := fun _ _ _ h => by cases h
  eq := fun _ h => by cases h
theorem tyok24 : TyOk Try.prog 24 { k := 1, el := some (68, 11, 136) } where
  one := fun _ _ => inferInstance
  ag := fun h => absurd h (by decide)
  sz := fun _ h => absurd rfl h
  el := fun _ _ _ h => by cases h; infer_instance
  ar := fun _ _ h => by cases h
  fo := fun _ _ h => by cases h
  z := fun _ h => by cases h
  bz := fun _ _ h => by cases h
  bo := fun h => absurd h (by decide)
  st := fun h => absurd h (by decide)
  np := fun h => absurd h (by decide)
  it := fun h => absurd h (by decide)
  ik := fun _ h => by cases h
  nf := fun h => absurd h (by decide)
  ix := fun _ _ _ h => by cases h
  eq := fun _ h => by cases h
theorem tyok26 : TyOk Try.prog 26 { agg := true, k := 1, fo := [0], z := some [Value.slice none 0 0], bz := some ([Value.slice none 0 0], [(0, 1)]) } where
  one := fun h => absurd h (by decide)
  ag := fun _ => inferInstance
  sz := fun h => absurd h (by decide)
  el := fun _ _ _ h => by cases h
  ar := fun _ _ h => by cases h
  fo := fun f o h => by
    match f, h with
    | 0, h => cases h; infer_instance
    | f + 1, h => cases h
  z := fun _ h => by cases h; infer_instance
  bz := fun _ _ h => by cases h; infer_instance
  bo := fun h => absurd h (by decide)
  st := fun h => absurd h (by decide)
  np := fun h => absurd h (by decide)
  it := fun h => absurd h (by decide)
  ik := fun _ h => by cases h
  nf := fun h => absurd h (by decide)
  ix := fun _ _ _ h => by cases h
  eq := fun _ h => by cases h
theorem tyok28 : TyOk Try.prog 28 { agg := true, k := 1, fo := [0], z := some [Value.slice none 0 0] } where
  one := fun h => absurd h (by decide)
  ag := fun _ => inferInstance
  sz := fun h => absurd h (by decide)
  el := fun _ _ _ h => by cases h
  ar := fun _ _ h => by cases h
  fo := fun f o h => by
    match f, h with
    | 0, h => cases h; infer_instance
    | f + 1, h => cases h
  z := fun _ h => by cases h; infer_instance
  bz := fun _ _ h => by cases h
  bo := fun h => absurd h (by decide)
  st := fun h => absurd h (by decide)
  np := fun h => absurd h (by decide)
  it := fun h => absurd h (by decide)
  ik := fun _ h => by cases h
  nf := fun h => absurd h (by decide)
  ix := fun _ _ _ h => by cases h
  eq := fun _ h => by cases h
theorem tyok30 : TyOk Try.prog 30 { agg := true, k := 4, ar := some (4, 1), z := some [Value.int IntKind.i64 0, Value.int IntKind.i64 0, Value.int IntKind.i64 0, Value.int IntKind.i64 0], bz := some ([Value.int IntKind.i64 0, Value.int IntKind.i64 0, Value.int IntKind.i64 0, Value.int IntKind.i64 0], [(0, 1), (1, 1), (2, 1), (3, 1)]), eq := some [.i .i64, .i .i64, .i .i64, .i .i64], ix := some (4, 1, false) } where
  one := fun h => absurd h (by decide)
  ag := fun _ => inferInstance
  sz := fun h => absurd h (by decide)
  el := fun _ _ _ h => by cases h
  ar := fun _ _ h => by cases h; exact ⟨2, inferInstance⟩
  fo := fun _ _ h => by cases h
  z := fun _ h => by cases h; infer_instance
  bz := fun _ _ h => by cases h; infer_instance
  bo := fun h => absurd h (by decide)
  st := fun h => absurd h (by decide)
  np := fun h => absurd h (by decide)
  it := fun h => absurd h (by decide)
  ik := fun _ h => by cases h
  nf := fun h => absurd h (by decide)
  ix := fun _ _ _ h => by cases h; exact ⟨2, Try.underlying30, Try.sizeOf2, Try.isAgg2⟩
  eq := fun _ h => by cases h; infer_instance
theorem tyok31 : TyOk Try.prog 31 { k := 1, el := some (81, 4, 40) } where
  one := fun _ _ => inferInstance
  ag := fun h => absurd h (by decide)
  sz := fun _ h => absurd rfl h
  el := fun _ _ _ h => by cases h; infer_instance
  ar := fun _ _ h => by cases h
  fo := fun _ _ h => by cases h
  z := fun _ h => by cases h
  bz := fun _ _ h => by cases h
  bo := fun h => absurd h (by decide)
  st := fun h => absurd h (by decide)
  np := fun h => absurd h (by decide)
  it := fun h => absurd h (by decide)
  ik := fun _ h => by cases h
  nf := fun h => absurd h (by decide)
  ix := fun _ _ _ h => by cases h
  eq := fun _ h => by cases h
theorem tyok32 : TyOk Try.prog 32 { k := 1, el := some (83, 3, 64) } where
  one := fun _ _ => inferInstance
  ag := fun h => absurd h (by decide)
  sz := fun _ h => absurd rfl h
  el := fun _ _ _ h => by cases h; infer_instance
  ar := fun _ _ h => by cases h
  fo := fun _ _ h => by cases h
  z := fun _ h => by cases h
  bz := fun _ _ h => by cases h
  bo := fun h => absurd h (by decide)
  st := fun h => absurd h (by decide)
  np := fun h => absurd h (by decide)
  it := fun h => absurd h (by decide)
  ik := fun _ h => by cases h
  nf := fun h => absurd h (by decide)
  ix := fun _ _ _ h => by cases h
  eq := fun _ h => by cases h
theorem tyok34 : TyOk Try.prog 34 { agg := true, k := 2, fo := [0, 1], z := some [Value.slice none 0 0, Value.slice none 0 0], bz := some ([Value.slice none 0 0, Value.slice none 0 0], [(0, 1), (1, 1)]) } where
  one := fun h => absurd h (by decide)
  ag := fun _ => inferInstance
  sz := fun h => absurd h (by decide)
  el := fun _ _ _ h => by cases h
  ar := fun _ _ h => by cases h
  fo := fun f o h => by
    match f, h with
    | 0, h => cases h; infer_instance
    | 1, h => cases h; infer_instance
    | f + 2, h => cases h
  z := fun _ h => by cases h; infer_instance
  bz := fun _ _ h => by cases h; infer_instance
  bo := fun h => absurd h (by decide)
  st := fun h => absurd h (by decide)
  np := fun h => absurd h (by decide)
  it := fun h => absurd h (by decide)
  ik := fun _ h => by cases h
  nf := fun h => absurd h (by decide)
  ix := fun _ _ _ h => by cases h
  eq := fun _ h => by cases h
theorem tyok36 : TyOk Try.prog 36 { k := 1, el := some (42, 3, 24) } where
  one := fun _ _ => inferInstance
  ag := fun h => absurd h (by decide)
  sz := fun _ h => absurd rfl h
  el := fun _ _ _ h => by cases h; infer_instance
  ar := fun _ _ h => by cases h
  fo := fun _ _ h => by cases h
  z := fun _ h => by cases h
  bz := fun _ _ h => by cases h
  bo := fun h => absurd h (by decide)
  st := fun h => absurd h (by decide)
  np := fun h => absurd h (by decide)
  it := fun h => absurd h (by decide)
  ik := fun _ h => by cases h
  nf := fun h => absurd h (by decide)
  ix := fun _ _ _ h => by cases h
  eq := fun _ h => by cases h
theorem tyok38 : TyOk Try.prog 38 { agg := true, k := 3, fo := [0, 2], z := some [Value.slice none 0 0, Value.slice none 0 0, Value.slice none 0 0], bz := some ([Value.slice none 0 0, Value.slice none 0 0, Value.slice none 0 0], [(0, 2), (2, 1)]) } where
  one := fun h => absurd h (by decide)
  ag := fun _ => inferInstance
  sz := fun h => absurd h (by decide)
  el := fun _ _ _ h => by cases h
  ar := fun _ _ h => by cases h
  fo := fun f o h => by
    match f, h with
    | 0, h => cases h; infer_instance
    | 1, h => cases h; infer_instance
    | f + 2, h => cases h
  z := fun _ h => by cases h; infer_instance
  bz := fun _ _ h => by cases h; infer_instance
  bo := fun h => absurd h (by decide)
  st := fun h => absurd h (by decide)
  np := fun h => absurd h (by decide)
  it := fun h => absurd h (by decide)
  ik := fun _ h => by cases h
  nf := fun h => absurd h (by decide)
  ix := fun _ _ _ h => by cases h
  eq := fun _ h => by cases h
theorem tyok40 : TyOk Try.prog 40 { agg := true, k := 10, fo := [0, 1, 2, 3, 7], z := some [Value.int IntKind.i64 0, Value.int IntKind.i64 0, Value.int IntKind.i64 0, Value.int IntKind.i64 0, Value.int IntKind.i64 0, Value.int IntKind.i64 0, Value.int IntKind.i64 0, Value.slice none 0 0, Value.slice none 0 0, Value.slice none 0 0], bz := some ([Value.int IntKind.i64 0, Value.int IntKind.i64 0, Value.int IntKind.i64 0, Value.int IntKind.i64 0, Value.int IntKind.i64 0, Value.int IntKind.i64 0, Value.int IntKind.i64 0, Value.slice none 0 0, Value.slice none 0 0, Value.slice none 0 0], [(0, 1), (1, 1), (2, 1), (3, 4), (7, 3)]) } where
  one := fun h => absurd h (by decide)
  ag := fun _ => inferInstance
  sz := fun h => absurd h (by decide)
  el := fun _ _ _ h => by cases h
  ar := fun _ _ h => by cases h
  fo := fun f o h => by
    match f, h with
    | 0, h => cases h; infer_instance
    | 1, h => cases h; infer_instance
    | 2, h => cases h; infer_instance
    | 3, h => cases h; infer_instance
    | 4, h => cases h; infer_instance
    | f + 5, h => cases h
  z := fun _ h => by cases h; infer_instance
  bz := fun _ _ h => by cases h; infer_instance
  bo := fun h => absurd h (by decide)
  st := fun h => absurd h (by decide)
  np := fun h => absurd h (by decide)
  it := fun h => absurd h (by decide)
  ik := fun _ h => by cases h
  nf := fun h => absurd h (by decide)
  ix := fun _ _ _ h => by cases h
  eq := fun _ h => by cases h
theorem tyok42 : TyOk Try.prog 42 { agg := true, k := 3, fo := [0, 1, 2], z := some [Value.int IntKind.i64 0, Value.int IntKind.i64 0, Value.int IntKind.i64 0], bz := some ([Value.int IntKind.i64 0, Value.int IntKind.i64 0, Value.int IntKind.i64 0], [(0, 1), (1, 1), (2, 1)]), eq := some [.i .i64, .i .i64, .i .i64] } where
  one := fun h => absurd h (by decide)
  ag := fun _ => inferInstance
  sz := fun h => absurd h (by decide)
  el := fun _ _ _ h => by cases h
  ar := fun _ _ h => by cases h
  fo := fun f o h => by
    match f, h with
    | 0, h => cases h; infer_instance
    | 1, h => cases h; infer_instance
    | 2, h => cases h; infer_instance
    | f + 3, h => cases h
  z := fun _ h => by cases h; infer_instance
  bz := fun _ _ h => by cases h; infer_instance
  bo := fun h => absurd h (by decide)
  st := fun h => absurd h (by decide)
  np := fun h => absurd h (by decide)
  it := fun h => absurd h (by decide)
  ik := fun _ h => by cases h
  nf := fun h => absurd h (by decide)
  ix := fun _ _ _ h => by cases h
  eq := fun _ h => by cases h; infer_instance
theorem tyok43 : TyOk Try.prog 43 { k := 1, it := true, ik := some .i64 } where
  one := fun _ _ => inferInstance
  ag := fun h => absurd h (by decide)
  sz := fun _ h => absurd rfl h
  el := fun _ _ _ h => by cases h
  ar := fun _ _ h => by cases h
  fo := fun _ _ h => by cases h
  z := fun _ h => by cases h
  bz := fun _ _ h => by cases h
  bo := fun h => absurd h (by decide)
  st := fun h => absurd h (by decide)
  np := fun h => absurd h (by decide)
  it := fun _ => ⟨_, Try.underlying43⟩
  ik := fun _ h => by cases h; exact Try.underlying43
  nf := fun h => absurd h (by decide)
  ix := fun _ _ _ h => by cases h
  eq := fun _ h => by cases h
theorem tyok46 : TyOk Try.prog 46 { agg := true, k := 10, fo := [0, 1, 2, 3, 7], z := some [Value.int IntKind.i64 0, Value.int IntKind.i64 0, Value.int IntKind.i64 0, Value.int IntKind.i64 0, Value.int IntKind.i64 0, Value.int IntKind.i64 0, Value.int IntKind.i64 0, Value.slice none 0 0, Value.slice none 0 0, Value.slice none 0 0], bz := some ([Value.int IntKind.i64 0, Value.int IntKind.i64 0, Value.int IntKind.i64 0, Value.int IntKind.i64 0, Value.int IntKind.i64 0, Value.int IntKind.i64 0, Value.int IntKind.i64 0, Value.slice none 0 0, Value.slice none 0 0, Value.slice none 0 0], [(0, 1), (1, 1), (2, 1), (3, 4), (7, 3)]) } where
  one := fun h => absurd h (by decide)
  ag := fun _ => inferInstance
  sz := fun h => absurd h (by decide)
  el := fun _ _ _ h => by cases h
  ar := fun _ _ h => by cases h
  fo := fun f o h => by
    match f, h with
    | 0, h => cases h; infer_instance
    | 1, h => cases h; infer_instance
    | 2, h => cases h; infer_instance
    | 3, h => cases h; infer_instance
    | 4, h => cases h; infer_instance
    | f + 5, h => cases h
  z := fun _ h => by cases h; infer_instance
  bz := fun _ _ h => by cases h; infer_instance
  bo := fun h => absurd h (by decide)
  st := fun h => absurd h (by decide)
  np := fun h => absurd h (by decide)
  it := fun h => absurd h (by decide)
  ik := fun _ h => by cases h
  nf := fun h => absurd h (by decide)
  ix := fun _ _ _ h => by cases h
  eq := fun _ h => by cases h
theorem tyok52 : TyOk Try.prog 52 { k := 1, nl := 1 } where
  one := fun _ _ => inferInstance
  ag := fun h => absurd h (by decide)
  sz := fun _ h => absurd rfl h
  el := fun _ _ _ h => by cases h
  ar := fun _ _ h => by cases h
  fo := fun _ _ h => by cases h
  z := fun _ h => by cases h
  bz := fun _ _ h => by cases h
  bo := fun h => absurd h (by decide)
  st := fun h => absurd h (by decide)
  np := fun _ => ⟨_, Try.underlying52⟩
  it := fun h => absurd h (by decide)
  ik := fun _ h => by cases h
  nf := fun h => absurd h (by decide)
  ix := fun _ _ _ h => by cases h
  eq := fun _ h => by cases h
theorem tyok57 : TyOk Try.prog 57 { k := 1, el := some (2, 1, 8) } where
  one := fun _ _ => inferInstance
  ag := fun h => absurd h (by decide)
  sz := fun _ h => absurd rfl h
  el := fun _ _ _ h => by cases h; infer_instance
  ar := fun _ _ h => by cases h
  fo := fun _ _ h => by cases h
  z := fun _ h => by cases h
  bz := fun _ _ h => by cases h
  bo := fun h => absurd h (by decide)
  st := fun h => absurd h (by decide)
  np := fun h => absurd h (by decide)
  it := fun h => absurd h (by decide)
  ik := fun _ h => by cases h
  nf := fun h => absurd h (by decide)
  ix := fun _ _ _ h => by cases h
  eq := fun _ h => by cases h
theorem tyok60 : TyOk Try.prog 60 { k := 1, nl := 1 } where
  one := fun _ _ => inferInstance
  ag := fun h => absurd h (by decide)
  sz := fun _ h => absurd rfl h
  el := fun _ _ _ h => by cases h
  ar := fun _ _ h => by cases h
  fo := fun _ _ h => by cases h
  z := fun _ h => by cases h
  bz := fun _ _ h => by cases h
  bo := fun h => absurd h (by decide)
  st := fun h => absurd h (by decide)
  np := fun _ => ⟨_, Try.underlying60⟩
  it := fun h => absurd h (by decide)
  ik := fun _ h => by cases h
  nf := fun h => absurd h (by decide)
  ix := fun _ _ _ h => by cases h
  eq := fun _ h => by cases h
theorem tyok68 : TyOk Try.prog 68 { agg := true, k := 11, fo := [0, 1], z := some [Value.int IntKind.i64 0, Value.int IntKind.i64 0, Value.int IntKind.i64 0, Value.int IntKind.i64 0, Value.int IntKind.i64 0, Value.int IntKind.i64 0, Value.int IntKind.i64 0, Value.int IntKind.i64 0, Value.slice none 0 0, Value.slice none 0 0, Value.slice none 0 0], bz := some ([Value.int IntKind.i64 0, Value.int IntKind.i64 0, Value.int IntKind.i64 0, Value.int IntKind.i64 0, Value.int IntKind.i64 0, Value.int IntKind.i64 0, Value.int IntKind.i64 0, Value.int IntKind.i64 0, Value.slice none 0 0, Value.slice none 0 0, Value.slice none 0 0], [(0, 1), (1, 10)]) } where
  one := fun h => absurd h (by decide)
  ag := fun _ => inferInstance
  sz := fun h => absurd h (by decide)
  el := fun _ _ _ h => by cases h
  ar := fun _ _ h => by cases h
  fo := fun f o h => by
    match f, h with
    | 0, h => cases h; infer_instance
    | 1, h => cases h; infer_instance
    | f + 2, h => cases h
  z := fun _ h => by cases h; infer_instance
  bz := fun _ _ h => by cases h; infer_instance
  bo := fun h => absurd h (by decide)
  st := fun h => absurd h (by decide)
  np := fun h => absurd h (by decide)
  it := fun h => absurd h (by decide)
  ik := fun _ h => by cases h
  nf := fun h => absurd h (by decide)
  ix := fun _ _ _ h => by cases h
  eq := fun _ h => by cases h
theorem tyok72 : TyOk Try.prog 72 { k := 1, el := some (46, 10, 128) } where
  one := fun _ _ => inferInstance
  ag := fun h => absurd h (by decide)
  sz := fun _ h => absurd rfl h
  el := fun _ _ _ h => by cases h; infer_instance
  ar := fun _ _ h => by cases h
  fo := fun _ _ h => by cases h
  z := fun _ h => by cases h
  bz := fun _ _ h => by cases h
  bo := fun h => absurd h (by decide)
  st := fun h => absurd h (by decide)
  np := fun h => absurd h (by decide)
  it := fun h => absurd h (by decide)
  ik := fun _ h => by cases h
  nf := fun h => absurd h (by decide)
  ix := fun _ _ _ h => by cases h
  eq := fun _ h => by cases h
theorem tyok75 : TyOk Try.prog 75 { agg := true, k := 16, ar := some (4, 4) } where
  one := fun h => absurd h (by decide)
  ag := fun _ => inferInstance
  sz := fun h => absurd h (by decide)
  el := fun _ _ _ h => by cases h
  ar := fun _ _ h => by cases h; exact ⟨30, inferInstance⟩
  fo := fun _ _ h => by cases h
  z := fun _ h => by cases h
  bz := fun _ _ h => by cases h
  bo := fun h => absurd h (by decide)
  st := fun h => absurd h (by decide)
  np := fun h => absurd h (by decide)
  it := fun h => absurd h (by decide)
  ik := fun _ h => by cases h
  nf := fun h => absurd h (by decide)
  ix := fun _ _ _ h => by cases h
  eq := fun _ h => by cases h
theorem tyok77 : TyOk Try.prog 77 { agg := true, k := 20, fo := [0, 1, 2, 3, 4], bz := some ([Value.int IntKind.i64 0, Value.int IntKind.i64 0, Value.slice none 0 0, Value.int IntKind.i64 0, Value.int IntKind.i64 0, Value.int IntKind.i64 0, Value.int IntKind.i64 0, Value.int IntKind.i64 0, Value.int IntKind.i64 0, Value.int IntKind.i64 0, Value.int IntKind.i64 0, Value.int IntKind.i64 0, Value.int IntKind.i64 0, Value.int IntKind.i64 0, Value.int IntKind.i64 0, Value.int IntKind.i64 0, Value.int IntKind.i64 0, Value.int IntKind.i64 0, Value.int IntKind.i64 0, Value.int IntKind.i64 0], [(0, 1), (1, 1), (2, 1), (3, 1), (4, 16)]) } where
  one := fun h => absurd h (by decide)
  ag := fun _ => inferInstance
  sz := fun h => absurd h (by decide)
  el := fun _ _ _ h => by cases h
  ar := fun _ _ h => by cases h
  fo := fun f o h => by
    match f, h with
    | 0, h => cases h; infer_instance
    | 1, h => cases h; infer_instance
    | 2, h => cases h; infer_instance
    | 3, h => cases h; infer_instance
    | 4, h => cases h; infer_instance
    | f + 5, h => cases h
  z := fun _ h => by cases h
  bz := fun _ _ h => by cases h; infer_instance
  bo := fun h => absurd h (by decide)
  st := fun h => absurd h (by decide)
  np := fun h => absurd h (by decide)
  it := fun h => absurd h (by decide)
  ik := fun _ h => by cases h
  nf := fun h => absurd h (by decide)
  ix := fun _ _ _ h => by cases h
  eq := fun _ h => by cases h
theorem tyok79 : TyOk Try.prog 79 { agg := true, k := 2, fo := [0, 1], z := some [Value.int IntKind.i64 0, Value.int IntKind.i64 0], bz := some ([Value.int IntKind.i64 0, Value.int IntKind.i64 0], [(0, 1), (1, 1)]) } where
  one := fun h => absurd h (by decide)
  ag := fun _ => inferInstance
  sz := fun h => absurd h (by decide)
  el := fun _ _ _ h => by cases h
  ar := fun _ _ h => by cases h
  fo := fun f o h => by
    match f, h with
    | 0, h => cases h; infer_instance
    | 1, h => cases h; infer_instance
    | f + 2, h => cases h
  z := fun _ h => by cases h; infer_instance
  bz := fun _ _ h => by cases h; infer_instance
  bo := fun h => absurd h (by decide)
  st := fun h => absurd h (by decide)
  np := fun h => absurd h (by decide)
  it := fun h => absurd h (by decide)
  ik := fun _ h => by cases h
  nf := fun h => absurd h (by decide)
  ix := fun _ _ _ h => by cases h
  eq := fun _ h => by cases h
theorem tyok81 : TyOk Try.prog 81 { agg := true, k := 4, fo := [0, 2, 3], z := some [Value.int IntKind.i64 0, Value.int IntKind.i64 0, Value.string { data := #[] }, Value.int IntKind.i64 0], bz := some ([Value.int IntKind.i64 0, Value.int IntKind.i64 0, Value.string { data := #[] }, Value.int IntKind.i64 0], [(0, 2), (2, 1), (3, 1)]), eq := some [.i .i64, .i .i64, .s, .i .i64] } where
  one := fun h => absurd h (by decide)
  ag := fun _ => inferInstance
  sz := fun h => absurd h (by decide)
  el := fun _ _ _ h => by cases h
  ar := fun _ _ h => by cases h
  fo := fun f o h => by
    match f, h with
    | 0, h => cases h; infer_instance
    | 1, h => cases h; infer_instance
    | 2, h => cases h; infer_instance
    | f + 3, h => cases h
  z := fun _ h => by cases h; infer_instance
  bz := fun _ _ h => by cases h; infer_instance
  bo := fun h => absurd h (by decide)
  st := fun h => absurd h (by decide)
  np := fun h => absurd h (by decide)
  it := fun h => absurd h (by decide)
  ik := fun _ h => by cases h
  nf := fun h => absurd h (by decide)
  ix := fun _ _ _ h => by cases h
  eq := fun _ h => by cases h; infer_instance
theorem tyok83 : TyOk Try.prog 83 { agg := true, k := 3, fo := [0, 1], z := some [Value.string { data := #[] }, Value.slice none 0 0, Value.slice none 0 0], bz := some ([Value.string { data := #[] }, Value.slice none 0 0, Value.slice none 0 0], [(0, 1), (1, 2)]) } where
  one := fun h => absurd h (by decide)
  ag := fun _ => inferInstance
  sz := fun h => absurd h (by decide)
  el := fun _ _ _ h => by cases h
  ar := fun _ _ h => by cases h
  fo := fun f o h => by
    match f, h with
    | 0, h => cases h; infer_instance
    | 1, h => cases h; infer_instance
    | f + 2, h => cases h
  z := fun _ h => by cases h; infer_instance
  bz := fun _ _ h => by cases h; infer_instance
  bo := fun h => absurd h (by decide)
  st := fun h => absurd h (by decide)
  np := fun h => absurd h (by decide)
  it := fun h => absurd h (by decide)
  ik := fun _ h => by cases h
  nf := fun h => absurd h (by decide)
  ix := fun _ _ _ h => by cases h
  eq := fun _ h => by cases h
theorem tyok103 : TyOk Try.prog 103 { k := 1, el := some (79, 2, 16) } where
  one := fun _ _ => inferInstance
  ag := fun h => absurd h (by decide)
  sz := fun _ h => absurd rfl h
  el := fun _ _ _ h => by cases h; infer_instance
  ar := fun _ _ h => by cases h
  fo := fun _ _ h => by cases h
  z := fun _ h => by cases h
  bz := fun _ _ h => by cases h
  bo := fun h => absurd h (by decide)
  st := fun h => absurd h (by decide)
  np := fun h => absurd h (by decide)
  it := fun h => absurd h (by decide)
  ik := fun _ h => by cases h
  nf := fun h => absurd h (by decide)
  ix := fun _ _ _ h => by cases h
  eq := fun _ h => by cases h
theorem tyok116 : TyOk Try.prog 116 { agg := true, k := 4, ar := some (4, 1), z := some [Value.slice none 0 0, Value.slice none 0 0, Value.slice none 0 0, Value.slice none 0 0], ix := some (4, 1, false) } where
  one := fun h => absurd h (by decide)
  ag := fun _ => inferInstance
  sz := fun h => absurd h (by decide)
  el := fun _ _ _ h => by cases h
  ar := fun _ _ h => by cases h; exact ⟨57, inferInstance⟩
  fo := fun _ _ h => by cases h
  z := fun _ h => by cases h; infer_instance
  bz := fun _ _ h => by cases h
  bo := fun h => absurd h (by decide)
  st := fun h => absurd h (by decide)
  np := fun h => absurd h (by decide)
  it := fun h => absurd h (by decide)
  ik := fun _ h => by cases h
  nf := fun h => absurd h (by decide)
  ix := fun _ _ _ h => by cases h; exact ⟨57, Try.underlying116, Try.sizeOf57, Try.isAgg57⟩
  eq := fun _ h => by cases h
theorem tyok118 : TyOk Try.prog 118 { k := 1, el := some (133, 2, 16) } where
  one := fun _ _ => inferInstance
  ag := fun h => absurd h (by decide)
  sz := fun _ h => absurd rfl h
  el := fun _ _ _ h => by cases h; infer_instance
  ar := fun _ _ h => by cases h
  fo := fun _ _ h => by cases h
  z := fun _ h => by cases h
  bz := fun _ _ h => by cases h
  bo := fun h => absurd h (by decide)
  st := fun h => absurd h (by decide)
  np := fun h => absurd h (by decide)
  it := fun h => absurd h (by decide)
  ik := fun _ h => by cases h
  nf := fun h => absurd h (by decide)
  ix := fun _ _ _ h => by cases h
  eq := fun _ h => by cases h
theorem tyok120 : TyOk Try.prog 120 { agg := true, k := 4, ar := some (4, 1), z := some [Value.slice none 0 0, Value.slice none 0 0, Value.slice none 0 0, Value.slice none 0 0], bz := some ([Value.slice none 0 0, Value.slice none 0 0, Value.slice none 0 0, Value.slice none 0 0], [(0, 1), (1, 1), (2, 1), (3, 1)]), ix := some (4, 1, false) } where
  one := fun h => absurd h (by decide)
  ag := fun _ => inferInstance
  sz := fun h => absurd h (by decide)
  el := fun _ _ _ h => by cases h
  ar := fun _ _ h => by cases h; exact ⟨118, inferInstance⟩
  fo := fun _ _ h => by cases h
  z := fun _ h => by cases h; infer_instance
  bz := fun _ _ h => by cases h; infer_instance
  bo := fun h => absurd h (by decide)
  st := fun h => absurd h (by decide)
  np := fun h => absurd h (by decide)
  it := fun h => absurd h (by decide)
  ik := fun _ h => by cases h
  nf := fun h => absurd h (by decide)
  ix := fun _ _ _ h => by cases h; exact ⟨118, Try.underlying120, Try.sizeOf118, Try.isAgg118⟩
  eq := fun _ h => by cases h
theorem tyok128 : TyOk Try.prog 128 { k := 1, it := true, ik := some .u64 } where
  one := fun _ _ => inferInstance
  ag := fun h => absurd h (by decide)
  sz := fun _ h => absurd rfl h
  el := fun _ _ _ h => by cases h
  ar := fun _ _ h => by cases h
  fo := fun _ _ h => by cases h
  z := fun _ h => by cases h
  bz := fun _ _ h => by cases h
  bo := fun h => absurd h (by decide)
  st := fun h => absurd h (by decide)
  np := fun h => absurd h (by decide)
  it := fun _ => ⟨_, Try.underlying128⟩
  ik := fun _ h => by cases h; exact Try.underlying128
  nf := fun h => absurd h (by decide)
  ix := fun _ _ _ h => by cases h
  eq := fun _ h => by cases h
theorem tyok133 : TyOk Try.prog 133 { agg := true, k := 2, ar := some (2, 1), z := some [Value.int IntKind.i64 0, Value.int IntKind.i64 0], bz := some ([Value.int IntKind.i64 0, Value.int IntKind.i64 0], [(0, 1), (1, 1)]) } where
  one := fun h => absurd h (by decide)
  ag := fun _ => inferInstance
  sz := fun h => absurd h (by decide)
  el := fun _ _ _ h => by cases h
  ar := fun _ _ h => by cases h; exact ⟨2, inferInstance⟩
  fo := fun _ _ h => by cases h
  z := fun _ h => by cases h; infer_instance
  bz := fun _ _ h => by cases h; infer_instance
  bo := fun h => absurd h (by decide)
  st := fun h => absurd h (by decide)
  np := fun h => absurd h (by decide)
  it := fun h => absurd h (by decide)
  ik := fun _ h => by cases h
  nf := fun h => absurd h (by decide)
  ix := fun _ _ _ h => by cases h
  eq := fun _ h => by cases h
theorem tyok147 : TyOk Try.prog 147 { k := 1, it := true, ik := some .i64 } where
  one := fun _ _ => inferInstance
  ag := fun h => absurd h (by decide)
  sz := fun _ h => absurd rfl h
  el := fun _ _ _ h => by cases h
  ar := fun _ _ h => by cases h
  fo := fun _ _ h => by cases h
  z := fun _ h => by cases h
  bz := fun _ _ h => by cases h
  bo := fun h => absurd h (by decide)
  st := fun h => absurd h (by decide)
  np := fun h => absurd h (by decide)
  it := fun _ => ⟨_, Try.underlying147⟩
  ik := fun _ h => by cases h; exact Try.underlying147
  nf := fun h => absurd h (by decide)
  ix := fun _ _ _ h => by cases h
  eq := fun _ h => by cases h
theorem tyok155 : TyOk Try.prog 155 { k := 1, it := true, ik := some .u64 } where
  one := fun _ _ => inferInstance
  ag := fun h => absurd h (by decide)
  sz := fun _ h => absurd rfl h
  el := fun _ _ _ h => by cases h
  ar := fun _ _ h => by cases h
  fo := fun _ _ h => by cases h
  z := fun _ h => by cases h
  bz := fun _ _ h => by cases h
  bo := fun h => absurd h (by decide)
  st := fun h => absurd h (by decide)
  np := fun h => absurd h (by decide)
  it := fun _ => ⟨_, Try.underlying155⟩
  ik := fun _ h => by cases h; exact Try.underlying155
  nf := fun h => absurd h (by decide)
  ix := fun _ _ _ h => by cases h
  eq := fun _ h => by cases h
theorem tyok156 : TyOk Try.prog 156 { k := 1, el := some (3, 1, 8) } where
  one := fun _ _ => inferInstance
  ag := fun h => absurd h (by decide)
  sz := fun _ h => absurd rfl h
  el := fun _ _ _ h => by cases h; infer_instance
  ar := fun _ _ h => by cases h
  fo := fun _ _ h => by cases h
  z := fun _ h => by cases h
  bz := fun _ _ h => by cases h
  bo := fun h => absurd h (by decide)
  st := fun h => absurd h (by decide)
  np := fun h => absurd h (by decide)
  it := fun h => absurd h (by decide)
  ik := fun _ h => by cases h
  nf := fun h => absurd h (by decide)
  ix := fun _ _ _ h => by cases h
  eq := fun _ h => by cases h
theorem tyok157 : TyOk Try.prog 157 { k := 1, z := some [Value.int IntKind.u64 0], it := true, ik := some .u64 } where
  one := fun _ _ => inferInstance
  ag := fun h => absurd h (by decide)
  sz := fun _ h => absurd rfl h
  el := fun _ _ _ h => by cases h
  ar := fun _ _ h => by cases h
  fo := fun _ _ h => by cases h
  z := fun _ h => by cases h; infer_instance
  bz := fun _ _ h => by cases h
  bo := fun h => absurd h (by decide)
  st := fun h => absurd h (by decide)
  np := fun h => absurd h (by decide)
  it := fun _ => ⟨_, Try.underlying157⟩
  ik := fun _ h => by cases h; exact Try.underlying157
  nf := fun h => absurd h (by decide)
  ix := fun _ _ _ h => by cases h
  eq := fun _ h => by cases h
noncomputable def tab : List (Nat × TyI) := [
  (2, { k := 1, it := true, ik := some .i64 }),
  (3, { k := 1, z := some [Value.int IntKind.i64 0], it := true, ik := some .i64 }),
  (5, { k := 1, it := true, ik := some .u8 }),
  (9, { k := 1, st := true }),
  (22, { k := 1, it := true, ik := some .u32 }),
  (24, { k := 1, el := some (68, 11, 136) }),
  (26, { agg := true, k := 1, fo := [0], z := some [Value.slice none 0 0], bz := some ([Value.slice none 0 0], [(0, 1)]) }),
  (28, { agg := true, k := 1, fo := [0], z := some [Value.slice none 0 0] }),
  (30, { agg := true, k := 4, ar := some (4, 1), z := some [Value.int IntKind.i64 0, Value.int IntKind.i64 0, Value.int IntKind.i64 0, Value.int IntKind.i64 0], bz := some ([Value.int IntKind.i64 0, Value.int IntKind.i64 0, Value.int IntKind.i64 0, Value.int IntKind.i64 0], [(0, 1), (1, 1), (2, 1), (3, 1)]), eq := some [.i .i64, .i .i64, .i .i64, .i .i64], ix := some (4, 1, false) }),
  (31, { k := 1, el := some (81, 4, 40) }),
  (32, { k := 1, el := some (83, 3, 64) }),
  (34, { agg := true, k := 2, fo := [0, 1], z := some [Value.slice none 0 0, Value.slice none 0 0], bz := some ([Value.slice none 0 0, Value.slice none 0 0], [(0, 1), (1, 1)]) }),
  (36, { k := 1, el := some (42, 3, 24) }),
  (38, { agg := true, k := 3, fo := [0, 2], z := some [Value.slice none 0 0, Value.slice none 0 0, Value.slice none 0 0], bz := some ([Value.slice none 0 0, Value.slice none 0 0, Value.slice none 0 0], [(0, 2), (2, 1)]) }),
  (40, { agg := true, k := 10, fo := [0, 1, 2, 3, 7], z := some [Value.int IntKind.i64 0, Value.int IntKind.i64 0, Value.int IntKind.i64 0, Value.int IntKind.i64 0, Value.int IntKind.i64 0, Value.int IntKind.i64 0, Value.int IntKind.i64 0, Value.slice none 0 0, Value.slice none 0 0, Value.slice none 0 0], bz := some ([Value.int IntKind.i64 0, Value.int IntKind.i64 0, Value.int IntKind.i64 0, Value.int IntKind.i64 0, Value.int IntKind.i64 0, Value.int IntKind.i64 0, Value.int IntKind.i64 0, Value.slice none 0 0, Value.slice none 0 0, Value.slice none 0 0], [(0, 1), (1, 1), (2, 1), (3, 4), (7, 3)]) }),
  (42, { agg := true, k := 3, fo := [0, 1, 2], z := some [Value.int IntKind.i64 0, Value.int IntKind.i64 0, Value.int IntKind.i64 0], bz := some ([Value.int IntKind.i64 0, Value.int IntKind.i64 0, Value.int IntKind.i64 0], [(0, 1), (1, 1), (2, 1)]), eq := some [.i .i64, .i .i64, .i .i64] }),
  (43, { k := 1, it := true, ik := some .i64 }),
  (46, { agg := true, k := 10, fo := [0, 1, 2, 3, 7], z := some [Value.int IntKind.i64 0, Value.int IntKind.i64 0, Value.int IntKind.i64 0, Value.int IntKind.i64 0, Value.int IntKind.i64 0, Value.int IntKind.i64 0, Value.int IntKind.i64 0, Value.slice none 0 0, Value.slice none 0 0, Value.slice none 0 0], bz := some ([Value.int IntKind.i64 0, Value.int IntKind.i64 0, Value.int IntKind.i64 0, Value.int IntKind.i64 0, Value.int IntKind.i64 0, Value.int IntKind.i64 0, Value.int IntKind.i64 0, Value.slice none 0 0, Value.slice none 0 0, Value.slice none 0 0], [(0, 1), (1, 1), (2, 1), (3, 4), (7, 3)]) }),
  (52, { k := 1, nl := 1 }),
  (57, { k := 1, el := some (2, 1, 8) }),
  (60, { k := 1, nl := 1 }),
  (68, { agg := true, k := 11, fo := [0, 1], z := some [Value.int IntKind.i64 0, Value.int IntKind.i64 0, Value.int IntKind.i64 0, Value.int IntKind.i64 0, Value.int IntKind.i64 0, Value.int IntKind.i64 0, Value.int IntKind.i64 0, Value.int IntKind.i64 0, Value.slice none 0 0, Value.slice none 0 0, Value.slice none 0 0], bz := some ([Value.int IntKind.i64 0, Value.int IntKind.i64 0, Value.int IntKind.i64 0, Value.int IntKind.i64 0, Value.int IntKind.i64 0, Value.int IntKind.i64 0, Value.int IntKind.i64 0, Value.int IntKind.i64 0, Value.slice none 0 0, Value.slice none 0 0, Value.slice none 0 0], [(0, 1), (1, 10)]) }),
  (72, { k := 1, el := some (46, 10, 128) }),
  (75, { agg := true, k := 16, ar := some (4, 4) }),
  (77, { agg := true, k := 20, fo := [0, 1, 2, 3, 4], bz := some ([Value.int IntKind.i64 0, Value.int IntKind.i64 0, Value.slice none 0 0, Value.int IntKind.i64 0, Value.int IntKind.i64 0, Value.int IntKind.i64 0, Value.int IntKind.i64 0, Value.int IntKind.i64 0, Value.int IntKind.i64 0, Value.int IntKind.i64 0, Value.int IntKind.i64 0, Value.int IntKind.i64 0, Value.int IntKind.i64 0, Value.int IntKind.i64 0, Value.int IntKind.i64 0, Value.int IntKind.i64 0, Value.int IntKind.i64 0, Value.int IntKind.i64 0, Value.int IntKind.i64 0, Value.int IntKind.i64 0], [(0, 1), (1, 1), (2, 1), (3, 1), (4, 16)]) }),
  (79, { agg := true, k := 2, fo := [0, 1], z := some [Value.int IntKind.i64 0, Value.int IntKind.i64 0], bz := some ([Value.int IntKind.i64 0, Value.int IntKind.i64 0], [(0, 1), (1, 1)]) }),
  (81, { agg := true, k := 4, fo := [0, 2, 3], z := some [Value.int IntKind.i64 0, Value.int IntKind.i64 0, Value.string { data := #[] }, Value.int IntKind.i64 0], bz := some ([Value.int IntKind.i64 0, Value.int IntKind.i64 0, Value.string { data := #[] }, Value.int IntKind.i64 0], [(0, 2), (2, 1), (3, 1)]), eq := some [.i .i64, .i .i64, .s, .i .i64] }),
  (83, { agg := true, k := 3, fo := [0, 1], z := some [Value.string { data := #[] }, Value.slice none 0 0, Value.slice none 0 0], bz := some ([Value.string { data := #[] }, Value.slice none 0 0, Value.slice none 0 0], [(0, 1), (1, 2)]) }),
  (103, { k := 1, el := some (79, 2, 16) }),
  (116, { agg := true, k := 4, ar := some (4, 1), z := some [Value.slice none 0 0, Value.slice none 0 0, Value.slice none 0 0, Value.slice none 0 0], ix := some (4, 1, false) }),
  (118, { k := 1, el := some (133, 2, 16) }),
  (120, { agg := true, k := 4, ar := some (4, 1), z := some [Value.slice none 0 0, Value.slice none 0 0, Value.slice none 0 0, Value.slice none 0 0], bz := some ([Value.slice none 0 0, Value.slice none 0 0, Value.slice none 0 0, Value.slice none 0 0], [(0, 1), (1, 1), (2, 1), (3, 1)]), ix := some (4, 1, false) }),
  (128, { k := 1, it := true, ik := some .u64 }),
  (133, { agg := true, k := 2, ar := some (2, 1), z := some [Value.int IntKind.i64 0, Value.int IntKind.i64 0], bz := some ([Value.int IntKind.i64 0, Value.int IntKind.i64 0], [(0, 1), (1, 1)]) }),
  (147, { k := 1, it := true, ik := some .i64 }),
  (155, { k := 1, it := true, ik := some .u64 }),
  (156, { k := 1, el := some (3, 1, 8) }),
  (157, { k := 1, z := some [Value.int IntKind.u64 0], it := true, ik := some .u64 })]
theorem tab_ok : TabOk Try.prog tab := ⟨tyok2, tyok3, tyok5, tyok9, tyok22, tyok24, tyok26, tyok28, tyok30, tyok31, tyok32, tyok34, tyok36, tyok38, tyok40, tyok42, tyok43, tyok46, tyok52, tyok57, tyok60, tyok68, tyok72, tyok75, tyok77, tyok79, tyok81, tyok83, tyok103, tyok116, tyok118, tyok120, tyok128, tyok133, tyok147, tyok155, tyok156, tyok157, trivial⟩
noncomputable abbrev ty : Nat → TyI := tyAt tab
theorem ty_ok : ∀ T, TyOk Try.prog T (ty T) := tab_ok.at_

end Go.Proofs.Ytlghgdgpbnlpmaa
