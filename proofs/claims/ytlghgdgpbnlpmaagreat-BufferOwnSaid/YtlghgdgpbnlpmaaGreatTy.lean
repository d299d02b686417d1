/- What is proved: facts of the program's types, in the form that the calculus asks. Conditions: none. -/
import Derived.Test.YtlghgdgpbnlpmaaGreatWk
import Derived.ChangeKeysEq
namespace Go.Proofs.YtlghgdgpbnlpmaaGreat
open Go.RowKit
set_option maxRecDepth 100000

instance one2 : One Tryz.prog 2 := ⟨Tryz.isAgg2, Tryz.sizeOf2⟩
instance one3 : One Tryz.prog 3 := ⟨Tryz.isAgg3, Tryz.sizeOf3⟩
instance ze3 : Ze Tryz.prog 3 [Value.int IntKind.i64 0] := ⟨_, Tryz.zeroValue3, rfl⟩
instance one4 : One Tryz.prog 4 := ⟨Tryz.isAgg4, Tryz.sizeOf4⟩
instance bl4 : BlT Tryz.prog 4 := ⟨Tryz.underlying4⟩
instance one5 : One Tryz.prog 5 := ⟨Tryz.isAgg5, Tryz.sizeOf5⟩
instance one9 : One Tryz.prog 9 := ⟨Tryz.isAgg9, Tryz.sizeOf9⟩
instance st9 : StT Tryz.prog 9 := ⟨Tryz.underlying9⟩
instance one22 : One Tryz.prog 22 := ⟨Tryz.isAgg22, Tryz.sizeOf22⟩
instance sl22 : SlT Tryz.prog 22 45 15 168 := ⟨Tryz.underlying22, ⟨Tryz.t45, _, by kernel_rfl, rfl, rfl, rfl, rfl⟩, by decide⟩
instance one24 : One Tryz.prog 24 := ⟨Tryz.isAgg24, Tryz.sizeOf24⟩
instance sl24 : SlT Tryz.prog 24 117 11 136 := ⟨Tryz.underlying24, ⟨Tryz.t117, _, by kernel_rfl, rfl, rfl, rfl, rfl⟩, by decide⟩
instance ag26 : Ag Tryz.prog 26 1 := ⟨Tryz.isAgg26, Tryz.sizeOf26⟩
instance bd26 : BdT Tryz.prog 26 [Value.slice none 0 0] [(0, 1)] := bd_struct Tryz.zeroValue26 rfl Tryz.underlying26 (fun w => by simp [Tryz.sizeOf24])
instance ze26 : Ze Tryz.prog 26 [Value.slice none 0 0] := ⟨_, Tryz.zeroValue26, rfl⟩
instance fld26_0 : Fld Tryz.prog 26 0 0 := ⟨fun A w => by simp [Instr.fieldAt, Tryz.runUnderlying26, Instr.sureAddr, fieldPlace, Tryz.sizeOf24]⟩
instance ag28 : Ag Tryz.prog 28 1 := ⟨Tryz.isAgg28, Tryz.sizeOf28⟩
instance bd28 : BdT Tryz.prog 28 [Value.slice none 0 0] [(0, 1)] := bd_struct Tryz.zeroValue28 rfl Tryz.underlying28 (fun w => by simp [Tryz.sizeOf26])
instance ze28 : Ze Tryz.prog 28 [Value.slice none 0 0] := ⟨_, Tryz.zeroValue28, rfl⟩
instance fld28_0 : Fld Tryz.prog 28 0 0 := ⟨fun A w => by simp [Instr.fieldAt, Tryz.runUnderlying28, Instr.sureAddr, fieldPlace, Tryz.sizeOf26]⟩
instance one29 : One Tryz.prog 29 := ⟨Tryz.isAgg29, Tryz.sizeOf29⟩
instance sl29 : SlT Tryz.prog 29 43 10 128 := ⟨Tryz.underlying29, ⟨Tryz.t43, _, by kernel_rfl, rfl, rfl, rfl, rfl⟩, by decide⟩
instance ag31 : Ag Tryz.prog 31 1 := ⟨Tryz.isAgg31, Tryz.sizeOf31⟩
instance bd31 : BdT Tryz.prog 31 [Value.slice none 0 0] [(0, 1)] := bd_struct Tryz.zeroValue31 rfl Tryz.underlying31 (fun w => by simp [Tryz.sizeOf29])
instance ze31 : Ze Tryz.prog 31 [Value.slice none 0 0] := ⟨_, Tryz.zeroValue31, rfl⟩
instance fld31_0 : Fld Tryz.prog 31 0 0 := ⟨fun A w => by simp [Instr.fieldAt, Tryz.runUnderlying31, Instr.sureAddr, fieldPlace, Tryz.sizeOf29]⟩
instance ag33 : Ag Tryz.prog 33 4 := ⟨Tryz.isAgg33, Tryz.sizeOf33⟩
instance bd33 : BdT Tryz.prog 33 [Value.int IntKind.i64 0, Value.int IntKind.i64 0, Value.int IntKind.i64 0, Value.int IntKind.i64 0] [(0, 1), (1, 1), (2, 1), (3, 1)] := bd_array Tryz.zeroValue33 rfl Tryz.underlying33 Tryz.sizeOf2 (fun i x hx => by
  match i, hx with
  | 0, hx => simpa using hx
  | 1, hx => simpa using hx
  | 2, hx => simpa using hx
  | 3, hx => simpa using hx
  | i + 4, hx => simp at hx)
instance ze33 : Ze Tryz.prog 33 [Value.int IntKind.i64 0, Value.int IntKind.i64 0, Value.int IntKind.i64 0, Value.int IntKind.i64 0] := ⟨_, Tryz.zeroValue33, rfl⟩
instance ar33 : ArT Tryz.prog 33 4 2 1 := ⟨Tryz.underlying33, Tryz.sizeOf2, by decide⟩
instance one34 : One Tryz.prog 34 := ⟨Tryz.isAgg34, Tryz.sizeOf34⟩
instance sl34 : SlT Tryz.prog 34 126 4 40 := ⟨Tryz.underlying34, ⟨Tryz.t126, _, by kernel_rfl, rfl, rfl, rfl, rfl⟩, by decide⟩
instance one35 : One Tryz.prog 35 := ⟨Tryz.isAgg35, Tryz.sizeOf35⟩
instance sl35 : SlT Tryz.prog 35 122 3 64 := ⟨Tryz.underlying35, ⟨Tryz.t122, _, by kernel_rfl, rfl, rfl, rfl, rfl⟩, by decide⟩
instance ag37 : Ag Tryz.prog 37 2 := ⟨Tryz.isAgg37, Tryz.sizeOf37⟩
instance bd37 : BdT Tryz.prog 37 [Value.slice none 0 0, Value.slice none 0 0] [(0, 1), (1, 1)] := bd_struct Tryz.zeroValue37 rfl Tryz.underlying37 (fun w => by simp [Tryz.sizeOf34, Tryz.sizeOf35])
instance ze37 : Ze Tryz.prog 37 [Value.slice none 0 0, Value.slice none 0 0] := ⟨_, Tryz.zeroValue37, rfl⟩
instance fld37_0 : Fld Tryz.prog 37 0 0 := ⟨fun A w => by simp [Instr.fieldAt, Tryz.runUnderlying37, Instr.sureAddr, fieldPlace, Tryz.sizeOf34]⟩
instance fld37_1 : Fld Tryz.prog 37 1 1 := ⟨fun A w => by simp [Instr.fieldAt, Tryz.runUnderlying37, Instr.sureAddr, fieldPlace, Tryz.sizeOf35]⟩
instance one39 : One Tryz.prog 39 := ⟨Tryz.isAgg39, Tryz.sizeOf39⟩
instance sl39 : SlT Tryz.prog 39 128 3 24 := ⟨Tryz.underlying39, ⟨Tryz.t128, _, by kernel_rfl, rfl, rfl, rfl, rfl⟩, by decide⟩
instance ag41 : Ag Tryz.prog 41 3 := ⟨Tryz.isAgg41, Tryz.sizeOf41⟩
instance bd41 : BdT Tryz.prog 41 [Value.slice none 0 0, Value.slice none 0 0, Value.slice none 0 0] [(0, 2), (2, 1)] := bd_struct Tryz.zeroValue41 rfl Tryz.underlying41 (fun w => by simp [Tryz.sizeOf37, Tryz.sizeOf39])
instance ze41 : Ze Tryz.prog 41 [Value.slice none 0 0, Value.slice none 0 0, Value.slice none 0 0] := ⟨_, Tryz.zeroValue41, rfl⟩
instance fld41_0 : Fld Tryz.prog 41 0 0 := ⟨fun A w => by simp [Instr.fieldAt, Tryz.runUnderlying41, Instr.sureAddr, fieldPlace, Tryz.sizeOf37]⟩
instance fld41_1 : Fld Tryz.prog 41 1 2 := ⟨fun A w => by simp [Instr.fieldAt, Tryz.runUnderlying41, Instr.sureAddr, fieldPlace, Tryz.sizeOf39]⟩
instance ag43 : Ag Tryz.prog 43 10 := ⟨Tryz.isAgg43, Tryz.sizeOf43⟩
instance bd43 : BdT Tryz.prog 43 [Value.int IntKind.i64 0, Value.int IntKind.i64 0, Value.int IntKind.i64 0, Value.int IntKind.i64 0, Value.int IntKind.i64 0, Value.int IntKind.i64 0, Value.int IntKind.i64 0, Value.slice none 0 0, Value.slice none 0 0, Value.slice none 0 0] [(0, 1), (1, 1), (2, 1), (3, 4), (7, 3)] := bd_struct Tryz.zeroValue43 rfl Tryz.underlying43 (fun w => by simp [Tryz.sizeOf2, Tryz.sizeOf3, Tryz.sizeOf33, Tryz.sizeOf41])
instance ze43 : Ze Tryz.prog 43 [Value.int IntKind.i64 0, Value.int IntKind.i64 0, Value.int IntKind.i64 0, Value.int IntKind.i64 0, Value.int IntKind.i64 0, Value.int IntKind.i64 0, Value.int IntKind.i64 0, Value.slice none 0 0, Value.slice none 0 0, Value.slice none 0 0] := ⟨_, Tryz.zeroValue43, rfl⟩
instance fld43_0 : Fld Tryz.prog 43 0 0 := ⟨fun A w => by simp [Instr.fieldAt, Tryz.runUnderlying43, Instr.sureAddr, fieldPlace, Tryz.sizeOf3]⟩
instance fld43_1 : Fld Tryz.prog 43 1 1 := ⟨fun A w => by simp [Instr.fieldAt, Tryz.runUnderlying43, Instr.sureAddr, fieldPlace, Tryz.sizeOf2]⟩
instance fld43_2 : Fld Tryz.prog 43 2 2 := ⟨fun A w => by simp [Instr.fieldAt, Tryz.runUnderlying43, Instr.sureAddr, fieldPlace, Tryz.sizeOf2]⟩
instance fld43_3 : Fld Tryz.prog 43 3 3 := ⟨fun A w => by simp [Instr.fieldAt, Tryz.runUnderlying43, Instr.sureAddr, fieldPlace, Tryz.sizeOf33]⟩
instance fld43_4 : Fld Tryz.prog 43 4 7 := ⟨fun A w => by simp [Instr.fieldAt, Tryz.runUnderlying43, Instr.sureAddr, fieldPlace, Tryz.sizeOf41]⟩
instance ag45 : Ag Tryz.prog 45 15 := ⟨Tryz.isAgg45, Tryz.sizeOf45⟩
instance ze45 : Ze Tryz.prog 45 [Value.int IntKind.u8 0, Value.int IntKind.i64 0, Value.int IntKind.i64 0, Value.int IntKind.i64 0, Value.int IntKind.i64 0, Value.int IntKind.i64 0, Value.int IntKind.i64 0, Value.int IntKind.i64 0, Value.slice none 0 0, Value.slice none 0 0, Value.slice none 0 0, Value.int IntKind.i64 0, Value.int IntKind.i64 0, Value.int IntKind.i64 0, Value.int IntKind.i64 0] := ⟨_, Tryz.zeroValue45, rfl⟩
instance fld45_0 : Fld Tryz.prog 45 0 0 := ⟨fun A w => by simp [Instr.fieldAt, Tryz.runUnderlying45, Instr.sureAddr, fieldPlace, Tryz.sizeOf5]⟩
instance fld45_1 : Fld Tryz.prog 45 1 1 := ⟨fun A w => by simp [Instr.fieldAt, Tryz.runUnderlying45, Instr.sureAddr, fieldPlace, Tryz.sizeOf43]⟩
instance fld45_2 : Fld Tryz.prog 45 2 11 := ⟨fun A w => by simp [Instr.fieldAt, Tryz.runUnderlying45, Instr.sureAddr, fieldPlace, Tryz.sizeOf33]⟩
instance one47 : One Tryz.prog 47 := ⟨Tryz.isAgg47, Tryz.sizeOf47⟩
instance ag50 : Ag Tryz.prog 50 10 := ⟨Tryz.isAgg50, Tryz.sizeOf50⟩
instance bd50 : BdT Tryz.prog 50 [Value.int IntKind.i64 0, Value.int IntKind.i64 0, Value.int IntKind.i64 0, Value.int IntKind.i64 0, Value.int IntKind.i64 0, Value.int IntKind.i64 0, Value.int IntKind.i64 0, Value.slice none 0 0, Value.slice none 0 0, Value.slice none 0 0] [(0, 1), (1, 1), (2, 1), (3, 4), (7, 3)] := bd_struct Tryz.zeroValue50 rfl Tryz.underlying50 (fun w => by simp [Tryz.sizeOf2, Tryz.sizeOf3, Tryz.sizeOf33, Tryz.sizeOf41])
instance ze50 : Ze Tryz.prog 50 [Value.int IntKind.i64 0, Value.int IntKind.i64 0, Value.int IntKind.i64 0, Value.int IntKind.i64 0, Value.int IntKind.i64 0, Value.int IntKind.i64 0, Value.int IntKind.i64 0, Value.slice none 0 0, Value.slice none 0 0, Value.slice none 0 0] := ⟨_, Tryz.zeroValue50, rfl⟩
instance fld50_0 : Fld Tryz.prog 50 0 0 := ⟨fun A w => by simp [Instr.fieldAt, Tryz.runUnderlying50, Instr.sureAddr, fieldPlace, Tryz.sizeOf3]⟩
instance fld50_1 : Fld Tryz.prog 50 1 1 := ⟨fun A w => by simp [Instr.fieldAt, Tryz.runUnderlying50, Instr.sureAddr, fieldPlace, Tryz.sizeOf2]⟩
instance fld50_2 : Fld Tryz.prog 50 2 2 := ⟨fun A w => by simp [Instr.fieldAt, Tryz.runUnderlying50, Instr.sureAddr, fieldPlace, Tryz.sizeOf2]⟩
instance fld50_3 : Fld Tryz.prog 50 3 3 := ⟨fun A w => by simp [Instr.fieldAt, Tryz.runUnderlying50, Instr.sureAddr, fieldPlace, Tryz.sizeOf33]⟩
instance fld50_4 : Fld Tryz.prog 50 4 7 := ⟨fun A w => by simp [Instr.fieldAt, Tryz.runUnderlying50, Instr.sureAddr, fieldPlace, Tryz.sizeOf41]⟩
instance one60 : One Tryz.prog 60 := ⟨Tryz.isAgg60, Tryz.sizeOf60⟩
instance sl60 : SlT Tryz.prog 60 50 10 128 := ⟨Tryz.underlying60, ⟨Tryz.t50, _, by kernel_rfl, rfl, rfl, rfl, rfl⟩, by decide⟩
instance one64 : One Tryz.prog 64 := ⟨Tryz.isAgg64, Tryz.sizeOf64⟩
instance one76 : One Tryz.prog 76 := ⟨Tryz.isAgg76, Tryz.sizeOf76⟩
instance one86 : One Tryz.prog 86 := ⟨Tryz.isAgg86, Tryz.sizeOf86⟩
instance sl86 : SlT Tryz.prog 86 97 17 184 := ⟨Tryz.underlying86, ⟨Tryz.t97, _, by kernel_rfl, rfl, rfl, rfl, rfl⟩, by decide⟩
instance one89 : One Tryz.prog 89 := ⟨Tryz.isAgg89, Tryz.sizeOf89⟩
instance sl89 : SlT Tryz.prog 89 139 11 136 := ⟨Tryz.underlying89, ⟨Tryz.t139, _, by kernel_rfl, rfl, rfl, rfl, rfl⟩, by decide⟩
instance ag90 : Ag Tryz.prog 90 16 := ⟨Tryz.isAgg90, Tryz.sizeOf90⟩
instance ar90 : ArT Tryz.prog 90 4 33 4 := ⟨Tryz.underlying90, Tryz.sizeOf33, by decide⟩
instance ag92 : Ag Tryz.prog 92 20 := ⟨Tryz.isAgg92, Tryz.sizeOf92⟩
instance bd92 : BdT Tryz.prog 92 [Value.int IntKind.i64 0, Value.int IntKind.i64 0, Value.slice none 0 0, Value.int IntKind.i64 0, Value.int IntKind.i64 0, Value.int IntKind.i64 0, Value.int IntKind.i64 0, Value.int IntKind.i64 0, Value.int IntKind.i64 0, Value.int IntKind.i64 0, Value.int IntKind.i64 0, Value.int IntKind.i64 0, Value.int IntKind.i64 0, Value.int IntKind.i64 0, Value.int IntKind.i64 0, Value.int IntKind.i64 0, Value.int IntKind.i64 0, Value.int IntKind.i64 0, Value.int IntKind.i64 0, Value.int IntKind.i64 0] [(0, 1), (1, 1), (2, 1), (3, 1), (4, 16)] := bd_struct Tryz.zeroValue92 rfl Tryz.underlying92 (fun w => by simp [Tryz.sizeOf2, Tryz.sizeOf3, Tryz.sizeOf89, Tryz.sizeOf90])
instance ze92 : Ze Tryz.prog 92 [Value.int IntKind.i64 0, Value.int IntKind.i64 0, Value.slice none 0 0, Value.int IntKind.i64 0, Value.int IntKind.i64 0, Value.int IntKind.i64 0, Value.int IntKind.i64 0, Value.int IntKind.i64 0, Value.int IntKind.i64 0, Value.int IntKind.i64 0, Value.int IntKind.i64 0, Value.int IntKind.i64 0, Value.int IntKind.i64 0, Value.int IntKind.i64 0, Value.int IntKind.i64 0, Value.int IntKind.i64 0, Value.int IntKind.i64 0, Value.int IntKind.i64 0, Value.int IntKind.i64 0, Value.int IntKind.i64 0] := ⟨_, Tryz.zeroValue92, rfl⟩
instance fld92_0 : Fld Tryz.prog 92 0 0 := ⟨fun A w => by simp [Instr.fieldAt, Tryz.runUnderlying92, Instr.sureAddr, fieldPlace, Tryz.sizeOf3]⟩
instance fld92_1 : Fld Tryz.prog 92 1 1 := ⟨fun A w => by simp [Instr.fieldAt, Tryz.runUnderlying92, Instr.sureAddr, fieldPlace, Tryz.sizeOf3]⟩
instance fld92_2 : Fld Tryz.prog 92 2 2 := ⟨fun A w => by simp [Instr.fieldAt, Tryz.runUnderlying92, Instr.sureAddr, fieldPlace, Tryz.sizeOf89]⟩
instance fld92_3 : Fld Tryz.prog 92 3 3 := ⟨fun A w => by simp [Instr.fieldAt, Tryz.runUnderlying92, Instr.sureAddr, fieldPlace, Tryz.sizeOf2]⟩
instance fld92_4 : Fld Tryz.prog 92 4 4 := ⟨fun A w => by simp [Instr.fieldAt, Tryz.runUnderlying92, Instr.sureAddr, fieldPlace, Tryz.sizeOf90]⟩
instance ag97 : Ag Tryz.prog 97 17 := ⟨Tryz.isAgg97, Tryz.sizeOf97⟩
instance fld97_0 : Fld Tryz.prog 97 0 0 := ⟨fun A w => by simp [Instr.fieldAt, Tryz.runUnderlying97, Instr.sureAddr, fieldPlace, Tryz.sizeOf5]⟩
instance fld97_1 : Fld Tryz.prog 97 1 1 := ⟨fun A w => by simp [Instr.fieldAt, Tryz.runUnderlying97, Instr.sureAddr, fieldPlace, Tryz.sizeOf43]⟩
instance fld97_2 : Fld Tryz.prog 97 2 11 := ⟨fun A w => by simp [Instr.fieldAt, Tryz.runUnderlying97, Instr.sureAddr, fieldPlace, Tryz.sizeOf3]⟩
instance fld97_3 : Fld Tryz.prog 97 3 12 := ⟨fun A w => by simp [Instr.fieldAt, Tryz.runUnderlying97, Instr.sureAddr, fieldPlace, Tryz.sizeOf33]⟩
instance fld97_4 : Fld Tryz.prog 97 4 16 := ⟨fun A w => by simp [Instr.fieldAt, Tryz.runUnderlying97, Instr.sureAddr, fieldPlace, Tryz.sizeOf3]⟩
instance one106 : One Tryz.prog 106 := ⟨Tryz.isAgg106, Tryz.sizeOf106⟩
instance sl106 : SlT Tryz.prog 106 2 1 8 := ⟨Tryz.underlying106, ⟨Tryz.t2, _, by kernel_rfl, rfl, rfl, rfl, rfl⟩, by decide⟩
instance ag117 : Ag Tryz.prog 117 11 := ⟨Tryz.isAgg117, Tryz.sizeOf117⟩
instance bd117 : BdT Tryz.prog 117 [Value.int IntKind.i64 0, Value.int IntKind.i64 0, Value.int IntKind.i64 0, Value.int IntKind.i64 0, Value.int IntKind.i64 0, Value.int IntKind.i64 0, Value.int IntKind.i64 0, Value.int IntKind.i64 0, Value.slice none 0 0, Value.slice none 0 0, Value.slice none 0 0] [(0, 1), (1, 10)] := bd_struct Tryz.zeroValue117 rfl Tryz.underlying117 (fun w => by simp [Tryz.sizeOf2, Tryz.sizeOf50])
instance ze117 : Ze Tryz.prog 117 [Value.int IntKind.i64 0, Value.int IntKind.i64 0, Value.int IntKind.i64 0, Value.int IntKind.i64 0, Value.int IntKind.i64 0, Value.int IntKind.i64 0, Value.int IntKind.i64 0, Value.int IntKind.i64 0, Value.slice none 0 0, Value.slice none 0 0, Value.slice none 0 0] := ⟨_, Tryz.zeroValue117, rfl⟩
instance fld117_0 : Fld Tryz.prog 117 0 0 := ⟨fun A w => by simp [Instr.fieldAt, Tryz.runUnderlying117, Instr.sureAddr, fieldPlace, Tryz.sizeOf2]⟩
instance fld117_1 : Fld Tryz.prog 117 1 1 := ⟨fun A w => by simp [Instr.fieldAt, Tryz.runUnderlying117, Instr.sureAddr, fieldPlace, Tryz.sizeOf50]⟩
instance ag122 : Ag Tryz.prog 122 3 := ⟨Tryz.isAgg122, Tryz.sizeOf122⟩
instance bd122 : BdT Tryz.prog 122 [Value.string { data := #[] }, Value.slice none 0 0, Value.slice none 0 0] [(0, 1), (1, 2)] := bd_struct Tryz.zeroValue122 rfl Tryz.underlying122 (fun w => by simp [Tryz.sizeOf37, Tryz.sizeOf9])
instance ze122 : Ze Tryz.prog 122 [Value.string { data := #[] }, Value.slice none 0 0, Value.slice none 0 0] := ⟨_, Tryz.zeroValue122, rfl⟩
instance fld122_0 : Fld Tryz.prog 122 0 0 := ⟨fun A w => by simp [Instr.fieldAt, Tryz.runUnderlying122, Instr.sureAddr, fieldPlace, Tryz.sizeOf9]⟩
instance fld122_1 : Fld Tryz.prog 122 1 1 := ⟨fun A w => by simp [Instr.fieldAt, Tryz.runUnderlying122, Instr.sureAddr, fieldPlace, Tryz.sizeOf37]⟩
instance ag124 : Ag Tryz.prog 124 2 := ⟨Tryz.isAgg124, Tryz.sizeOf124⟩
instance bd124 : BdT Tryz.prog 124 [Value.int IntKind.i64 0, Value.int IntKind.i64 0] [(0, 1), (1, 1)] := bd_struct Tryz.zeroValue124 rfl Tryz.underlying124 (fun w => by simp [Tryz.sizeOf2, Tryz.sizeOf3])
instance ze124 : Ze Tryz.prog 124 [Value.int IntKind.i64 0, Value.int IntKind.i64 0] := ⟨_, Tryz.zeroValue124, rfl⟩
instance fld124_0 : Fld Tryz.prog 124 0 0 := ⟨fun A w => by simp [Instr.fieldAt, Tryz.runUnderlying124, Instr.sureAddr, fieldPlace, Tryz.sizeOf3]⟩
instance fld124_1 : Fld Tryz.prog 124 1 1 := ⟨fun A w => by simp [Instr.fieldAt, Tryz.runUnderlying124, Instr.sureAddr, fieldPlace, Tryz.sizeOf2]⟩
instance ag126 : Ag Tryz.prog 126 4 := ⟨Tryz.isAgg126, Tryz.sizeOf126⟩
instance bd126 : BdT Tryz.prog 126 [Value.int IntKind.i64 0, Value.int IntKind.i64 0, Value.string { data := #[] }, Value.int IntKind.i64 0] [(0, 2), (2, 1), (3, 1)] := bd_struct Tryz.zeroValue126 rfl Tryz.underlying126 (fun w => by simp [Tryz.sizeOf124, Tryz.sizeOf2, Tryz.sizeOf9])
instance ze126 : Ze Tryz.prog 126 [Value.int IntKind.i64 0, Value.int IntKind.i64 0, Value.string { data := #[] }, Value.int IntKind.i64 0] := ⟨_, Tryz.zeroValue126, rfl⟩
instance fld126_0 : Fld Tryz.prog 126 0 0 := ⟨fun A w => by simp [Instr.fieldAt, Tryz.runUnderlying126, Instr.sureAddr, fieldPlace, Tryz.sizeOf124]⟩
instance fld126_1 : Fld Tryz.prog 126 1 2 := ⟨fun A w => by simp [Instr.fieldAt, Tryz.runUnderlying126, Instr.sureAddr, fieldPlace, Tryz.sizeOf9]⟩
instance fld126_2 : Fld Tryz.prog 126 2 3 := ⟨fun A w => by simp [Instr.fieldAt, Tryz.runUnderlying126, Instr.sureAddr, fieldPlace, Tryz.sizeOf2]⟩
instance ag128 : Ag Tryz.prog 128 3 := ⟨Tryz.isAgg128, Tryz.sizeOf128⟩
instance bd128 : BdT Tryz.prog 128 [Value.int IntKind.i64 0, Value.int IntKind.i64 0, Value.int IntKind.i64 0] [(0, 1), (1, 1), (2, 1)] := bd_struct Tryz.zeroValue128 rfl Tryz.underlying128 (fun w => by simp [Tryz.sizeOf2, Tryz.sizeOf3])
instance ze128 : Ze Tryz.prog 128 [Value.int IntKind.i64 0, Value.int IntKind.i64 0, Value.int IntKind.i64 0] := ⟨_, Tryz.zeroValue128, rfl⟩
instance fld128_0 : Fld Tryz.prog 128 0 0 := ⟨fun A w => by simp [Instr.fieldAt, Tryz.runUnderlying128, Instr.sureAddr, fieldPlace, Tryz.sizeOf3]⟩
instance fld128_1 : Fld Tryz.prog 128 1 1 := ⟨fun A w => by simp [Instr.fieldAt, Tryz.runUnderlying128, Instr.sureAddr, fieldPlace, Tryz.sizeOf2]⟩
instance fld128_2 : Fld Tryz.prog 128 2 2 := ⟨fun A w => by simp [Instr.fieldAt, Tryz.runUnderlying128, Instr.sureAddr, fieldPlace, Tryz.sizeOf2]⟩
instance ag137 : Ag Tryz.prog 137 20 := ⟨Tryz.isAgg137, Tryz.sizeOf137⟩
instance bd137 : BdT Tryz.prog 137 [Value.int IntKind.i64 0, Value.int IntKind.i64 0, Value.slice none 0 0, Value.int IntKind.i64 0, Value.int IntKind.i64 0, Value.int IntKind.i64 0, Value.int IntKind.i64 0, Value.int IntKind.i64 0, Value.int IntKind.i64 0, Value.int IntKind.i64 0, Value.int IntKind.i64 0, Value.int IntKind.i64 0, Value.int IntKind.i64 0, Value.int IntKind.i64 0, Value.int IntKind.i64 0, Value.int IntKind.i64 0, Value.int IntKind.i64 0, Value.int IntKind.i64 0, Value.int IntKind.i64 0, Value.int IntKind.i64 0] [(0, 1), (1, 1), (2, 1), (3, 1), (4, 16)] := bd_struct Tryz.zeroValue137 rfl Tryz.underlying137 (fun w => by simp [Tryz.sizeOf2, Tryz.sizeOf26, Tryz.sizeOf3, Tryz.sizeOf90])
instance fld137_0 : Fld Tryz.prog 137 0 0 := ⟨fun A w => by simp [Instr.fieldAt, Tryz.runUnderlying137, Instr.sureAddr, fieldPlace, Tryz.sizeOf3]⟩
instance fld137_1 : Fld Tryz.prog 137 1 1 := ⟨fun A w => by simp [Instr.fieldAt, Tryz.runUnderlying137, Instr.sureAddr, fieldPlace, Tryz.sizeOf3]⟩
instance fld137_2 : Fld Tryz.prog 137 2 2 := ⟨fun A w => by simp [Instr.fieldAt, Tryz.runUnderlying137, Instr.sureAddr, fieldPlace, Tryz.sizeOf26]⟩
instance fld137_3 : Fld Tryz.prog 137 3 3 := ⟨fun A w => by simp [Instr.fieldAt, Tryz.runUnderlying137, Instr.sureAddr, fieldPlace, Tryz.sizeOf2]⟩
instance fld137_4 : Fld Tryz.prog 137 4 4 := ⟨fun A w => by simp [Instr.fieldAt, Tryz.runUnderlying137, Instr.sureAddr, fieldPlace, Tryz.sizeOf90]⟩
instance ag139 : Ag Tryz.prog 139 11 := ⟨Tryz.isAgg139, Tryz.sizeOf139⟩
instance bd139 : BdT Tryz.prog 139 [Value.int IntKind.i64 0, Value.int IntKind.i64 0, Value.int IntKind.i64 0, Value.int IntKind.i64 0, Value.int IntKind.i64 0, Value.int IntKind.i64 0, Value.int IntKind.i64 0, Value.int IntKind.i64 0, Value.slice none 0 0, Value.slice none 0 0, Value.slice none 0 0] [(0, 1), (1, 10)] := bd_struct Tryz.zeroValue139 rfl Tryz.underlying139 (fun w => by simp [Tryz.sizeOf2, Tryz.sizeOf43])
instance fld139_0 : Fld Tryz.prog 139 0 0 := ⟨fun A w => by simp [Instr.fieldAt, Tryz.runUnderlying139, Instr.sureAddr, fieldPlace, Tryz.sizeOf2]⟩
instance fld139_1 : Fld Tryz.prog 139 1 1 := ⟨fun A w => by simp [Instr.fieldAt, Tryz.runUnderlying139, Instr.sureAddr, fieldPlace, Tryz.sizeOf43]⟩
instance one158 : One Tryz.prog 158 := ⟨Tryz.isAgg158, Tryz.sizeOf158⟩
instance sl158 : SlT Tryz.prog 158 181 2 16 := ⟨Tryz.underlying158, ⟨Tryz.t181, _, by kernel_rfl, rfl, rfl, rfl, rfl⟩, by decide⟩
instance one161 : One Tryz.prog 161 := ⟨Tryz.isAgg161, Tryz.sizeOf161⟩
instance sl161 : SlT Tryz.prog 161 124 2 16 := ⟨Tryz.underlying161, ⟨Tryz.t124, _, by kernel_rfl, rfl, rfl, rfl, rfl⟩, by decide⟩
instance one162 : One Tryz.prog 162 := ⟨Tryz.isAgg162, Tryz.sizeOf162⟩
instance sl162 : SlT Tryz.prog 162 166 5 64 := ⟨Tryz.underlying162, ⟨Tryz.t166, _, by kernel_rfl, rfl, rfl, rfl, rfl⟩, by decide⟩
instance one164 : One Tryz.prog 164 := ⟨Tryz.isAgg164, Tryz.sizeOf164⟩
instance sl164 : SlT Tryz.prog 164 9 1 16 := ⟨Tryz.underlying164, ⟨Tryz.t9, _, by kernel_rfl, rfl, rfl, rfl, rfl⟩, by decide⟩
instance ag166 : Ag Tryz.prog 166 5 := ⟨Tryz.isAgg166, Tryz.sizeOf166⟩
instance bd166 : BdT Tryz.prog 166 [Value.slice none 0 0, Value.int IntKind.i64 0, Value.int IntKind.i64 0, Value.string { data := #[] }, Value.int IntKind.i64 0] [(0, 1), (1, 4)] := bd_struct Tryz.zeroValue166 rfl Tryz.underlying166 (fun w => by simp [Tryz.sizeOf126, Tryz.sizeOf164])
instance fld166_0 : Fld Tryz.prog 166 0 0 := ⟨fun A w => by simp [Instr.fieldAt, Tryz.runUnderlying166, Instr.sureAddr, fieldPlace, Tryz.sizeOf164]⟩
instance fld166_1 : Fld Tryz.prog 166 1 1 := ⟨fun A w => by simp [Instr.fieldAt, Tryz.runUnderlying166, Instr.sureAddr, fieldPlace, Tryz.sizeOf126]⟩
instance ag181 : Ag Tryz.prog 181 2 := ⟨Tryz.isAgg181, Tryz.sizeOf181⟩
instance bd181 : BdT Tryz.prog 181 [Value.int IntKind.i64 0, Value.int IntKind.i64 0] [(0, 1), (1, 1)] := bd_array Tryz.zeroValue181 rfl Tryz.underlying181 Tryz.sizeOf2 (fun i x hx => by
  match i, hx with
  | 0, hx => simpa using hx
  | 1, hx => simpa using hx
  | i + 2, hx => simp at hx)
instance ar181 : ArT Tryz.prog 181 2 2 1 := ⟨Tryz.underlying181, Tryz.sizeOf2, by decide⟩
instance ag188 : Ag Tryz.prog 188 4 := ⟨Tryz.isAgg188, Tryz.sizeOf188⟩
instance ze188 : Ze Tryz.prog 188 [Value.slice none 0 0, Value.slice none 0 0, Value.slice none 0 0, Value.slice none 0 0] := ⟨_, Tryz.zeroValue188, rfl⟩
instance ar188 : ArT Tryz.prog 188 4 106 1 := ⟨Tryz.underlying188, Tryz.sizeOf106, by decide⟩
instance one190 : One Tryz.prog 190 := ⟨Tryz.isAgg190, Tryz.sizeOf190⟩
instance sl190 : SlT Tryz.prog 190 209 2 16 := ⟨Tryz.underlying190, ⟨Tryz.t209, _, by kernel_rfl, rfl, rfl, rfl, rfl⟩, by decide⟩
instance ag192 : Ag Tryz.prog 192 4 := ⟨Tryz.isAgg192, Tryz.sizeOf192⟩
instance bd192 : BdT Tryz.prog 192 [Value.slice none 0 0, Value.slice none 0 0, Value.slice none 0 0, Value.slice none 0 0] [(0, 1), (1, 1), (2, 1), (3, 1)] := bd_array Tryz.zeroValue192 rfl Tryz.underlying192 Tryz.sizeOf190 (fun i x hx => by
  match i, hx with
  | 0, hx => simpa using hx
  | 1, hx => simpa using hx
  | 2, hx => simpa using hx
  | 3, hx => simpa using hx
  | i + 4, hx => simp at hx)
instance ze192 : Ze Tryz.prog 192 [Value.slice none 0 0, Value.slice none 0 0, Value.slice none 0 0, Value.slice none 0 0] := ⟨_, Tryz.zeroValue192, rfl⟩
instance ar192 : ArT Tryz.prog 192 4 190 1 := ⟨Tryz.underlying192, Tryz.sizeOf190, by decide⟩
instance one200 : One Tryz.prog 200 := ⟨Tryz.isAgg200, Tryz.sizeOf200⟩
instance ag209 : Ag Tryz.prog 209 2 := ⟨Tryz.isAgg209, Tryz.sizeOf209⟩
instance bd209 : BdT Tryz.prog 209 [Value.int IntKind.i64 0, Value.int IntKind.i64 0] [(0, 1), (1, 1)] := bd_array Tryz.zeroValue209 rfl Tryz.underlying209 Tryz.sizeOf2 (fun i x hx => by
  match i, hx with
  | 0, hx => simpa using hx
  | 1, hx => simpa using hx
  | i + 2, hx => simp at hx)
instance ze209 : Ze Tryz.prog 209 [Value.int IntKind.i64 0, Value.int IntKind.i64 0] := ⟨_, Tryz.zeroValue209, rfl⟩
instance ar209 : ArT Tryz.prog 209 2 2 1 := ⟨Tryz.underlying209, Tryz.sizeOf2, by decide⟩
instance one223 : One Tryz.prog 223 := ⟨Tryz.isAgg223, Tryz.sizeOf223⟩
instance one230 : One Tryz.prog 230 := ⟨Tryz.isAgg230, Tryz.sizeOf230⟩
instance one232 : One Tryz.prog 232 := ⟨Tryz.isAgg232, Tryz.sizeOf232⟩
instance one233 : One Tryz.prog 233 := ⟨Tryz.isAgg233, Tryz.sizeOf233⟩
instance sl233 : SlT Tryz.prog 233 3 1 8 := ⟨Tryz.underlying233, ⟨Tryz.t3, _, by kernel_rfl, rfl, rfl, rfl, rfl⟩, by decide⟩
instance one234 : One Tryz.prog 234 := ⟨Tryz.isAgg234, Tryz.sizeOf234⟩
instance ze234 : Ze Tryz.prog 234 [Value.int IntKind.u64 0] := ⟨_, Tryz.zeroValue234, rfl⟩
instance eq33 : EqT Tryz.prog 33 [.i .i64, .i .i64, .i .i64, .i .i64] := ⟨fun us vs b w hq => by
  obtain ⟨u0, v0, us0, vs0, c0, r0, rfl, rfl, he0, hq0, rfl⟩ := eqS_cons hq
  obtain ⟨a0, b0, rfl, rfl, rfl⟩ := eqC_i he0
  obtain ⟨u1, v1, us1, vs1, c1, r1, rfl, rfl, he1, hq1, rfl⟩ := eqS_cons hq0
  obtain ⟨a1, b1, rfl, rfl, rfl⟩ := eqC_i he1
  obtain ⟨u2, v2, us2, vs2, c2, r2, rfl, rfl, he2, hq2, rfl⟩ := eqS_cons hq1
  obtain ⟨a2, b2, rfl, rfl, rfl⟩ := eqC_i he2
  obtain ⟨u3, v3, us3, vs3, c3, r3, rfl, rfl, he3, hq3, rfl⟩ := eqS_cons hq2
  obtain ⟨a3, b3, rfl, rfl, rfl⟩ := eqC_i he3
  obtain ⟨rfl, rfl, rfl⟩ := eqS_nil hq3
  have hu2 := Tryz.underlying2
  have hz2 := Tryz.sizeOf2
  have ha2 := Tryz.isAgg2
  have hz33 := Tryz.sizeOf33
  have ha33 := Tryz.isAgg33
  have hc9 : Tryz.prog.cellsOf 2 = 1 := by kernel_rfl
  rw [run_equalIn_array (w := w) 9999 _ _ Tryz.underlying33 (i := Tryz.t2) (by kernel_rfl), hc9]
  simp only [show List.range 4 = [0, 1, 2, 3] from rfl]
  simp [Op.eqItems, part, hz2]
  go_simp
  all_goals by_cases h0 : a0 = b0
  all_goals by_cases h1 : a1 = b1
  all_goals by_cases h2 : a2 = b2
  all_goals by_cases h3 : a3 = b3
  all_goals simp [h0, h1, h2, h3]
  , by kernel_rfl⟩
instance eq126 : EqT Tryz.prog 126 [.i .i64, .i .i64, .s, .i .i64] := ⟨fun us vs b w hq => by
  obtain ⟨u0, v0, us0, vs0, c0, r0, rfl, rfl, he0, hq0, rfl⟩ := eqS_cons hq
  obtain ⟨a0, b0, rfl, rfl, rfl⟩ := eqC_i he0
  obtain ⟨u1, v1, us1, vs1, c1, r1, rfl, rfl, he1, hq1, rfl⟩ := eqS_cons hq0
  obtain ⟨a1, b1, rfl, rfl, rfl⟩ := eqC_i he1
  obtain ⟨u2, v2, us2, vs2, c2, r2, rfl, rfl, he2, hq2, rfl⟩ := eqS_cons hq1
  obtain ⟨a2, b2, rfl, rfl, rfl⟩ := eqC_s he2
  obtain ⟨u3, v3, us3, vs3, c3, r3, rfl, rfl, he3, hq3, rfl⟩ := eqS_cons hq2
  obtain ⟨a3, b3, rfl, rfl, rfl⟩ := eqC_i he3
  obtain ⟨rfl, rfl, rfl⟩ := eqS_nil hq3
  have hu2 := Tryz.underlying2
  have hz2 := Tryz.sizeOf2
  have ha2 := Tryz.isAgg2
  have hu3 := Tryz.underlying3
  have hz3 := Tryz.sizeOf3
  have ha3 := Tryz.isAgg3
  have hu9 := Tryz.underlying9
  have hz9 := Tryz.sizeOf9
  have ha9 := Tryz.isAgg9
  have hs124 : Tryz.prog.underlying 124 = some (.struct (Tryz.prog.fieldsOf 124)) := by kernel_rfl
  have hp124 : Tryz.prog.stoodInHeld 124 = false := by kernel_rfl
  have hz124 := Tryz.sizeOf124
  have ha124 := Tryz.isAgg124
  have hs126 : Tryz.prog.underlying 126 = some (.struct (Tryz.prog.fieldsOf 126)) := by kernel_rfl
  have hp126 : Tryz.prog.stoodInHeld 126 = false := by kernel_rfl
  have hz126 := Tryz.sizeOf126
  have ha126 := Tryz.isAgg126
  rw [run_equalIn_agg w 9999 126 _ _ hs126 hp126]
  simp only [Program.fieldsOf, Tryz.underlying126]
  have e124 := fun d xs ys w => (run_equalIn_agg (w := w) d 124 xs ys hs124 hp124)
  simp only [Program.fieldsOf, Tryz.underlying124] at e124
  have f124 := e124 9997
  clear hs124 hp124 hs126 hp126
  go_simp
  all_goals by_cases h0 : a0 = b0
  all_goals by_cases h1 : a1 = b1
  all_goals by_cases h2 : a2.toList = b2.toList
  all_goals by_cases h3 : a3 = b3
  all_goals simp [h0, h1, h2, h3]
  , by kernel_rfl⟩
instance eq128 : EqT Tryz.prog 128 [.i .i64, .i .i64, .i .i64] := ⟨fun us vs b w hq => by
  obtain ⟨u0, v0, us0, vs0, c0, r0, rfl, rfl, he0, hq0, rfl⟩ := eqS_cons hq
  obtain ⟨a0, b0, rfl, rfl, rfl⟩ := eqC_i he0
  obtain ⟨u1, v1, us1, vs1, c1, r1, rfl, rfl, he1, hq1, rfl⟩ := eqS_cons hq0
  obtain ⟨a1, b1, rfl, rfl, rfl⟩ := eqC_i he1
  obtain ⟨u2, v2, us2, vs2, c2, r2, rfl, rfl, he2, hq2, rfl⟩ := eqS_cons hq1
  obtain ⟨a2, b2, rfl, rfl, rfl⟩ := eqC_i he2
  obtain ⟨rfl, rfl, rfl⟩ := eqS_nil hq2
  have hu2 := Tryz.underlying2
  have hz2 := Tryz.sizeOf2
  have ha2 := Tryz.isAgg2
  have hu3 := Tryz.underlying3
  have hz3 := Tryz.sizeOf3
  have ha3 := Tryz.isAgg3
  have hs128 : Tryz.prog.underlying 128 = some (.struct (Tryz.prog.fieldsOf 128)) := by kernel_rfl
  have hp128 : Tryz.prog.stoodInHeld 128 = false := by kernel_rfl
  have hz128 := Tryz.sizeOf128
  have ha128 := Tryz.isAgg128
  rw [run_equalIn_agg w 9999 128 _ _ hs128 hp128]
  simp only [Program.fieldsOf, Tryz.underlying128]
  go_simp
  all_goals by_cases h0 : a0 = b0
  all_goals by_cases h1 : a1 = b1
  all_goals by_cases h2 : a2 = b2
  all_goals simp [h0, h1, h2]
  , by kernel_rfl⟩
theorem tyok2 : TyOk Tryz.prog 2 { k := 1, it := true, ik := some .i64 } where
  one := fun _ _ => inferInstance
  ag := fun h => absurd h (by decide)
  sz := fun _ h => absurd rfl h
  el := fun _ _ _ h => by cases h
  ar := fun _ _ h => by cases h
  fo := fun _ _ h => by cases h
  z := fun _ h => by cases h
  bz := fun _ _ h => by cases h
  bo := fun h => absurd h (by decide)
  st := fun h => absurd h (by decide)
  np := fun h => absurd h (by decide)
  it := fun _ => ⟨_, Tryz.underlying2⟩
  ik := fun _ h => by cases h; exact Tryz.underlying2
  nf := fun h => absurd h (by decide)
  ix := fun _ _ _ h => by cases h
  eq := fun _ h => by cases h
theorem tyok3 : TyOk Tryz.prog 3 { k := 1, z := some [Value.int IntKind.i64 0], it := true, ik := some .i64 } where
  one := fun _ _ => inferInstance
  ag := fun h => absurd h (by decide)
  sz := fun _ h => absurd rfl h
  el := fun _ _ _ h => by cases h
  ar := fun _ _ h => by cases h
  fo := fun _ _ h => by cases h
  z := fun _ h => by cases h; infer_instance
  bz := fun _ _ h => by cases h
  bo := fun h => absurd h (by decide)
  st := fun h => absurd h (by decide)
  np := fun h => absurd h (by decide)
  it := fun _ => ⟨_, Tryz.underlying3⟩
  ik := fun _ h => by cases h; exact Tryz.underlying3
  nf := fun h => absurd h (by decide)
  ix := fun _ _ _ h => by cases h
  eq := fun _ h => by cases h
theorem tyok4 : TyOk Tryz.prog 4 { k := 1, bo := true } where
  one := fun _ _ => inferInstance
  ag := fun h => absurd h (by decide)
  sz := fun _ h => absurd rfl h
  el := fun _ _ _ h => by cases h
  ar := fun _ _ h => by cases h
  fo := fun _ _ h => by cases h
  z := fun _ h => by cases h
  bz := fun _ _ h => by cases h
  bo := fun _ => inferInstance
  st := fun h => absurd h (by decide)
  np := fun h => absurd h (by decide)
  it := fun h => absurd h (by decide)
  ik := fun _ h => by cases h
  nf := fun h => absurd h (by decide)
  ix := fun _ _ _ h => by cases h
  eq := fun _ h => by cases h
theorem tyok5 : TyOk Tryz.prog 5 { k := 1, it := true, ik := some .u8 } where
  one := fun _ _ => inferInstance
  ag := fun h => absurd h (by decide)
  sz := fun _ h => absurd rfl h
  el := fun _ _ _ h => by cases h
  ar := fun _ _ h => by cases h
  fo := fun _ _ h => by cases h
  z := fun _ h => by cases h
  bz := fun _ _ h => by cases h
  bo := fun h => absurd h (by decide)
  st := fun h => absurd h (by decide)
  np := fun h => absurd h (by decide)
  it := fun _ => ⟨_, Tryz.underlying5⟩
  ik := fun _ h => by cases h; exact Tryz.underlying5
  nf := fun h => absurd h (by decide)
  ix := fun _ _ _ h => by cases h
  eq := fun _ h => by cases h
theorem tyok9 : TyOk Tryz.prog 9 { k := 1, st := true } where
  one := fun _ _ => inferInstance
  ag := fun h => absurd h (by decide)
  sz := fun _ h => absurd rfl h
  el := fun _ _ _ h => by cases h
  ar := fun _ _ h => by cases h
  fo := fun _ _ h => by cases h
  z := fun _ h => by cases h
  bz := fun _ _ h => by cases h
  bo := fun h => absurd h (by decide)
  st := fun _ => inferInstance
  np := fun h => absurd h (by decide)
  it := fun h => absurd h (by decide)
  ik := fun _ h => by cases h
  nf := fun h => absurd h (by decide)
  ix := fun _ _ _ h => by cases h
  eq := fun _ h => by cases h
theorem tyok22 : TyOk Tryz.prog 22 { k := 1, el := some (45, 15, 168) } where
  one := fun _ _ => inferInstance
  ag := fun h => absurd h (by decide)
  sz := fun _ h => absurd rfl h
  el := fun _ _ _ h => by cases h; infer_instance
  ar := fun _ _ h => by cases h
  fo := fun _ _ h => by cases h
  z := fun _ h => by cases h
  bz := fun _ _ h => by cases h
  bo := fun h => absurd h (by decide)
  st := fun h => absurd h (by decide)
  np := fun h => absurd h (by decide)
  it := fun h => absurd h (by decide)
  ik := fun _ h => by cases h
  nf := fun h => absurd h (by decide)
  ix := fun _ _ _ h => by cases h
  eq := fun _ h => by cases h
theorem tyok24 : TyOk Tryz.prog 24 { k := 1, el := some (117, 11, 136) } where
  one := fun _ _ => inferInstance
  ag := fun h => absurd h (by decide)
  sz := fun _ h => absurd rfl h
  el := fun _ _ _ h => by cases h; infer_instance
  ar := fun _ _ h => by cases h
  fo := fun _ _ h => by cases h
  z := fun _ h => by cases h
  bz := fun _ _ h => by cases h
  bo := fun h => absurd h (by decide)
  st := fun h => absurd h (by decide)
  np := fun h => absurd h (by decide)
  it := fun h => absurd h (by decide)
  ik := fun _ h => by cases h
  nf := fun h => absurd h (by decide)
  ix := fun _ _ _ h => by cases h
  eq := fun _ h => by cases h
theorem tyok26 : TyOk Tryz.prog 26 { agg := true, k := 1, fo := [0], z := some [Value.slice none 0 0], bz := some ([Value.slice none 0 0], [(0, 1)]) } where
  one := fun h => absurd h (by decide)
  ag := fun _ => inferInstance
  sz := fun h => absurd h (by decide)
  el := fun _ _ _ h => by cases h
  ar := fun _ _ h => by cases h
  fo := fun f o h => by
    match f, h with
    | 0, h => cases h; infer_instance
    | f + 1, h => cases h
  z := fun _ h => by cases h; infer_instance
  bz := fun _ _ h => by cases h; infer_instance
  bo := fun h => absurd h (by decide)
  st := fun h => absurd h (by decide)
  np := fun h => absurd h (by decide)
  it := fun h => absurd h (by decide)
  ik := fun _ h => by cases h
  nf := fun h => absurd h (by decide)
  ix := fun _ _ _ h => by cases h
  eq := fun _ h => by cases h
theorem tyok28 : TyOk Tryz.prog 28 { agg := true, k := 1, fo := [0], z := some [Value.slice none 0 0], bz := some ([Value.slice none 0 0], [(0, 1)]) } where
  one := fun h => absurd h (by decide)
  ag := fun _ => inferInstance
  sz := fun h => absurd h (by decide)
  el := fun _ _ _ h => by cases h
  ar := fun _ _ h => by cases h
  fo := fun f o h => by
    match f, h with
    | 0, h => cases h; infer_instance
    | f + 1, h => cases h
  z := fun _ h => by cases h; infer_instance
  bz := fun _ _ h => by cases h; infer_instance
  bo := fun h => absurd h (by decide)
  st := fun h => absurd h (by decide)
  np := fun h => absurd h (by decide)
  it := fun h => absurd h (by decide)
  ik := fun _ h => by cases h
  nf := fun h => absurd h (by decide)
  ix := fun _ _ _ h => by cases h
  eq := fun _ h => by cases h
theorem tyok29 : TyOk Tryz.prog 29 { k := 1, el := some (43, 10, 128) } where
  one := fun _ _ => inferInstance
  ag := fun h => absurd h (by decide)
  sz := fun _ h => absurd rfl h
  el := fun _ _ _ h => by cases h; infer_instance
  ar := fun _ _ h => by cases h
  fo := fun _ _ h => by cases h
  z := fun _ h => by cases h
  bz := fun _ _ h => by cases h
  bo := fun h => absurd h (by decide)
  st := fun h => absurd h (by decide)
  np := fun h => absurd h (by decide)
  it := fun h => absurd h (by decide)
  ik := fun _ h => by cases h
  nf := fun h => absurd h (by decide)
  ix := fun _ _ _ h => by cases h
  eq := fun _ h => by cases h
theorem tyok31 : TyOk Tryz.prog 31 { agg := true, k := 1, fo := [0], z := some [Value.slice none 0 0], bz := some ([Value.slice none 0 0], [(0, 1)]) } where
  one := fun h => absurd h (by decide)
  ag := fun _ => inferInstance
  sz := fun h => absurd h (by decide)
  el := fun _ _ _ h => by cases h
  ar := fun _ _ h => by cases h
  fo := fun f o h => by
    match f, h with
    | 0, h => cases h; infer_instance
    | f + 1, h => cases h
  z := fun _ h => by cases h; infer_instance
  bz := fun _ _ h => by cases h; infer_instance
  bo := fun h => absurd h (by decide)
  st := fun h => absurd h (by decide)
  np := fun h => absurd h (by decide)
  it := fun h => absurd h (by decide)
  ik := fun _ h => by cases h
  nf := fun h => absurd h (by decide)
  ix := fun _ _ _ h => by cases h
  eq := fun _ h => by cases h
theorem tyok33 : TyOk Tryz.prog 33 { agg := true, k := 4, ar := some (4, 1), z := some [Value.int IntKind.i64 0, Value.int IntKind.i64 0, Value.int IntKind.i64 0, Value.int IntKind.i64 0], bz := some ([Value.int IntKind.i64 0, Value.int IntKind.i64 0, Value.int IntKind.i64 0, Value.int IntKind.i64 0], [(0, 1), (1, 1), (2, 1), (3, 1)]), eq := some [.i .i64, .i .i64, .i .i64, .i .i64], ix := some (4, 1, false) } where
  one := fun h => absurd h (by decide)
  ag := fun _ => inferInstance
  sz := fun h => absurd h (by decide)
  el := fun _ _ _ h => by cases h
  ar := fun _ _ h => by cases h; exact ⟨2, inferInstance⟩
  fo := fun _ _ h => by cases h
  z := fun _ h => by cases h; infer_instance
  bz := fun _ _ h => by cases h; infer_instance
  bo := fun h => absurd h (by decide)
  st := fun h => absurd h (by decide)
  np := fun h => absurd h (by decide)
  it := fun h => absurd h (by decide)
  ik := fun _ h => by cases h
  nf := fun h => absurd h (by decide)
  ix := fun _ _ _ h => by cases h; exact ⟨2, Tryz.underlying33, Tryz.sizeOf2, Tryz.isAgg2⟩
  eq := fun _ h => by cases h; infer_instance
theorem tyok34 : TyOk Tryz.prog 34 { k := 1, el := some (126, 4, 40) } where
  one := fun _ _ => inferInstance
  ag := fun h => absurd h (by decide)
  sz := fun _ h => absurd rfl h
  el := fun _ _ _ h => by cases h; infer_instance
  ar := fun _ _ h => by cases h
  fo := fun _ _ h => by cases h
  z := fun _ h => by cases h
  bz := fun _ _ h => by cases h
  bo := fun h => absurd h (by decide)
  st := fun h => absurd h (by decide)
  np := fun h => absurd h (by decide)
  it := fun h => absurd h (by decide)
  ik := fun _ h => by cases h
  nf := fun h => absurd h (by decide)
  ix := fun _ _ _ h => by cases h
  eq := fun _ h => by cases h
theorem tyok35 : TyOk Tryz.prog 35 { k := 1, el := some (122, 3, 64) } where
  one := fun _ _ => inferInstance
  ag := fun h => absurd h (by decide)
  sz := fun _ h => absurd rfl h
  el := fun _ _ _ h => by cases h; infer_instance
  ar := fun _ _ h => by cases h
  fo := fun _ _ h => by cases h
  z := fun _ h => by cases h
  bz := fun _ _ h => by cases h
  bo := fun h => absurd h (by decide)
  st := fun h => absurd h (by decide)
  np := fun h => absurd h (by decide)
  it := fun h => absurd h (by decide)
  ik := fun _ h => by cases h
  nf := fun h => absurd h (by decide)
  ix := fun _ _ _ h => by cases h
  eq := fun _ h => by cases h
theorem tyok37 : TyOk Tryz.prog 37 { agg := true, k := 2, fo := [0, 1], z := some [Value.slice none 0 0, Value.slice none 0 0], bz := some ([Value.slice none 0 0, Value.slice none 0 0], [(0, 1), (1, 1)]) } where
  one := fun h => absurd h (by decide)
  ag := fun _ => inferInstance
  sz := fun h => absurd h (by decide)
  el := fun _ _ _ h => by cases h
  ar := fun _ _ h => by cases h
  fo := fun f o h => by
    match f, h with
    | 0, h => cases h; infer_instance
    | 1, h => cases h; infer_instance
    | f + 2, h => cases h
  z := fun _ h => by cases h; infer_instance
  bz := fun _ _ h => by cases h; infer_instance
  bo := fun h => absurd h (by decide)
  st := fun h => absurd h (by decide)
  np := fun h => absurd h (by decide)
  it := fun h => absurd h (by decide)
  ik := fun _ h => by cases h
  nf := fun h => absurd h (by decide)
  ix := fun _ _ _ h => by cases h
  eq := fun _ h => by cases h
theorem tyok39 : TyOk Tryz.prog 39 { k := 1, el := some (128, 3, 24) } where
  one := fun _ _ => inferInstance
  ag := fun h => absurd h (by decide)
  sz := fun _ h => absurd rfl h
  el := fun _ _ _ h => by cases h; infer_instance
  ar := fun _ _ h => by cases h
  fo := fun _ _ h => by cases h
  z := fun _ h => by cases h
  bz := fun _ _ h => by cases h
  bo := fun h => absurd h (by decide)
  st := fun h => absurd h (by decide)
  np := fun h => absurd h (by decide)
  it := fun h => absurd h (by decide)
  ik := fun _ h => by cases h
  nf := fun h => absurd h (by decide)
  ix := fun _ _ _ h => by cases h
  eq := fun _ h => by cases h
theorem tyok41 : TyOk Tryz.prog 41 { agg := true, k := 3, fo := [0, 2], z := some [Value.slice none 0 0, Value.slice none 0 0, Value.slice none 0 0], bz := some ([Value.slice none 0 0, Value.slice none 0 0, Value.slice none 0 0], [(0, 2), (2, 1)]) } where
  one := fun h => absurd h (by decide)
  ag := fun _ => inferInstance
  sz := fun h => absurd h (by decide)
  el := fun _ _ _ h => by cases h
  ar := fun _ _ h => by cases h
  fo := fun f o h => by
    match f, h with
    | 0, h => cases h; infer_instance
    | 1, h => cases h; infer_instance
    | f + 2, h => cases h
  z := fun _ h => by cases h; infer_instance
  bz := fun _ _ h => by cases h; infer_instance
  bo := fun h => absurd h (by decide)
  st := fun h => absurd h (by decide)
  np := fun h => absurd h (by decide)
  it := fun h => absurd h (by decide)
  ik := fun _ h => by cases h
  nf := fun h => absurd h (by decide)
  ix := fun _ _ _ h => by cases h
  eq := fun _ h => by cases h
theorem tyok43 : TyOk Tryz.prog 43 { agg := true, k := 10, fo := [0, 1, 2, 3, 7], z := some [Value.int IntKind.i64 0, Value.int IntKind.i64 0, Value.int IntKind.i64 0, Value.int IntKind.i64 0, Value.int IntKind.i64 0, Value.int IntKind.i64 0, Value.int IntKind.i64 0, Value.slice none 0 0, Value.slice none 0 0, Value.slice none 0 0], bz := some ([Value.int IntKind.i64 0, Value.int IntKind.i64 0, Value.int IntKind.i64 0, Value.int IntKind.i64 0, Value.int IntKind.i64 0, Value.int IntKind.i64 0, Value.int IntKind.i64 0, Value.slice none 0 0, Value.slice none 0 0, Value.slice none 0 0], [(0, 1), (1, 1), (2, 1), (3, 4), (7, 3)]) } where
  one := fun h => absurd h (by decide)
  ag := fun _ => inferInstance
  sz := fun h => absurd h (by decide)
  el := fun _ _ _ h => by cases h
  ar := fun _ _ h => by cases h
  fo := fun f o h => by
    match f, h with
    | 0, h => cases h; infer_instance
    | 1, h => cases h; infer_instance
    | 2, h => cases h; infer_instance
    | 3, h => cases h; infer_instance
    | 4, h => cases h; infer_instance
    | f + 5, h => cases h
  z := fun _ h => by cases h; infer_instance
  bz := fun _ _ h => by cases h; infer_instance
  bo := fun h => absurd h (by decide)
  st := fun h => absurd h (by decide)
  np := fun h => absurd h (by decide)
  it := fun h => absurd h (by decide)
  ik := fun _ h => by cases h
  nf := fun h => absurd h (by decide)
  ix := fun _ _ _ h => by cases h
  eq := fun _ h => by cases h
theorem tyok45 : TyOk Tryz.prog 45 { agg := true, k := 15, fo := [0, 1, 11], z := some [Value.int IntKind.u8 0, Value.int IntKind.i64 0, Value.int IntKind.i64 0, Value.int IntKind.i64 0, Value.int IntKind.i64 0, Value.int IntKind.i64 0, Value.int IntKind.i64 0, Value.int IntKind.i64 0, Value.slice none 0 0, Value.slice none 0 0, Value.slice none 0 0, Value.int IntKind.i64 0, Value.int IntKind.i64 0, Value.int IntKind.i64 0, Value.int IntKind.i64 0] } where
  one := fun h => absurd h (by decide)
  ag := fun _ => inferInstance
  sz := fun h => absurd h (by decide)
  el := fun _ _ _ h => by cases h
  ar := fun _ _ h => by cases h
  fo := fun f o h => by
    match f, h with
    | 0, h => cases h; infer_instance
    | 1, h => cases h; infer_instance
    | 2, h => cases h; infer_instance
    | f + 3, h => cases h
  z := fun _ h => by cases h; infer_instance
  bz := fun _ _ h => by cases h
  bo := fun h => absurd h (by decide)
  st := fun h => absurd h (by decide)
  np := fun h => absurd h (by decide)
  it := fun h => absurd h (by decide)
  ik := fun _ h => by cases h
  nf := fun h => absurd h (by decide)
  ix := fun _ _ _ h => by cases h
  eq := fun _ h => by cases h
theorem tyok47 : TyOk Tryz.prog 47 { k := 1, it := true, ik := some .i64 } where
  one := fun _ _ => inferInstance
  ag := fun h => absurd h (by decide)
  sz := fun _ h => absurd rfl h
  el := fun _ _ _ h => by cases h
  ar := fun _ _ h => by cases h
  fo := fun _ _ h => by cases h
  z := fun _ h => by cases h
  bz := fun _ _ h => by cases h
  bo := fun h => absurd h (by decide)
  st := fun h => absurd h (by decide)
  np := fun h => absurd h (by decide)
  it := fun _ => ⟨_, Tryz.underlying47⟩
  ik := fun _ h => by cases h; exact Tryz.underlying47
  nf := fun h => absurd h (by decide)
  ix := fun _ _ _ h => by cases h
  eq := fun _ h => by cases h
theorem tyok50 : TyOk Tryz.prog 50 { agg := true, k := 10, fo := [0, 1, 2, 3, 7], z := some [Value.int IntKind.i64 0, Value.int IntKind.i64 0, Value.int IntKind.i64 0, Value.int IntKind.i64 0, Value.int IntKind.i64 0, Value.int IntKind.i64 0, Value.int IntKind.i64 0, Value.slice none 0 0, Value.slice none 0 0, Value.slice none 0 0], bz := some ([Value.int IntKind.i64 0, Value.int IntKind.i64 0, Value.int IntKind.i64 0, Value.int IntKind.i64 0, Value.int IntKind.i64 0, Value.int IntKind.i64 0, Value.int IntKind.i64 0, Value.slice none 0 0, Value.slice none 0 0, Value.slice none 0 0], [(0, 1), (1, 1), (2, 1), (3, 4), (7, 3)]) } where
  one := fun h => absurd h (by decide)
  ag := fun _ => inferInstance
  sz := fun h => absurd h (by decide)
  el := fun _ _ _ h => by cases h
  ar := fun _ _ h => by cases h
  fo := fun f o h => by
    match f, h with
    | 0, h => cases h; infer_instance
    | 1, h => cases h; infer_instance
    | 2, h => cases h; infer_instance
    | 3, h => cases h; infer_instance
    | 4, h => cases h; infer_instance
    | f + 5, h => cases h
  z := fun _ h => by cases h; infer_instance
  bz := fun _ _ h => by cases h; infer_instance
  bo := fun h => absurd h (by decide)
  st := fun h => absurd h (by decide)
  np := fun h => absurd h (by decide)
  it := fun h => absurd h (by decide)
  ik := fun _ h => by cases h
  nf := fun h => absurd h (by decide)
  ix := fun _ _ _ h => by cases h
  eq := fun _ h => by cases h
theorem tyok60 : TyOk Tryz.prog 60 { k := 1, el := some (50, 10, 128) } where
  one := fun _ _ => inferInstance
  ag := fun h => absurd h (by decide)
  sz := fun _ h => absurd rfl h
  el := fun _ _ _ h => by cases h; infer_instance
  ar := fun _ _ h => by cases h
  fo := fun _ _ h => by cases h
  z := fun _ h => by cases h
  bz := fun _ _ h => by cases h
  bo := fun h => absurd h (by decide)
  st := fun h => absurd h (by decide)
  np := fun h => absurd h (by decide)
  it := fun h => absurd h (by decide)
  ik := fun _ h => by cases h
  nf := fun h => absurd h (by decide)
  ix := fun _ _ _ h => by cases h
  eq := fun _ h => by cases h
theorem tyok64 : TyOk Tryz.prog 64 { k := 1, nl := 1 } where
  one := fun _ _ => inferInstance
  ag := fun h => absurd h (by decide)
  sz := fun _ h => absurd rfl h
  el := fun _ _ _ h => by cases h
  ar := fun _ _ h => by cases h
  fo := fun _ _ h => by cases h
  z := fun _ h => by cases h
  bz := fun _ _ h => by cases h
  bo := fun h => absurd h (by decide)
  st := fun h => absurd h (by decide)
  np := fun _ => ⟨_, Tryz.underlying64⟩
  it := fun h => absurd h (by decide)
  ik := fun _ h => by cases h
  nf := fun h => absurd h (by decide)
  ix := fun _ _ _ h => by cases h
  eq := fun _ h => by cases h
theorem tyok76 : TyOk Tryz.prog 76 { k := 1, nl := 1 } where
  one := fun _ _ => inferInstance
  ag := fun h => absurd h (by decide)
  sz := fun _ h => absurd rfl h
  el := fun _ _ _ h => by cases h
  ar := fun _ _ h => by cases h
  fo := fun _ _ h => by cases h
  z := fun _ h => by cases h
  bz := fun _ _ h => by cases h
  bo := fun h => absurd h (by decide)
  st := fun h => absurd h (by decide)
  np := fun _ => ⟨_, Tryz.underlying76⟩
  it := fun h => absurd h (by decide)
  ik := fun _ h => by cases h
  nf := fun h => absurd h (by decide)
  ix := fun _ _ _ h => by cases h
  eq := fun _ h => by cases h
theorem tyok86 : TyOk Tryz.prog 86 { k := 1, el := some (97, 17, 184) } where
  one := fun _ _ => inferInstance
  ag := fun h => absurd h (by decide)
  sz := fun _ h => absurd rfl h
  el := fun _ _ _ h => by cases h; infer_instance
  ar := fun _ _ h => by cases h
  fo := fun _ _ h => by cases h
  z := fun _ h => by cases h
  bz := fun _ _ h => by cases h
  bo := fun h => absurd h (by decide)
  st := fun h => absurd h (by decide)
  np := fun h => absurd h (by decide)
  it := fun h => absurd h (by decide)
  ik := fun _ h => by cases h
  nf := fun h => absurd h (by decide)
  ix := fun _ _ _ h => by cases h
  eq := fun _ h => by cases h
theorem tyok89 : TyOk Tryz.prog 89 { k := 1, el := some (139, 11, 136) } where
  one := fun _ _ => inferInstance
  ag := fun h => absurd h (by decide)
  sz := fun _ h => absurd rfl h
  el := fun _ _ _ h => by cases h; infer_instance
  ar := fun _ _ h => by cases h
  fo := fun _ _ h => by cases h
  z := fun _ h => by cases h
  bz := fun _ _ h => by cases h
  bo := fun h => absurd h (by decide)
  st := fun h => absurd h (by decide)
  np := fun h => absurd h (by decide)
  it := fun h => absurd h (by decide)
  ik := fun _ h => by cases h
  nf := fun h => absurd h (by decide)
  ix := fun _ _ _ h => by cases h
  eq := fun _ h => by cases h
theorem tyok90 : TyOk Tryz.prog 90 { agg := true, k := 16, ar := some (4, 4) } where
  one := fun h => absurd h (by decide)
  ag := fun _ => inferInstance
  sz := fun h => absurd h (by decide)
  el := fun _ _ _ h => by cases h
  ar := fun _ _ h => by cases h; exact ⟨33, inferInstance⟩
  fo := fun _ _ h => by cases h
  z := fun _ h => by cases h
  bz := fun _ _ h => by cases h
  bo := fun h => absurd h (by decide)
  st := fun h => absurd h (by decide)
  np := fun h => absurd h (by decide)
  it := fun h => absurd h (by decide)
  ik := fun _ h => by cases h
  nf := fun h => absurd h (by decide)
  ix := fun _ _ _ h => by cases h
  eq := fun _ h => by cases h
theorem tyok92 : TyOk Tryz.prog 92 { agg := true, k := 20, fo := [0, 1, 2, 3, 4], z := some [Value.int IntKind.i64 0, Value.int IntKind.i64 0, Value.slice none 0 0, Value.int IntKind.i64 0, Value.int IntKind.i64 0, Value.int IntKind.i64 0, Value.int IntKind.i64 0, Value.int IntKind.i64 0, Value.int IntKind.i64 0, Value.int IntKind.i64 0, Value.int IntKind.i64 0, Value.int IntKind.i64 0, Value.int IntKind.i64 0, Value.int IntKind.i64 0, Value.int IntKind.i64 0, Value.int IntKind.i64 0, Value.int IntKind.i64 0, Value.int IntKind.i64 0, Value.int IntKind.i64 0, Value.int IntKind.i64 0], bz := some ([Value.int IntKind.i64 0, Value.int IntKind.i64 0, Value.slice none 0 0, Value.int IntKind.i64 0, Value.int IntKind.i64 0, Value.int IntKind.i64 0, Value.int IntKind.i64 0, Value.int IntKind.i64 0, Value.int IntKind.i64 0, Value.int IntKind.i64 0, Value.int IntKind.i64 0, Value.int IntKind.i64 0, Value.int IntKind.i64 0, Value.int IntKind.i64 0, Value.int IntKind.i64 0, Value.int IntKind.i64 0, Value.int IntKind.i64 0, Value.int IntKind.i64 0, Value.int IntKind.i64 0, Value.int IntKind.i64 0], [(0, 1), (1, 1), (2, 1), (3, 1), (4, 16)]) } where
  one := fun h => absurd h (by decide)
  ag := fun _ => inferInstance
  sz := fun h => absurd h (by decide)
  el := fun _ _ _ h => by cases h
  ar := fun _ _ h => by cases h
  fo := fun f o h => by
    match f, h with
    | 0, h => cases h; infer_instance
    | 1, h => cases h; infer_instance
    | 2, h => cases h; infer_instance
    | 3, h => cases h; infer_instance
    | 4, h => cases h; infer_instance
    | f + 5, h => cases h
  z := fun _ h => by cases h; infer_instance
  bz := fun _ _ h => by cases h; infer_instance
  bo := fun h => absurd h (by decide)
  st := fun h => absurd h (by decide)
  np := fun h => absurd h (by decide)
  it := fun h => absurd h (by decide)
  ik := fun _ h => by cases h
  nf := fun h => absurd h (by decide)
  ix := fun _ _ _ h => by cases h
  eq := fun _ h => by cases h
theorem tyok97 : TyOk Tryz.prog 97 { agg := true, k := 17, fo := [0, 1, 11, 12, 16] } where
  one := fun h => absurd h (by decide)
  ag := fun _ => inferInstance
  sz := fun h => absurd h (by decide)
  el := fun _ _ _ h => by cases h
  ar := fun _ _ h => by cases h
  fo := fun f o h => by
    match f, h with
    | 0, h => cases h; infer_instance
    | 1, h => cases h; infer_instance
    | 2, h => cases h; infer_instance
    | 3, h => cases h; infer_instance
    | 4, h => cases h; infer_instance
    | f + 5, h => cases h
  z := fun _ h => by cases h
  bz := fun _ _ h => by cases h
  bo := fun h => absurd h (by decide)
  st := fun h => absurd h (by decide)
  np := fun h => absurd h (by decide)
  it := fun h => absurd h (by decide)
  ik := fun _ h => by cases h
  nf := fun h => absurd h (by decide)
  ix := fun _ _ _ h => by cases h
  eq := fun _ h => by cases h
theorem tyok106 : TyOk Tryz.prog 106 { k := 1, el := some (2, 1, 8) } where
  one := fun _ _ => inferInstance
  ag := fun h => absurd h (by decide)
  sz := fun _ h => absurd rfl h
  el := fun _ _ _ h => by cases h; infer_instance
  ar := fun _ _ h => by cases h
  fo := fun _ _ h => by cases h
  z := fun _ h => by cases h
  bz := fun _ _ h => by cases h
  bo := fun h => absurd h (by decide)
  st := fun h => absurd h (by decide)
  np := fun h => absurd h (by decide)
  it := fun h => absurd h (by decide)
  ik := fun _ h => by cases h
  nf := fun h => absurd h (by decide)
  ix := fun _ _ _ h => by cases h
  eq := fun _ h => by cases h
theorem tyok117 : TyOk Tryz.prog 117 { agg := true, k := 11, fo := [0, 1], z := some [Value.int IntKind.i64 0, Value.int IntKind.i64 0, Value.int IntKind.i64 0, Value.int IntKind.i64 0, Value.int IntKind.i64 0, Value.int IntKind.i64 0, Value.int IntKind.i64 0, Value.int IntKind.i64 0, Value.slice none 0 0, Value.slice none 0 0, Value.slice none 0 0], bz := some ([Value.int IntKind.i64 0, Value.int IntKind.i64 0, Value.int IntKind.i64 0, Value.int IntKind.i64 0, Value.int IntKind.i64 0, Value.int IntKind.i64 0, Value.int IntKind.i64 0, Value.int IntKind.i64 0, Value.slice none 0 0, Value.slice none 0 0, Value.slice none 0 0], [(0, 1), (1, 10)]) } where
  one := fun h => absurd h (by decide)
  ag := fun _ => inferInstance
  sz := fun h => absurd h (by decide)
  el := fun _ _ _ h => by cases h
  ar := fun _ _ h => by cases h
  fo := fun f o h => by
    match f, h with
    | 0, h => cases h; infer_instance
    | 1, h => cases h; infer_instance
    | f + 2, h => cases h
  z := fun _ h => by cases h; infer_instance
  bz := fun _ _ h => by cases h; infer_instance
  bo := fun h => absurd h (by decide)
  st := fun h => absurd h (by decide)
  np := fun h => absurd h (by decide)
  it := fun h => absurd h (by decide)
  ik := fun _ h => by cases h
  nf := fun h => absurd h (by decide)
  ix := fun _ _ _ h => by cases h
  eq := fun _ h => by cases h
theorem tyok122 : TyOk Tryz.prog 122 { agg := true, k := 3, fo := [0, 1], z := some [Value.string { data := #[] }, Value.slice none 0 0, Value.slice none 0 0], bz := some ([Value.string { data := #[] }, Value.slice none 0 0, Value.slice none 0 0], [(0, 1), (1, 2)]) } where
  one := fun h => absurd h (by decide)
  ag := fun _ => inferInstance
  sz := fun h => absurd h (by decide)
  el := fun _ _ _ h => by cases h
  ar := fun _ _ h => by cases h
  fo := fun f o h => by
    match f, h with
    | 0, h => cases h; infer_instance
    | 1, h => cases h; infer_instance
    | f + 2, h => cases h
  z := fun _ h => by cases h; infer_instance
  bz := fun _ _ h => by cases h; infer_instance
  bo := fun h => absurd h (by decide)
  st := fun h => absurd h (by decide)
  np := fun h => absurd h (by decide)
  it := fun h => absurd h (by decide)
  ik := fun _ h => by cases h
  nf := fun h => absurd h (by decide)
  ix := fun _ _ _ h => by cases h
  eq := fun _ h => by cases h
theorem tyok124 : TyOk Tryz.prog 124 { agg := true, k := 2, fo := [0, 1], z := some [Value.int IntKind.i64 0, Value.int IntKind.i64 0], bz := some ([Value.int IntKind.i64 0, Value.int IntKind.i64 0], [(0, 1), (1, 1)]) } where
  one := fun h => absurd h (by decide)
  ag := fun _ => inferInstance
  sz := fun h => absurd h (by decide)
  el := fun _ _ _ h => by cases h
  ar := fun _ _ h => by cases h
  fo := fun f o h => by
    match f, h with
    | 0, h => cases h; infer_instance
    | 1, h => cases h; infer_instance
    | f + 2, h => cases h
  z := fun _ h => by cases h; infer_instance
  bz := fun _ _ h => by cases h; infer_instance
  bo := fun h => absurd h (by decide)
  st := fun h => absurd h (by decide)
  np := fun h => absurd h (by decide)
  it := fun h => absurd h (by decide)
  ik := fun _ h => by cases h
  nf := fun h => absurd h (by decide)
  ix := fun _ _ _ h => by cases h
  eq := fun _ h => by cases h
theorem tyok126 : TyOk Tryz.prog 126 { agg := true, k := 4, fo := [0, 2, 3], z := some [Value.int IntKind.i64 0, Value.int IntKind.i64 0, Value.string { data := #[] }, Value.int IntKind.i64 0], bz := some ([Value.int IntKind.i64 0, Value.int IntKind.i64 0, Value.string { data := #[] }, Value.int IntKind.i64 0], [(0, 2), (2, 1), (3, 1)]), eq := some [.i .i64, .i .i64, .s, .i .i64] } where
  one := fun h => absurd h (by decide)
  ag := fun _ => inferInstance
  sz := fun h => absurd h (by decide)
  el := fun _ _ _ h => by cases h
  ar := fun _ _ h => by cases h
  fo := fun f o h => by
    match f, h with
    | 0, h => cases h; infer_instance
    | 1, h => cases h; infer_instance
    | 2, h => cases h; infer_instance
    | f + 3, h => cases h
  z := fun _ h => by cases h; infer_instance
  bz := fun _ _ h => by cases h; infer_instance
  bo := fun h => absurd h (by decide)
  st := fun h => absurd h (by decide)
  np := fun h => absurd h (by decide)
  it := fun h => absurd h (by decide)
  ik := fun _ h => by cases h
  nf := fun h => absurd h (by decide)
  ix := fun _ _ _ h => by cases h
  eq := fun _ h => by cases h; infer_instance
theorem tyok128 : TyOk Tryz.prog 128 { agg := true, k := 3, fo := [0, 1, 2], z := some [Value.int IntKind.i64 0, Value.int IntKind.i64 0, Value.int IntKind.i64 0], bz := some ([Value.int IntKind.i64 0, Value.int IntKind.i64 0, Value.int IntKind.i64 0], [(0, 1), (1, 1), (2, 1)]), eq := some [.i .i64, .i .i64, .i .i64] } where
  one := fun h => absurd h (by decide)
  ag := fun _ => inferInstance
  sz := fun h => absurd h (by decide)
  el := fun _ _ _ h => by cases h
  ar := fun _ _ h => by cases h
  fo := fun f o h => by
    match f, h with
    | 0, h => cases h; infer_instance
    | 1, h => cases h; infer_instance
    | 2, h => cases h; infer_instance
    | f + 3, h => cases h
  z := fun _ h => by cases h; infer_instance
  bz := fun _ _ h => by cases h; infer_instance
  bo := fun h => absurd h (by decide)
  st := fun h => absurd h (by decide)
  np := fun h => absurd h (by decide)
  it := fun h => absurd h (by decide)
  ik := fun _ h => by cases h
  nf := fun h => absurd h (by decide)
  ix := fun _ _ _ h => by cases h
  eq := fun _ h => by cases h; infer_instance
theorem tyok137 : TyOk Tryz.prog 137 { agg := true, k := 20, fo := [0, 1, 2, 3, 4], bz := some ([Value.int IntKind.i64 0, Value.int IntKind.i64 0, Value.slice none 0 0, Value.int IntKind.i64 0, Value.int IntKind.i64 0, Value.int IntKind.i64 0, Value.int IntKind.i64 0, Value.int IntKind.i64 0, Value.int IntKind.i64 0, Value.int IntKind.i64 0, Value.int IntKind.i64 0, Value.int IntKind.i64 0, Value.int IntKind.i64 0, Value.int IntKind.i64 0, Value.int IntKind.i64 0, Value.int IntKind.i64 0, Value.int IntKind.i64 0, Value.int IntKind.i64 0, Value.int IntKind.i64 0, Value.int IntKind.i64 0], [(0, 1), (1, 1), (2, 1), (3, 1), (4, 16)]) } where
  one := fun h => absurd h (by decide)
  ag := fun _ => inferInstance
  sz := fun h => absurd h (by decide)
  el := fun _ _ _ h => by cases h
  ar := fun _ _ h => by cases h
  fo := fun f o h => by
    match f, h with
    | 0, h => cases h; infer_instance
    | 1, h => cases h; infer_instance
    | 2, h => cases h; infer_instance
    | 3, h => cases h; infer_instance
    | 4, h => cases h; infer_instance
    | f + 5, h => cases h
  z := fun _ h => by cases h
  bz := fun _ _ h => by cases h; infer_instance
  bo := fun h => absurd h (by decide)
  st := fun h => absurd h (by decide)
  np := fun h => absurd h (by decide)
  it := fun h => absurd h (by decide)
  ik := fun _ h => by cases h
  nf := fun h => absurd h (by decide)
  ix := fun _ _ _ h => by cases h
  eq := fun _ h => by cases h
theorem tyok139 : TyOk Tryz.prog 139 { agg := true, k := 11, fo := [0, 1], bz := some ([Value.int IntKind.i64 0, Value.int IntKind.i64 0, Value.int IntKind.i64 0, Value.int IntKind.i64 0, Value.int IntKind.i64 0, Value.int IntKind.i64 0, Value.int IntKind.i64 0, Value.int IntKind.i64 0, Value.slice none 0 0, Value.slice none 0 0, Value.slice none 0 0], [(0, 1), (1, 10)]) } where
  one := fun h => absurd h (by decide)
  ag := fun _ => inferInstance
  sz := fun h => absurd h (by decide)
  el := fun _ _ _ h => by cases h
  ar := fun _ _ h => by cases h
  fo := fun f o h => by
    match f, h with
    | 0, h => cases h; infer_instance
    | 1, h => cases h; infer_instance
    | f + 2, h => cases h
  z := fun _ h => by cases h
  bz := fun _ _ h => by cases h; infer_instance
  bo := fun h => absurd h (by decide)
  st := fun h => absurd h (by decide)
  np := fun h => absurd h (by decide)
  it := fun h => absurd h (by decide)
  ik := fun _ h => by cases h
  nf := fun h => absurd h (by decide)
  ix := fun _ _ _ h => by cases h
  eq := fun _ h => by cases h
theorem tyok158 : TyOk Tryz.prog 158 { k := 1, el := some (181, 2, 16) } where
  one := fun _ _ => inferInstance
  ag := fun h => absurd h (by decide)
  sz := fun _ h => absurd rfl h
  el := fun _ _ _ h => by cases h; infer_instance
  ar := fun _ _ h => by cases h
  fo := fun _ _ h => by cases h
  z := fun _ h => by cases h
  bz := fun _ _ h => by cases h
  bo := fun h => absurd h (by decide)
  st := fun h => absurd h (by decide)
  np := fun h => absurd h (by decide)
  it := fun h => absurd h (by decide)
  ik := fun _ h => by cases h
  nf := fun h => absurd h (by decide)
  ix := fun _ _ _ h => by cases h
  eq := fun _ h => by cases h
theorem tyok161 : TyOk Tryz.prog 161 { k := 1, el := some (124, 2, 16) } where
  one := fun _ _ => inferInstance
  ag := fun h => absurd h (by decide)
  sz := fun _ h => absurd rfl h
  el := fun _ _ _ h => by cases h; infer_instance
  ar := fun _ _ h => by cases h
  fo := fun _ _ h => by cases h
  z := fun _ h => by cases h
  bz := fun _ _ h => by cases h
  bo := fun h => absurd h (by decide)
  st := fun h => absurd h (by decide)
  np := fun h => absurd h (by decide)
  it := fun h => absurd h (by decide)
  ik := fun _ h => by cases h
  nf := fun h => absurd h (by decide)
  ix := fun _ _ _ h => by cases h
  eq := fun _ h => by cases h
theorem tyok162 : TyOk Tryz.prog 162 { k := 1, el := some (166, 5, 64) } where
  one := fun _ _ => inferInstance
  ag := fun h => absurd h (by decide)
  sz := fun _ h => absurd rfl h
  el := fun _ _ _ h => by cases h; infer_instance
  ar := fun _ _ h => by cases h
  fo := fun _ _ h => by cases h
  z := fun _ h => by cases h
  bz := fun _ _ h => by cases h
  bo := fun h => absurd h (by decide)
  st := fun h => absurd h (by decide)
  np := fun h => absurd h (by decide)
  it := fun h => absurd h (by decide)
  ik := fun _ h => by cases h
  nf := fun h => absurd h (by decide)
  ix := fun _ _ _ h => by cases h
  eq := fun _ h => by cases h
theorem tyok164 : TyOk Tryz.prog 164 { k := 1, el := some (9, 1, 16) } where
  one := fun _ _ => inferInstance
  ag := fun h => absurd h (by decide)
  sz := fun _ h => absurd rfl h
  el := fun _ _ _ h => by cases h; infer_instance
  ar := fun _ _ h => by cases h
  fo := fun _ _ h => by cases h
  z := fun _ h => by cases h
  bz := fun _ _ h => by cases h
  bo := fun h => absurd h (by decide)
  st := fun h => absurd h (by decide)
  np := fun h => absurd h (by decide)
  it := fun h => absurd h (by decide)
  ik := fun _ h => by cases h
  nf := fun h => absurd h (by decide)
  ix := fun _ _ _ h => by cases h
  eq := fun _ h => by cases h
theorem tyok166 : TyOk Tryz.prog 166 { agg := true, k := 5, fo := [0, 1], bz := some ([Value.slice none 0 0, Value.int IntKind.i64 0, Value.int IntKind.i64 0, Value.string { data := #[] }, Value.int IntKind.i64 0], [(0, 1), (1, 4)]) } where
  one := fun h => absurd h (by decide)
  ag := fun _ => inferInstance
  sz := fun h => absurd h (by decide)
  el := fun _ _ _ h => by cases h
  ar := fun _ _ h => by cases h
  fo := fun f o h => by
    match f, h with
    | 0, h => cases h; infer_instance
    | 1, h => cases h; infer_instance
    | f + 2, h => cases h
  z := fun _ h => by cases h
  bz := fun _ _ h => by cases h; infer_instance
  bo := fun h => absurd h (by decide)
  st := fun h => absurd h (by decide)
  np := fun h => absurd h (by decide)
  it := fun h => absurd h (by decide)
  ik := fun _ h => by cases h
  nf := fun h => absurd h (by decide)
  ix := fun _ _ _ h => by cases h
  eq := fun _ h => by cases h
theorem tyok181 : TyOk Tryz.prog 181 { agg := true, k := 2, ar := some (2, 1), bz := some ([Value.int IntKind.i64 0, Value.int IntKind.i64 0], [(0, 1), (1, 1)]) } where
  one := fun h => absurd h (by decide)
  ag := fun _ => inferInstance
  sz := fun h => absurd h (by decide)
  el := fun _ _ _ h => by cases h
  ar := fun _ _ h => by cases h; exact ⟨2, inferInstance⟩
  fo := fun _ _ h => by cases h
  z := fun _ h => by cases h
  bz := fun _ _ h => by cases h; infer_instance
  bo := fun h => absurd h (by decide)
  st := fun h => absurd h (by decide)
  np := fun h => absurd h (by decide)
  it := fun h => absurd h (by decide)
  ik := fun _ h => by cases h
  nf := fun h => absurd h (by decide)
  ix := fun _ _ _ h => by cases h
  eq := fun _ h => by cases h
theorem tyok188 : TyOk Tryz.prog 188 { agg := true, k := 4, ar := some (4, 1), z := some [Value.slice none 0 0, Value.slice none 0 0, Value.slice none 0 0, Value.slice none 0 0], ix := some (4, 1, false) } where
  one := fun h => absurd h (by decide)
  ag := fun _ => inferInstance
  sz := fun h => absurd h (by decide)
  el := fun _ _ _ h => by cases h
  ar := fun _ _ h => by cases h; exact ⟨106, inferInstance⟩
  fo := fun _ _ h => by cases h
  z := fun _ h => by cases h; infer_instance
  bz := fun _ _ h => by cases h
  bo := fun h => absurd h (by decide)
  st := fun h => absurd h (by decide)
  np := fun h => absurd h (by decide)
  it := fun h => absurd h (by decide)
  ik := fun _ h => by cases h
  nf := fun h => absurd h (by decide)
  ix := fun _ _ _ h => by cases h; exact ⟨106, Tryz.underlying188, Tryz.sizeOf106, Tryz.isAgg106⟩
  eq := fun _ h => by cases h
theorem tyok190 : TyOk Tryz.prog 190 { k := 1, el := some (209, 2, 16) } where
  one := fun _ _ => inferInstance
  ag := fun h => absurd h (by decide)
  sz := fun _ h => absurd rfl h
  el := fun _ _ _ h => by cases h; infer_instance
  ar := fun _ _ h => by cases h
  fo := fun _ _ h => by cases h
  z := fun _ h => by cases h
  bz := fun _ _ h => by cases h
  bo := fun h => absurd h (by decide)
  st := fun h => absurd h (by decide)
  np := fun h => absurd h (by decide)
  it := fun h => absurd h (by decide)
  ik := fun _ h => by cases h
  nf := fun h => absurd h (by decide)
  ix := fun _ _ _ h => by cases h
  eq := fun _ h => by cases h
theorem tyok192 : TyOk Tryz.prog 192 { agg := true, k := 4, ar := some (4, 1), z := some [Value.slice none 0 0, Value.slice none 0 0, Value.slice none 0 0, Value.slice none 0 0], bz := some ([Value.slice none 0 0, Value.slice none 0 0, Value.slice none 0 0, Value.slice none 0 0], [(0, 1), (1, 1), (2, 1), (3, 1)]), ix := some (4, 1, false) } where
  one := fun h => absurd h (by decide)
  ag := fun _ => inferInstance
  sz := fun h => absurd h (by decide)
  el := fun _ _ _ h => by cases h
  ar := fun _ _ h => by cases h; exact ⟨190, inferInstance⟩
  fo := fun _ _ h => by cases h
  z := fun _ h => by cases h; infer_instance
  bz := fun _ _ h => by cases h; infer_instance
  bo := fun h => absurd h (by decide)
  st := fun h => absurd h (by decide)
  np := fun h => absurd h (by decide)
  it := fun h => absurd h (by decide)
  ik := fun _ h => by cases h
  nf := fun h => absurd h (by decide)
  ix := fun _ _ _ h => by cases h; exact ⟨190, Tryz.underlying192, Tryz.sizeOf190, Tryz.isAgg190⟩
  eq := fun _ h => by cases h
theorem tyok200 : TyOk Tryz.prog 200 { k := 1, it := true, ik := some .u64 } where
  one := fun _ _ => inferInstance
  ag := fun h => absurd h (by decide)
  sz := fun _ h => absurd rfl h
  el := fun _ _ _ h => by cases h
  ar := fun _ _ h => by cases h
  fo := fun _ _ h => by cases h
  z := fun _ h => by cases h
  bz := fun _ _ h => by cases h
  bo := fun h => absurd h (by decide)
  st := fun h => absurd h (by decide)
  np := fun h => absurd h (by decide)
  it := fun _ => ⟨_, Tryz.underlying200⟩
  ik := fun _ h => by cases h; exact Tryz.underlying200
  nf := fun h => absurd h (by decide)
  ix := fun _ _ _ h => by cases h
  eq := fun _ h => by cases h
theorem tyok209 : TyOk Tryz.prog 209 { agg := true, k := 2, ar := some (2, 1), z := some [Value.int IntKind.i64 0, Value.int IntKind.i64 0], bz := some ([Value.int IntKind.i64 0, Value.int IntKind.i64 0], [(0, 1), (1, 1)]) } where
  one := fun h => absurd h (by decide)
  ag := fun _ => inferInstance
  sz := fun h => absurd h (by decide)
  el := fun _ _ _ h => by cases h
  ar := fun _ _ h => by cases h; exact ⟨2, inferInstance⟩
  fo := fun _ _ h => by cases h
  z := fun _ h => by cases h; infer_instance
  bz := fun _ _ h => by cases h; infer_instance
  bo := fun h => absurd h (by decide)
  st := fun h => absurd h (by decide)
  np := fun h => absurd h (by decide)
  it := fun h => absurd h (by decide)
  ik := fun _ h => by cases h
  nf := fun h => absurd h (by decide)
  ix := fun _ _ _ h => by cases h
  eq := fun _ h => by cases h
theorem tyok223 : TyOk Tryz.prog 223 { k := 1, it := true, ik := some .i64 } where
  one := fun _ _ => inferInstance
  ag := fun h => absurd h (by decide)
  sz := fun _ h => absurd rfl h
  el := fun _ _ _ h => by cases h
  ar := fun _ _ h => by cases h
  fo := fun _ _ h => by cases h
  z := fun _ h => by cases h
  bz := fun _ _ h => by cases h
  bo := fun h => absurd h (by decide)
  st := fun h => absurd h (by decide)
  np := fun h => absurd h (by decide)
  it := fun _ => ⟨_, Tryz.underlying223⟩
  ik := fun _ h => by cases h; exact Tryz.underlying223
  nf := fun h => absurd h (by decide)
  ix := fun _ _ _ h => by cases h
  eq := fun _ h => by cases h
theorem tyok230 : TyOk Tryz.prog 230 { k := 1, it := true, ik := some .u32 } where
  one := fun _ _ => inferInstance
  ag := fun h => absurd h (by decide)
  sz := fun _ h => absurd rfl h
  el := fun _ _ _ h => by cases h
  ar := fun _ _ h => by cases h
  fo := fun _ _ h => by cases h
  z := fun _ h => by cases h
  bz := fun _ _ h => by cases h
  bo := fun h => absurd h (by decide)
  st := fun h => absurd h (by decide)
  np := fun h => absurd h (by decide)
  it := fun _ => ⟨_, Tryz.underlying230⟩
  ik := fun _ h => by cases h; exact Tryz.underlying230
  nf := fun h => absurd h (by decide)
  ix := fun _ _ _ h => by cases h
  eq := fun _ h => by cases h
theorem tyok232 : TyOk Tryz.prog 232 { k := 1, it := true, ik := some .u64 } where
  one := fun _ _ => inferInstance
  ag := fun h => absurd h (by decide)
  sz := fun _ h => absurd rfl h
  el := fun _ _ _ h => by cases h
  ar := fun _ _ h => by cases h
  fo := fun _ _ h => by cases h
  z := fun _ h => by cases h
  bz := fun _ _ h => by cases h
  bo := fun h => absurd h (by decide)
  st := fun h => absurd h (by decide)
  np := fun h => absurd h (by decide)
  it := fun _ => ⟨_, Tryz.underlying232⟩
  ik := fun _ h => by cases h; exact Tryz.underlying232
  nf := fun h => absurd h (by decide)
  ix := fun _ _ _ h => by cases h
  eq := fun _ h => by cases h
theorem tyok233 : TyOk Tryz.prog 233 { k := 1, el := some (3, 1, 8) } where
  one := fun _ _ => inferInstance
  ag := fun h => absurd h (by decide)
  sz := fun _ h => absurd rfl h
  el := fun _ _ _ h => by cases h; infer_instance
  ar := fun _ _ h => by cases h
  fo := fun _ _ h => by cases h
  z := fun _ h => by cases h
  bz := fun _ _ h => by cases h
  bo := fun h => absurd h (by decide)
  st := fun h => absurd h (by decide)
  np := fun h => absurd h (by decide)
  it := fun h => absurd h (by decide)
  ik := fun _ h => by cases h
  nf := fun h => absurd h (by decide)
  ix := fun _ _ _ h => by cases h
  eq := fun _ h => by cases h
theorem tyok234 : TyOk Tryz.prog 234 { k := 1, z := some [Value.int IntKind.u64 0], it := true, ik := some .u64 } where
  one := fun _ _ => inferInstance
  ag := fun h => absurd h (by decide)
  sz := fun _ h => absurd rfl h
  el := fun _ _ _ h => by cases h
  ar := fun _ _ h => by cases h
  fo := fun _ _ h => by cases h
  z := fun _ h => by cases h; infer_instance
  bz := fun _ _ h => by cases h
  bo := fun h => absurd h (by decide)
  st := fun h => absurd h (by decide)
  np := fun h => absurd h (by decide)
  it := fun _ => ⟨_, Tryz.underlying234⟩
  ik := fun _ h => by cases h; exact Tryz.underlying234
  nf := fun h => absurd h (by decide)
  ix := fun _ _ _ h => by cases h
  eq := fun _ h => by cases h
noncomputable def tab : List (Nat × TyI) := [
  (2, { k := 1, it := true, ik := some .i64 }),
  (3, { k := 1, z := some [Value.int IntKind.i64 0], it := true, ik := some .i64 }),
  (4, { k := 1, bo := true }),
  (5, { k := 1, it := true, ik := some .u8 }),
  (9, { k := 1, st := true }),
  (22, { k := 1, el := some (45, 15, 168) }),
  (24, { k := 1, el := some (117, 11, 136) }),
  (26, { agg := true, k := 1, fo := [0], z := some [Value.slice none 0 0], bz := some ([Value.slice none 0 0], [(0, 1)]) }),
  (28, { agg := true, k := 1, fo := [0], z := some [Value.slice none 0 0], bz := some ([Value.slice none 0 0], [(0, 1)]) }),
  (29, { k := 1, el := some (43, 10, 128) }),
  (31, { agg := true, k := 1, fo := [0], z := some [Value.slice none 0 0], bz := some ([Value.slice none 0 0], [(0, 1)]) }),
  (33, { agg := true, k := 4, ar := some (4, 1), z := some [Value.int IntKind.i64 0, Value.int IntKind.i64 0, Value.int IntKind.i64 0, Value.int IntKind.i64 0], bz := some ([Value.int IntKind.i64 0, Value.int IntKind.i64 0, Value.int IntKind.i64 0, Value.int IntKind.i64 0], [(0, 1), (1, 1), (2, 1), (3, 1)]), eq := some [.i .i64, .i .i64, .i .i64, .i .i64], ix := some (4, 1, false) }),
  (34, { k := 1, el := some (126, 4, 40) }),
  (35, { k := 1, el := some (122, 3, 64) }),
  (37, { agg := true, k := 2, fo := [0, 1], z := some [Value.slice none 0 0, Value.slice none 0 0], bz := some ([Value.slice none 0 0, Value.slice none 0 0], [(0, 1), (1, 1)]) }),
  (39, { k := 1, el := some (128, 3, 24) }),
  (41, { agg := true, k := 3, fo := [0, 2], z := some [Value.slice none 0 0, Value.slice none 0 0, Value.slice none 0 0], bz := some ([Value.slice none 0 0, Value.slice none 0 0, Value.slice none 0 0], [(0, 2), (2, 1)]) }),
  (43, { agg := true, k := 10, fo := [0, 1, 2, 3, 7], z := some [Value.int IntKind.i64 0, Value.int IntKind.i64 0, Value.int IntKind.i64 0, Value.int IntKind.i64 0, Value.int IntKind.i64 0, Value.int IntKind.i64 0, Value.int IntKind.i64 0, Value.slice none 0 0, Value.slice none 0 0, Value.slice none 0 0], bz := some ([Value.int IntKind.i64 0, Value.int IntKind.i64 0, Value.int IntKind.i64 0, Value.int IntKind.i64 0, Value.int IntKind.i64 0, Value.int IntKind.i64 0, Value.int IntKind.i64 0, Value.slice none 0 0, Value.slice none 0 0, Value.slice none 0 0], [(0, 1), (1, 1), (2, 1), (3, 4), (7, 3)]) }),
  (45, { agg := true, k := 15, fo := [0, 1, 11], z := some [Value.int IntKind.u8 0, Value.int IntKind.i64 0, Value.int IntKind.i64 0, Value.int IntKind.i64 0, Value.int IntKind.i64 0, Value.int IntKind.i64 0, Value.int IntKind.i64 0, Value.int IntKind.i64 0, Value.slice none 0 0, Value.slice none 0 0, Value.slice none 0 0, Value.int IntKind.i64 0, Value.int IntKind.i64 0, Value.int IntKind.i64 0, Value.int IntKind.i64 0] }),
  (47, { k := 1, it := true, ik := some .i64 }),
  (50, { agg := true, k := 10, fo := [0, 1, 2, 3, 7], z := some [Value.int IntKind.i64 0, Value.int IntKind.i64 0, Value.int IntKind.i64 0, Value.int IntKind.i64 0, Value.int IntKind.i64 0, Value.int IntKind.i64 0, Value.int IntKind.i64 0, Value.slice none 0 0, Value.slice none 0 0, Value.slice none 0 0], bz := some ([Value.int IntKind.i64 0, Value.int IntKind.i64 0, Value.int IntKind.i64 0, Value.int IntKind.i64 0, Value.int IntKind.i64 0, Value.int IntKind.i64 0, Value.int IntKind.i64 0, Value.slice none 0 0, Value.slice none 0 0, Value.slice none 0 0], [(0, 1), (1, 1), (2, 1), (3, 4), (7, 3)]) }),
  (60, { k := 1, el := some (50, 10, 128) }),
  (64, { k := 1, nl := 1 }),
  (76, { k := 1, nl := 1 }),
  (86, { k := 1, el := some (97, 17, 184) }),
  (89, { k := 1, el := some (139, 11, 136) }),
  (90, { agg := true, k := 16, ar := some (4, 4) }),
  (92, { agg := true, k := 20, fo := [0, 1, 2, 3, 4], z := some [Value.int IntKind.i64 0, Value.int IntKind.i64 0, Value.slice none 0 0, Value.int IntKind.i64 0, Value.int IntKind.i64 0, Value.int IntKind.i64 0, Value.int IntKind.i64 0, Value.int IntKind.i64 0, Value.int IntKind.i64 0, Value.int IntKind.i64 0, Value.int IntKind.i64 0, Value.int IntKind.i64 0, Value.int IntKind.i64 0, Value.int IntKind.i64 0, Value.int IntKind.i64 0, Value.int IntKind.i64 0, Value.int IntKind.i64 0, Value.int IntKind.i64 0, Value.int IntKind.i64 0, Value.int IntKind.i64 0], bz := some ([Value.int IntKind.i64 0, Value.int IntKind.i64 0, Value.slice none 0 0, Value.int IntKind.i64 0, Value.int IntKind.i64 0, Value.int IntKind.i64 0, Value.int IntKind.i64 0, Value.int IntKind.i64 0, Value.int IntKind.i64 0, Value.int IntKind.i64 0, Value.int IntKind.i64 0, Value.int IntKind.i64 0, Value.int IntKind.i64 0, Value.int IntKind.i64 0, Value.int IntKind.i64 0, Value.int IntKind.i64 0, Value.int IntKind.i64 0, Value.int IntKind.i64 0, Value.int IntKind.i64 0, Value.int IntKind.i64 0], [(0, 1), (1, 1), (2, 1), (3, 1), (4, 16)]) }),
  (97, { agg := true, k := 17, fo := [0, 1, 11, 12, 16] }),
  (106, { k := 1, el := some (2, 1, 8) }),
  (117, { agg := true, k := 11, fo := [0, 1], z := some [Value.int IntKind.i64 0, Value.int IntKind.i64 0, Value.int IntKind.i64 0, Value.int IntKind.i64 0, Value.int IntKind.i64 0, Value.int IntKind.i64 0, Value.int IntKind.i64 0, Value.int IntKind.i64 0, Value.slice none 0 0, Value.slice none 0 0, Value.slice none 0 0], bz := some ([Value.int IntKind.i64 0, Value.int IntKind.i64 0, Value.int IntKind.i64 0, Value.int IntKind.i64 0, Value.int IntKind.i64 0, Value.int IntKind.i64 0, Value.int IntKind.i64 0, Value.int IntKind.i64 0, Value.slice none 0 0, Value.slice none 0 0, Value.slice none 0 0], [(0, 1), (1, 10)]) }),
  (122, { agg := true, k := 3, fo := [0, 1], z := some [Value.string { data := #[] }, Value.slice none 0 0, Value.slice none 0 0], bz := some ([Value.string { data := #[] }, Value.slice none 0 0, Value.slice none 0 0], [(0, 1), (1, 2)]) }),
  (124, { agg := true, k := 2, fo := [0, 1], z := some [Value.int IntKind.i64 0, Value.int IntKind.i64 0], bz := some ([Value.int IntKind.i64 0, Value.int IntKind.i64 0], [(0, 1), (1, 1)]) }),
  (126, { agg := true, k := 4, fo := [0, 2, 3], z := some [Value.int IntKind.i64 0, Value.int IntKind.i64 0, Value.string { data := #[] }, Value.int IntKind.i64 0], bz := some ([Value.int IntKind.i64 0, Value.int IntKind.i64 0, Value.string { data := #[] }, Value.int IntKind.i64 0], [(0, 2), (2, 1), (3, 1)]), eq := some [.i .i64, .i .i64, .s, .i .i64] }),
  (128, { agg := true, k := 3, fo := [0, 1, 2], z := some [Value.int IntKind.i64 0, Value.int IntKind.i64 0, Value.int IntKind.i64 0], bz := some ([Value.int IntKind.i64 0, Value.int IntKind.i64 0, Value.int IntKind.i64 0], [(0, 1), (1, 1), (2, 1)]), eq := some [.i .i64, .i .i64, .i .i64] }),
  (137, { agg := true, k := 20, fo := [0, 1, 2, 3, 4], bz := some ([Value.int IntKind.i64 0, Value.int IntKind.i64 0, Value.slice none 0 0, Value.int IntKind.i64 0, Value.int IntKind.i64 0, Value.int IntKind.i64 0, Value.int IntKind.i64 0, Value.int IntKind.i64 0, Value.int IntKind.i64 0, Value.int IntKind.i64 0, Value.int IntKind.i64 0, Value.int IntKind.i64 0, Value.int IntKind.i64 0, Value.int IntKind.i64 0, Value.int IntKind.i64 0, Value.int IntKind.i64 0, Value.int IntKind.i64 0, Value.int IntKind.i64 0, Value.int IntKind.i64 0, Value.int IntKind.i64 0], [(0, 1), (1, 1), (2, 1), (3, 1), (4, 16)]) }),
  (139, { agg := true, k := 11, fo := [0, 1], bz := some ([Value.int IntKind.i64 0, Value.int IntKind.i64 0, Value.int IntKind.i64 0, Value.int IntKind.i64 0, Value.int IntKind.i64 0, Value.int IntKind.i64 0, Value.int IntKind.i64 0, Value.int IntKind.i64 0, Value.slice none 0 0, Value.slice none 0 0, Value.slice none 0 0], [(0, 1), (1, 10)]) }),
  (158, { k := 1, el := some (181, 2, 16) }),
  (161, { k := 1, el := some (124, 2, 16) }),
  (162, { k := 1, el := some (166, 5, 64) }),
  (164, { k := 1, el := some (9, 1, 16) }),
  (166, { agg := true, k := 5, fo := [0, 1], bz := some ([Value.slice none 0 0, Value.int IntKind.i64 0, Value.int IntKind.i64 0, Value.string { data := #[] }, Value.int IntKind.i64 0], [(0, 1), (1, 4)]) }),
  (181, { agg := true, k := 2, ar := some (2, 1), bz := some ([Value.int IntKind.i64 0, Value.int IntKind.i64 0], [(0, 1), (1, 1)]) }),
  (188, { agg := true, k := 4, ar := some (4, 1), z := some [Value.slice none 0 0, Value.slice none 0 0, Value.slice none 0 0, Value.slice none 0 0], ix := some (4, 1, false) }),
  (190, { k := 1, el := some (209, 2, 16) }),
  (192, { agg := true, k := 4, ar := some (4, 1), z := some [Value.slice none 0 0, Value.slice none 0 0, Value.slice none 0 0, Value.slice none 0 0], bz := some ([Value.slice none 0 0, Value.slice none 0 0, Value.slice none 0 0, Value.slice none 0 0], [(0, 1), (1, 1), (2, 1), (3, 1)]), ix := some (4, 1, false) }),
  (200, { k := 1, it := true, ik := some .u64 }),
  (209, { agg := true, k := 2, ar := some (2, 1), z := some [Value.int IntKind.i64 0, Value.int IntKind.i64 0], bz := some ([Value.int IntKind.i64 0, Value.int IntKind.i64 0], [(0, 1), (1, 1)]) }),
  (223, { k := 1, it := true, ik := some .i64 }),
  (230, { k := 1, it := true, ik := some .u32 }),
  (232, { k := 1, it := true, ik := some .u64 }),
  (233, { k := 1, el := some (3, 1, 8) }),
  (234, { k := 1, z := some [Value.int IntKind.u64 0], it := true, ik := some .u64 })]
theorem tab_ok : TabOk Tryz.prog tab := ⟨tyok2, tyok3, tyok4, tyok5, tyok9, tyok22, tyok24, tyok26, tyok28, tyok29, tyok31, tyok33, tyok34, tyok35, tyok37, tyok39, tyok41, tyok43, tyok45, tyok47, tyok50, tyok60, tyok64, tyok76, tyok86, tyok89, tyok90, tyok92, tyok97, tyok106, tyok117, tyok122, tyok124, tyok126, tyok128, tyok137, tyok139, tyok158, tyok161, tyok162, tyok164, tyok166, tyok181, tyok188, tyok190, tyok192, tyok200, tyok209, tyok223, tyok230, tyok232, tyok233, tyok234, trivial⟩
noncomputable abbrev ty : Nat → TyI := tyAt tab
theorem ty_ok : ∀ T, TyOk Tryz.prog T (ty T) := tab_ok.at_

end Go.Proofs.YtlghgdgpbnlpmaaGreat
