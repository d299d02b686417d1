/- What is proved: facts of the program's types, in the form that the calculus asks. Conditions: none. -/
import Derived.Test.YtpifafhcjloncaaFree
import Derived.ChangeKeysEq
namespace Go.Proofs.Ytpifafhcjloncaa

instance one2 : One Try.prog 2 := ⟨Try.isAgg2, Try.sizeOf2⟩
instance one3 : One Try.prog 3 := ⟨Try.isAgg3, Try.sizeOf3⟩
instance ze3 : Ze Try.prog 3 [Value.int IntKind.i64 0] := ⟨_, Try.zeroValue3, rfl⟩
instance one4 : One Try.prog 4 := ⟨Try.isAgg4, Try.sizeOf4⟩
instance bl4 : BlT Try.prog 4 := ⟨Try.underlying4⟩
instance one22 : One Try.prog 22 := ⟨Try.isAgg22, Try.sizeOf22⟩
instance sl22 : SlT Try.prog 22 2 1 Try.t2.bytes := ⟨Try.underlying22, ⟨Try.t2, _, by kernel_rfl, rfl, rfl, rfl, rfl⟩, by decide⟩
instance one24 : One Try.prog 24 := ⟨Try.isAgg24, Try.sizeOf24⟩
instance sl24 : SlT Try.prog 24 49 2 Try.t49.bytes := ⟨Try.underlying24, ⟨Try.t49, _, by kernel_rfl, rfl, rfl, rfl, rfl⟩, by decide⟩
instance one25 : One Try.prog 25 := ⟨Try.isAgg25, Try.sizeOf25⟩
instance one29 : One Try.prog 29 := ⟨Try.isAgg29, Try.sizeOf29⟩
instance sl29 : SlT Try.prog 29 48 2 Try.t48.bytes := ⟨Try.underlying29, ⟨Try.t48, _, by kernel_rfl, rfl, rfl, rfl, rfl⟩, by decide⟩
instance ag48 : Ag Try.prog 48 2 := ⟨Try.isAgg48, Try.sizeOf48⟩
instance bd48 : BdT Try.prog 48 [Value.int IntKind.i64 0, Value.int IntKind.i64 0] [(0, 1), (1, 1)] := bd_array Try.zeroValue48 rfl Try.underlying48 Try.sizeOf2 (fun i x hx => by
  match i, hx with
  | 0, hx => simpa using hx
  | 1, hx => simpa using hx
  | i + 2, hx => simp at hx)
instance ar48 : ArT Try.prog 48 2 2 1 := ⟨Try.underlying48, Try.sizeOf2, by decide⟩
instance ag49 : Ag Try.prog 49 2 := ⟨Try.isAgg49, Try.sizeOf49⟩
instance bd49 : BdT Try.prog 49 [Value.int IntKind.i64 0, Value.int IntKind.i64 0] [(0, 1), (1, 1)] := bd_array Try.zeroValue49 rfl Try.underlying49 Try.sizeOf2 (fun i x hx => by
  match i, hx with
  | 0, hx => simpa using hx
  | 1, hx => simpa using hx
  | i + 2, hx => simp at hx)
instance ze49 : Ze Try.prog 49 [Value.int IntKind.i64 0, Value.int IntKind.i64 0] := ⟨_, Try.zeroValue49, rfl⟩
instance ar49 : ArT Try.prog 49 2 2 1 := ⟨Try.underlying49, Try.sizeOf2, by decide⟩
instance one59 : One Try.prog 59 := ⟨Try.isAgg59, Try.sizeOf59⟩
instance sl59 : SlT Try.prog 59 29 1 Try.t29.bytes := ⟨Try.underlying59, ⟨Try.t29, _, by kernel_rfl, rfl, rfl, rfl, rfl⟩, by decide⟩
instance one66 : One Try.prog 66 := ⟨Try.isAgg66, Try.sizeOf66⟩
instance sl66 : SlT Try.prog 66 24 1 Try.t24.bytes := ⟨Try.underlying66, ⟨Try.t24, _, by kernel_rfl, rfl, rfl, rfl, rfl⟩, by decide⟩
instance one69 : One Try.prog 69 := ⟨Try.isAgg69, Try.sizeOf69⟩
instance one80 : One Try.prog 80 := ⟨Try.isAgg80, Try.sizeOf80⟩
instance ze80 : Ze Try.prog 80 [Value.int IntKind.u64 0] := ⟨_, Try.zeroValue80, rfl⟩
instance eq48 : EqT Try.prog 48 [.i .i64, .i .i64] := ⟨fun us vs b w hq => by
  obtain ⟨u0, v0, us0, vs0, c0, r0, rfl, rfl, he0, hq0, rfl⟩ := eqS_cons hq
  obtain ⟨a0, b0, rfl, rfl, rfl⟩ := eqC_i he0
  obtain ⟨u1, v1, us1, vs1, c1, r1, rfl, rfl, he1, hq1, rfl⟩ := eqS_cons hq0
  obtain ⟨a1, b1, rfl, rfl, rfl⟩ := eqC_i he1
  obtain ⟨rfl, rfl, rfl⟩ := eqS_nil hq1
  have hu2 := Try.underlying2
  have hz2 := Try.sizeOf2
  have ha2 := Try.isAgg2
  have hz48 := Try.sizeOf48
  have ha48 := Try.isAgg48
  have hc9 : Try.prog.cellsOf 2 = 1 := by kernel_rfl
  rw [run_equalIn_array (w := w) 9999 _ _ Try.underlying48 (i := Try.t2) (by kernel_rfl), hc9]
  simp only [show List.range 2 = [0, 1] from rfl]
  simp [Op.eqItems, part, hz2]
  go_simp
  all_goals by_cases h0 : a0 = b0
  all_goals by_cases h1 : a1 = b1
  all_goals simp [h0, h1]
  , by kernel_rfl⟩
instance eq49 : EqT Try.prog 49 [.i .i64, .i .i64] := ⟨fun us vs b w hq => by
  obtain ⟨u0, v0, us0, vs0, c0, r0, rfl, rfl, he0, hq0, rfl⟩ := eqS_cons hq
  obtain ⟨a0, b0, rfl, rfl, rfl⟩ := eqC_i he0
  obtain ⟨u1, v1, us1, vs1, c1, r1, rfl, rfl, he1, hq1, rfl⟩ := eqS_cons hq0
  obtain ⟨a1, b1, rfl, rfl, rfl⟩ := eqC_i he1
  obtain ⟨rfl, rfl, rfl⟩ := eqS_nil hq1
  have hu2 := Try.underlying2
  have hz2 := Try.sizeOf2
  have ha2 := Try.isAgg2
  have hz49 := Try.sizeOf49
  have ha49 := Try.isAgg49
  have hc9 : Try.prog.cellsOf 2 = 1 := by kernel_rfl
  rw [run_equalIn_array (w := w) 9999 _ _ Try.underlying49 (i := Try.t2) (by kernel_rfl), hc9]
  simp only [show List.range 2 = [0, 1] from rfl]
  simp [Op.eqItems, part, hz2]
  go_simp
  all_goals by_cases h0 : a0 = b0
  all_goals by_cases h1 : a1 = b1
  all_goals simp [h0, h1]
  , by kernel_rfl⟩

end Go.Proofs.Ytpifafhcjloncaa
