/- What is proved: facts of the program's types, in the form that the calculus asks. Conditions: none. -/
import Derived.Test.YtcfiobecokbbdaaFree
namespace Go.Proofs.Ytcfiobecokbbdaa

instance one2 : One Try.prog 2 := ⟨Try.isAgg2, Try.sizeOf2⟩
instance one3 : One Try.prog 3 := ⟨Try.isAgg3, Try.sizeOf3⟩
instance one4 : One Try.prog 4 := ⟨Try.isAgg4, Try.sizeOf4⟩
instance bl4 : BlT Try.prog 4 := ⟨Try.underlying4⟩
instance ag23 : Ag Try.prog 23 2 := ⟨Try.isAgg23, Try.sizeOf23⟩
instance bd23 : BdT Try.prog 23 [Value.int IntKind.i64 0, Value.int IntKind.i64 0] [(0, 1), (1, 1)] := bd_struct Try.zeroValue23 rfl Try.underlying23 (fun w => by simp [Try.sizeOf2, Try.sizeOf3])
instance ze23 : Ze Try.prog 23 [Value.int IntKind.i64 0, Value.int IntKind.i64 0] := ⟨_, Try.zeroValue23, rfl⟩
instance fld23_0 : Fld Try.prog 23 0 0 := ⟨fun A w => by simp [Instr.fieldAt, Try.runUnderlying23, Instr.sureAddr, fieldPlace, Try.sizeOf3]⟩
instance fld23_1 : Fld Try.prog 23 1 1 := ⟨fun A w => by simp [Instr.fieldAt, Try.runUnderlying23, Instr.sureAddr, fieldPlace, Try.sizeOf2]⟩
instance one26 : One Try.prog 26 := ⟨Try.isAgg26, Try.sizeOf26⟩
instance one33 : One Try.prog 33 := ⟨Try.isAgg33, Try.sizeOf33⟩
instance sl33 : SlT Try.prog 33 23 2 Try.t23.bytes := ⟨Try.underlying33, ⟨Try.t23, _, by kernel_rfl, rfl, rfl, rfl, rfl⟩, by decide⟩
instance one40 : One Try.prog 40 := ⟨Try.isAgg40, Try.sizeOf40⟩
instance sl40 : SlT Try.prog 40 3 1 Try.t3.bytes := ⟨Try.underlying40, ⟨Try.t3, _, by kernel_rfl, rfl, rfl, rfl, rfl⟩, by decide⟩
instance eq23 : EqT Try.prog 23 [.i .i64, .i .i64] := ⟨fun us vs b w hq => by
  obtain ⟨u0, v0, us0, vs0, c0, r0, rfl, rfl, he0, hq0, rfl⟩ := eqS_cons hq
  obtain ⟨a0, b0, rfl, rfl, rfl⟩ := eqC_i he0
  obtain ⟨u1, v1, us1, vs1, c1, r1, rfl, rfl, he1, hq1, rfl⟩ := eqS_cons hq0
  obtain ⟨a1, b1, rfl, rfl, rfl⟩ := eqC_i he1
  obtain ⟨rfl, rfl, rfl⟩ := eqS_nil hq1
  have hu2 := Try.underlying2
  have hz2 := Try.sizeOf2
  have ha2 := Try.isAgg2
  have hu3 := Try.underlying3
  have hz3 := Try.sizeOf3
  have ha3 := Try.isAgg3
  have hs23 : Try.prog.underlying 23 = some (.struct (Try.prog.fieldsOf 23)) := by kernel_rfl
  have hp23 : Try.prog.stoodInHeld 23 = false := by kernel_rfl
  have hz23 := Try.sizeOf23
  have ha23 := Try.isAgg23
  rw [run_equalIn_agg w 9999 23 _ _ hs23 hp23]
  simp only [Program.fieldsOf, Try.underlying23]
  go_simp
  all_goals (by_cases h0 : a0 = b0 <;> by_cases h1 : a1 = b1 <;> simp [h0, h1]), by kernel_rfl⟩

end Go.Proofs.Ytcfiobecokbbdaa
