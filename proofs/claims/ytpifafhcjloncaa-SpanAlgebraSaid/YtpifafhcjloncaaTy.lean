/- What is proved: facts of the program's types, in the form that the calculus asks. Conditions: none. -/
import Derived.Test.YtpifafhcjloncaaAx
import Derived.ChangeKeysEq
namespace Go.Proofs.Ytpifafhcjloncaa
open Go.RowKit

instance one2 : One Try.prog 2 := ⟨Try.isAgg2, Try.sizeOf2⟩
instance one3 : One Try.prog 3 := ⟨Try.isAgg3, Try.sizeOf3⟩
instance ze3 : Ze Try.prog 3 [Value.int IntKind.i64 0] := ⟨_, Try.zeroValue3, rfl⟩
instance one4 : One Try.prog 4 := ⟨Try.isAgg4, Try.sizeOf4⟩
instance bl4 : BlT Try.prog 4 := ⟨Try.underlying4⟩
instance one22 : One Try.prog 22 := ⟨Try.isAgg22, Try.sizeOf22⟩
instance sl22 : SlT Try.prog 22 2 1 8 := ⟨Try.underlying22, ⟨Try.t2, _, by kernel_rfl, rfl, rfl, rfl, rfl⟩, by decide⟩
instance one24 : One Try.prog 24 := ⟨Try.isAgg24, Try.sizeOf24⟩
instance sl24 : SlT Try.prog 24 49 2 16 := ⟨Try.underlying24, ⟨Try.t49, _, by kernel_rfl, rfl, rfl, rfl, rfl⟩, by decide⟩
instance one25 : One Try.prog 25 := ⟨Try.isAgg25, Try.sizeOf25⟩
instance one29 : One Try.prog 29 := ⟨Try.isAgg29, Try.sizeOf29⟩
instance sl29 : SlT Try.prog 29 48 2 16 := ⟨Try.underlying29, ⟨Try.t48, _, by kernel_rfl, rfl, rfl, rfl, rfl⟩, by decide⟩
instance ag48 : Ag Try.prog 48 2 := ⟨Try.isAgg48, Try.sizeOf48⟩
instance bd48 : BdT Try.prog 48 [Value.int IntKind.i64 0, Value.int IntKind.i64 0] [(0, 1), (1, 1)] := bd_array Try.zeroValue48 rfl Try.underlying48 Try.sizeOf2 (fun i x hx => by
  match i, hx with
  | 0, hx => simpa using hx
  | 1, hx => simpa using hx
  | i + 2, hx => simp at hx)
instance ar48 : ArT Try.prog 48 2 2 1 := ⟨Try.underlying48, Try.sizeOf2, by decide⟩
instance ag49 : Ag Try.prog 49 2 := ⟨Try.isAgg49, Try.sizeOf49⟩
instance bd49 : BdT Try.prog 49 [Value.int IntKind.i64 0, Value.int IntKind.i64 0] [(0, 1), (1, 1)] := bd_array Try.zeroValue49 rfl Try.underlying49 Try.sizeOf2 (fun i x hx => by
  match i, hx with
  | 0, hx => simpa using hx
  | 1, hx => simpa using hx
  | i + 2, hx => simp at hx)
instance ze49 : Ze Try.prog 49 [Value.int IntKind.i64 0, Value.int IntKind.i64 0] := ⟨_, Try.zeroValue49, rfl⟩
instance ar49 : ArT Try.prog 49 2 2 1 := ⟨Try.underlying49, Try.sizeOf2, by decide⟩
instance one59 : One Try.prog 59 := ⟨Try.isAgg59, Try.sizeOf59⟩
instance sl59 : SlT Try.prog 59 29 1 24 := ⟨Try.underlying59, ⟨Try.t29, _, by kernel_rfl, rfl, rfl, rfl, rfl⟩, by decide⟩
instance one66 : One Try.prog 66 := ⟨Try.isAgg66, Try.sizeOf66⟩
instance sl66 : SlT Try.prog 66 24 1 24 := ⟨Try.underlying66, ⟨Try.t24, _, by kernel_rfl, rfl, rfl, rfl, rfl⟩, by decide⟩
instance one69 : One Try.prog 69 := ⟨Try.isAgg69, Try.sizeOf69⟩
instance one80 : One Try.prog 80 := ⟨Try.isAgg80, Try.sizeOf80⟩
instance ze80 : Ze Try.prog 80 [Value.int IntKind.u64 0] := ⟨_, Try.zeroValue80, rfl⟩
instance eq48 : EqT Try.prog 48 [.i .i64, .i .i64] := ⟨fun us vs b w hq => by
  obtain ⟨u0, v0, us0, vs0, c0, r0, rfl, rfl, he0, hq0, rfl⟩ := eqS_cons hq
  obtain ⟨a0, b0, rfl, rfl, rfl⟩ := eqC_i he0
  obtain ⟨u1, v1, us1, vs1, c1, r1, rfl, rfl, he1, hq1, rfl⟩ := eqS_cons hq0
  obtain ⟨a1, b1, rfl, rfl, rfl⟩ := eqC_i he1
  obtain ⟨rfl, rfl, rfl⟩ := eqS_nil hq1
  have hu2 := Try.underlying2
  have hz2 := Try.sizeOf2
  have ha2 := Try.isAgg2
  have hz48 := Try.sizeOf48
  have ha48 := Try.isAgg48
  have hc9 : Try.prog.cellsOf 2 = 1 := by kernel_rfl
  rw [run_equalIn_array (w := w) 9999 _ _ Try.underlying48 (i := Try.t2) (by kernel_rfl), hc9]
  simp only [show List.range 2 = [0, 1] from rfl]
  simp [Op.eqItems, part, hz2]
  go_simp
  all_goals by_cases h0 : a0 = b0
  all_goals by_cases h1 : a1 = b1
  all_goals simp [h0, h1]
  , by kernel_rfl⟩
instance eq49 : EqT Try.prog 49 [.i .i64, .i .i64] := ⟨fun us vs b w hq => by
  obtain ⟨u0, v0, us0, vs0, c0, r0, rfl, rfl, he0, hq0, rfl⟩ := eqS_cons hq
  obtain ⟨a0, b0, rfl, rfl, rfl⟩ := eqC_i he0
  obtain ⟨u1, v1, us1, vs1, c1, r1, rfl, rfl, he1, hq1, rfl⟩ := eqS_cons hq0
  obtain ⟨a1, b1, rfl, rfl, rfl⟩ := eqC_i he1
  obtain ⟨rfl, rfl, rfl⟩ := eqS_nil hq1
  have hu2 := Try.underlying2
  have hz2 := Try.sizeOf2
  have ha2 := Try.isAgg2
  have hz49 := Try.sizeOf49
  have ha49 := Try.isAgg49
  have hc9 : Try.prog.cellsOf 2 = 1 := by kernel_rfl
  rw [run_equalIn_array (w := w) 9999 _ _ Try.underlying49 (i := Try.t2) (by kernel_rfl), hc9]
  simp only [show List.range 2 = [0, 1] from rfl]
  simp [Op.eqItems, part, hz2]
  go_simp
  all_goals by_cases h0 : a0 = b0
  all_goals by_cases h1 : a1 = b1
  all_goals simp [h0, h1]
  , by kernel_rfl⟩
theorem tyok2 : TyOk Try.prog 2 { k := 1, it := true } where
  one := fun _ _ => inferInstance
  ag := fun h => absurd h (by decide)
  sz := fun _ h => absurd rfl h
  el := fun _ _ _ h => by cases h
  ar := fun _ _ h => by cases h
  fo := fun _ _ h => by cases h
  z := fun _ h => by cases h
  bz := fun _ _ h => by cases h
  bo := fun h => absurd h (by decide)
  st := fun h => absurd h (by decide)
  np := fun h => absurd h (by decide)
  it := fun _ => ⟨_, Try.underlying2⟩
  nf := fun h => absurd h (by decide)
  eq := fun _ h => by cases h
theorem tyok3 : TyOk Try.prog 3 { k := 1, z := some [Value.int IntKind.i64 0], it := true } where
  one := fun _ _ => inferInstance
  ag := fun h => absurd h (by decide)
  sz := fun _ h => absurd rfl h
  el := fun _ _ _ h => by cases h
  ar := fun _ _ h => by cases h
  fo := fun _ _ h => by cases h
  z := fun _ h => by cases h; infer_instance
  bz := fun _ _ h => by cases h
  bo := fun h => absurd h (by decide)
  st := fun h => absurd h (by decide)
  np := fun h => absurd h (by decide)
  it := fun _ => ⟨_, Try.underlying3⟩
  nf := fun h => absurd h (by decide)
  eq := fun _ h => by cases h
theorem tyok4 : TyOk Try.prog 4 { k := 1, bo := true } where
  one := fun _ _ => inferInstance
  ag := fun h => absurd h (by decide)
  sz := fun _ h => absurd rfl h
  el := fun _ _ _ h => by cases h
  ar := fun _ _ h => by cases h
  fo := fun _ _ h => by cases h
  z := fun _ h => by cases h
  bz := fun _ _ h => by cases h
  bo := fun _ => inferInstance
  st := fun h => absurd h (by decide)
  np := fun h => absurd h (by decide)
  it := fun h => absurd h (by decide)
  nf := fun h => absurd h (by decide)
  eq := fun _ h => by cases h
theorem tyok22 : TyOk Try.prog 22 { k := 1, el := some (2, 1, 8) } where
  one := fun _ _ => inferInstance
  ag := fun h => absurd h (by decide)
  sz := fun _ h => absurd rfl h
  el := fun _ _ _ h => by cases h; infer_instance
  ar := fun _ _ h => by cases h
  fo := fun _ _ h => by cases h
  z := fun _ h => by cases h
  bz := fun _ _ h => by cases h
  bo := fun h => absurd h (by decide)
  st := fun h => absurd h (by decide)
  np := fun h => absurd h (by decide)
  it := fun h => absurd h (by decide)
  nf := fun h => absurd h (by decide)
  eq := fun _ h => by cases h
theorem tyok24 : TyOk Try.prog 24 { k := 1, el := some (49, 2, 16) } where
  one := fun _ _ => inferInstance
  ag := fun h => absurd h (by decide)
  sz := fun _ h => absurd rfl h
  el := fun _ _ _ h => by cases h; infer_instance
  ar := fun _ _ h => by cases h
  fo := fun _ _ h => by cases h
  z := fun _ h => by cases h
  bz := fun _ _ h => by cases h
  bo := fun h => absurd h (by decide)
  st := fun h => absurd h (by decide)
  np := fun h => absurd h (by decide)
  it := fun h => absurd h (by decide)
  nf := fun h => absurd h (by decide)
  eq := fun _ h => by cases h
theorem tyok25 : TyOk Try.prog 25 { k := 1, it := true } where
  one := fun _ _ => inferInstance
  ag := fun h => absurd h (by decide)
  sz := fun _ h => absurd rfl h
  el := fun _ _ _ h => by cases h
  ar := fun _ _ h => by cases h
  fo := fun _ _ h => by cases h
  z := fun _ h => by cases h
  bz := fun _ _ h => by cases h
  bo := fun h => absurd h (by decide)
  st := fun h => absurd h (by decide)
  np := fun h => absurd h (by decide)
  it := fun _ => ⟨_, Try.underlying25⟩
  nf := fun h => absurd h (by decide)
  eq := fun _ h => by cases h
theorem tyok29 : TyOk Try.prog 29 { k := 1, el := some (48, 2, 16) } where
  one := fun _ _ => inferInstance
  ag := fun h => absurd h (by decide)
  sz := fun _ h => absurd rfl h
  el := fun _ _ _ h => by cases h; infer_instance
  ar := fun _ _ h => by cases h
  fo := fun _ _ h => by cases h
  z := fun _ h => by cases h
  bz := fun _ _ h => by cases h
  bo := fun h => absurd h (by decide)
  st := fun h => absurd h (by decide)
  np := fun h => absurd h (by decide)
  it := fun h => absurd h (by decide)
  nf := fun h => absurd h (by decide)
  eq := fun _ h => by cases h
theorem tyok48 : TyOk Try.prog 48 { agg := true, k := 2, ar := some (2, 1), bz := some ([Value.int IntKind.i64 0, Value.int IntKind.i64 0], [(0, 1), (1, 1)]), eq := some [.i .i64, .i .i64] } where
  one := fun h => absurd h (by decide)
  ag := fun _ => inferInstance
  sz := fun h => absurd h (by decide)
  el := fun _ _ _ h => by cases h
  ar := fun _ _ h => by cases h; exact ⟨2, inferInstance⟩
  fo := fun _ _ h => by cases h
  z := fun _ h => by cases h
  bz := fun _ _ h => by cases h; infer_instance
  bo := fun h => absurd h (by decide)
  st := fun h => absurd h (by decide)
  np := fun h => absurd h (by decide)
  it := fun h => absurd h (by decide)
  nf := fun h => absurd h (by decide)
  eq := fun _ h => by cases h; infer_instance
theorem tyok49 : TyOk Try.prog 49 { agg := true, k := 2, ar := some (2, 1), z := some [Value.int IntKind.i64 0, Value.int IntKind.i64 0], bz := some ([Value.int IntKind.i64 0, Value.int IntKind.i64 0], [(0, 1), (1, 1)]), eq := some [.i .i64, .i .i64] } where
  one := fun h => absurd h (by decide)
  ag := fun _ => inferInstance
  sz := fun h => absurd h (by decide)
  el := fun _ _ _ h => by cases h
  ar := fun _ _ h => by cases h; exact ⟨2, inferInstance⟩
  fo := fun _ _ h => by cases h
  z := fun _ h => by cases h; infer_instance
  bz := fun _ _ h => by cases h; infer_instance
  bo := fun h => absurd h (by decide)
  st := fun h => absurd h (by decide)
  np := fun h => absurd h (by decide)
  it := fun h => absurd h (by decide)
  nf := fun h => absurd h (by decide)
  eq := fun _ h => by cases h; infer_instance
theorem tyok59 : TyOk Try.prog 59 { k := 1, el := some (29, 1, 24) } where
  one := fun _ _ => inferInstance
  ag := fun h => absurd h (by decide)
  sz := fun _ h => absurd rfl h
  el := fun _ _ _ h => by cases h; infer_instance
  ar := fun _ _ h => by cases h
  fo := fun _ _ h => by cases h
  z := fun _ h => by cases h
  bz := fun _ _ h => by cases h
  bo := fun h => absurd h (by decide)
  st := fun h => absurd h (by decide)
  np := fun h => absurd h (by decide)
  it := fun h => absurd h (by decide)
  nf := fun h => absurd h (by decide)
  eq := fun _ h => by cases h
theorem tyok66 : TyOk Try.prog 66 { k := 1, el := some (24, 1, 24) } where
  one := fun _ _ => inferInstance
  ag := fun h => absurd h (by decide)
  sz := fun _ h => absurd rfl h
  el := fun _ _ _ h => by cases h; infer_instance
  ar := fun _ _ h => by cases h
  fo := fun _ _ h => by cases h
  z := fun _ h => by cases h
  bz := fun _ _ h => by cases h
  bo := fun h => absurd h (by decide)
  st := fun h => absurd h (by decide)
  np := fun h => absurd h (by decide)
  it := fun h => absurd h (by decide)
  nf := fun h => absurd h (by decide)
  eq := fun _ h => by cases h
theorem tyok69 : TyOk Try.prog 69 { k := 1, it := true } where
  one := fun _ _ => inferInstance
  ag := fun h => absurd h (by decide)
  sz := fun _ h => absurd rfl h
  el := fun _ _ _ h => by cases h
  ar := fun _ _ h => by cases h
  fo := fun _ _ h => by cases h
  z := fun _ h => by cases h
  bz := fun _ _ h => by cases h
  bo := fun h => absurd h (by decide)
  st := fun h => absurd h (by decide)
  np := fun h => absurd h (by decide)
  it := fun _ => ⟨_, Try.underlying69⟩
  nf := fun h => absurd h (by decide)
  eq := fun _ h => by cases h
theorem tyok80 : TyOk Try.prog 80 { k := 1, z := some [Value.int IntKind.u64 0], it := true } where
  one := fun _ _ => inferInstance
  ag := fun h => absurd h (by decide)
  sz := fun _ h => absurd rfl h
  el := fun _ _ _ h => by cases h
  ar := fun _ _ h => by cases h
  fo := fun _ _ h => by cases h
  z := fun _ h => by cases h; infer_instance
  bz := fun _ _ h => by cases h
  bo := fun h => absurd h (by decide)
  st := fun h => absurd h (by decide)
  np := fun h => absurd h (by decide)
  it := fun _ => ⟨_, Try.underlying80⟩
  nf := fun h => absurd h (by decide)
  eq := fun _ h => by cases h
noncomputable def tab : List (Nat × TyI) := [
  (2, { k := 1, it := true }),
  (3, { k := 1, z := some [Value.int IntKind.i64 0], it := true }),
  (4, { k := 1, bo := true }),
  (22, { k := 1, el := some (2, 1, 8) }),
  (24, { k := 1, el := some (49, 2, 16) }),
  (25, { k := 1, it := true }),
  (29, { k := 1, el := some (48, 2, 16) }),
  (48, { agg := true, k := 2, ar := some (2, 1), bz := some ([Value.int IntKind.i64 0, Value.int IntKind.i64 0], [(0, 1), (1, 1)]), eq := some [.i .i64, .i .i64] }),
  (49, { agg := true, k := 2, ar := some (2, 1), z := some [Value.int IntKind.i64 0, Value.int IntKind.i64 0], bz := some ([Value.int IntKind.i64 0, Value.int IntKind.i64 0], [(0, 1), (1, 1)]), eq := some [.i .i64, .i .i64] }),
  (59, { k := 1, el := some (29, 1, 24) }),
  (66, { k := 1, el := some (24, 1, 24) }),
  (69, { k := 1, it := true }),
  (80, { k := 1, z := some [Value.int IntKind.u64 0], it := true })]
theorem tab_ok : TabOk Try.prog tab := ⟨tyok2, tyok3, tyok4, tyok22, tyok24, tyok25, tyok29, tyok48, tyok49, tyok59, tyok66, tyok69, tyok80, trivial⟩
noncomputable abbrev ty : Nat → TyI := tyAt tab
theorem ty_ok : ∀ T, TyOk Try.prog T (ty T) := tab_ok.at_

end Go.Proofs.Ytpifafhcjloncaa
