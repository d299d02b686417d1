/- What is proved: facts of the program's types, in the form that the calculus asks. Conditions: none. -/
import Derived.Test.YteffgknclbcpjaaAx
import Derived.ChangeKeysEq
namespace Go.Proofs.Yteffgknclbcpjaa
open Go.RowKit
set_option maxRecDepth 100000

instance one2 : One Try.prog 2 := ⟨Try.isAgg2, Try.sizeOf2⟩
instance one3 : One Try.prog 3 := ⟨Try.isAgg3, Try.sizeOf3⟩
instance one4 : One Try.prog 4 := ⟨Try.isAgg4, Try.sizeOf4⟩
instance bl4 : BlT Try.prog 4 := ⟨Try.underlying4⟩
instance one9 : One Try.prog 9 := ⟨Try.isAgg9, Try.sizeOf9⟩
instance one22 : One Try.prog 22 := ⟨Try.isAgg22, Try.sizeOf22⟩
instance sl22 : SlT Try.prog 22 29 3 32 := ⟨Try.underlying22, ⟨Try.t29, _, by kernel_rfl, rfl, rfl, rfl, rfl⟩, by decide⟩
instance one24 : One Try.prog 24 := ⟨Try.isAgg24, Try.sizeOf24⟩
instance sl24 : SlT Try.prog 24 31 2 24 := ⟨Try.underlying24, ⟨Try.t31, _, by kernel_rfl, rfl, rfl, rfl, rfl⟩, by decide⟩
instance ag29 : Ag Try.prog 29 3 := ⟨Try.isAgg29, Try.sizeOf29⟩
instance bd29 : BdT Try.prog 29 [Value.string { data := #[] }, Value.int IntKind.i64 0, Value.bool false] [(0, 1), (1, 1), (2, 1)] := bd_struct Try.zeroValue29 rfl Try.underlying29 (fun w => by simp [Try.sizeOf3, Try.sizeOf4, Try.sizeOf9])
instance ze29 : Ze Try.prog 29 [Value.string { data := #[] }, Value.int IntKind.i64 0, Value.bool false] := ⟨_, Try.zeroValue29, rfl⟩
instance fld29_0 : Fld Try.prog 29 0 0 := ⟨fun A w => by simp [Instr.fieldAt, Try.runUnderlying29, Instr.sureAddr, fieldPlace, Try.sizeOf9]⟩
instance fld29_1 : Fld Try.prog 29 1 1 := ⟨fun A w => by simp [Instr.fieldAt, Try.runUnderlying29, Instr.sureAddr, fieldPlace, Try.sizeOf3]⟩
instance fld29_2 : Fld Try.prog 29 2 2 := ⟨fun A w => by simp [Instr.fieldAt, Try.runUnderlying29, Instr.sureAddr, fieldPlace, Try.sizeOf4]⟩
instance ag31 : Ag Try.prog 31 2 := ⟨Try.isAgg31, Try.sizeOf31⟩
instance bd31 : BdT Try.prog 31 [Value.string { data := #[] }, Value.int IntKind.i64 0] [(0, 1), (1, 1)] := bd_struct Try.zeroValue31 rfl Try.underlying31 (fun w => by simp [Try.sizeOf3, Try.sizeOf9])
instance ze31 : Ze Try.prog 31 [Value.string { data := #[] }, Value.int IntKind.i64 0] := ⟨_, Try.zeroValue31, rfl⟩
instance fld31_0 : Fld Try.prog 31 0 0 := ⟨fun A w => by simp [Instr.fieldAt, Try.runUnderlying31, Instr.sureAddr, fieldPlace, Try.sizeOf9]⟩
instance fld31_1 : Fld Try.prog 31 1 1 := ⟨fun A w => by simp [Instr.fieldAt, Try.runUnderlying31, Instr.sureAddr, fieldPlace, Try.sizeOf3]⟩
instance ag34 : Ag Try.prog 34 1 := ⟨Try.isAgg34, Try.sizeOf34⟩
instance bd34 : BdT Try.prog 34 [Value.slice none 0 0] [(0, 1)] := bd_struct Try.zeroValue34 rfl Try.underlying34 (fun w => by simp [Try.sizeOf24])
instance ze34 : Ze Try.prog 34 [Value.slice none 0 0] := ⟨_, Try.zeroValue34, rfl⟩
instance fld34_0 : Fld Try.prog 34 0 0 := ⟨fun A w => by simp [Instr.fieldAt, Try.runUnderlying34, Instr.sureAddr, fieldPlace, Try.sizeOf24]⟩
instance one43 : One Try.prog 43 := ⟨Try.isAgg43, Try.sizeOf43⟩
instance sl43 : SlT Try.prog 43 2 1 8 := ⟨Try.underlying43, ⟨Try.t2, _, by kernel_rfl, rfl, rfl, rfl, rfl⟩, by decide⟩
instance one44 : One Try.prog 44 := ⟨Try.isAgg44, Try.sizeOf44⟩
instance sl44 : SlT Try.prog 44 53 2 32 := ⟨Try.underlying44, ⟨Try.t53, _, by kernel_rfl, rfl, rfl, rfl, rfl⟩, by decide⟩
instance ag46 : Ag Try.prog 46 1 := ⟨Try.isAgg46, Try.sizeOf46⟩
instance bd46 : BdT Try.prog 46 [Value.slice none 0 0] [(0, 1)] := bd_struct Try.zeroValue46 rfl Try.underlying46 (fun w => by simp [Try.sizeOf44])
instance ze46 : Ze Try.prog 46 [Value.slice none 0 0] := ⟨_, Try.zeroValue46, rfl⟩
instance fld46_0 : Fld Try.prog 46 0 0 := ⟨fun A w => by simp [Instr.fieldAt, Try.runUnderlying46, Instr.sureAddr, fieldPlace, Try.sizeOf44]⟩
instance one48 : One Try.prog 48 := ⟨Try.isAgg48, Try.sizeOf48⟩
instance sl48 : SlT Try.prog 48 3 1 8 := ⟨Try.underlying48, ⟨Try.t3, _, by kernel_rfl, rfl, rfl, rfl, rfl⟩, by decide⟩
instance ag53 : Ag Try.prog 53 2 := ⟨Try.isAgg53, Try.sizeOf53⟩
instance bd53 : BdT Try.prog 53 [Value.int IntKind.i64 0, Value.slice none 0 0] [(0, 1), (1, 1)] := bd_struct Try.zeroValue53 rfl Try.underlying53 (fun w => by simp [Try.sizeOf2, Try.sizeOf48])
instance ze53 : Ze Try.prog 53 [Value.int IntKind.i64 0, Value.slice none 0 0] := ⟨_, Try.zeroValue53, rfl⟩
instance fld53_0 : Fld Try.prog 53 0 0 := ⟨fun A w => by simp [Instr.fieldAt, Try.runUnderlying53, Instr.sureAddr, fieldPlace, Try.sizeOf2]⟩
instance fld53_1 : Fld Try.prog 53 1 1 := ⟨fun A w => by simp [Instr.fieldAt, Try.runUnderlying53, Instr.sureAddr, fieldPlace, Try.sizeOf48]⟩
instance one57 : One Try.prog 57 := ⟨Try.isAgg57, Try.sizeOf57⟩
instance ze57 : Ze Try.prog 57 [Value.slice none 0 0] := ⟨_, Try.zeroValue57, rfl⟩
instance sl57 : SlT Try.prog 57 59 2 16 := ⟨Try.underlying57, ⟨Try.t59, _, by kernel_rfl, rfl, rfl, rfl, rfl⟩, by decide⟩
instance ag59 : Ag Try.prog 59 2 := ⟨Try.isAgg59, Try.sizeOf59⟩
instance bd59 : BdT Try.prog 59 [Value.int IntKind.i64 0, Value.int IntKind.i64 0] [(0, 1), (1, 1)] := bd_array Try.zeroValue59 rfl Try.underlying59 Try.sizeOf3 (fun i x hx => by
  match i, hx with
  | 0, hx => simpa using hx
  | 1, hx => simpa using hx
  | i + 2, hx => simp at hx)
instance one60 : One Try.prog 60 := ⟨Try.isAgg60, Try.sizeOf60⟩
instance one62 : One Try.prog 62 := ⟨Try.isAgg62, Try.sizeOf62⟩
instance sl62 : SlT Try.prog 62 34 1 24 := ⟨Try.underlying62, ⟨Try.t34, _, by kernel_rfl, rfl, rfl, rfl, rfl⟩, by decide⟩
instance one67 : One Try.prog 67 := ⟨Try.isAgg67, Try.sizeOf67⟩
instance sl67 : SlT Try.prog 67 9 1 16 := ⟨Try.underlying67, ⟨Try.t9, _, by kernel_rfl, rfl, rfl, rfl, rfl⟩, by decide⟩
instance one87 : One Try.prog 87 := ⟨Try.isAgg87, Try.sizeOf87⟩
instance eq31 : EqT Try.prog 31 [.s, .i .i64] := ⟨fun us vs b w hq => by
  obtain ⟨u0, v0, us0, vs0, c0, r0, rfl, rfl, he0, hq0, rfl⟩ := eqS_cons hq
  obtain ⟨a0, b0, rfl, rfl, rfl⟩ := eqC_s he0
  obtain ⟨u1, v1, us1, vs1, c1, r1, rfl, rfl, he1, hq1, rfl⟩ := eqS_cons hq0
  obtain ⟨a1, b1, rfl, rfl, rfl⟩ := eqC_i he1
  obtain ⟨rfl, rfl, rfl⟩ := eqS_nil hq1
  have hu3 := Try.underlying3
  have hz3 := Try.sizeOf3
  have ha3 := Try.isAgg3
  have hu9 := Try.underlying9
  have hz9 := Try.sizeOf9
  have ha9 := Try.isAgg9
  have hs31 : Try.prog.underlying 31 = some (.struct (Try.prog.fieldsOf 31)) := by kernel_rfl
  have hp31 : Try.prog.stoodInHeld 31 = false := by kernel_rfl
  have hz31 := Try.sizeOf31
  have ha31 := Try.isAgg31
  rw [run_equalIn_agg w 9999 31 _ _ hs31 hp31]
  simp only [Program.fieldsOf, Try.underlying31]
  go_simp
  all_goals by_cases h0 : a0.toList = b0.toList
  all_goals by_cases h1 : a1 = b1
  all_goals simp [h0, h1]
  , by kernel_rfl⟩
instance eq59 : EqT Try.prog 59 [.i .i64, .i .i64] := ⟨fun us vs b w hq => by
  obtain ⟨u0, v0, us0, vs0, c0, r0, rfl, rfl, he0, hq0, rfl⟩ := eqS_cons hq
  obtain ⟨a0, b0, rfl, rfl, rfl⟩ := eqC_i he0
  obtain ⟨u1, v1, us1, vs1, c1, r1, rfl, rfl, he1, hq1, rfl⟩ := eqS_cons hq0
  obtain ⟨a1, b1, rfl, rfl, rfl⟩ := eqC_i he1
  obtain ⟨rfl, rfl, rfl⟩ := eqS_nil hq1
  have hu3 := Try.underlying3
  have hz3 := Try.sizeOf3
  have ha3 := Try.isAgg3
  have hz59 := Try.sizeOf59
  have ha59 := Try.isAgg59
  have hc9 : Try.prog.cellsOf 3 = 1 := by kernel_rfl
  rw [run_equalIn_array (w := w) 9999 _ _ Try.underlying59 (i := Try.t3) (by kernel_rfl), hc9]
  simp only [show List.range 2 = [0, 1] from rfl]
  simp [Op.eqItems, part, hz3]
  go_simp
  all_goals by_cases h0 : a0 = b0
  all_goals by_cases h1 : a1 = b1
  all_goals simp [h0, h1]
  , by kernel_rfl⟩
theorem tyok2 : TyOk Try.prog 2 { k := 1, it := true, ik := some .i64 } where
  one := fun _ _ => inferInstance
  ag := fun h => absurd h (by decide)
  sz := fun _ h => absurd rfl h
  el := fun _ _ _ h => by cases h
  ar := fun _ _ h => by cases h
  fo := fun _ _ h => by cases h
  z := fun _ h => by cases h
  bz := fun _ _ h => by cases h
  bo := fun h => absurd h (by decide)
  st := fun h => absurd h (by decide)
  np := fun h => absurd h (by decide)
  it := fun _ => ⟨_, Try.underlying2⟩
  ik := fun _ h => by cases h; exact Try.underlying2
  nf := fun h => absurd h (by decide)
  ix := fun _ _ _ h => by cases h
  eq := fun _ h => by cases h
theorem tyok3 : TyOk Try.prog 3 { k := 1, it := true, ik := some .i64 } where
  one := fun _ _ => inferInstance
  ag := fun h => absurd h (by decide)
  sz := fun _ h => absurd rfl h
  el := fun _ _ _ h => by cases h
  ar := fun _ _ h => by cases h
  fo := fun _ _ h => by cases h
  z := fun _ h => by cases h
  bz := fun _ _ h => by cases h
  bo := fun h => absurd h (by decide)
  st := fun h => absurd h (by decide)
  np := fun h => absurd h (by decide)
  it := fun _ => ⟨_, Try.underlying3⟩
  ik := fun _ h => by cases h; exact Try.underlying3
  nf := fun h => absurd h (by decide)
  ix := fun _ _ _ h => by cases h
  eq := fun _ h => by cases h
theorem tyok4 : TyOk Try.prog 4 { k := 1, bo := true } where
  one := fun _ _ => inferInstance
  ag := fun h => absurd h (by decide)
  sz := fun _ h => absurd rfl h
  el := fun _ _ _ h => by cases h
  ar := fun _ _ h => by cases h
  fo := fun _ _ h => by cases h
  z := fun _ h => by cases h
  bz := fun _ _ h => by cases h
  bo := fun _ => inferInstance
  st := fun h => absurd h (by decide)
  np := fun h => absurd h (by decide)
  it := fun h => absurd h (by decide)
  ik := fun _ h => by cases h
  nf := fun h => absurd h (by decide)
  ix := fun _ _ _ h => by cases h
  eq := fun _ h => by cases h
theorem tyok9 : TyOk Try.prog 9 { k := 1 } where
  one := fun _ _ => inferInstance
  ag := fun h => absurd h (by decide)
  sz := fun _ h => absurd rfl h
  el := fun _ _ _ h => by cases h
  ar := fun _ _ h => by cases h
  fo := fun _ _ h => by cases h
  z := fun _ h => by cases h
  bz := fun _ _ h => by cases h
  bo := fun h => absurd h (by decide)
  st := fun h => absurd h (by decide)
  np := fun h => absurd h (by decide)
  it := fun h => absurd h (by decide)
  ik := fun _ h => by cases h
  nf := fun h => absurd h (by decide)
  ix := fun _ _ _ h => by cases h
  eq := fun _ h => by cases h
theorem tyok22 : TyOk Try.prog 22 { k := 1, el := some (29, 3, 32) } where
  one := fun _ _ => inferInstance
  ag := fun h => absurd h (by decide)
  sz := fun _ h => absurd rfl h
  el := fun _ _ _ h => by cases h; infer_instance
  ar := fun _ _ h => by cases h
  fo := fun _ _ h => by cases h
  z := fun _ h => by cases h
  bz := fun _ _ h => by cases h
  bo := fun h => absurd h (by decide)
  st := fun h => absurd h (by decide)
  np := fun h => absurd h (by decide)
  it := fun h => absurd h (by decide)
  ik := fun _ h => by cases h
  nf := fun h => absurd h (by decide)
  ix := fun _ _ _ h => by cases h
  eq := fun _ h => by cases h
theorem tyok24 : TyOk Try.prog 24 { k := 1, el := some (31, 2, 24) } where
  one := fun _ _ => inferInstance
  ag := fun h => absurd h (by decide)
  sz := fun _ h => absurd rfl h
  el := fun _ _ _ h => by cases h; infer_instance
  ar := fun _ _ h => by cases h
  fo := fun _ _ h => by cases h
  z := fun _ h => by cases h
  bz := fun _ _ h => by cases h
  bo := fun h => absurd h (by decide)
  st := fun h => absurd h (by decide)
  np := fun h => absurd h (by decide)
  it := fun h => absurd h (by decide)
  ik := fun _ h => by cases h
  nf := fun h => absurd h (by decide)
  ix := fun _ _ _ h => by cases h
  eq := fun _ h => by cases h
theorem tyok29 : TyOk Try.prog 29 { agg := true, k := 3, fo := [0, 1, 2], z := some [Value.string { data := #[] }, Value.int IntKind.i64 0, Value.bool false], bz := some ([Value.string { data := #[] }, Value.int IntKind.i64 0, Value.bool false], [(0, 1), (1, 1), (2, 1)]) } where
  one := fun h => absurd h (by decide)
  ag := fun _ => inferInstance
  sz := fun h => absurd h (by decide)
  el := fun _ _ _ h => by cases h
  ar := fun _ _ h => by cases h
  fo := fun f o h => by
    match f, h with
    | 0, h => cases h; infer_instance
    | 1, h => cases h; infer_instance
    | 2, h => cases h; infer_instance
    | f + 3, h => cases h
  z := fun _ h => by cases h; infer_instance
  bz := fun _ _ h => by cases h; infer_instance
  bo := fun h => absurd h (by decide)
  st := fun h => absurd h (by decide)
  np := fun h => absurd h (by decide)
  it := fun h => absurd h (by decide)
  ik := fun _ h => by cases h
  nf := fun h => absurd h (by decide)
  ix := fun _ _ _ h => by cases h
  eq := fun _ h => by cases h
theorem tyok31 : TyOk Try.prog 31 { agg := true, k := 2, fo := [0, 1], z := some [Value.string { data := #[] }, Value.int IntKind.i64 0], bz := some ([Value.string { data := #[] }, Value.int IntKind.i64 0], [(0, 1), (1, 1)]), eq := some [.s, .i .i64] } where
  one := fun h => absurd h (by decide)
  ag := fun _ => inferInstance
  sz := fun h => absurd h (by decide)
  el := fun _ _ _ h => by cases h
  ar := fun _ _ h => by cases h
  fo := fun f o h => by
    match f, h with
    | 0, h => cases h; infer_instance
    | 1, h => cases h; infer_instance
    | f + 2, h => cases h
  z := fun _ h => by cases h; infer_instance
  bz := fun _ _ h => by cases h; infer_instance
  bo := fun h => absurd h (by decide)
  st := fun h => absurd h (by decide)
  np := fun h => absurd h (by decide)
  it := fun h => absurd h (by decide)
  ik := fun _ h => by cases h
  nf := fun h => absurd h (by decide)
  ix := fun _ _ _ h => by cases h
  eq := fun _ h => by cases h; infer_instance
theorem tyok34 : TyOk Try.prog 34 { agg := true, k := 1, fo := [0], z := some [Value.slice none 0 0], bz := some ([Value.slice none 0 0], [(0, 1)]) } where
  one := fun h => absurd h (by decide)
  ag := fun _ => inferInstance
  sz := fun h => absurd h (by decide)
  el := fun _ _ _ h => by cases h
  ar := fun _ _ h => by cases h
  fo := fun f o h => by
    match f, h with
    | 0, h => cases h; infer_instance
    | f + 1, h => cases h
  z := fun _ h => by cases h; infer_instance
  bz := fun _ _ h => by cases h; infer_instance
  bo := fun h => absurd h (by decide)
  st := fun h => absurd h (by decide)
  np := fun h => absurd h (by decide)
  it := fun h => absurd h (by decide)
  ik := fun _ h => by cases h
  nf := fun h => absurd h (by decide)
  ix := fun _ _ _ h => by cases h
  eq := fun _ h => by cases h
theorem tyok43 : TyOk Try.prog 43 { k := 1, el := some (2, 1, 8) } where
  one := fun _ _ => inferInstance
  ag := fun h => absurd h (by decide)
  sz := fun _ h => absurd rfl h
  el := fun _ _ _ h => by cases h; infer_instance
  ar := fun _ _ h => by cases h
  fo := fun _ _ h => by cases h
  z := fun _ h => by cases h
  bz := fun _ _ h => by cases h
  bo := fun h => absurd h (by decide)
  st := fun h => absurd h (by decide)
  np := fun h => absurd h (by decide)
  it := fun h => absurd h (by decide)
  ik := fun _ h => by cases h
  nf := fun h => absurd h (by decide)
  ix := fun _ _ _ h => by cases h
  eq := fun _ h => by cases h
theorem tyok44 : TyOk Try.prog 44 { k := 1, el := some (53, 2, 32) } where
  one := fun _ _ => inferInstance
  ag := fun h => absurd h (by decide)
  sz := fun _ h => absurd rfl h
  el := fun _ _ _ h => by cases h; infer_instance
  ar := fun _ _ h => by cases h
  fo := fun _ _ h => by cases h
  z := fun _ h => by cases h
  bz := fun _ _ h => by cases h
  bo := fun h => absurd h (by decide)
  st := fun h => absurd h (by decide)
  np := fun h => absurd h (by decide)
  it := fun h => absurd h (by decide)
  ik := fun _ h => by cases h
  nf := fun h => absurd h (by decide)
  ix := fun _ _ _ h => by cases h
  eq := fun _ h => by cases h
theorem tyok46 : TyOk Try.prog 46 { agg := true, k := 1, fo := [0], z := some [Value.slice none 0 0], bz := some ([Value.slice none 0 0], [(0, 1)]) } where
  one := fun h => absurd h (by decide)
  ag := fun _ => inferInstance
  sz := fun h => absurd h (by decide)
  el := fun _ _ _ h => by cases h
  ar := fun _ _ h => by cases h
  fo := fun f o h => by
    match f, h with
    | 0, h => cases h; infer_instance
    | f + 1, h => cases h
  z := fun _ h => by cases h; infer_instance
  bz := fun _ _ h => by cases h; infer_instance
  bo := fun h => absurd h (by decide)
  st := fun h => absurd h (by decide)
  np := fun h => absurd h (by decide)
  it := fun h => absurd h (by decide)
  ik := fun _ h => by cases h
  nf := fun h => absurd h (by decide)
  ix := fun _ _ _ h => by cases h
  eq := fun _ h => by cases h
theorem tyok48 : TyOk Try.prog 48 { k := 1, el := some (3, 1, 8) } where
  one := fun _ _ => inferInstance
  ag := fun h => absurd h (by decide)
  sz := fun _ h => absurd rfl h
  el := fun _ _ _ h => by cases h; infer_instance
  ar := fun _ _ h => by cases h
  fo := fun _ _ h => by cases h
  z := fun _ h => by cases h
  bz := fun _ _ h => by cases h
  bo := fun h => absurd h (by decide)
  st := fun h => absurd h (by decide)
  np := fun h => absurd h (by decide)
  it := fun h => absurd h (by decide)
  ik := fun _ h => by cases h
  nf := fun h => absurd h (by decide)
  ix := fun _ _ _ h => by cases h
  eq := fun _ h => by cases h
theorem tyok53 : TyOk Try.prog 53 { agg := true, k := 2, fo := [0, 1], z := some [Value.int IntKind.i64 0, Value.slice none 0 0], bz := some ([Value.int IntKind.i64 0, Value.slice none 0 0], [(0, 1), (1, 1)]) } where
  one := fun h => absurd h (by decide)
  ag := fun _ => inferInstance
  sz := fun h => absurd h (by decide)
  el := fun _ _ _ h => by cases h
  ar := fun _ _ h => by cases h
  fo := fun f o h => by
    match f, h with
    | 0, h => cases h; infer_instance
    | 1, h => cases h; infer_instance
    | f + 2, h => cases h
  z := fun _ h => by cases h; infer_instance
  bz := fun _ _ h => by cases h; infer_instance
  bo := fun h => absurd h (by decide)
  st := fun h => absurd h (by decide)
  np := fun h => absurd h (by decide)
  it := fun h => absurd h (by decide)
  ik := fun _ h => by cases h
  nf := fun h => absurd h (by decide)
  ix := fun _ _ _ h => by cases h
  eq := fun _ h => by cases h
theorem tyok57 : TyOk Try.prog 57 { k := 1, el := some (59, 2, 16), z := some [Value.slice none 0 0] } where
  one := fun _ _ => inferInstance
  ag := fun h => absurd h (by decide)
  sz := fun _ h => absurd rfl h
  el := fun _ _ _ h => by cases h; infer_instance
  ar := fun _ _ h => by cases h
  fo := fun _ _ h => by cases h
  z := fun _ h => by cases h; infer_instance
  bz := fun _ _ h => by cases h
  bo := fun h => absurd h (by decide)
  st := fun h => absurd h (by decide)
  np := fun h => absurd h (by decide)
  it := fun h => absurd h (by decide)
  ik := fun _ h => by cases h
  nf := fun h => absurd h (by decide)
  ix := fun _ _ _ h => by cases h
  eq := fun _ h => by cases h
theorem tyok59 : TyOk Try.prog 59 { agg := true, k := 2, bz := some ([Value.int IntKind.i64 0, Value.int IntKind.i64 0], [(0, 1), (1, 1)]), eq := some [.i .i64, .i .i64] } where
  one := fun h => absurd h (by decide)
  ag := fun _ => inferInstance
  sz := fun h => absurd h (by decide)
  el := fun _ _ _ h => by cases h
  ar := fun _ _ h => by cases h
  fo := fun _ _ h => by cases h
  z := fun _ h => by cases h
  bz := fun _ _ h => by cases h; infer_instance
  bo := fun h => absurd h (by decide)
  st := fun h => absurd h (by decide)
  np := fun h => absurd h (by decide)
  it := fun h => absurd h (by decide)
  ik := fun _ h => by cases h
  nf := fun h => absurd h (by decide)
  ix := fun _ _ _ h => by cases h
  eq := fun _ h => by cases h; infer_instance
theorem tyok60 : TyOk Try.prog 60 { k := 1, nl := 2 } where
  one := fun _ _ => inferInstance
  ag := fun h => absurd h (by decide)
  sz := fun _ h => absurd rfl h
  el := fun _ _ _ h => by cases h
  ar := fun _ _ h => by cases h
  fo := fun _ _ h => by cases h
  z := fun _ h => by cases h
  bz := fun _ _ h => by cases h
  bo := fun h => absurd h (by decide)
  st := fun h => absurd h (by decide)
  np := fun h => absurd h (by decide)
  it := fun h => absurd h (by decide)
  ik := fun _ h => by cases h
  nf := fun _ => ⟨_, _, _, Try.underlying60⟩
  ix := fun _ _ _ h => by cases h
  eq := fun _ h => by cases h
theorem tyok62 : TyOk Try.prog 62 { k := 1, el := some (34, 1, 24) } where
  one := fun _ _ => inferInstance
  ag := fun h => absurd h (by decide)
  sz := fun _ h => absurd rfl h
  el := fun _ _ _ h => by cases h; infer_instance
  ar := fun _ _ h => by cases h
  fo := fun _ _ h => by cases h
  z := fun _ h => by cases h
  bz := fun _ _ h => by cases h
  bo := fun h => absurd h (by decide)
  st := fun h => absurd h (by decide)
  np := fun h => absurd h (by decide)
  it := fun h => absurd h (by decide)
  ik := fun _ h => by cases h
  nf := fun h => absurd h (by decide)
  ix := fun _ _ _ h => by cases h
  eq := fun _ h => by cases h
theorem tyok67 : TyOk Try.prog 67 { k := 1, el := some (9, 1, 16) } where
  one := fun _ _ => inferInstance
  ag := fun h => absurd h (by decide)
  sz := fun _ h => absurd rfl h
  el := fun _ _ _ h => by cases h; infer_instance
  ar := fun _ _ h => by cases h
  fo := fun _ _ h => by cases h
  z := fun _ h => by cases h
  bz := fun _ _ h => by cases h
  bo := fun h => absurd h (by decide)
  st := fun h => absurd h (by decide)
  np := fun h => absurd h (by decide)
  it := fun h => absurd h (by decide)
  ik := fun _ h => by cases h
  nf := fun h => absurd h (by decide)
  ix := fun _ _ _ h => by cases h
  eq := fun _ h => by cases h
theorem tyok87 : TyOk Try.prog 87 { k := 1, it := true, ik := some .u64 } where
  one := fun _ _ => inferInstance
  ag := fun h => absurd h (by decide)
  sz := fun _ h => absurd rfl h
  el := fun _ _ _ h => by cases h
  ar := fun _ _ h => by cases h
  fo := fun _ _ h => by cases h
  z := fun _ h => by cases h
  bz := fun _ _ h => by cases h
  bo := fun h => absurd h (by decide)
  st := fun h => absurd h (by decide)
  np := fun h => absurd h (by decide)
  it := fun _ => ⟨_, Try.underlying87⟩
  ik := fun _ h => by cases h; exact Try.underlying87
  nf := fun h => absurd h (by decide)
  ix := fun _ _ _ h => by cases h
  eq := fun _ h => by cases h
noncomputable def tab : List (Nat × TyI) := [
  (2, { k := 1, it := true, ik := some .i64 }),
  (3, { k := 1, it := true, ik := some .i64 }),
  (4, { k := 1, bo := true }),
  (9, { k := 1 }),
  (22, { k := 1, el := some (29, 3, 32) }),
  (24, { k := 1, el := some (31, 2, 24) }),
  (29, { agg := true, k := 3, fo := [0, 1, 2], z := some [Value.string { data := #[] }, Value.int IntKind.i64 0, Value.bool false], bz := some ([Value.string { data := #[] }, Value.int IntKind.i64 0, Value.bool false], [(0, 1), (1, 1), (2, 1)]) }),
  (31, { agg := true, k := 2, fo := [0, 1], z := some [Value.string { data := #[] }, Value.int IntKind.i64 0], bz := some ([Value.string { data := #[] }, Value.int IntKind.i64 0], [(0, 1), (1, 1)]), eq := some [.s, .i .i64] }),
  (34, { agg := true, k := 1, fo := [0], z := some [Value.slice none 0 0], bz := some ([Value.slice none 0 0], [(0, 1)]) }),
  (43, { k := 1, el := some (2, 1, 8) }),
  (44, { k := 1, el := some (53, 2, 32) }),
  (46, { agg := true, k := 1, fo := [0], z := some [Value.slice none 0 0], bz := some ([Value.slice none 0 0], [(0, 1)]) }),
  (48, { k := 1, el := some (3, 1, 8) }),
  (53, { agg := true, k := 2, fo := [0, 1], z := some [Value.int IntKind.i64 0, Value.slice none 0 0], bz := some ([Value.int IntKind.i64 0, Value.slice none 0 0], [(0, 1), (1, 1)]) }),
  (57, { k := 1, el := some (59, 2, 16), z := some [Value.slice none 0 0] }),
  (59, { agg := true, k := 2, bz := some ([Value.int IntKind.i64 0, Value.int IntKind.i64 0], [(0, 1), (1, 1)]), eq := some [.i .i64, .i .i64] }),
  (60, { k := 1, nl := 2 }),
  (62, { k := 1, el := some (34, 1, 24) }),
  (67, { k := 1, el := some (9, 1, 16) }),
  (87, { k := 1, it := true, ik := some .u64 })]
theorem tab_ok : TabOk Try.prog tab := ⟨tyok2, tyok3, tyok4, tyok9, tyok22, tyok24, tyok29, tyok31, tyok34, tyok43, tyok44, tyok46, tyok48, tyok53, tyok57, tyok59, tyok60, tyok62, tyok67, tyok87, trivial⟩
noncomputable abbrev ty : Nat → TyI := tyAt tab
theorem ty_ok : ∀ T, TyOk Try.prog T (ty T) := tab_ok.at_

end Go.Proofs.Yteffgknclbcpjaa
