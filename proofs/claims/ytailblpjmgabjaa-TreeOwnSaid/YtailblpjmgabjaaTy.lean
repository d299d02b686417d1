/- What is proved: facts of the program's types, in the form that the calculus asks. Conditions: none. -/
import Derived.Test.YtailblpjmgabjaaWk
import Derived.ChangeKeysEq
namespace Go.Proofs.Ytailblpjmgabjaa
open Go.RowKit
set_option maxRecDepth 100000

instance one2 : One Try.prog 2 := ⟨Try.isAgg2, Try.sizeOf2⟩
instance one3 : One Try.prog 3 := ⟨Try.isAgg3, Try.sizeOf3⟩
instance ze3 : Ze Try.prog 3 [Value.int IntKind.i64 0] := ⟨_, Try.zeroValue3, rfl⟩
instance one4 : One Try.prog 4 := ⟨Try.isAgg4, Try.sizeOf4⟩
instance bl4 : BlT Try.prog 4 := ⟨Try.underlying4⟩
instance one5 : One Try.prog 5 := ⟨Try.isAgg5, Try.sizeOf5⟩
instance one9 : One Try.prog 9 := ⟨Try.isAgg9, Try.sizeOf9⟩
instance ze9 : Ze Try.prog 9 [Value.string { data := #[] }] := ⟨_, Try.zeroValue9, rfl⟩
instance st9 : StT Try.prog 9 := ⟨Try.underlying9⟩
instance one22 : One Try.prog 22 := ⟨Try.isAgg22, Try.sizeOf22⟩
instance sl22 : SlT Try.prog 22 63 4 40 := ⟨Try.underlying22, ⟨Try.t63, _, by kernel_rfl, rfl, rfl, rfl, rfl⟩, by decide⟩
instance one23 : One Try.prog 23 := ⟨Try.isAgg23, Try.sizeOf23⟩
instance sl23 : SlT Try.prog 23 56 3 64 := ⟨Try.underlying23, ⟨Try.t56, _, by kernel_rfl, rfl, rfl, rfl, rfl⟩, by decide⟩
instance ag25 : Ag Try.prog 25 2 := ⟨Try.isAgg25, Try.sizeOf25⟩
instance bd25 : BdT Try.prog 25 [Value.slice none 0 0, Value.slice none 0 0] [(0, 1), (1, 1)] := bd_struct Try.zeroValue25 rfl Try.underlying25 (fun w => by simp [Try.sizeOf22, Try.sizeOf23])
instance ze25 : Ze Try.prog 25 [Value.slice none 0 0, Value.slice none 0 0] := ⟨_, Try.zeroValue25, rfl⟩
instance fld25_0 : Fld Try.prog 25 0 0 := ⟨fun A w => by simp [Instr.fieldAt, Try.runUnderlying25, Instr.sureAddr, fieldPlace, Try.sizeOf22]⟩
instance fld25_1 : Fld Try.prog 25 1 1 := ⟨fun A w => by simp [Instr.fieldAt, Try.runUnderlying25, Instr.sureAddr, fieldPlace, Try.sizeOf23]⟩
instance one26 : One Try.prog 26 := ⟨Try.isAgg26, Try.sizeOf26⟩
instance sl26 : SlT Try.prog 26 9 1 16 := ⟨Try.underlying26, ⟨Try.t9, _, by kernel_rfl, rfl, rfl, rfl, rfl⟩, by decide⟩
instance one35 : One Try.prog 35 := ⟨Try.isAgg35, Try.sizeOf35⟩
instance one41 : One Try.prog 41 := ⟨Try.isAgg41, Try.sizeOf41⟩
instance sl41 : SlT Try.prog 41 70 5 64 := ⟨Try.underlying41, ⟨Try.t70, _, by kernel_rfl, rfl, rfl, rfl, rfl⟩, by decide⟩
instance one49 : One Try.prog 49 := ⟨Try.isAgg49, Try.sizeOf49⟩
instance sl49 : SlT Try.prog 49 78 3 24 := ⟨Try.underlying49, ⟨Try.t78, _, by kernel_rfl, rfl, rfl, rfl, rfl⟩, by decide⟩
instance ag56 : Ag Try.prog 56 3 := ⟨Try.isAgg56, Try.sizeOf56⟩
instance bd56 : BdT Try.prog 56 [Value.string { data := #[] }, Value.slice none 0 0, Value.slice none 0 0] [(0, 1), (1, 2)] := bd_struct Try.zeroValue56 rfl Try.underlying56 (fun w => by simp [Try.sizeOf25, Try.sizeOf9])
instance ze56 : Ze Try.prog 56 [Value.string { data := #[] }, Value.slice none 0 0, Value.slice none 0 0] := ⟨_, Try.zeroValue56, rfl⟩
instance fld56_0 : Fld Try.prog 56 0 0 := ⟨fun A w => by simp [Instr.fieldAt, Try.runUnderlying56, Instr.sureAddr, fieldPlace, Try.sizeOf9]⟩
instance fld56_1 : Fld Try.prog 56 1 1 := ⟨fun A w => by simp [Instr.fieldAt, Try.runUnderlying56, Instr.sureAddr, fieldPlace, Try.sizeOf25]⟩
instance ag61 : Ag Try.prog 61 2 := ⟨Try.isAgg61, Try.sizeOf61⟩
instance bd61 : BdT Try.prog 61 [Value.int IntKind.i64 0, Value.int IntKind.i64 0] [(0, 1), (1, 1)] := bd_struct Try.zeroValue61 rfl Try.underlying61 (fun w => by simp [Try.sizeOf2, Try.sizeOf3])
instance ze61 : Ze Try.prog 61 [Value.int IntKind.i64 0, Value.int IntKind.i64 0] := ⟨_, Try.zeroValue61, rfl⟩
instance fld61_0 : Fld Try.prog 61 0 0 := ⟨fun A w => by simp [Instr.fieldAt, Try.runUnderlying61, Instr.sureAddr, fieldPlace, Try.sizeOf3]⟩
instance fld61_1 : Fld Try.prog 61 1 1 := ⟨fun A w => by simp [Instr.fieldAt, Try.runUnderlying61, Instr.sureAddr, fieldPlace, Try.sizeOf2]⟩
instance ag63 : Ag Try.prog 63 4 := ⟨Try.isAgg63, Try.sizeOf63⟩
instance bd63 : BdT Try.prog 63 [Value.int IntKind.i64 0, Value.int IntKind.i64 0, Value.string { data := #[] }, Value.int IntKind.i64 0] [(0, 2), (2, 1), (3, 1)] := bd_struct Try.zeroValue63 rfl Try.underlying63 (fun w => by simp [Try.sizeOf2, Try.sizeOf61, Try.sizeOf9])
instance ze63 : Ze Try.prog 63 [Value.int IntKind.i64 0, Value.int IntKind.i64 0, Value.string { data := #[] }, Value.int IntKind.i64 0] := ⟨_, Try.zeroValue63, rfl⟩
instance fld63_0 : Fld Try.prog 63 0 0 := ⟨fun A w => by simp [Instr.fieldAt, Try.runUnderlying63, Instr.sureAddr, fieldPlace, Try.sizeOf61]⟩
instance fld63_1 : Fld Try.prog 63 1 2 := ⟨fun A w => by simp [Instr.fieldAt, Try.runUnderlying63, Instr.sureAddr, fieldPlace, Try.sizeOf9]⟩
instance fld63_2 : Fld Try.prog 63 2 3 := ⟨fun A w => by simp [Instr.fieldAt, Try.runUnderlying63, Instr.sureAddr, fieldPlace, Try.sizeOf2]⟩
instance ag70 : Ag Try.prog 70 5 := ⟨Try.isAgg70, Try.sizeOf70⟩
instance bd70 : BdT Try.prog 70 [Value.slice none 0 0, Value.int IntKind.i64 0, Value.int IntKind.i64 0, Value.string { data := #[] }, Value.int IntKind.i64 0] [(0, 1), (1, 4)] := bd_struct Try.zeroValue70 rfl Try.underlying70 (fun w => by simp [Try.sizeOf26, Try.sizeOf63])
instance fld70_0 : Fld Try.prog 70 0 0 := ⟨fun A w => by simp [Instr.fieldAt, Try.runUnderlying70, Instr.sureAddr, fieldPlace, Try.sizeOf26]⟩
instance fld70_1 : Fld Try.prog 70 1 1 := ⟨fun A w => by simp [Instr.fieldAt, Try.runUnderlying70, Instr.sureAddr, fieldPlace, Try.sizeOf63]⟩
instance one71 : One Try.prog 71 := ⟨Try.isAgg71, Try.sizeOf71⟩
instance sl71 : SlT Try.prog 71 61 2 16 := ⟨Try.underlying71, ⟨Try.t61, _, by kernel_rfl, rfl, rfl, rfl, rfl⟩, by decide⟩
instance ag78 : Ag Try.prog 78 3 := ⟨Try.isAgg78, Try.sizeOf78⟩
instance bd78 : BdT Try.prog 78 [Value.int IntKind.i64 0, Value.int IntKind.i64 0, Value.int IntKind.i64 0] [(0, 1), (1, 1), (2, 1)] := bd_struct Try.zeroValue78 rfl Try.underlying78 (fun w => by simp [Try.sizeOf2, Try.sizeOf3])
instance one89 : One Try.prog 89 := ⟨Try.isAgg89, Try.sizeOf89⟩
instance sl89 : SlT Try.prog 89 2 1 8 := ⟨Try.underlying89, ⟨Try.t2, _, by kernel_rfl, rfl, rfl, rfl, rfl⟩, by decide⟩
instance ag90 : Ag Try.prog 90 4 := ⟨Try.isAgg90, Try.sizeOf90⟩
instance ze90 : Ze Try.prog 90 [Value.slice none 0 0, Value.slice none 0 0, Value.slice none 0 0, Value.slice none 0 0] := ⟨_, Try.zeroValue90, rfl⟩
instance ar90 : ArT Try.prog 90 4 89 1 := ⟨Try.underlying90, Try.sizeOf89, by decide⟩
instance one92 : One Try.prog 92 := ⟨Try.isAgg92, Try.sizeOf92⟩
instance sl92 : SlT Try.prog 92 104 2 16 := ⟨Try.underlying92, ⟨Try.t104, _, by kernel_rfl, rfl, rfl, rfl, rfl⟩, by decide⟩
instance ag94 : Ag Try.prog 94 4 := ⟨Try.isAgg94, Try.sizeOf94⟩
instance ze94 : Ze Try.prog 94 [Value.slice none 0 0, Value.slice none 0 0, Value.slice none 0 0, Value.slice none 0 0] := ⟨_, Try.zeroValue94, rfl⟩
instance ar94 : ArT Try.prog 94 4 92 1 := ⟨Try.underlying94, Try.sizeOf92, by decide⟩
instance one99 : One Try.prog 99 := ⟨Try.isAgg99, Try.sizeOf99⟩
instance sl99 : SlT Try.prog 99 103 2 16 := ⟨Try.underlying99, ⟨Try.t103, _, by kernel_rfl, rfl, rfl, rfl, rfl⟩, by decide⟩
instance ag103 : Ag Try.prog 103 2 := ⟨Try.isAgg103, Try.sizeOf103⟩
instance bd103 : BdT Try.prog 103 [Value.int IntKind.i64 0, Value.int IntKind.i64 0] [(0, 1), (1, 1)] := bd_array Try.zeroValue103 rfl Try.underlying103 Try.sizeOf2 (fun i x hx => by
  match i, hx with
  | 0, hx => simpa using hx
  | 1, hx => simpa using hx
  | i + 2, hx => simp at hx)
instance ar103 : ArT Try.prog 103 2 2 1 := ⟨Try.underlying103, Try.sizeOf2, by decide⟩
instance ag104 : Ag Try.prog 104 2 := ⟨Try.isAgg104, Try.sizeOf104⟩
instance bd104 : BdT Try.prog 104 [Value.int IntKind.i64 0, Value.int IntKind.i64 0] [(0, 1), (1, 1)] := bd_array Try.zeroValue104 rfl Try.underlying104 Try.sizeOf2 (fun i x hx => by
  match i, hx with
  | 0, hx => simpa using hx
  | 1, hx => simpa using hx
  | i + 2, hx => simp at hx)
instance ze104 : Ze Try.prog 104 [Value.int IntKind.i64 0, Value.int IntKind.i64 0] := ⟨_, Try.zeroValue104, rfl⟩
instance ar104 : ArT Try.prog 104 2 2 1 := ⟨Try.underlying104, Try.sizeOf2, by decide⟩
instance one115 : One Try.prog 115 := ⟨Try.isAgg115, Try.sizeOf115⟩
instance one116 : One Try.prog 116 := ⟨Try.isAgg116, Try.sizeOf116⟩
instance sl116 : SlT Try.prog 116 3 1 8 := ⟨Try.underlying116, ⟨Try.t3, _, by kernel_rfl, rfl, rfl, rfl, rfl⟩, by decide⟩
instance one119 : One Try.prog 119 := ⟨Try.isAgg119, Try.sizeOf119⟩
instance one127 : One Try.prog 127 := ⟨Try.isAgg127, Try.sizeOf127⟩
instance one129 : One Try.prog 129 := ⟨Try.isAgg129, Try.sizeOf129⟩
instance one130 : One Try.prog 130 := ⟨Try.isAgg130, Try.sizeOf130⟩
instance ze130 : Ze Try.prog 130 [Value.int IntKind.u64 0] := ⟨_, Try.zeroValue130, rfl⟩
instance eq63 : EqT Try.prog 63 [.i .i64, .i .i64, .s, .i .i64] := ⟨fun us vs b w hq => by
  obtain ⟨u0, v0, us0, vs0, c0, r0, rfl, rfl, he0, hq0, rfl⟩ := eqS_cons hq
  obtain ⟨a0, b0, rfl, rfl, rfl⟩ := eqC_i he0
  obtain ⟨u1, v1, us1, vs1, c1, r1, rfl, rfl, he1, hq1, rfl⟩ := eqS_cons hq0
  obtain ⟨a1, b1, rfl, rfl, rfl⟩ := eqC_i he1
  obtain ⟨u2, v2, us2, vs2, c2, r2, rfl, rfl, he2, hq2, rfl⟩ := eqS_cons hq1
  obtain ⟨a2, b2, rfl, rfl, rfl⟩ := eqC_s he2
  obtain ⟨u3, v3, us3, vs3, c3, r3, rfl, rfl, he3, hq3, rfl⟩ := eqS_cons hq2
  obtain ⟨a3, b3, rfl, rfl, rfl⟩ := eqC_i he3
  obtain ⟨rfl, rfl, rfl⟩ := eqS_nil hq3
  have hu2 := Try.underlying2
  have hz2 := Try.sizeOf2
  have ha2 := Try.isAgg2
  have hu3 := Try.underlying3
  have hz3 := Try.sizeOf3
  have ha3 := Try.isAgg3
  have hu9 := Try.underlying9
  have hz9 := Try.sizeOf9
  have ha9 := Try.isAgg9
  have hs61 : Try.prog.underlying 61 = some (.struct (Try.prog.fieldsOf 61)) := by kernel_rfl
  have hp61 : Try.prog.stoodInHeld 61 = false := by kernel_rfl
  have hz61 := Try.sizeOf61
  have ha61 := Try.isAgg61
  have hs63 : Try.prog.underlying 63 = some (.struct (Try.prog.fieldsOf 63)) := by kernel_rfl
  have hp63 : Try.prog.stoodInHeld 63 = false := by kernel_rfl
  have hz63 := Try.sizeOf63
  have ha63 := Try.isAgg63
  rw [run_equalIn_agg w 9999 63 _ _ hs63 hp63]
  simp only [Program.fieldsOf, Try.underlying63]
  have e61 := fun d xs ys w => (run_equalIn_agg (w := w) d 61 xs ys hs61 hp61)
  simp only [Program.fieldsOf, Try.underlying61] at e61
  have f61 := e61 9997
  clear hs61 hp61 hs63 hp63
  go_simp
  all_goals by_cases h0 : a0 = b0
  all_goals by_cases h1 : a1 = b1
  all_goals by_cases h2 : a2.toList = b2.toList
  all_goals by_cases h3 : a3 = b3
  all_goals simp [h0, h1, h2, h3]
  , by kernel_rfl⟩
instance eq78 : EqT Try.prog 78 [.i .i64, .i .i64, .i .i64] := ⟨fun us vs b w hq => by
  obtain ⟨u0, v0, us0, vs0, c0, r0, rfl, rfl, he0, hq0, rfl⟩ := eqS_cons hq
  obtain ⟨a0, b0, rfl, rfl, rfl⟩ := eqC_i he0
  obtain ⟨u1, v1, us1, vs1, c1, r1, rfl, rfl, he1, hq1, rfl⟩ := eqS_cons hq0
  obtain ⟨a1, b1, rfl, rfl, rfl⟩ := eqC_i he1
  obtain ⟨u2, v2, us2, vs2, c2, r2, rfl, rfl, he2, hq2, rfl⟩ := eqS_cons hq1
  obtain ⟨a2, b2, rfl, rfl, rfl⟩ := eqC_i he2
  obtain ⟨rfl, rfl, rfl⟩ := eqS_nil hq2
  have hu2 := Try.underlying2
  have hz2 := Try.sizeOf2
  have ha2 := Try.isAgg2
  have hu3 := Try.underlying3
  have hz3 := Try.sizeOf3
  have ha3 := Try.isAgg3
  have hs78 : Try.prog.underlying 78 = some (.struct (Try.prog.fieldsOf 78)) := by kernel_rfl
  have hp78 : Try.prog.stoodInHeld 78 = false := by kernel_rfl
  have hz78 := Try.sizeOf78
  have ha78 := Try.isAgg78
  rw [run_equalIn_agg w 9999 78 _ _ hs78 hp78]
  simp only [Program.fieldsOf, Try.underlying78]
  go_simp
  all_goals by_cases h0 : a0 = b0
  all_goals by_cases h1 : a1 = b1
  all_goals by_cases h2 : a2 = b2
  all_goals simp [h0, h1, h2]
  , by kernel_rfl⟩
theorem tyok2 : TyOk Try.prog 2 { k := 1, it := true, ik := some .i64 } where
  one := fun _ _ => inferInstance
  ag := fun h => absurd h (by decide)
  sz := fun _ h => absurd rfl h
  el := fun _ _ _ h => by cases h
  ar := fun _ _ h => by cases h
  fo := fun _ _ h => by cases h
  z := fun _ h => by cases h
  bz := fun _ _ h => by cases h
  bo := fun h => absurd h (by decide)
  st := fun h => absurd h (by decide)
  np := fun h => absurd h (by decide)
  it := fun _ => ⟨_, Try.underlying2⟩
  ik := fun _ h => by cases h; exact Try.underlying2
  nf := fun h => absurd h (by decide)
  ix := fun _ _ _ h => by cases h
  eq := fun _ h => by cases h
theorem tyok3 : TyOk Try.prog 3 { k := 1, z := some [Value.int IntKind.i64 0], it := true, ik := some .i64 } where
  one := fun _ _ => inferInstance
  ag := fun h => absurd h (by decide)
  sz := fun _ h => absurd rfl h
  el := fun _ _ _ h => by cases h
  ar := fun _ _ h => by cases h
  fo := fun _ _ h => by cases h
  z := fun _ h => by cases h; infer_instance
  bz := fun _ _ h => by cases h
  bo := fun h => absurd h (by decide)
  st := fun h => absurd h (by decide)
  np := fun h => absurd h (by decide)
  it := fun _ => ⟨_, Try.underlying3⟩
  ik := fun _ h => by cases h; exact Try.underlying3
  nf := fun h => absurd h (by decide)
  ix := fun _ _ _ h => by cases h
  eq := fun _ h => by cases h
theorem tyok4 : TyOk Try.prog 4 { k := 1, bo := true } where
  one := fun _ _ => inferInstance
  ag := fun h => absurd h (by decide)
  sz := fun _ h => absurd rfl h
  el := fun _ _ _ h => by cases h
  ar := fun _ _ h => by cases h
  fo := fun _ _ h => by cases h
  z := fun _ h => by cases h
  bz := fun _ _ h => by cases h
  bo := fun _ => inferInstance
  st := fun h => absurd h (by decide)
  np := fun h => absurd h (by decide)
  it := fun h => absurd h (by decide)
  ik := fun _ h => by cases h
  nf := fun h => absurd h (by decide)
  ix := fun _ _ _ h => by cases h
  eq := fun _ h => by cases h
theorem tyok5 : TyOk Try.prog 5 { k := 1, it := true, ik := some .u8 } where
  one := fun _ _ => inferInstance
  ag := fun h => absurd h (by decide)
  sz := fun _ h => absurd rfl h
  el := fun _ _ _ h => by cases h
  ar := fun _ _ h => by cases h
  fo := fun _ _ h => by cases h
  z := fun _ h => by cases h
  bz := fun _ _ h => by cases h
  bo := fun h => absurd h (by decide)
  st := fun h => absurd h (by decide)
  np := fun h => absurd h (by decide)
  it := fun _ => ⟨_, Try.underlying5⟩
  ik := fun _ h => by cases h; exact Try.underlying5
  nf := fun h => absurd h (by decide)
  ix := fun _ _ _ h => by cases h
  eq := fun _ h => by cases h
theorem tyok9 : TyOk Try.prog 9 { k := 1, z := some [Value.string { data := #[] }], st := true } where
  one := fun _ _ => inferInstance
  ag := fun h => absurd h (by decide)
  sz := fun _ h => absurd rfl h
  el := fun _ _ _ h => by cases h
  ar := fun _ _ h => by cases h
  fo := fun _ _ h => by cases h
  z := fun _ h => by cases h; infer_instance
  bz := fun _ _ h => by cases h
  bo := fun h => absurd h (by decide)
  st := fun _ => inferInstance
  np := fun h => absurd h (by decide)
  it := fun h => absurd h (by decide)
  ik := fun _ h => by cases h
  nf := fun h => absurd h (by decide)
  ix := fun _ _ _ h => by cases h
  eq := fun _ h => by cases h
theorem tyok22 : TyOk Try.prog 22 { k := 1, el := some (63, 4, 40) } where
  one := fun _ _ => inferInstance
  ag := fun h => absurd h (by decide)
  sz := fun _ h => absurd rfl h
  el := fun _ _ _ h => by cases h; infer_instance
  ar := fun _ _ h => by cases h
  fo := fun _ _ h => by cases h
  z := fun _ h => by cases h
  bz := fun _ _ h => by cases h
  bo := fun h => absurd h (by decide)
  st := fun h => absurd h (by decide)
  np := fun h => absurd h (by decide)
  it := fun h => absurd h (by decide)
  ik := fun _ h => by cases h
  nf := fun h => absurd h (by decide)
  ix := fun _ _ _ h => by cases h
  eq := fun _ h => by cases h
theorem tyok23 : TyOk Try.prog 23 { k := 1, el := some (56, 3, 64) } where
  one := fun _ _ => inferInstance
  ag := fun h => absurd h (by decide)
  sz := fun _ h => absurd rfl h
  el := fun _ _ _ h => by cases h; infer_instance
  ar := fun _ _ h => by cases h
  fo := fun _ _ h => by cases h
  z := fun _ h => by cases h
  bz := fun _ _ h => by cases h
  bo := fun h => absurd h (by decide)
  st := fun h => absurd h (by decide)
  np := fun h => absurd h (by decide)
  it := fun h => absurd h (by decide)
  ik := fun _ h => by cases h
  nf := fun h => absurd h (by decide)
  ix := fun _ _ _ h => by cases h
  eq := fun _ h => by cases h
theorem tyok25 : TyOk Try.prog 25 { agg := true, k := 2, fo := [0, 1], z := some [Value.slice none 0 0, Value.slice none 0 0], bz := some ([Value.slice none 0 0, Value.slice none 0 0], [(0, 1), (1, 1)]) } where
  one := fun h => absurd h (by decide)
  ag := fun _ => inferInstance
  sz := fun h => absurd h (by decide)
  el := fun _ _ _ h => by cases h
  ar := fun _ _ h => by cases h
  fo := fun f o h => by
    match f, h with
    | 0, h => cases h; infer_instance
    | 1, h => cases h; infer_instance
    | f + 2, h => cases h
  z := fun _ h => by cases h; infer_instance
  bz := fun _ _ h => by cases h; infer_instance
  bo := fun h => absurd h (by decide)
  st := fun h => absurd h (by decide)
  np := fun h => absurd h (by decide)
  it := fun h => absurd h (by decide)
  ik := fun _ h => by cases h
  nf := fun h => absurd h (by decide)
  ix := fun _ _ _ h => by cases h
  eq := fun _ h => by cases h
theorem tyok26 : TyOk Try.prog 26 { k := 1, el := some (9, 1, 16) } where
  one := fun _ _ => inferInstance
  ag := fun h => absurd h (by decide)
  sz := fun _ h => absurd rfl h
  el := fun _ _ _ h => by cases h; infer_instance
  ar := fun _ _ h => by cases h
  fo := fun _ _ h => by cases h
  z := fun _ h => by cases h
  bz := fun _ _ h => by cases h
  bo := fun h => absurd h (by decide)
  st := fun h => absurd h (by decide)
  np := fun h => absurd h (by decide)
  it := fun h => absurd h (by decide)
  ik := fun _ h => by cases h
  nf := fun h => absurd h (by decide)
  ix := fun _ _ _ h => by cases h
  eq := fun _ h => by cases h
theorem tyok35 : TyOk Try.prog 35 { k := 1, it := true, ik := some .i64 } where
  one := fun _ _ => inferInstance
  ag := fun h => absurd h (by decide)
  sz := fun _ h => absurd rfl h
  el := fun _ _ _ h => by cases h
  ar := fun _ _ h => by cases h
  fo := fun _ _ h => by cases h
  z := fun _ h => by cases h
  bz := fun _ _ h => by cases h
  bo := fun h => absurd h (by decide)
  st := fun h => absurd h (by decide)
  np := fun h => absurd h (by decide)
  it := fun _ => ⟨_, Try.underlying35⟩
  ik := fun _ h => by cases h; exact Try.underlying35
  nf := fun h => absurd h (by decide)
  ix := fun _ _ _ h => by cases h
  eq := fun _ h => by cases h
theorem tyok41 : TyOk Try.prog 41 { k := 1, el := some (70, 5, 64) } where
  one := fun _ _ => inferInstance
  ag := fun h => absurd h (by decide)
  sz := fun _ h => absurd rfl h
  el := fun _ _ _ h => by cases h; infer_instance
  ar := fun _ _ h => by cases h
  fo := fun _ _ h => by cases h
  z := fun _ h => by cases h
  bz := fun _ _ h => by cases h
  bo := fun h => absurd h (by decide)
  st := fun h => absurd h (by decide)
  np := fun h => absurd h (by decide)
  it := fun h => absurd h (by decide)
  ik := fun _ h => by cases h
  nf := fun h => absurd h (by decide)
  ix := fun _ _ _ h => by cases h
  eq := fun _ h => by cases h
theorem tyok49 : TyOk Try.prog 49 { k := 1, el := some (78, 3, 24) } where
  one := fun _ _ => inferInstance
  ag := fun h => absurd h (by decide)
  sz := fun _ h => absurd rfl h
  el := fun _ _ _ h => by cases h; infer_instance
  ar := fun _ _ h => by cases h
  fo := fun _ _ h => by cases h
  z := fun _ h => by cases h
  bz := fun _ _ h => by cases h
  bo := fun h => absurd h (by decide)
  st := fun h => absurd h (by decide)
  np := fun h => absurd h (by decide)
  it := fun h => absurd h (by decide)
  ik := fun _ h => by cases h
  nf := fun h => absurd h (by decide)
  ix := fun _ _ _ h => by cases h
  eq := fun _ h => by cases h
theorem tyok56 : TyOk Try.prog 56 { agg := true, k := 3, fo := [0, 1], z := some [Value.string { data := #[] }, Value.slice none 0 0, Value.slice none 0 0], bz := some ([Value.string { data := #[] }, Value.slice none 0 0, Value.slice none 0 0], [(0, 1), (1, 2)]) } where
  one := fun h => absurd h (by decide)
  ag := fun _ => inferInstance
  sz := fun h => absurd h (by decide)
  el := fun _ _ _ h => by cases h
  ar := fun _ _ h => by cases h
  fo := fun f o h => by
    match f, h with
    | 0, h => cases h; infer_instance
    | 1, h => cases h; infer_instance
    | f + 2, h => cases h
  z := fun _ h => by cases h; infer_instance
  bz := fun _ _ h => by cases h; infer_instance
  bo := fun h => absurd h (by decide)
  st := fun h => absurd h (by decide)
  np := fun h => absurd h (by decide)
  it := fun h => absurd h (by decide)
  ik := fun _ h => by cases h
  nf := fun h => absurd h (by decide)
  ix := fun _ _ _ h => by cases h
  eq := fun _ h => by cases h
theorem tyok61 : TyOk Try.prog 61 { agg := true, k := 2, fo := [0, 1], z := some [Value.int IntKind.i64 0, Value.int IntKind.i64 0], bz := some ([Value.int IntKind.i64 0, Value.int IntKind.i64 0], [(0, 1), (1, 1)]) } where
  one := fun h => absurd h (by decide)
  ag := fun _ => inferInstance
  sz := fun h => absurd h (by decide)
  el := fun _ _ _ h => by cases h
  ar := fun _ _ h => by cases h
  fo := fun f o h => by
    match f, h with
    | 0, h => cases h; infer_instance
    | 1, h => cases h; infer_instance
    | f + 2, h => cases h
  z := fun _ h => by cases h; infer_instance
  bz := fun _ _ h => by cases h; infer_instance
  bo := fun h => absurd h (by decide)
  st := fun h => absurd h (by decide)
  np := fun h => absurd h (by decide)
  it := fun h => absurd h (by decide)
  ik := fun _ h => by cases h
  nf := fun h => absurd h (by decide)
  ix := fun _ _ _ h => by cases h
  eq := fun _ h => by cases h
theorem tyok63 : TyOk Try.prog 63 { agg := true, k := 4, fo := [0, 2, 3], z := some [Value.int IntKind.i64 0, Value.int IntKind.i64 0, Value.string { data := #[] }, Value.int IntKind.i64 0], bz := some ([Value.int IntKind.i64 0, Value.int IntKind.i64 0, Value.string { data := #[] }, Value.int IntKind.i64 0], [(0, 2), (2, 1), (3, 1)]), eq := some [.i .i64, .i .i64, .s, .i .i64] } where
  one := fun h => absurd h (by decide)
  ag := fun _ => inferInstance
  sz := fun h => absurd h (by decide)
  el := fun _ _ _ h => by cases h
  ar := fun _ _ h => by cases h
  fo := fun f o h => by
    match f, h with
    | 0, h => cases h; infer_instance
    | 1, h => cases h; infer_instance
    | 2, h => cases h; infer_instance
    | f + 3, h => cases h
  z := fun _ h => by cases h; infer_instance
  bz := fun _ _ h => by cases h; infer_instance
  bo := fun h => absurd h (by decide)
  st := fun h => absurd h (by decide)
  np := fun h => absurd h (by decide)
  it := fun h => absurd h (by decide)
  ik := fun _ h => by cases h
  nf := fun h => absurd h (by decide)
  ix := fun _ _ _ h => by cases h
  eq := fun _ h => by cases h; infer_instance
theorem tyok70 : TyOk Try.prog 70 { agg := true, k := 5, fo := [0, 1], bz := some ([Value.slice none 0 0, Value.int IntKind.i64 0, Value.int IntKind.i64 0, Value.string { data := #[] }, Value.int IntKind.i64 0], [(0, 1), (1, 4)]) } where
  one := fun h => absurd h (by decide)
  ag := fun _ => inferInstance
  sz := fun h => absurd h (by decide)
  el := fun _ _ _ h => by cases h
  ar := fun _ _ h => by cases h
  fo := fun f o h => by
    match f, h with
    | 0, h => cases h; infer_instance
    | 1, h => cases h; infer_instance
    | f + 2, h => cases h
  z := fun _ h => by cases h
  bz := fun _ _ h => by cases h; infer_instance
  bo := fun h => absurd h (by decide)
  st := fun h => absurd h (by decide)
  np := fun h => absurd h (by decide)
  it := fun h => absurd h (by decide)
  ik := fun _ h => by cases h
  nf := fun h => absurd h (by decide)
  ix := fun _ _ _ h => by cases h
  eq := fun _ h => by cases h
theorem tyok71 : TyOk Try.prog 71 { k := 1, el := some (61, 2, 16) } where
  one := fun _ _ => inferInstance
  ag := fun h => absurd h (by decide)
  sz := fun _ h => absurd rfl h
  el := fun _ _ _ h => by cases h; infer_instance
  ar := fun _ _ h => by cases h
  fo := fun _ _ h => by cases h
  z := fun _ h => by cases h
  bz := fun _ _ h => by cases h
  bo := fun h => absurd h (by decide)
  st := fun h => absurd h (by decide)
  np := fun h => absurd h (by decide)
  it := fun h => absurd h (by decide)
  ik := fun _ h => by cases h
  nf := fun h => absurd h (by decide)
  ix := fun _ _ _ h => by cases h
  eq := fun _ h => by cases h
theorem tyok78 : TyOk Try.prog 78 { agg := true, k := 3, bz := some ([Value.int IntKind.i64 0, Value.int IntKind.i64 0, Value.int IntKind.i64 0], [(0, 1), (1, 1), (2, 1)]), eq := some [.i .i64, .i .i64, .i .i64] } where
  one := fun h => absurd h (by decide)
  ag := fun _ => inferInstance
  sz := fun h => absurd h (by decide)
  el := fun _ _ _ h => by cases h
  ar := fun _ _ h => by cases h
  fo := fun _ _ h => by cases h
  z := fun _ h => by cases h
  bz := fun _ _ h => by cases h; infer_instance
  bo := fun h => absurd h (by decide)
  st := fun h => absurd h (by decide)
  np := fun h => absurd h (by decide)
  it := fun h => absurd h (by decide)
  ik := fun _ h => by cases h
  nf := fun h => absurd h (by decide)
  ix := fun _ _ _ h => by cases h
  eq := fun _ h => by cases h; infer_instance
theorem tyok89 : TyOk Try.prog 89 { k := 1, el := some (2, 1, 8) } where
  one := fun _ _ => inferInstance
  ag := fun h => absurd h (by decide)
  sz := fun _ h => absurd rfl h
  el := fun _ _ _ h => by cases h; infer_instance
  ar := fun _ _ h => by cases h
  fo := fun _ _ h => by cases h
  z := fun _ h => by cases h
  bz := fun _ _ h => by cases h
  bo := fun h => absurd h (by decide)
  st := fun h => absurd h (by decide)
  np := fun h => absurd h (by decide)
  it := fun h => absurd h (by decide)
  ik := fun _ h => by cases h
  nf := fun h => absurd h (by decide)
  ix := fun _ _ _ h => by cases h
  eq := fun _ h => by cases h
theorem tyok90 : TyOk Try.prog 90 { agg := true, k := 4, ar := some (4, 1), z := some [Value.slice none 0 0, Value.slice none 0 0, Value.slice none 0 0, Value.slice none 0 0], ix := some (4, 1, false) } where
  one := fun h => absurd h (by decide)
  ag := fun _ => inferInstance
  sz := fun h => absurd h (by decide)
  el := fun _ _ _ h => by cases h
  ar := fun _ _ h => by cases h; exact ⟨89, inferInstance⟩
  fo := fun _ _ h => by cases h
  z := fun _ h => by cases h; infer_instance
  bz := fun _ _ h => by cases h
  bo := fun h => absurd h (by decide)
  st := fun h => absurd h (by decide)
  np := fun h => absurd h (by decide)
  it := fun h => absurd h (by decide)
  ik := fun _ h => by cases h
  nf := fun h => absurd h (by decide)
  ix := fun _ _ _ h => by cases h; exact ⟨89, Try.underlying90, Try.sizeOf89, Try.isAgg89⟩
  eq := fun _ h => by cases h
theorem tyok92 : TyOk Try.prog 92 { k := 1, el := some (104, 2, 16) } where
  one := fun _ _ => inferInstance
  ag := fun h => absurd h (by decide)
  sz := fun _ h => absurd rfl h
  el := fun _ _ _ h => by cases h; infer_instance
  ar := fun _ _ h => by cases h
  fo := fun _ _ h => by cases h
  z := fun _ h => by cases h
  bz := fun _ _ h => by cases h
  bo := fun h => absurd h (by decide)
  st := fun h => absurd h (by decide)
  np := fun h => absurd h (by decide)
  it := fun h => absurd h (by decide)
  ik := fun _ h => by cases h
  nf := fun h => absurd h (by decide)
  ix := fun _ _ _ h => by cases h
  eq := fun _ h => by cases h
theorem tyok94 : TyOk Try.prog 94 { agg := true, k := 4, ar := some (4, 1), z := some [Value.slice none 0 0, Value.slice none 0 0, Value.slice none 0 0, Value.slice none 0 0], ix := some (4, 1, false) } where
  one := fun h => absurd h (by decide)
  ag := fun _ => inferInstance
  sz := fun h => absurd h (by decide)
  el := fun _ _ _ h => by cases h
  ar := fun _ _ h => by cases h; exact ⟨92, inferInstance⟩
  fo := fun _ _ h => by cases h
  z := fun _ h => by cases h; infer_instance
  bz := fun _ _ h => by cases h
  bo := fun h => absurd h (by decide)
  st := fun h => absurd h (by decide)
  np := fun h => absurd h (by decide)
  it := fun h => absurd h (by decide)
  ik := fun _ h => by cases h
  nf := fun h => absurd h (by decide)
  ix := fun _ _ _ h => by cases h; exact ⟨92, Try.underlying94, Try.sizeOf92, Try.isAgg92⟩
  eq := fun _ h => by cases h
theorem tyok99 : TyOk Try.prog 99 { k := 1, el := some (103, 2, 16) } where
  one := fun _ _ => inferInstance
  ag := fun h => absurd h (by decide)
  sz := fun _ h => absurd rfl h
  el := fun _ _ _ h => by cases h; infer_instance
  ar := fun _ _ h => by cases h
  fo := fun _ _ h => by cases h
  z := fun _ h => by cases h
  bz := fun _ _ h => by cases h
  bo := fun h => absurd h (by decide)
  st := fun h => absurd h (by decide)
  np := fun h => absurd h (by decide)
  it := fun h => absurd h (by decide)
  ik := fun _ h => by cases h
  nf := fun h => absurd h (by decide)
  ix := fun _ _ _ h => by cases h
  eq := fun _ h => by cases h
theorem tyok103 : TyOk Try.prog 103 { agg := true, k := 2, ar := some (2, 1), bz := some ([Value.int IntKind.i64 0, Value.int IntKind.i64 0], [(0, 1), (1, 1)]) } where
  one := fun h => absurd h (by decide)
  ag := fun _ => inferInstance
  sz := fun h => absurd h (by decide)
  el := fun _ _ _ h => by cases h
  ar := fun _ _ h => by cases h; exact ⟨2, inferInstance⟩
  fo := fun _ _ h => by cases h
  z := fun _ h => by cases h
  bz := fun _ _ h => by cases h; infer_instance
  bo := fun h => absurd h (by decide)
  st := fun h => absurd h (by decide)
  np := fun h => absurd h (by decide)
  it := fun h => absurd h (by decide)
  ik := fun _ h => by cases h
  nf := fun h => absurd h (by decide)
  ix := fun _ _ _ h => by cases h
  eq := fun _ h => by cases h
theorem tyok104 : TyOk Try.prog 104 { agg := true, k := 2, ar := some (2, 1), z := some [Value.int IntKind.i64 0, Value.int IntKind.i64 0], bz := some ([Value.int IntKind.i64 0, Value.int IntKind.i64 0], [(0, 1), (1, 1)]) } where
  one := fun h => absurd h (by decide)
  ag := fun _ => inferInstance
  sz := fun h => absurd h (by decide)
  el := fun _ _ _ h => by cases h
  ar := fun _ _ h => by cases h; exact ⟨2, inferInstance⟩
  fo := fun _ _ h => by cases h
  z := fun _ h => by cases h; infer_instance
  bz := fun _ _ h => by cases h; infer_instance
  bo := fun h => absurd h (by decide)
  st := fun h => absurd h (by decide)
  np := fun h => absurd h (by decide)
  it := fun h => absurd h (by decide)
  ik := fun _ h => by cases h
  nf := fun h => absurd h (by decide)
  ix := fun _ _ _ h => by cases h
  eq := fun _ h => by cases h
theorem tyok115 : TyOk Try.prog 115 { k := 1, it := true, ik := some .u64 } where
  one := fun _ _ => inferInstance
  ag := fun h => absurd h (by decide)
  sz := fun _ h => absurd rfl h
  el := fun _ _ _ h => by cases h
  ar := fun _ _ h => by cases h
  fo := fun _ _ h => by cases h
  z := fun _ h => by cases h
  bz := fun _ _ h => by cases h
  bo := fun h => absurd h (by decide)
  st := fun h => absurd h (by decide)
  np := fun h => absurd h (by decide)
  it := fun _ => ⟨_, Try.underlying115⟩
  ik := fun _ h => by cases h; exact Try.underlying115
  nf := fun h => absurd h (by decide)
  ix := fun _ _ _ h => by cases h
  eq := fun _ h => by cases h
theorem tyok116 : TyOk Try.prog 116 { k := 1, el := some (3, 1, 8) } where
  one := fun _ _ => inferInstance
  ag := fun h => absurd h (by decide)
  sz := fun _ h => absurd rfl h
  el := fun _ _ _ h => by cases h; infer_instance
  ar := fun _ _ h => by cases h
  fo := fun _ _ h => by cases h
  z := fun _ h => by cases h
  bz := fun _ _ h => by cases h
  bo := fun h => absurd h (by decide)
  st := fun h => absurd h (by decide)
  np := fun h => absurd h (by decide)
  it := fun h => absurd h (by decide)
  ik := fun _ h => by cases h
  nf := fun h => absurd h (by decide)
  ix := fun _ _ _ h => by cases h
  eq := fun _ h => by cases h
theorem tyok119 : TyOk Try.prog 119 { k := 1, it := true, ik := some .i64 } where
  one := fun _ _ => inferInstance
  ag := fun h => absurd h (by decide)
  sz := fun _ h => absurd rfl h
  el := fun _ _ _ h => by cases h
  ar := fun _ _ h => by cases h
  fo := fun _ _ h => by cases h
  z := fun _ h => by cases h
  bz := fun _ _ h => by cases h
  bo := fun h => absurd h (by decide)
  st := fun h => absurd h (by decide)
  np := fun h => absurd h (by decide)
  it := fun _ => ⟨_, Try.underlying119⟩
  ik := fun _ h => by cases h; exact Try.underlying119
  nf := fun h => absurd h (by decide)
  ix := fun _ _ _ h => by cases h
  eq := fun _ h => by cases h
theorem tyok127 : TyOk Try.prog 127 { k := 1, it := true, ik := some .u32 } where
  one := fun _ _ => inferInstance
  ag := fun h => absurd h (by decide)
  sz := fun _ h => absurd rfl h
  el := fun _ _ _ h => by cases h
  ar := fun _ _ h => by cases h
  fo := fun _ _ h => by cases h
  z := fun _ h => by cases h
  bz := fun _ _ h => by cases h
  bo := fun h => absurd h (by decide)
  st := fun h => absurd h (by decide)
  np := fun h => absurd h (by decide)
  it := fun _ => ⟨_, Try.underlying127⟩
  ik := fun _ h => by cases h; exact Try.underlying127
  nf := fun h => absurd h (by decide)
  ix := fun _ _ _ h => by cases h
  eq := fun _ h => by cases h
theorem tyok129 : TyOk Try.prog 129 { k := 1, it := true, ik := some .u64 } where
  one := fun _ _ => inferInstance
  ag := fun h => absurd h (by decide)
  sz := fun _ h => absurd rfl h
  el := fun _ _ _ h => by cases h
  ar := fun _ _ h => by cases h
  fo := fun _ _ h => by cases h
  z := fun _ h => by cases h
  bz := fun _ _ h => by cases h
  bo := fun h => absurd h (by decide)
  st := fun h => absurd h (by decide)
  np := fun h => absurd h (by decide)
  it := fun _ => ⟨_, Try.underlying129⟩
  ik := fun _ h => by cases h; exact Try.underlying129
  nf := fun h => absurd h (by decide)
  ix := fun _ _ _ h => by cases h
  eq := fun _ h => by cases h
theorem tyok130 : TyOk Try.prog 130 { k := 1, z := some [Value.int IntKind.u64 0], it := true, ik := some .u64 } where
  one := fun _ _ => inferInstance
  ag := fun h => absurd h (by decide)
  sz := fun _ h => absurd rfl h
  el := fun _ _ _ h => by cases h
  ar := fun _ _ h => by cases h
  fo := fun _ _ h => by cases h
  z := fun _ h => by cases h; infer_instance
  bz := fun _ _ h => by cases h
  bo := fun h => absurd h (by decide)
  st := fun h => absurd h (by decide)
  np := fun h => absurd h (by decide)
  it := fun _ => ⟨_, Try.underlying130⟩
  ik := fun _ h => by cases h; exact Try.underlying130
  nf := fun h => absurd h (by decide)
  ix := fun _ _ _ h => by cases h
  eq := fun _ h => by cases h
noncomputable def tab : List (Nat × TyI) := [
  (2, { k := 1, it := true, ik := some .i64 }),
  (3, { k := 1, z := some [Value.int IntKind.i64 0], it := true, ik := some .i64 }),
  (4, { k := 1, bo := true }),
  (5, { k := 1, it := true, ik := some .u8 }),
  (9, { k := 1, z := some [Value.string { data := #[] }], st := true }),
  (22, { k := 1, el := some (63, 4, 40) }),
  (23, { k := 1, el := some (56, 3, 64) }),
  (25, { agg := true, k := 2, fo := [0, 1], z := some [Value.slice none 0 0, Value.slice none 0 0], bz := some ([Value.slice none 0 0, Value.slice none 0 0], [(0, 1), (1, 1)]) }),
  (26, { k := 1, el := some (9, 1, 16) }),
  (35, { k := 1, it := true, ik := some .i64 }),
  (41, { k := 1, el := some (70, 5, 64) }),
  (49, { k := 1, el := some (78, 3, 24) }),
  (56, { agg := true, k := 3, fo := [0, 1], z := some [Value.string { data := #[] }, Value.slice none 0 0, Value.slice none 0 0], bz := some ([Value.string { data := #[] }, Value.slice none 0 0, Value.slice none 0 0], [(0, 1), (1, 2)]) }),
  (61, { agg := true, k := 2, fo := [0, 1], z := some [Value.int IntKind.i64 0, Value.int IntKind.i64 0], bz := some ([Value.int IntKind.i64 0, Value.int IntKind.i64 0], [(0, 1), (1, 1)]) }),
  (63, { agg := true, k := 4, fo := [0, 2, 3], z := some [Value.int IntKind.i64 0, Value.int IntKind.i64 0, Value.string { data := #[] }, Value.int IntKind.i64 0], bz := some ([Value.int IntKind.i64 0, Value.int IntKind.i64 0, Value.string { data := #[] }, Value.int IntKind.i64 0], [(0, 2), (2, 1), (3, 1)]), eq := some [.i .i64, .i .i64, .s, .i .i64] }),
  (70, { agg := true, k := 5, fo := [0, 1], bz := some ([Value.slice none 0 0, Value.int IntKind.i64 0, Value.int IntKind.i64 0, Value.string { data := #[] }, Value.int IntKind.i64 0], [(0, 1), (1, 4)]) }),
  (71, { k := 1, el := some (61, 2, 16) }),
  (78, { agg := true, k := 3, bz := some ([Value.int IntKind.i64 0, Value.int IntKind.i64 0, Value.int IntKind.i64 0], [(0, 1), (1, 1), (2, 1)]), eq := some [.i .i64, .i .i64, .i .i64] }),
  (89, { k := 1, el := some (2, 1, 8) }),
  (90, { agg := true, k := 4, ar := some (4, 1), z := some [Value.slice none 0 0, Value.slice none 0 0, Value.slice none 0 0, Value.slice none 0 0], ix := some (4, 1, false) }),
  (92, { k := 1, el := some (104, 2, 16) }),
  (94, { agg := true, k := 4, ar := some (4, 1), z := some [Value.slice none 0 0, Value.slice none 0 0, Value.slice none 0 0, Value.slice none 0 0], ix := some (4, 1, false) }),
  (99, { k := 1, el := some (103, 2, 16) }),
  (103, { agg := true, k := 2, ar := some (2, 1), bz := some ([Value.int IntKind.i64 0, Value.int IntKind.i64 0], [(0, 1), (1, 1)]) }),
  (104, { agg := true, k := 2, ar := some (2, 1), z := some [Value.int IntKind.i64 0, Value.int IntKind.i64 0], bz := some ([Value.int IntKind.i64 0, Value.int IntKind.i64 0], [(0, 1), (1, 1)]) }),
  (115, { k := 1, it := true, ik := some .u64 }),
  (116, { k := 1, el := some (3, 1, 8) }),
  (119, { k := 1, it := true, ik := some .i64 }),
  (127, { k := 1, it := true, ik := some .u32 }),
  (129, { k := 1, it := true, ik := some .u64 }),
  (130, { k := 1, z := some [Value.int IntKind.u64 0], it := true, ik := some .u64 })]
theorem tab_ok : TabOk Try.prog tab := ⟨tyok2, tyok3, tyok4, tyok5, tyok9, tyok22, tyok23, tyok25, tyok26, tyok35, tyok41, tyok49, tyok56, tyok61, tyok63, tyok70, tyok71, tyok78, tyok89, tyok90, tyok92, tyok94, tyok99, tyok103, tyok104, tyok115, tyok116, tyok119, tyok127, tyok129, tyok130, trivial⟩
noncomputable abbrev ty : Nat → TyI := tyAt tab
theorem ty_ok : ∀ T, TyOk Try.prog T (ty T) := tab_ok.at_

end Go.Proofs.Ytailblpjmgabjaa
