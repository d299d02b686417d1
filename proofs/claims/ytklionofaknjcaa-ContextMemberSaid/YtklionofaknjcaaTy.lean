/- What is proved: facts of the program's types, in the form that the calculus asks. Conditions: none. -/
import Derived.Test.YtklionofaknjcaaAx
import Derived.ChangeKeysEq
namespace Go.Proofs.Ytklionofaknjcaa
open Go.RowKit

instance one2 : One Try.prog 2 := ⟨Try.isAgg2, Try.sizeOf2⟩
instance one3 : One Try.prog 3 := ⟨Try.isAgg3, Try.sizeOf3⟩
instance ze3 : Ze Try.prog 3 [Value.int IntKind.i64 0] := ⟨_, Try.zeroValue3, rfl⟩
instance one4 : One Try.prog 4 := ⟨Try.isAgg4, Try.sizeOf4⟩
instance bl4 : BlT Try.prog 4 := ⟨Try.underlying4⟩
instance one9 : One Try.prog 9 := ⟨Try.isAgg9, Try.sizeOf9⟩
instance one22 : One Try.prog 22 := ⟨Try.isAgg22, Try.sizeOf22⟩
instance sl22 : SlT Try.prog 22 31 2 16 := ⟨Try.underlying22, ⟨Try.t31, _, by kernel_rfl, rfl, rfl, rfl, rfl⟩, by decide⟩
instance one25 : One Try.prog 25 := ⟨Try.isAgg25, Try.sizeOf25⟩
instance sl25 : SlT Try.prog 25 37 3 24 := ⟨Try.underlying25, ⟨Try.t37, _, by kernel_rfl, rfl, rfl, rfl, rfl⟩, by decide⟩
instance one26 : One Try.prog 26 := ⟨Try.isAgg26, Try.sizeOf26⟩
instance ag31 : Ag Try.prog 31 2 := ⟨Try.isAgg31, Try.sizeOf31⟩
instance bd31 : BdT Try.prog 31 [Value.int IntKind.i64 0, Value.int IntKind.i64 0] [(0, 1), (1, 1)] := bd_struct Try.zeroValue31 rfl Try.underlying31 (fun w => by simp [Try.sizeOf2, Try.sizeOf3])
instance ze31 : Ze Try.prog 31 [Value.int IntKind.i64 0, Value.int IntKind.i64 0] := ⟨_, Try.zeroValue31, rfl⟩
instance fld31_0 : Fld Try.prog 31 0 0 := ⟨fun A w => by simp [Instr.fieldAt, Try.runUnderlying31, Instr.sureAddr, fieldPlace, Try.sizeOf3]⟩
instance fld31_1 : Fld Try.prog 31 1 1 := ⟨fun A w => by simp [Instr.fieldAt, Try.runUnderlying31, Instr.sureAddr, fieldPlace, Try.sizeOf2]⟩
instance ag37 : Ag Try.prog 37 3 := ⟨Try.isAgg37, Try.sizeOf37⟩
instance bd37 : BdT Try.prog 37 [Value.int IntKind.i64 0, Value.int IntKind.i64 0, Value.int IntKind.i64 0] [(0, 1), (1, 1), (2, 1)] := bd_struct Try.zeroValue37 rfl Try.underlying37 (fun w => by simp [Try.sizeOf2, Try.sizeOf3])
instance ze37 : Ze Try.prog 37 [Value.int IntKind.i64 0, Value.int IntKind.i64 0, Value.int IntKind.i64 0] := ⟨_, Try.zeroValue37, rfl⟩
instance fld37_0 : Fld Try.prog 37 0 0 := ⟨fun A w => by simp [Instr.fieldAt, Try.runUnderlying37, Instr.sureAddr, fieldPlace, Try.sizeOf3]⟩
instance fld37_1 : Fld Try.prog 37 1 1 := ⟨fun A w => by simp [Instr.fieldAt, Try.runUnderlying37, Instr.sureAddr, fieldPlace, Try.sizeOf2]⟩
instance fld37_2 : Fld Try.prog 37 2 2 := ⟨fun A w => by simp [Instr.fieldAt, Try.runUnderlying37, Instr.sureAddr, fieldPlace, Try.sizeOf2]⟩
instance ag42 : Ag Try.prog 42 4 := ⟨Try.isAgg42, Try.sizeOf42⟩
instance bd42 : BdT Try.prog 42 [Value.int IntKind.i64 0, Value.int IntKind.i64 0, Value.int IntKind.i64 0, Value.int IntKind.i64 0] [(0, 1), (1, 1), (2, 1), (3, 1)] := bd_array Try.zeroValue42 rfl Try.underlying42 Try.sizeOf2 (fun i x hx => by
  match i, hx with
  | 0, hx => simpa using hx
  | 1, hx => simpa using hx
  | 2, hx => simpa using hx
  | 3, hx => simpa using hx
  | i + 4, hx => simp at hx)
instance ze42 : Ze Try.prog 42 [Value.int IntKind.i64 0, Value.int IntKind.i64 0, Value.int IntKind.i64 0, Value.int IntKind.i64 0] := ⟨_, Try.zeroValue42, rfl⟩
instance ar42 : ArT Try.prog 42 4 2 1 := ⟨Try.underlying42, Try.sizeOf2, by decide⟩
instance one49 : One Try.prog 49 := ⟨Try.isAgg49, Try.sizeOf49⟩
instance sl49 : SlT Try.prog 49 73 2 16 := ⟨Try.underlying49, ⟨Try.t73, _, by kernel_rfl, rfl, rfl, rfl, rfl⟩, by decide⟩
instance one58 : One Try.prog 58 := ⟨Try.isAgg58, Try.sizeOf58⟩
instance sl58 : SlT Try.prog 58 2 1 8 := ⟨Try.underlying58, ⟨Try.t2, _, by kernel_rfl, rfl, rfl, rfl, rfl⟩, by decide⟩
instance ag59 : Ag Try.prog 59 4 := ⟨Try.isAgg59, Try.sizeOf59⟩
instance ze59 : Ze Try.prog 59 [Value.slice none 0 0, Value.slice none 0 0, Value.slice none 0 0, Value.slice none 0 0] := ⟨_, Try.zeroValue59, rfl⟩
instance ar59 : ArT Try.prog 59 4 58 1 := ⟨Try.underlying59, Try.sizeOf58, by decide⟩
instance one60 : One Try.prog 60 := ⟨Try.isAgg60, Try.sizeOf60⟩
instance sl60 : SlT Try.prog 60 74 2 16 := ⟨Try.underlying60, ⟨Try.t74, _, by kernel_rfl, rfl, rfl, rfl, rfl⟩, by decide⟩
instance ag62 : Ag Try.prog 62 4 := ⟨Try.isAgg62, Try.sizeOf62⟩
instance bd62 : BdT Try.prog 62 [Value.slice none 0 0, Value.slice none 0 0, Value.slice none 0 0, Value.slice none 0 0] [(0, 1), (1, 1), (2, 1), (3, 1)] := bd_array Try.zeroValue62 rfl Try.underlying62 Try.sizeOf60 (fun i x hx => by
  match i, hx with
  | 0, hx => simpa using hx
  | 1, hx => simpa using hx
  | 2, hx => simpa using hx
  | 3, hx => simpa using hx
  | i + 4, hx => simp at hx)
instance ze62 : Ze Try.prog 62 [Value.slice none 0 0, Value.slice none 0 0, Value.slice none 0 0, Value.slice none 0 0] := ⟨_, Try.zeroValue62, rfl⟩
instance ar62 : ArT Try.prog 62 4 60 1 := ⟨Try.underlying62, Try.sizeOf60, by decide⟩
instance ag73 : Ag Try.prog 73 2 := ⟨Try.isAgg73, Try.sizeOf73⟩
instance bd73 : BdT Try.prog 73 [Value.int IntKind.i64 0, Value.int IntKind.i64 0] [(0, 1), (1, 1)] := bd_array Try.zeroValue73 rfl Try.underlying73 Try.sizeOf2 (fun i x hx => by
  match i, hx with
  | 0, hx => simpa using hx
  | 1, hx => simpa using hx
  | i + 2, hx => simp at hx)
instance ar73 : ArT Try.prog 73 2 2 1 := ⟨Try.underlying73, Try.sizeOf2, by decide⟩
instance ag74 : Ag Try.prog 74 2 := ⟨Try.isAgg74, Try.sizeOf74⟩
instance bd74 : BdT Try.prog 74 [Value.int IntKind.i64 0, Value.int IntKind.i64 0] [(0, 1), (1, 1)] := bd_array Try.zeroValue74 rfl Try.underlying74 Try.sizeOf2 (fun i x hx => by
  match i, hx with
  | 0, hx => simpa using hx
  | 1, hx => simpa using hx
  | i + 2, hx => simp at hx)
instance ze74 : Ze Try.prog 74 [Value.int IntKind.i64 0, Value.int IntKind.i64 0] := ⟨_, Try.zeroValue74, rfl⟩
instance ar74 : ArT Try.prog 74 2 2 1 := ⟨Try.underlying74, Try.sizeOf2, by decide⟩
instance one78 : One Try.prog 78 := ⟨Try.isAgg78, Try.sizeOf78⟩
instance sl78 : SlT Try.prog 78 25 1 24 := ⟨Try.underlying78, ⟨Try.t25, _, by kernel_rfl, rfl, rfl, rfl, rfl⟩, by decide⟩
instance one97 : One Try.prog 97 := ⟨Try.isAgg97, Try.sizeOf97⟩
instance sl97 : SlT Try.prog 97 60 1 24 := ⟨Try.underlying97, ⟨Try.t60, _, by kernel_rfl, rfl, rfl, rfl, rfl⟩, by decide⟩
instance one100 : One Try.prog 100 := ⟨Try.isAgg100, Try.sizeOf100⟩
instance one111 : One Try.prog 111 := ⟨Try.isAgg111, Try.sizeOf111⟩
instance ze111 : Ze Try.prog 111 [Value.int IntKind.u64 0] := ⟨_, Try.zeroValue111, rfl⟩
instance eq37 : EqT Try.prog 37 [.i .i64, .i .i64, .i .i64] := ⟨fun us vs b w hq => by
  obtain ⟨u0, v0, us0, vs0, c0, r0, rfl, rfl, he0, hq0, rfl⟩ := eqS_cons hq
  obtain ⟨a0, b0, rfl, rfl, rfl⟩ := eqC_i he0
  obtain ⟨u1, v1, us1, vs1, c1, r1, rfl, rfl, he1, hq1, rfl⟩ := eqS_cons hq0
  obtain ⟨a1, b1, rfl, rfl, rfl⟩ := eqC_i he1
  obtain ⟨u2, v2, us2, vs2, c2, r2, rfl, rfl, he2, hq2, rfl⟩ := eqS_cons hq1
  obtain ⟨a2, b2, rfl, rfl, rfl⟩ := eqC_i he2
  obtain ⟨rfl, rfl, rfl⟩ := eqS_nil hq2
  have hu2 := Try.underlying2
  have hz2 := Try.sizeOf2
  have ha2 := Try.isAgg2
  have hu3 := Try.underlying3
  have hz3 := Try.sizeOf3
  have ha3 := Try.isAgg3
  have hs37 : Try.prog.underlying 37 = some (.struct (Try.prog.fieldsOf 37)) := by kernel_rfl
  have hp37 : Try.prog.stoodInHeld 37 = false := by kernel_rfl
  have hz37 := Try.sizeOf37
  have ha37 := Try.isAgg37
  rw [run_equalIn_agg w 9999 37 _ _ hs37 hp37]
  simp only [Program.fieldsOf, Try.underlying37]
  go_simp
  all_goals by_cases h0 : a0 = b0
  all_goals by_cases h1 : a1 = b1
  all_goals by_cases h2 : a2 = b2
  all_goals simp [h0, h1, h2]
  , by kernel_rfl⟩
instance eq42 : EqT Try.prog 42 [.i .i64, .i .i64, .i .i64, .i .i64] := ⟨fun us vs b w hq => by
  obtain ⟨u0, v0, us0, vs0, c0, r0, rfl, rfl, he0, hq0, rfl⟩ := eqS_cons hq
  obtain ⟨a0, b0, rfl, rfl, rfl⟩ := eqC_i he0
  obtain ⟨u1, v1, us1, vs1, c1, r1, rfl, rfl, he1, hq1, rfl⟩ := eqS_cons hq0
  obtain ⟨a1, b1, rfl, rfl, rfl⟩ := eqC_i he1
  obtain ⟨u2, v2, us2, vs2, c2, r2, rfl, rfl, he2, hq2, rfl⟩ := eqS_cons hq1
  obtain ⟨a2, b2, rfl, rfl, rfl⟩ := eqC_i he2
  obtain ⟨u3, v3, us3, vs3, c3, r3, rfl, rfl, he3, hq3, rfl⟩ := eqS_cons hq2
  obtain ⟨a3, b3, rfl, rfl, rfl⟩ := eqC_i he3
  obtain ⟨rfl, rfl, rfl⟩ := eqS_nil hq3
  have hu2 := Try.underlying2
  have hz2 := Try.sizeOf2
  have ha2 := Try.isAgg2
  have hz42 := Try.sizeOf42
  have ha42 := Try.isAgg42
  have hc9 : Try.prog.cellsOf 2 = 1 := by kernel_rfl
  rw [run_equalIn_array (w := w) 9999 _ _ Try.underlying42 (i := Try.t2) (by kernel_rfl), hc9]
  simp only [show List.range 4 = [0, 1, 2, 3] from rfl]
  simp [Op.eqItems, part, hz2]
  go_simp
  all_goals by_cases h0 : a0 = b0
  all_goals by_cases h1 : a1 = b1
  all_goals by_cases h2 : a2 = b2
  all_goals by_cases h3 : a3 = b3
  all_goals simp [h0, h1, h2, h3]
  , by kernel_rfl⟩
theorem tyok2 : TyOk Try.prog 2 { k := 1, it := true } where
  one := fun _ _ => inferInstance
  ag := fun h => absurd h (by decide)
  sz := fun _ h => absurd rfl h
  el := fun _ _ _ h => by cases h
  ar := fun _ _ h => by cases h
  fo := fun _ _ h => by cases h
  z := fun _ h => by cases h
  bz := fun _ _ h => by cases h
  bo := fun h => absurd h (by decide)
  st := fun h => absurd h (by decide)
  np := fun h => absurd h (by decide)
  it := fun _ => ⟨_, Try.underlying2⟩
  nf := fun h => absurd h (by decide)
  ix := fun _ _ _ h => by cases h
  eq := fun _ h => by cases h
theorem tyok3 : TyOk Try.prog 3 { k := 1, z := some [Value.int IntKind.i64 0], it := true } where
  one := fun _ _ => inferInstance
  ag := fun h => absurd h (by decide)
  sz := fun _ h => absurd rfl h
  el := fun _ _ _ h => by cases h
  ar := fun _ _ h => by cases h
  fo := fun _ _ h => by cases h
  z := fun _ h => by cases h; infer_instance
  bz := fun _ _ h => by cases h
  bo := fun h => absurd h (by decide)
  st := fun h => absurd h (by decide)
  np := fun h => absurd h (by decide)
  it := fun _ => ⟨_, Try.underlying3⟩
  nf := fun h => absurd h (by decide)
  ix := fun _ _ _ h => by cases h
  eq := fun _ h => by cases h
theorem tyok4 : TyOk Try.prog 4 { k := 1, bo := true } where
  one := fun _ _ => inferInstance
  ag := fun h => absurd h (by decide)
  sz := fun _ h => absurd rfl h
  el := fun _ _ _ h => by cases h
  ar := fun _ _ h => by cases h
  fo := fun _ _ h => by cases h
  z := fun _ h => by cases h
  bz := fun _ _ h => by cases h
  bo := fun _ => inferInstance
  st := fun h => absurd h (by decide)
  np := fun h => absurd h (by decide)
  it := fun h => absurd h (by decide)
  nf := fun h => absurd h (by decide)
  ix := fun _ _ _ h => by cases h
  eq := fun _ h => by cases h
theorem tyok9 : TyOk Try.prog 9 { k := 1 } where
  one := fun _ _ => inferInstance
  ag := fun h => absurd h (by decide)
  sz := fun _ h => absurd rfl h
  el := fun _ _ _ h => by cases h
  ar := fun _ _ h => by cases h
  fo := fun _ _ h => by cases h
  z := fun _ h => by cases h
  bz := fun _ _ h => by cases h
  bo := fun h => absurd h (by decide)
  st := fun h => absurd h (by decide)
  np := fun h => absurd h (by decide)
  it := fun h => absurd h (by decide)
  nf := fun h => absurd h (by decide)
  ix := fun _ _ _ h => by cases h
  eq := fun _ h => by cases h
theorem tyok22 : TyOk Try.prog 22 { k := 1, el := some (31, 2, 16) } where
  one := fun _ _ => inferInstance
  ag := fun h => absurd h (by decide)
  sz := fun _ h => absurd rfl h
  el := fun _ _ _ h => by cases h; infer_instance
  ar := fun _ _ h => by cases h
  fo := fun _ _ h => by cases h
  z := fun _ h => by cases h
  bz := fun _ _ h => by cases h
  bo := fun h => absurd h (by decide)
  st := fun h => absurd h (by decide)
  np := fun h => absurd h (by decide)
  it := fun h => absurd h (by decide)
  nf := fun h => absurd h (by decide)
  ix := fun _ _ _ h => by cases h
  eq := fun _ h => by cases h
theorem tyok25 : TyOk Try.prog 25 { k := 1, el := some (37, 3, 24) } where
  one := fun _ _ => inferInstance
  ag := fun h => absurd h (by decide)
  sz := fun _ h => absurd rfl h
  el := fun _ _ _ h => by cases h; infer_instance
  ar := fun _ _ h => by cases h
  fo := fun _ _ h => by cases h
  z := fun _ h => by cases h
  bz := fun _ _ h => by cases h
  bo := fun h => absurd h (by decide)
  st := fun h => absurd h (by decide)
  np := fun h => absurd h (by decide)
  it := fun h => absurd h (by decide)
  nf := fun h => absurd h (by decide)
  ix := fun _ _ _ h => by cases h
  eq := fun _ h => by cases h
theorem tyok26 : TyOk Try.prog 26 { k := 1, it := true } where
  one := fun _ _ => inferInstance
  ag := fun h => absurd h (by decide)
  sz := fun _ h => absurd rfl h
  el := fun _ _ _ h => by cases h
  ar := fun _ _ h => by cases h
  fo := fun _ _ h => by cases h
  z := fun _ h => by cases h
  bz := fun _ _ h => by cases h
  bo := fun h => absurd h (by decide)
  st := fun h => absurd h (by decide)
  np := fun h => absurd h (by decide)
  it := fun _ => ⟨_, Try.underlying26⟩
  nf := fun h => absurd h (by decide)
  ix := fun _ _ _ h => by cases h
  eq := fun _ h => by cases h
theorem tyok31 : TyOk Try.prog 31 { agg := true, k := 2, fo := [0, 1], z := some [Value.int IntKind.i64 0, Value.int IntKind.i64 0], bz := some ([Value.int IntKind.i64 0, Value.int IntKind.i64 0], [(0, 1), (1, 1)]) } where
  one := fun h => absurd h (by decide)
  ag := fun _ => inferInstance
  sz := fun h => absurd h (by decide)
  el := fun _ _ _ h => by cases h
  ar := fun _ _ h => by cases h
  fo := fun f o h => by
    match f, h with
    | 0, h => cases h; infer_instance
    | 1, h => cases h; infer_instance
    | f + 2, h => cases h
  z := fun _ h => by cases h; infer_instance
  bz := fun _ _ h => by cases h; infer_instance
  bo := fun h => absurd h (by decide)
  st := fun h => absurd h (by decide)
  np := fun h => absurd h (by decide)
  it := fun h => absurd h (by decide)
  nf := fun h => absurd h (by decide)
  ix := fun _ _ _ h => by cases h
  eq := fun _ h => by cases h
theorem tyok37 : TyOk Try.prog 37 { agg := true, k := 3, fo := [0, 1, 2], z := some [Value.int IntKind.i64 0, Value.int IntKind.i64 0, Value.int IntKind.i64 0], bz := some ([Value.int IntKind.i64 0, Value.int IntKind.i64 0, Value.int IntKind.i64 0], [(0, 1), (1, 1), (2, 1)]), eq := some [.i .i64, .i .i64, .i .i64] } where
  one := fun h => absurd h (by decide)
  ag := fun _ => inferInstance
  sz := fun h => absurd h (by decide)
  el := fun _ _ _ h => by cases h
  ar := fun _ _ h => by cases h
  fo := fun f o h => by
    match f, h with
    | 0, h => cases h; infer_instance
    | 1, h => cases h; infer_instance
    | 2, h => cases h; infer_instance
    | f + 3, h => cases h
  z := fun _ h => by cases h; infer_instance
  bz := fun _ _ h => by cases h; infer_instance
  bo := fun h => absurd h (by decide)
  st := fun h => absurd h (by decide)
  np := fun h => absurd h (by decide)
  it := fun h => absurd h (by decide)
  nf := fun h => absurd h (by decide)
  ix := fun _ _ _ h => by cases h
  eq := fun _ h => by cases h; infer_instance
theorem tyok42 : TyOk Try.prog 42 { agg := true, k := 4, ar := some (4, 1), z := some [Value.int IntKind.i64 0, Value.int IntKind.i64 0, Value.int IntKind.i64 0, Value.int IntKind.i64 0], bz := some ([Value.int IntKind.i64 0, Value.int IntKind.i64 0, Value.int IntKind.i64 0, Value.int IntKind.i64 0], [(0, 1), (1, 1), (2, 1), (3, 1)]), eq := some [.i .i64, .i .i64, .i .i64, .i .i64], ix := some (4, 1, false) } where
  one := fun h => absurd h (by decide)
  ag := fun _ => inferInstance
  sz := fun h => absurd h (by decide)
  el := fun _ _ _ h => by cases h
  ar := fun _ _ h => by cases h; exact ⟨2, inferInstance⟩
  fo := fun _ _ h => by cases h
  z := fun _ h => by cases h; infer_instance
  bz := fun _ _ h => by cases h; infer_instance
  bo := fun h => absurd h (by decide)
  st := fun h => absurd h (by decide)
  np := fun h => absurd h (by decide)
  it := fun h => absurd h (by decide)
  nf := fun h => absurd h (by decide)
  ix := fun _ _ _ h => by cases h; exact ⟨2, Try.underlying42, Try.sizeOf2, Try.isAgg2⟩
  eq := fun _ h => by cases h; infer_instance
theorem tyok49 : TyOk Try.prog 49 { k := 1, el := some (73, 2, 16) } where
  one := fun _ _ => inferInstance
  ag := fun h => absurd h (by decide)
  sz := fun _ h => absurd rfl h
  el := fun _ _ _ h => by cases h; infer_instance
  ar := fun _ _ h => by cases h
  fo := fun _ _ h => by cases h
  z := fun _ h => by cases h
  bz := fun _ _ h => by cases h
  bo := fun h => absurd h (by decide)
  st := fun h => absurd h (by decide)
  np := fun h => absurd h (by decide)
  it := fun h => absurd h (by decide)
  nf := fun h => absurd h (by decide)
  ix := fun _ _ _ h => by cases h
  eq := fun _ h => by cases h
theorem tyok58 : TyOk Try.prog 58 { k := 1, el := some (2, 1, 8) } where
  one := fun _ _ => inferInstance
  ag := fun h => absurd h (by decide)
  sz := fun _ h => absurd rfl h
  el := fun _ _ _ h => by cases h; infer_instance
  ar := fun _ _ h => by cases h
  fo := fun _ _ h => by cases h
  z := fun _ h => by cases h
  bz := fun _ _ h => by cases h
  bo := fun h => absurd h (by decide)
  st := fun h => absurd h (by decide)
  np := fun h => absurd h (by decide)
  it := fun h => absurd h (by decide)
  nf := fun h => absurd h (by decide)
  ix := fun _ _ _ h => by cases h
  eq := fun _ h => by cases h
theorem tyok59 : TyOk Try.prog 59 { agg := true, k := 4, ar := some (4, 1), z := some [Value.slice none 0 0, Value.slice none 0 0, Value.slice none 0 0, Value.slice none 0 0], ix := some (4, 1, false) } where
  one := fun h => absurd h (by decide)
  ag := fun _ => inferInstance
  sz := fun h => absurd h (by decide)
  el := fun _ _ _ h => by cases h
  ar := fun _ _ h => by cases h; exact ⟨58, inferInstance⟩
  fo := fun _ _ h => by cases h
  z := fun _ h => by cases h; infer_instance
  bz := fun _ _ h => by cases h
  bo := fun h => absurd h (by decide)
  st := fun h => absurd h (by decide)
  np := fun h => absurd h (by decide)
  it := fun h => absurd h (by decide)
  nf := fun h => absurd h (by decide)
  ix := fun _ _ _ h => by cases h; exact ⟨58, Try.underlying59, Try.sizeOf58, Try.isAgg58⟩
  eq := fun _ h => by cases h
theorem tyok60 : TyOk Try.prog 60 { k := 1, el := some (74, 2, 16) } where
  one := fun _ _ => inferInstance
  ag := fun h => absurd h (by decide)
  sz := fun _ h => absurd rfl h
  el := fun _ _ _ h => by cases h; infer_instance
  ar := fun _ _ h => by cases h
  fo := fun _ _ h => by cases h
  z := fun _ h => by cases h
  bz := fun _ _ h => by cases h
  bo := fun h => absurd h (by decide)
  st := fun h => absurd h (by decide)
  np := fun h => absurd h (by decide)
  it := fun h => absurd h (by decide)
  nf := fun h => absurd h (by decide)
  ix := fun _ _ _ h => by cases h
  eq := fun _ h => by cases h
theorem tyok62 : TyOk Try.prog 62 { agg := true, k := 4, ar := some (4, 1), z := some [Value.slice none 0 0, Value.slice none 0 0, Value.slice none 0 0, Value.slice none 0 0], bz := some ([Value.slice none 0 0, Value.slice none 0 0, Value.slice none 0 0, Value.slice none 0 0], [(0, 1), (1, 1), (2, 1), (3, 1)]), ix := some (4, 1, false) } where
  one := fun h => absurd h (by decide)
  ag := fun _ => inferInstance
  sz := fun h => absurd h (by decide)
  el := fun _ _ _ h => by cases h
  ar := fun _ _ h => by cases h; exact ⟨60, inferInstance⟩
  fo := fun _ _ h => by cases h
  z := fun _ h => by cases h; infer_instance
  bz := fun _ _ h => by cases h; infer_instance
  bo := fun h => absurd h (by decide)
  st := fun h => absurd h (by decide)
  np := fun h => absurd h (by decide)
  it := fun h => absurd h (by decide)
  nf := fun h => absurd h (by decide)
  ix := fun _ _ _ h => by cases h; exact ⟨60, Try.underlying62, Try.sizeOf60, Try.isAgg60⟩
  eq := fun _ h => by cases h
theorem tyok73 : TyOk Try.prog 73 { agg := true, k := 2, ar := some (2, 1), bz := some ([Value.int IntKind.i64 0, Value.int IntKind.i64 0], [(0, 1), (1, 1)]) } where
  one := fun h => absurd h (by decide)
  ag := fun _ => inferInstance
  sz := fun h => absurd h (by decide)
  el := fun _ _ _ h => by cases h
  ar := fun _ _ h => by cases h; exact ⟨2, inferInstance⟩
  fo := fun _ _ h => by cases h
  z := fun _ h => by cases h
  bz := fun _ _ h => by cases h; infer_instance
  bo := fun h => absurd h (by decide)
  st := fun h => absurd h (by decide)
  np := fun h => absurd h (by decide)
  it := fun h => absurd h (by decide)
  nf := fun h => absurd h (by decide)
  ix := fun _ _ _ h => by cases h
  eq := fun _ h => by cases h
theorem tyok74 : TyOk Try.prog 74 { agg := true, k := 2, ar := some (2, 1), z := some [Value.int IntKind.i64 0, Value.int IntKind.i64 0], bz := some ([Value.int IntKind.i64 0, Value.int IntKind.i64 0], [(0, 1), (1, 1)]) } where
  one := fun h => absurd h (by decide)
  ag := fun _ => inferInstance
  sz := fun h => absurd h (by decide)
  el := fun _ _ _ h => by cases h
  ar := fun _ _ h => by cases h; exact ⟨2, inferInstance⟩
  fo := fun _ _ h => by cases h
  z := fun _ h => by cases h; infer_instance
  bz := fun _ _ h => by cases h; infer_instance
  bo := fun h => absurd h (by decide)
  st := fun h => absurd h (by decide)
  np := fun h => absurd h (by decide)
  it := fun h => absurd h (by decide)
  nf := fun h => absurd h (by decide)
  ix := fun _ _ _ h => by cases h
  eq := fun _ h => by cases h
theorem tyok78 : TyOk Try.prog 78 { k := 1, el := some (25, 1, 24) } where
  one := fun _ _ => inferInstance
  ag := fun h => absurd h (by decide)
  sz := fun _ h => absurd rfl h
  el := fun _ _ _ h => by cases h; infer_instance
  ar := fun _ _ h => by cases h
  fo := fun _ _ h => by cases h
  z := fun _ h => by cases h
  bz := fun _ _ h => by cases h
  bo := fun h => absurd h (by decide)
  st := fun h => absurd h (by decide)
  np := fun h => absurd h (by decide)
  it := fun h => absurd h (by decide)
  nf := fun h => absurd h (by decide)
  ix := fun _ _ _ h => by cases h
  eq := fun _ h => by cases h
theorem tyok97 : TyOk Try.prog 97 { k := 1, el := some (60, 1, 24) } where
  one := fun _ _ => inferInstance
  ag := fun h => absurd h (by decide)
  sz := fun _ h => absurd rfl h
  el := fun _ _ _ h => by cases h; infer_instance
  ar := fun _ _ h => by cases h
  fo := fun _ _ h => by cases h
  z := fun _ h => by cases h
  bz := fun _ _ h => by cases h
  bo := fun h => absurd h (by decide)
  st := fun h => absurd h (by decide)
  np := fun h => absurd h (by decide)
  it := fun h => absurd h (by decide)
  nf := fun h => absurd h (by decide)
  ix := fun _ _ _ h => by cases h
  eq := fun _ h => by cases h
theorem tyok100 : TyOk Try.prog 100 { k := 1, it := true } where
  one := fun _ _ => inferInstance
  ag := fun h => absurd h (by decide)
  sz := fun _ h => absurd rfl h
  el := fun _ _ _ h => by cases h
  ar := fun _ _ h => by cases h
  fo := fun _ _ h => by cases h
  z := fun _ h => by cases h
  bz := fun _ _ h => by cases h
  bo := fun h => absurd h (by decide)
  st := fun h => absurd h (by decide)
  np := fun h => absurd h (by decide)
  it := fun _ => ⟨_, Try.underlying100⟩
  nf := fun h => absurd h (by decide)
  ix := fun _ _ _ h => by cases h
  eq := fun _ h => by cases h
theorem tyok111 : TyOk Try.prog 111 { k := 1, z := some [Value.int IntKind.u64 0], it := true } where
  one := fun _ _ => inferInstance
  ag := fun h => absurd h (by decide)
  sz := fun _ h => absurd rfl h
  el := fun _ _ _ h => by cases h
  ar := fun _ _ h => by cases h
  fo := fun _ _ h => by cases h
  z := fun _ h => by cases h; infer_instance
  bz := fun _ _ h => by cases h
  bo := fun h => absurd h (by decide)
  st := fun h => absurd h (by decide)
  np := fun h => absurd h (by decide)
  it := fun _ => ⟨_, Try.underlying111⟩
  nf := fun h => absurd h (by decide)
  ix := fun _ _ _ h => by cases h
  eq := fun _ h => by cases h
noncomputable def tab : List (Nat × TyI) := [
  (2, { k := 1, it := true }),
  (3, { k := 1, z := some [Value.int IntKind.i64 0], it := true }),
  (4, { k := 1, bo := true }),
  (9, { k := 1 }),
  (22, { k := 1, el := some (31, 2, 16) }),
  (25, { k := 1, el := some (37, 3, 24) }),
  (26, { k := 1, it := true }),
  (31, { agg := true, k := 2, fo := [0, 1], z := some [Value.int IntKind.i64 0, Value.int IntKind.i64 0], bz := some ([Value.int IntKind.i64 0, Value.int IntKind.i64 0], [(0, 1), (1, 1)]) }),
  (37, { agg := true, k := 3, fo := [0, 1, 2], z := some [Value.int IntKind.i64 0, Value.int IntKind.i64 0, Value.int IntKind.i64 0], bz := some ([Value.int IntKind.i64 0, Value.int IntKind.i64 0, Value.int IntKind.i64 0], [(0, 1), (1, 1), (2, 1)]), eq := some [.i .i64, .i .i64, .i .i64] }),
  (42, { agg := true, k := 4, ar := some (4, 1), z := some [Value.int IntKind.i64 0, Value.int IntKind.i64 0, Value.int IntKind.i64 0, Value.int IntKind.i64 0], bz := some ([Value.int IntKind.i64 0, Value.int IntKind.i64 0, Value.int IntKind.i64 0, Value.int IntKind.i64 0], [(0, 1), (1, 1), (2, 1), (3, 1)]), eq := some [.i .i64, .i .i64, .i .i64, .i .i64], ix := some (4, 1, false) }),
  (49, { k := 1, el := some (73, 2, 16) }),
  (58, { k := 1, el := some (2, 1, 8) }),
  (59, { agg := true, k := 4, ar := some (4, 1), z := some [Value.slice none 0 0, Value.slice none 0 0, Value.slice none 0 0, Value.slice none 0 0], ix := some (4, 1, false) }),
  (60, { k := 1, el := some (74, 2, 16) }),
  (62, { agg := true, k := 4, ar := some (4, 1), z := some [Value.slice none 0 0, Value.slice none 0 0, Value.slice none 0 0, Value.slice none 0 0], bz := some ([Value.slice none 0 0, Value.slice none 0 0, Value.slice none 0 0, Value.slice none 0 0], [(0, 1), (1, 1), (2, 1), (3, 1)]), ix := some (4, 1, false) }),
  (73, { agg := true, k := 2, ar := some (2, 1), bz := some ([Value.int IntKind.i64 0, Value.int IntKind.i64 0], [(0, 1), (1, 1)]) }),
  (74, { agg := true, k := 2, ar := some (2, 1), z := some [Value.int IntKind.i64 0, Value.int IntKind.i64 0], bz := some ([Value.int IntKind.i64 0, Value.int IntKind.i64 0], [(0, 1), (1, 1)]) }),
  (78, { k := 1, el := some (25, 1, 24) }),
  (97, { k := 1, el := some (60, 1, 24) }),
  (100, { k := 1, it := true }),
  (111, { k := 1, z := some [Value.int IntKind.u64 0], it := true })]
theorem tab_ok : TabOk Try.prog tab := ⟨tyok2, tyok3, tyok4, tyok9, tyok22, tyok25, tyok26, tyok31, tyok37, tyok42, tyok49, tyok58, tyok59, tyok60, tyok62, tyok73, tyok74, tyok78, tyok97, tyok100, tyok111, trivial⟩
noncomputable abbrev ty : Nat → TyI := tyAt tab
theorem ty_ok : ∀ T, TyOk Try.prog T (ty T) := tab_ok.at_

end Go.Proofs.Ytklionofaknjcaa
