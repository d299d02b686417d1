/- What is proved: the statement TreeBack of chapter 08, for every input. Conditions: none. -/
import Derived.Test.YtailblpjmgabjaaTq
import Derived.Test.YtailblpjmgabjaaTr
import Derived.SizedLaws
namespace Go.Proofs.Ytailblpjmgabjaa
open Go.RowKit Go.ChangeShapes Go.WideShapes Go.ChangeAt
set_option linter.unusedVariables false
set_option linter.unusedSimpArgs false
set_option maxRecDepth 100000
def strR (cs : List Value) (x : ByteArray) : Prop := cs = [.string x]
theorem V_strs {H : Hp} {a : Option Addr} {n c : Nat} {l : List ByteArray} (h : Sl H 1 strR a n c l) : V (Env.fz H) (lstE strE l) (.slice a n c) :=
  V_sl h fun cs x hx => by
    simp only [strR] at hx
    subst hx
    refine ⟨rfl, ?_⟩
    simp only [strE, VL, V]
    exact ⟨_, _, rfl, rfl, rfl⟩
theorem V_str0 {E : Env} {x : ByteArray} : V E (.str x) (.string x) := by simp only [V]
section opens
variable {X : Type} {enc : TypeId × Value → X} {w : World} {spare : Nat → Bool} {held : Bool}
theorem strR_of {n : Nat} {cs : List Value} {y : DataW X × List MemPlace} (h : DataW.trod enc Try.prog w 0 spare held n 9 cs = some y) : ∃ z : ByteArray, strR cs z := by
  obtain ⟨s, hs, -, -⟩ := DataW.trod_string Try.underlying9 h
  exact ⟨s, hs⟩
theorem str_arg {v : Value} {d : DataW X} {ps : List MemPlace} {r : Reach} {b0 : Nat} (hv : Value.okWide Try.prog w r b0 9 v) (h : DataW.Trod enc Try.prog w 0 spare held 9 v d ps) : ∃ s, v = .string s := by
  simp only [Value.okWide, Try.underlying9, Cell.okWide] at hv
  cases v <;> simp_all [Cell.ok]
end opens

theorem treeBack_lifted (os : Os) (started : os.Started) (X : Type) (enc : TypeId × Value → X) :
    ReturnsInHanded {} Try.checked os 7 .any (Rows.treeBackSpec.pre6 enc Try.prog Try.f7 Rows.treeBackRow.domain false) (Rows.treeBackSpec.post enc Try.prog Try.f7 false true false false) := by
  refine returnsInHanded_of_change_sized (C := Try.checked) law_own started (by kernel_rfl) Try.func7
    (ChangeSpec.witness6 (enc := enc) (C := Try.checked) false ⟨#[], #[.agg #[.slice none 0 0, .slice none 0 0], .slice none 0 0, .string ByteArray.empty], []⟩ 8 (by kernel_rfl) (by kernel_rfl) (by kernel_rfl) (by kernel_rfl)) ?_
  intro W base args ds gs before hval0 hW hcnd hsz _
  refine contract_true (n := 3) law_laid rfl rfl (fun ds h => by match ds, h with | [_, _, _], _ => rfl) (by kernel_rfl) rfl Try.underlying4 hW ?_
  have hval : ∀ (j : Nat) t v, Try.f7.params[j]? = some t → args[j]? = some v → Value.okWide Try.prog W .any base t v := hval0
  clear hval0
  obtain ⟨p, q, hA0, -⟩ := hW
  have hA : DataW.TrodAll enc Try.prog W 0 (fun _ => true) true Try.f7.params.toList args.toList ds p := hA0
  clear hA0
  rw [Try.params7] at hA hval hsz
  have hsz' := List.all_eq_true.1 hsz
  obtain ⟨v0, v1, v2, d0, d1, d2, p0, p1, p2, rfl, rfl, rfl, h0, h1, h2⟩ := trodAll_three hA
  have w0 : Wok 25 d0 := fun x hx => by have := hsz' x (by simp only [DataW.weightsEach, List.cons_append, List.nil_append, List.mem_append]; exact .inl hx); simpa using this
  obtain ⟨a, ha, hba⟩ := tree_arg (hval 0 _ _ rfl rfl) h0 w0
  obtain ⟨a1, n1, c1, l1, rfl, hS1⟩ := sl_arg (R := strR) (k := 1) Try.underlying26 (by kernel_rfl) (hval 1 _ _ rfl rfl) h1 (fun n cs y h hk => strR_of h)
  obtain ⟨s2, rfl⟩ := str_arg (hval 2 _ _ rfl rfl) h2
  exact ⟨[_, _, _], rfl, fnp_of (lawBack_a a hba l1 s2) (VL3 ha (V_strs hS1) V_str0)⟩
theorem treeBack_proved : Rows.TreeBackSaid :=
  OpenClaim.holds_of_wide 7 Try.f7 rfl rfl rfl rfl rfl rfl rfl ⟨rfl, rfl, rfl, rfl, rfl⟩ rfl rfl rfl rfl rfl (by kernel_rfl) Try.func7 (by kernel_rfl)
    (of_decide_eq_true (by kernel_rfl)) (by unfold Func.isWrapper; first | (rw [if_pos (by decide +kernel)]; kernel_rfl) | (rw [if_neg (by decide +kernel)]; exact ⟨rfl, rfl⟩))
    (fun os started X enc _ => treeBack_lifted os started X enc)
end Go.Proofs.Ytailblpjmgabjaa
