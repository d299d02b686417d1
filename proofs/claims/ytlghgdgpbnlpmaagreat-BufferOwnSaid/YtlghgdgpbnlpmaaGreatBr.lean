/- What is proved: from a law's contract over abstract values to the statement's form. Conditions: none. -/
import Derived.Test.YtlghgdgpbnlpmaaGreatEn
import Derived.Test.YtlghgdgpbnlpmaaGreatBridge
namespace Go.Proofs.YtlghgdgpbnlpmaaGreat
open Go.RowKit
set_option linter.unusedVariables false
set_option linter.unusedSimpArgs false
theorem VR_of {E : Env} {a : Option Addr} {k : Nat} : ∀ {rows : List (List AV)} {i : Nat}, (∀ j r, rows[j]? = some r → ∃ (ad : Addr) (us : List Value), a = some ad ∧ r.length = k ∧ At E.H (ad.add ((i + j) * k)) us ∧ VL E r us) → VR E a k i rows
  | [], i, _ => by simp only [VR]
  | r :: rows, i, h => by
    simp only [VR]
    refine ⟨?_, VR_of fun j r' hr => ?_⟩
    · obtain ⟨ad, us, h1, h2, h3, h4⟩ := h 0 r rfl
      exact ⟨ad, us, h1, h2, by simpa using h3, h4⟩
    · obtain ⟨ad, us, h1, h2, h3, h4⟩ := h (j + 1) r' (by simpa using hr)
      exact ⟨ad, us, h1, h2, by rw [show i + 1 + j = i + (j + 1) by omega]; exact h3, h4⟩
theorem V_sl {α : Type} {H : Hp} {k : Nat} {R : List Value → α → Prop} {a : Option Addr} {n c : Nat} {l : List α} {f : α → List AV} (h : Sl H k R a n c l) (hf : ∀ cs x, R cs x → (f x).length = k ∧ VL (Env.fz H) (f x) cs) : V (Env.fz H) (lstE f l) (.slice a n c) := by
  obtain ⟨h1, h2, h3, h4⟩ := h
  subst h1
  simp only [V]
  refine ⟨a, c, k, rfl, by simp, h2, h3, VR_of fun j r hr => ?_⟩
  rw [List.getElem?_map] at hr
  cases hx : l[j]? with
  | none => rw [hx] at hr; cases hr
  | some x =>
    rw [hx] at hr
    cases hr
    obtain ⟨ad, cs, h5, h6, h7, h8⟩ := h4 j x hx
    obtain ⟨h9, h10⟩ := hf cs x h8
    exact ⟨ad, cs, h5, h9, by rw [Nat.zero_add]; exact h7, h10⟩
def runR (cs : List Value) (x : Int × Int) : Prop := cs = [.int .i64 x.1, .int .i64 x.2]
def intR (cs : List Value) (x : Int) : Prop := cs = [.int .i64 x]
theorem V_runs {H : Hp} {a : Option Addr} {n c : Nat} {l : List (Int × Int)} (h : Sl H 2 runR a n c l) : V (Env.fz H) (lstE runE l) (.slice a n c) :=
  V_sl h fun cs x hx => by
    simp only [runR] at hx
    subst hx
    refine ⟨rfl, ?_⟩
    simp only [runE, i64, VL, V]
    exact ⟨_, _, rfl, rfl, _, _, rfl, rfl, rfl⟩
theorem V_ints {H : Hp} {a : Option Addr} {n c : Nat} {l : List Int} (h : Sl H 1 intR a n c l) : V (Env.fz H) (lstE intE l) (.slice a n c) :=
  V_sl h fun cs x hx => by
    simp only [intR] at hx
    subst hx
    refine ⟨rfl, ?_⟩
    simp only [intE, i64, VL, V]
    exact ⟨_, _, rfl, rfl, rfl⟩
theorem V_i64 {E : Env} {x : Int} : V E (i64 x) (.int .i64 x) := by simp only [V]
theorem fnp_of {P : Program} {f : FuncId} {args : List AV} {vs : List Value} {H : Hp} (h : AFnP P f args (.bool true)) (hv : VL (Env.fz H) args vs) : FnP P f vs H (.bool true) :=
  (h H vs hv).mono fun v H' O hle hr => by simpa only [V] using hr
theorem VL1 {E : Env} {a : AV} {u : Value} (h : V E a u) : VL E [a] [u] := by simp only [VL]; exact ⟨_, _, rfl, h, rfl⟩
theorem VL2 {E : Env} {a b : AV} {u v : Value} (h : V E a u) (h2 : V E b v) : VL E [a, b] [u, v] := by simp only [VL]; exact ⟨_, _, rfl, h, _, _, rfl, h2, rfl⟩
theorem VL3 {E : Env} {a b c : AV} {u v w : Value} (h : V E a u) (h2 : V E b v) (h3 : V E c w) : VL E [a, b, c] [u, v, w] := by simp only [VL]; exact ⟨_, _, rfl, h, _, _, rfl, h2, _, _, rfl, h3, rfl⟩
end Go.Proofs.YtlghgdgpbnlpmaaGreat
