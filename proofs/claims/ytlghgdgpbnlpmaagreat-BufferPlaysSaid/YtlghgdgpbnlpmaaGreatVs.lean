/- What is proved: a part of an own slice, read when all is frozen. Conditions: none. -/
import Derived.Test.YtlghgdgpbnlpmaaGreatWk
namespace Go.Proofs.YtlghgdgpbnlpmaaGreat
open Go.RowKit
set_option linter.unusedVariables false
def rowK (h : List AP) (id : Nat) : Option (Nat × List (List AV)) := match pos id h with | some (_, .row _ _ k rows) => some (k, rows) | _ => none
def subL (h : List AP) (id k lo n : Nat) : AV := match rowK h id with
  | some (k', rows) => bif Nat.beq k' k && Nat.ble (lo + n) rows.length then .lst n ((rows.drop lo).take n) else .junk
  | none => .junk
def fzS (h : List AP) : Tr where
  own := (fz1 h).own
  op := (fz1 h).op
  orp := (fz1 h).orp
  sub id k lo n _ _ := subL h id k lo n
  nils := .lst 0 []
theorem frz_sub {E : Env} {h : List AP} {L : List Piece} {H' : Hp} (f : Frz E h L H') {id k lo n C : Nat} {w : Bool} {v : Value} (hv : V E (.sub id k lo n C w) v) : V (Env.fz H') (subL h id k lo n) v := by
  unfold subL rowK
  cases hp : pos id h with
  | none => simp only [V]
  | some x =>
    obtain ⟨i, p⟩ := x
    cases p with
    | blk id' cs T => simp only [V]
    | bag id' rs => simp only [V]
    | row id' El k' rows =>
      dsimp only
      cases hb : (Nat.beq k' k && Nat.ble (lo + n) rows.length) with
      | false => simp only [cond_false, V]
      | true =>
        rw [cond_true]
        rw [Bool.and_eq_true] at hb
        obtain rfl := Nat.eq_of_beq_eq_true hb.1
        have hle := Nat.le_of_ble_eq_true hb.2
        obtain ⟨hid, hi, q, hq, hvp⟩ := pos_spec f.hl hp
        simp only [AP.id] at hid
        subst hid
        simp only [V] at hv
        obtain ⟨h1, b, N, a, hg, rfl, h4, h5, _⟩ := hv
        simp only [VP] at hvp
        obtain ⟨_, _, rs, rfl, hrs⟩ := hvp
        obtain ⟨w', ⟨hown, hlen⟩, hH⟩ := f.hp _ (List.mem_of_getElem? hq)
        have hl := VLL_len hrs
        obtain ⟨a', c', h2, h3, h6, _⟩ := own_form hown
        rw [hg] at h2
        cases h2
        simp only [V]
        refine ⟨a, C - lo, k', rfl, by simp; omega, by omega, by omega, VR_mk fun j r hr => ?_⟩
        have hjn : j < n := by
          have := (List.getElem?_eq_some_iff.1 hr).1
          rw [List.length_take] at this
          omega
        rw [List.getElem?_take_of_lt hjn, List.getElem?_drop] at hr
        obtain ⟨us, hus, hvl⟩ := VLL_get hrs hr
        have hk : us.length = k' := hlen us (List.mem_of_getElem? hus)
        refine ⟨_, us, h5 (by omega), by rw [← VL_len hvl, hk], ?_, hvl.mono (Env.le.fz f.H)⟩
        rw [Nat.zero_add, add_add, ← Nat.add_mul]
        refine At_cells (hH b (by simp [Piece.hasB, Value.ownBlock, hg])) fun x u hu => ?_
        exact hown.cells (g := b) (by rw [hg]; rfl) _ _ (flatten_at hlen hus hu)
theorem fzS_ok {E : Env} {h : List AP} {L : List Piece} {H' : Hp} (f : Frz E h L H') : TrOk (fzS h) E (Env.fz H') where
  H := f.H
  own := (fz1_ok f).own
  op := (fz1_ok f).op
  orp := (fz1_ok f).orp
  sub id k lo n C w v hv := frz_sub f hv
  nils := (fz1_ok f).nils
theorem AFn.frzP {P : Program} {f : FuncId} {args : List AV} {R : AV → List AP → Prop} {r0 : AV} (ha : AFn P f args [] R) (hR : ∀ r h', R r h' → tr (fzS h') r = r0) : AFnP P f args r0 := by
  intro H vs hvs
  obtain ⟨h1, h2⟩ := ha (Env.fz H) vs [] rfl hvs (by simp only [VH])
  refine ⟨h1, fun w hs => (h2 w hs).mono ?_⟩
  rintro x w' ⟨v, H', O, hx, hse, E', r, h', rfl, hE, hv, hh', hn, hr0⟩
  obtain ⟨H'', h7, h8, h9⟩ := freezeAll O (L2 := []) (by simpa using hse)
  refine ⟨v, H'', [], hx, h8, ?_⟩
  rw [← hR r h' hr0]
  exact V_tr (fzS_ok ⟨h7, hh', fun p hp => ⟨w', hse.holds p hp, h9 p hp⟩⟩) _ _ hv
theorem fzS_sub {T k lo n C : Nat} {w : Bool} {rows : List (List AV)} (h : Nat.ble (lo + n) rows.length = true) : (fzS [.row 0 T k rows]).sub 0 k lo n C w = .lst n ((rows.drop lo).take n) := by
  simp [fzS, subL, rowK, pos, AP.id, h]
end Go.Proofs.YtlghgdgpbnlpmaaGreat
