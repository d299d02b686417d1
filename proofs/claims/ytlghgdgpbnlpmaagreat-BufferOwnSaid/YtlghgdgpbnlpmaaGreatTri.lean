/- What is proved: the rules of a small separation calculus over the kit's walk: control and plain operations. Conditions: none. -/
import Derived.Test.YtlghgdgpbnlpmaaGreatSep
namespace Go.Proofs.YtlghgdgpbnlpmaaGreat
open Go.RowKit

abbrev Post := Exit → Slots → Hp → List Piece → Prop
def lift (e : Ent) (n : Nat) (Q : Post) : Exit → Act → World → Prop := fun x a w => ∃ F H L, Fr a F n ∧ Sees e H L w ∧ Q x F H L

structure Tri (P : Program) (e : Ent) (n : Nat) (c : Code) (F : Slots) (H : Hp) (L : List Piece) (Q : Post) : Prop where
  run : ∀ a w, Fr a F n → Sees e H L w → c.wp P (lift e n Q) a w
structure Ops (P : Program) (e : Ent) (n : Nat) (ops : Array Oper) (rest : List Oper) (F : Slots) (H : Hp) (L : List Piece) (Q : Post) : Prop where
  run : ∀ a w, Fr a F n → Sees e H L w → wpList P ops (lift e n Q) rest a w

def seqQ (P : Program) (e : Ent) (n : Nat) (b : Code) (Q : Post) : Post
  | .normal, F, H, L => Tri P e n b F H L Q
  | x, F, H, L => Q x F H L
def blockQ (id : Nat) (Q : Post) : Post
  | .exit id', F, H, L => if id' = id then Q .normal F H L else Q (.exit id') F H L
  | x, F, H, L => Q x F H L

section control
variable {P : Program} {e : Ent} {n : Nat} {F : Slots} {H : Hp} {L : List Piece} {Q : Post}
theorem t_mono {c : Code} {Q' : Post} (hq : ∀ x F H L, Q x F H L → Q' x F H L) (h : Tri P e n c F H L Q) : Tri P e n c F H L Q' :=
  ⟨fun a w hf hs => wp_mono (h.run a w hf hs) fun _ _ _ ⟨F', H', L', h1, h2, h3⟩ => ⟨F', H', L', h1, h2, hq _ _ _ _ h3⟩⟩
theorem t_skip (h : Q .normal F H L) : Tri P e n .skip F H L Q := ⟨fun _ _ hf hs => wp_skip ⟨F, H, L, hf, hs, h⟩⟩
theorem t_exit {id : Nat} (h : Q (.exit id) F H L) : Tri P e n (.exit id) F H L Q := ⟨fun _ _ hf hs => wp_exit ⟨F, H, L, hf, hs, h⟩⟩
theorem t_ret (h : Q .ret F H L) : Tri P e n .ret F H L Q := ⟨fun _ _ hf hs => wp_ret ⟨F, H, L, hf, hs, h⟩⟩
theorem t_seq {b c : Code} (h : Tri P e n b F H L (seqQ P e n c Q)) : Tri P e n (.seq b c) F H L Q :=
  ⟨fun a w hf hs => wp_seq (wp_mono (h.run a w hf hs) fun x a' w' ⟨F', H', L', h1, h2, h3⟩ => by
    cases x with
    | normal => exact h3.run a' w' h1 h2
    | exit id => exact ⟨F', H', L', h1, h2, h3⟩
    | goto l => exact ⟨F', H', L', h1, h2, h3⟩
    | ret => exact ⟨F', H', L', h1, h2, h3⟩
    | panic ch => exact ⟨F', H', L', h1, h2, h3⟩
    | outgrown => exact ⟨F', H', L', h1, h2, h3⟩)⟩
theorem t_block {id : Nat} {c : Code} (h : Tri P e n c F H L (blockQ id Q)) : Tri P e n (.block id c) F H L Q :=
  ⟨fun a w hf hs => wp_block (wp_mono (h.run a w hf hs) fun x a' w' ⟨F', H', L', h1, h2, h3⟩ => by
    cases x with
    | exit id' =>
      simp only [Exit.inBlock]
      simp only [blockQ] at h3
      split
      · rename_i e; rw [if_pos e] at h3; exact ⟨F', H', L', h1, h2, h3⟩
      · rename_i e; rw [if_neg e] at h3; exact ⟨F', H', L', h1, h2, h3⟩
    | normal => exact ⟨F', H', L', h1, h2, h3⟩
    | goto l => exact ⟨F', H', L', h1, h2, h3⟩
    | ret => exact ⟨F', H', L', h1, h2, h3⟩
    | panic ch => exact ⟨F', H', L', h1, h2, h3⟩
    | outgrown => exact ⟨F', H', L', h1, h2, h3⟩)⟩
theorem t_cond {c : Operand} {x y : Code} {t : Bool} (hc : ev F c = .bool t) (ht : t = true → Tri P e n x F H L Q) (hf : t = false → Tri P e n y F H L Q) : Tri P e n (.cond c x y) F H L Q :=
  ⟨fun a w hfr hs => by
    have hc' : a.eval c = .bool t := by rw [hfr.eval]; exact hc
    exact wp_cond_split hc' (fun h => (ht h).run a w hfr hs) (fun h => (hf h).run a w hfr hs)⟩
theorem t_cond_t {c : Operand} {x y : Code} {t : Bool} (hc : ev F c = .bool t) (hb : t = true) (ht : Tri P e n x F H L Q) : Tri P e n (.cond c x y) F H L Q :=
  t_cond hc (fun _ => ht) (fun h => by rw [hb] at h; cases h)
theorem t_cond_f {c : Operand} {x y : Code} {t : Bool} (hc : ev F c = .bool t) (hb : t = false) (hf : Tri P e n y F H L Q) : Tri P e n (.cond c x y) F H L Q :=
  t_cond hc (fun h => by rw [hb] at h; cases h) (fun _ => hf)
theorem t_region {id : Nat} {l : List Oper} (h : Ops P e n l.toArray l F H L Q) : Tri P e n (.region id l.toArray false) F H L Q :=
  ⟨fun a w hf hs => wp_region_lit (h.run a w hf hs)⟩
theorem o_nil {ops : Array Oper} (h : Q .normal F H L) : Ops P e n ops [] F H L Q := ⟨fun _ _ hf hs => wpList_nil ⟨F, H, L, hf, hs, h⟩⟩

theorem q_seq {b : Code} (h : Tri P e n b F H L Q) : seqQ P e n b Q .normal F H L := h
theorem q_seq_ret {b : Code} (h : Q .ret F H L) : seqQ P e n b Q .ret F H L := h
theorem q_seq_exit {b : Code} {id : Nat} (h : Q (.exit id) F H L) : seqQ P e n b Q (.exit id) F H L := h
theorem q_block {id : Nat} (h : Q .normal F H L) : blockQ id Q .normal F H L := h
theorem q_block_ret {id : Nat} (h : Q .ret F H L) : blockQ id Q .ret F H L := h
theorem q_block_hit {id : Nat} (h : Q .normal F H L) : blockQ id Q (.exit id) F H L := by simp only [blockQ, if_pos]; exact h
theorem q_block_miss {id id' : Nat} (hne : Nat.beq id' id = false) (h : Q (.exit id') F H L) : blockQ id Q (.exit id') F H L := by
  have : id' ≠ id := fun e => by rw [e, Nat.beq_refl] at hne; cases hne
  simp only [blockQ, if_neg this]; exact h

/-- fewer pieces -/
theorem t_sub {c : Code} (L' : List Piece) (hs : L'.Sublist L) (h : Tri P e n c F H L' Q) : Tri P e n c F H L Q := ⟨fun a w hf hse => h.run a w hf (hse.sub hs)⟩
theorem o_sub {ops : Array Oper} {rest : List Oper} (L' : List Piece) (hs : L'.Sublist L) (h : Ops P e n ops rest F H L' Q) : Ops P e n ops rest F H L Q := ⟨fun a w hf hse => h.run a w hf (hse.sub hs)⟩
end control

/-! frames that agree but for some slots -/
def Agree (ms : List Nat) (F F' : Slots) : Prop := ∀ t, memb ms t = false → F' t = F t
theorem agree_refl (ms : List Nat) (F : Slots) : Agree ms F F := fun _ _ => rfl
theorem agree_mask (ms : List Nat) (F G : Slots) : Agree ms F (mask ms F G) := fun t h => by simp [mask, h]
theorem agree_upd {ms : List Nat} {F F' : Slots} {d : Nat} {v : Value} (hd : memb ms d = true) (h : Agree ms F F') : Agree ms F (upd F' d v) := fun t ht => by
  rw [upd_other _ _ (fun e => by rw [e, hd] at ht; cases ht)]
  exact h t ht
theorem agree_updL {ms : List Nat} {F F' : Slots} : ∀ {ss : List Nat} {vs : List Value}, (ss.all (memb ms) = true) → Agree ms F F' → Agree ms F (updL F' ss vs)
  | [], _, _, h => by simpa [updL] using h
  | _ :: _, [], _, h => by simpa [updL] using h
  | s :: ss, v :: vs, hd, h => by
    simp only [List.all_cons, Bool.and_eq_true] at hd
    simp only [updL]
    exact agree_upd hd.1 (agree_updL hd.2 h)
/-- a frame that agrees, written as the base with some slots -/
theorem agree_form {ms : List Nat} {F F' : Slots} (h : Agree ms F F') : ∀ (ss : List Nat), F' = updL (mask ms F F') ss (ss.map F')
  | [] => by
    funext t
    simp only [updL, mask]
    cases hm : memb ms t
    · exact h t hm
    · rfl
  | s :: ss => by
    simp only [List.map_cons, updL]
    rw [← agree_form h ss]
    funext t
    by_cases e : t = s
    · rw [e, upd_same]
    · rw [upd_other _ _ e]

theorem least_ex {p : Nat → Prop} (h : ∃ k, p k) : ∃ k, p k ∧ ∀ j, p j → k ≤ j := by
  obtain ⟨k, hk⟩ := h
  induction k using Nat.strongRecOn with
  | _ k ih =>
    by_cases hx : ∃ j, j < k ∧ p j
    · obtain ⟨j, hj, hp⟩ := hx
      exact ih j hj hp
    · refine ⟨k, hk, fun j hp => ?_⟩
      rcases Nat.lt_or_ge j k with hlt | hge
      · exact absurd ⟨j, hlt, hp⟩ hx
      · exact hge

section loops
variable {P : Program} {e : Ent} {n : Nat} {F : Slots} {H : Hp} {L : List Piece} {Q : Post}
/-- what a piece of code does to some slots; all others stand -/
def cutQ (ms ss : List Nat) (F : Slots) (R : List Value → Hp → List Piece → Prop) (Q : Post) : Post
  | .normal, F', H', L' => Agree ms F F' ∧ ∃ L1 : List Piece, L1.Sublist L' ∧ R (ss.map F') H' L1
  | x, F', H', L' => Q x F' H' L'
theorem t_cut {b c : Code} (ms ss : List Nat) (R : List Value → Hp → List Piece → Prop) (h1 : Tri P e n b F H L (cutQ ms ss F R Q))
    (h2 : ∀ G vs H' L', R vs H' L' → Tri P e n c (updL (mask ms F G) ss vs) H' L' Q) : Tri P e n (.seq b c) F H L Q :=
  t_seq ⟨fun a w hf hs => wp_mono (h1.run a w hf hs) fun x a' w' ⟨F', H', L', k1, k2, k3⟩ => by
    cases x with
    | normal =>
      obtain ⟨hag, L1, hsub, hR⟩ := k3
      refine ⟨F', H', L1, k1, k2.sub hsub, ?_⟩
      have := h2 F' _ H' L1 hR
      rw [← agree_form hag ss] at this
      exact this
    | exit id => exact ⟨F', H', L', k1, k2, k3⟩
    | goto l => exact ⟨F', H', L', k1, k2, k3⟩
    | ret => exact ⟨F', H', L', k1, k2, k3⟩
    | panic ch => exact ⟨F', H', L', k1, k2, k3⟩
    | outgrown => exact ⟨F', H', L', k1, k2, k3⟩⟩
/-- a cut at the end of a list of operations' first part -/
def loopQ (ms ss : List Nat) (F : Slots) (I : Nat → List Value → Hp → List Piece → Prop) (k : Nat) (Q : Post) : Post
  | .normal, F', H', L' => Agree ms F F' ∧ ∃ k', k' < k ∧ ∃ L1 : List Piece, L1.Sublist L' ∧ I k' (ss.map F') H' L1
  | x, F', H', L' => Q x F' H' L'
/-- a loop: 'I k' holds at a round's head with at most k rounds to come -/
theorem t_loop {c : Code} (ms ss : List Nat) (I : Nat → List Value → Hp → List Piece → Prop) (k0 : Nat) (h0 : I k0 (ss.map F) H L)
    (round : ∀ k G vs H' L', I k vs H' L' → Tri P e n c (updL (mask ms F G) ss vs) H' L' (loopQ ms ss F I k Q)) : Tri P e n (.loop c) F H L Q := by
  classical
  refine ⟨fun a w hf hs => ?_⟩
  let J : Nat → Act → World → Prop := fun k a w => ∃ F' H' L', Fr a F' n ∧ Sees e H' L' w ∧ Agree ms F F' ∧ I k (ss.map F') H' L'
  let μ : Act → World → Nat := fun a w => if h : ∃ k, J k a w then (least_ex h).choose else 0
  refine wp_loop (fun a w => ∃ k, J k a w) μ ⟨k0, F, H, L, hf, hs, agree_refl _ _, h0⟩ ?_
  rintro a1 w1 hJ
  have hμ : μ a1 w1 = (least_ex hJ).choose := by simp only [μ, dif_pos hJ]
  obtain ⟨F1, H1, L1, hf1, hs1, hag1, hI1⟩ := (least_ex hJ).choose_spec.1
  have hr := round _ F1 _ H1 L1 hI1
  rw [← agree_form hag1 ss] at hr
  refine wp_mono (hr.run a1 w1 hf1 hs1) fun x a2 w2 ⟨F2, H2, L2, k1, k2, k3⟩ => ?_
  cases x with
  | normal =>
    obtain ⟨hag, k', hlt, L3, hsub, hI⟩ := k3
    have hJ2 : ∃ k, J k a2 w2 := ⟨k', F2, H2, L3, k1, k2.sub hsub, hag, hI⟩
    refine ⟨hJ2, ?_⟩
    rw [hμ]
    have : μ a2 w2 = (least_ex hJ2).choose := by simp only [μ, dif_pos hJ2]
    rw [this]
    exact Nat.lt_of_le_of_lt ((least_ex hJ2).choose_spec.2 _ ⟨F2, H2, L3, k1, k2.sub hsub, hag, hI⟩) hlt
  | exit id => exact ⟨F2, H2, L2, k1, k2, k3⟩
  | goto l => exact ⟨F2, H2, L2, k1, k2, k3⟩
  | ret => exact ⟨F2, H2, L2, k1, k2, k3⟩
  | panic ch => exact ⟨F2, H2, L2, k1, k2, k3⟩
  | outgrown => exact ⟨F2, H2, L2, k1, k2, k3⟩
theorem q_loop {ms ss : List Nat} {I : Nat → List Value → Hp → List Piece → Prop} {k : Nat} {F' : Slots} {H' : Hp} {L' : List Piece} (ha : Agree ms F F') (k' : Nat) (hk : k' < k) (L1 : List Piece) (hL : List.Sublist L1 L') (hI : I k' (ss.map F') H' L1) : loopQ ms ss F I k Q .normal F' H' L' := ⟨ha, k', hk, L1, hL, hI⟩
theorem q_loop_ret {ms ss : List Nat} {I : Nat → List Value → Hp → List Piece → Prop} {k : Nat} {F' : Slots} {H' : Hp} {L' : List Piece} (h : Q .ret F' H' L') : loopQ ms ss F I k Q .ret F' H' L' := h
theorem q_loop_exit {ms ss : List Nat} {I : Nat → List Value → Hp → List Piece → Prop} {k id : Nat} {F' : Slots} {H' : Hp} {L' : List Piece} (h : Q (.exit id) F' H' L') : loopQ ms ss F I k Q (.exit id) F' H' L' := h
theorem q_cut {ms ss : List Nat} {R : List Value → Hp → List Piece → Prop} {F' : Slots} {H' : Hp} {L' : List Piece} (ha : Agree ms F F') (L1 : List Piece) (hL : List.Sublist L1 L') (hR : R (ss.map F') H' L1) : cutQ ms ss F R Q .normal F' H' L' := ⟨ha, L1, hL, hR⟩
theorem q_cut_ret {ms ss : List Nat} {R : List Value → Hp → List Piece → Prop} {F' : Slots} {H' : Hp} {L' : List Piece} (h : Q .ret F' H' L') : cutQ ms ss F R Q .ret F' H' L' := h
theorem q_cut_exit {ms ss : List Nat} {R : List Value → Hp → List Piece → Prop} {id : Nat} {F' : Slots} {H' : Hp} {L' : List Piece} (h : Q (.exit id) F' H' L') : cutQ ms ss F R Q (.exit id) F' H' L' := h
end loops

end Go.Proofs.YtlghgdgpbnlpmaaGreat
