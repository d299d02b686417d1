/- What is proved: chapter 06's law: plain sets. Conditions: none. -/
import Derived.Test.YtailblpjmgabjaaTf
import Derived.Test.YtailblpjmgabjaaTh
import Derived.Test.YtailblpjmgabjaaTp
import Derived.Test.YtailblpjmgabjaaRg
namespace Go.Proofs.Ytailblpjmgabjaa
open Go.RowKit
set_option linter.unusedVariables false
set_option linter.unusedSimpArgs false
def srt (l : List (Int × Int)) : List (Int × Int) := l.mergeSort fun x y => decide (x.1 ≤ y.1)
theorem srt_perm (l : List (Int × Int)) : (srt l).Perm l := List.mergeSort_perm _ _
theorem srt_pw (l : List (Int × Int)) : (srt l).Pairwise (fun x y => x.1 ≤ y.1) := by
  have := List.pairwise_mergeSort (le := fun (x y : Int × Int) => decide (x.1 ≤ y.1)) (fun a b c h1 h2 => by simp only [decide_eq_true_eq] at *; omega) (fun a b => by simp only [Bool.or_eq_true, decide_eq_true_eq]; omega) l
  exact this.imp fun h => by simpa using h
def ofL (l : List Int) : List (Int × Int) := (srt (l.map one)).foldl joinStep []
theorem ofL_is {l : List Int} (hok : l.all okNum = true) : IsOf l (ofL l) := of_join (srt_perm _) (srt_pw _) (List.all_eq_true.1 hok)
theorem isOf_eq {l : List Int} {x y : List (Int × Int)} (h : IsOf l x) (h2 : IsOf l y) : x = y := canonR h.1 h2.1 fun v => by rw [h.2 v, h2.2 v]
theorem of_p {l : List Int} (hok : l.all okNum = true) (hn : l.length ≤ 1000000) : AFnP Try.prog 69 [lstE intE l] (.tup [lstE runE (ofL l), i64 0]) :=
  ((of_a l hn).mono fun r h => by
    rcases h.ex with ⟨_, out, h1, _, rfl⟩ | ⟨h1, _⟩
    · rw [isOf_eq h1 (ofL_is hok)]
    · rw [hok] at h1; cases h1).toP
theorem rof_p {l : List Int} (hok : l.all okNum = true) (hn : l.length ≤ 1000000) : AFnP Try.prog 72 [lstE intE l] (lstE runE (ofL l)) :=
  ((rof_a l hn hok).mono fun r h => by
    obtain ⟨out, h1, _, rfl⟩ := h.ex
    rw [isOf_eq h1 (ofL_is hok)]).toP
theorem ofL_len {l : List Int} : (ofL l).length ≤ l.length := by
  have := joinStep_len (srt (l.map one)) []
  rw [(srt_perm _).length_eq] at this
  simpa [ofL] using this
/-! how many numbers there are -/
end Go.Proofs.Ytailblpjmgabjaa
