/-
  Both Runs, whatever is given.
-/
import Derived.Test.YtgdnkgfgakhpeaaRRun
namespace Go.Proofs.Ytgdnkgfgakhpeaa
open Go.RowKit
set_option linter.unusedVariables false
set_option linter.unusedSimpArgs false

section
variable (p q r : Option Addr) (c d e : Nat) (l vals picks : List Int) (wk : Int) (w : World)
variable (hl : l.length ≤ 4611686018427387904) (hv : vals.length ≤ 4611686018427387904) (hpk : picks.length ≤ 4611686018427387904) (hsm : Small picks) (h0 : IntsAt w p l) (h1 : IntsAt w q vals) (h2 : IntsAt w r picks)

include hl hv hpk hsm h0 h1 h2 in
theorem run15 : Calls Try.prog 15 #[.slice p l.length c, .slice q vals.length d, .int .i64 wk, .slice r picks.length e] w (RunPost w (forkRun l vals wk picks)) := by
  by_cases hb : rightB l = false ∨ vals.length ≠ l.length ∨ wk < 1 ∨ 64 < wk ∨ 0 ≤ idxF oddB vals
  · refine (run15_bad p q r c d e l vals picks wk w hl hv h0 h1 hb).mono ?_
    rintro e' w' ⟨rfl, hx⟩
    unfold forkRun
    rw [if_pos hb]
    exact ⟨_, rfl, ResAt.no 0 _ 1, hx⟩
  · have h := hb
    simp only [not_or, Bool.not_eq_false, Decidable.not_not] at h
    obtain ⟨hr, hlen, hw1, hw2, hodd⟩ := h
    obtain ⟨m, rfl⟩ : ∃ m : Nat, wk = m := ⟨wk.toNat, by omega⟩
    have := run15_good p q r c d e l vals picks m w h0 h1 h2 l.length rfl hr hlen (by omega) (by omega) hodd hpk hsm
    unfold forkRun
    rw [if_neg hb, Int.toNat_natCast]
    rw [hlen]
    exact this

include hl hv hpk hsm h0 h1 h2 in
theorem run16 : Calls Try.prog 16 #[.slice p l.length c, .slice q vals.length d, .int .i64 wk, .slice r picks.length e] w (RunPost w (refRun l vals wk picks)) := by
  by_cases hb : rightB l = false ∨ vals.length ≠ l.length ∨ wk < 1 ∨ 64 < wk ∨ 0 ≤ idxF oddB vals
  · refine (run16_bad p q r c d e l vals picks wk w hl hv h0 h1 hb).mono ?_
    rintro e' w' ⟨rfl, hx⟩
    unfold refRun
    rw [if_pos hb]
    exact ⟨_, rfl, ResAt.no 0 _ 1, hx⟩
  · have h := hb
    simp only [not_or, Bool.not_eq_false, Decidable.not_not] at h
    obtain ⟨hr, hlen, hw1, hw2, hodd⟩ := h
    obtain ⟨m, rfl⟩ : ∃ m : Nat, wk = m := ⟨wk.toNat, by omega⟩
    have := run16_good p q r c d e l vals picks m w h0 h1 h2 l.length rfl hr hlen (by omega) (by omega) hodd hpk hsm
    unfold refRun
    rw [if_neg hb, Int.toNat_natCast]
    rw [hlen]
    exact this
end
end Go.Proofs.Ytgdnkgfgakhpeaa
