/-
  The reference's Run, bad ways: by a contract.
-/
import Derived.Test.YtgdnkgfgakhpeaaRPure
namespace Go.Proofs.Ytgdnkgfgakhpeaa
open Go.RowKit
set_option linter.unusedVariables false
set_option linter.unusedSimpArgs false

theorem idxF_neg {g : Int → Bool} {l : List Int} : ¬ 0 ≤ idxF g l → ∀ i (h : i < l.length), g l[i] = false := by
  intro h i hi
  unfold idxF at h
  cases hf : l.findIdx? g with
  | some k => rw [hf] at h; simp at h
  | none =>
    rw [List.findIdx?_eq_none_iff] at hf
    exact hf _ (List.getElem_mem hi)

theorem idxF_pos {g : Int → Bool} {l : List Int} : 0 ≤ idxF g l → ¬ ∀ i (h : i < l.length), g l[i] = false := by
  intro h ha
  rw [idxF_none (k := l.length) (Nat.le_refl _) (fun i hi _ => ha i hi)] at h
  omega

section
variable (p q r : Option Addr) (c d e : Nat) (l vals picks : List Int) (wk : Int) (w : World)
variable (hl : l.length ≤ 4611686018427387904) (hv : vals.length ≤ 4611686018427387904) (h0 : IntsAt w p l) (h1 : IntsAt w q vals)

set_option maxRecDepth 100000 in
set_option maxHeartbeats 1000000 in
include hl hv h0 h1 in
theorem run16_bad (hb : rightB l = false ∨ vals.length ≠ l.length ∨ wk < 1 ∨ 64 < wk ∨ 0 ≤ idxF oddB vals) :
    Calls Try.prog 16 #[.slice p l.length c, .slice q vals.length d, .int .i64 wk, .slice r picks.length e] w fun e w' => e = .returned (.tuple #[.agg #[.int .i64 0, .slice none 0 0, .slice none 0 0, .int .i64 0], .int .i64 1]) ∧ Ext [] w w' := by
  have hr13 := right13 p c l (w.alloc (.cells #[.int .i64 0, .slice none 0 0, .slice none 0 0, .int .i64 0] 30)) hl (h0.ext0 ((Ext.refl [] _).alloc _))
  cases hr : rightB l with
  | false =>
    have HR := Lib.hid hr
    clear hr hb
    rw [HR.out] at hr13
    go_enter Try.func16, Try.ntmps16
    go_wp2_with ((go_at_call 13; refine hr13.mono ?_; rintro e w' ⟨rfl, hw'⟩; subst w'))
    refine bodyPost_ret (v := .tuple #[.agg #[.int .i64 0, .slice none 0 0, .slice none 0 0, .int .i64 0], .int .i64 1]) (by simp [results, Try.results16, go_sem]) rfl ⟨rfl, ?_⟩
    (repeat (first | exact Ext.refl _ _ | refine Ext.alloc ?_ _ | refine Ext.setCell ?_ (.inr (by simp)) _ | refine Ext.drew ?_))
  | true =>
    rw [hr] at hr13
    have HR := Lib.hid hr
    clear hr
    by_cases hlen : vals.length = l.length
    · have hlb : ((vals.length : Int) != (l.length : Int)) = false := by simp; omega
      by_cases hw1 : wk < 1
      · clear hb
        go_enter Try.func16, Try.ntmps16
        go_wp2_with ((go_at_call 13; refine hr13.mono ?_; rintro e w' ⟨rfl, hw'⟩; subst w'))
        refine bodyPost_ret (v := .tuple #[.agg #[.int .i64 0, .slice none 0 0, .slice none 0 0, .int .i64 0], .int .i64 1]) (by simp [results, Try.results16, go_sem]) rfl ⟨rfl, ?_⟩
        (repeat (first | exact Ext.refl _ _ | refine Ext.alloc ?_ _ | refine Ext.setCell ?_ (.inr (by simp)) _ | refine Ext.drew ?_))
      · have hw1b : decide (wk < 1) = false := by simpa using hw1
        by_cases hw2 : 64 < wk
        · clear hb
          go_enter Try.func16, Try.ntmps16
          go_wp2_with ((go_at_call 13; refine hr13.mono ?_; rintro e w' ⟨rfl, hw'⟩; subst w'))
          refine bodyPost_ret (v := .tuple #[.agg #[.int .i64 0, .slice none 0 0, .slice none 0 0, .int .i64 0], .int .i64 1]) (by simp [results, Try.results16, go_sem]) rfl ⟨rfl, ?_⟩
          (repeat (first | exact Ext.refl _ _ | refine Ext.alloc ?_ _ | refine Ext.setCell ?_ (.inr (by simp)) _ | refine Ext.drew ?_))
        · have hw2b : decide (64 < wk) = false := by simpa using hw2
          have HODD : Hid (0 ≤ idxF oddB vals) := by
            show _
            rcases hb with h | h | h | h | h
            · rw [HR.out] at h; cases h
            · exact absurd hlen h
            · exact absurd h hw1
            · exact absurd h hw2
            · exact h
          clear hb hlen
          go_enter Try.func16, Try.ntmps16
          go_wp2_with ((go_at_call 13; refine hr13.mono ?_; rintro e w' ⟨rfl, hw'⟩; subst w'))
          go_loop [10] (fun i => ∃ k : Nat, k ≤ vals.length ∧ i = .int .i64 k ∧ Hid (∀ i (h : i < vals.length), i < k → oddB vals[i] = false)) (fun i => vals.length - (intOf i).toNat)
          case atStart => exact ⟨0, Nat.zero_le _, rfl, fun i _ h => absurd h (by omega)⟩
          case round =>
            obtain ⟨k, hk, rfl, HB⟩ := hrel
            have hlt : k < vals.length := by
              rcases Nat.lt_or_ge k vals.length with h | h
              · exact h
              · exact absurd (fun i hi => HB.out i hi (by omega)) (idxF_pos HODD.out)
            obtain ⟨b, off, rfl, hc⟩ := (h1.ext0 ((Ext.refl [] w).alloc (.cells #[.int .i64 0, .slice none 0 0, .slice none 0 0, .int .i64 0] 30))).get k hlt
            have HS : Hid (oddB vals[k] = false → ∀ i (h : i < vals.length), i < k + 1 → oddB vals[i] = false) := fun h i hi hik => by
              by_cases he : i = k
              · subst he; exact h
              · exact HB.out i hi (by omega)
            generalize vals[k] = x at hc HS
            by_cases hx1 : x < -1099511627776
            · go_wp2
              refine bodyPost_ret (v := .tuple #[.agg #[.int .i64 0, .slice none 0 0, .slice none 0 0, .int .i64 0], .int .i64 1]) (by simp [results, Try.results16, go_sem]) rfl ⟨rfl, ?_⟩
              (repeat (first | exact Ext.refl _ _ | refine Ext.alloc ?_ _ | refine Ext.setCell ?_ (.inr (by simp)) _ | refine Ext.drew ?_))
            · by_cases hx2 : 1099511627776 < x
              · go_wp2
                refine bodyPost_ret (v := .tuple #[.agg #[.int .i64 0, .slice none 0 0, .slice none 0 0, .int .i64 0], .int .i64 1]) (by simp [results, Try.results16, go_sem]) rfl ⟨rfl, ?_⟩
                (repeat (first | exact Ext.refl _ _ | refine Ext.alloc ?_ _ | refine Ext.setCell ?_ (.inr (by simp)) _ | refine Ext.drew ?_))
              · go_wp2
                go_round
                case rel => exact ⟨k + 1, by omega, by go_num, HS.out (by simp [oddB]; omega)⟩
                case measure => simp [intOf]; omega
    · have hlb : ((vals.length : Int) != (l.length : Int)) = true := by simp; omega
      clear hb
      go_enter Try.func16, Try.ntmps16
      go_wp2_with ((go_at_call 13; refine hr13.mono ?_; rintro e w' ⟨rfl, hw'⟩; subst w'))
      refine bodyPost_ret (v := .tuple #[.agg #[.int .i64 0, .slice none 0 0, .slice none 0 0, .int .i64 0], .int .i64 1]) (by simp [results, Try.results16, go_sem]) rfl ⟨rfl, ?_⟩
      (repeat (first | exact Ext.refl _ _ | refine Ext.alloc ?_ _ | refine Ext.setCell ?_ (.inr (by simp)) _ | refine Ext.drew ?_))
end
end Go.Proofs.Ytgdnkgfgakhpeaa
