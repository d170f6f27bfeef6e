/-
  The functions that only read, more of them.
-/
import Derived.Test.YtgdnkgfgakhpeaaQ
namespace Go.Proofs.Ytgdnkgfgakhpeaa
open Go.RowKit
set_option linter.unusedVariables false
set_option linter.unusedSimpArgs false

theorem many35 (p : Option Addr) (c n : Nat) (w : World) (hl : n ≤ 4611686018427387904) (h0 : IntsAt w p (List.replicate n 1)) :
    Calls Try.prog 35 #[.slice p n c] w fun e w' => e = .returned (.int .i64 n) ∧ w' = w := by
  go_enter Try.func35, Try.ntmps35
  go_wp2
  go_loop [3, 4] (fun s i => ∃ k : Nat, k ≤ n ∧ i = .int .i64 k ∧ s = .int .i64 k) (fun _ i => n - (intOf i).toNat)
  case atStart => exact ⟨0, Nat.zero_le _, rfl, rfl⟩
  case round =>
    obtain ⟨k, hk, rfl, rfl⟩ := hrel
    by_cases hlt : k < n
    · obtain ⟨b, off, rfl, hc⟩ := h0.get k (by simpa using hlt)
      rw [List.getElem_replicate] at hc
      go_wp2
      go_round
      case rel => exact ⟨k + 1, by omega, by go_num, by go_num⟩
      case measure => simp [intOf]; omega
    · go_wp2
      go_ret
      exact ⟨ret_int (by omega), rfl⟩

/-- who is next, of n that have one step left each -/
def nextW (picks : List Int) (step n : Nat) (last : Int) : Int :=
  if step < picks.length then pickN (picks.getD step 0) n else if 0 ≤ last ∧ last + 1 < n then last + 1 else 0
theorem nextW_bd (picks : List Int) (step n : Nat) (last : Int) (hn : 0 < n) : 0 ≤ nextW picks step n last ∧ nextW picks step n last < n := by
  unfold nextW
  have := pickN_bd (picks.getD step 0) n (by omega)
  split
  · exact this
  · split <;> omega

/-- values of ints that a machine holds -/
def Small (l : List Int) : Prop := ∀ x ∈ l, -9223372036854775808 ≤ x ∧ x ≤ 9223372036854775807

theorem refNext25 (p q : Option Addr) (c d n step : Nat) (l : List Int) (last : Int) (w : World) (hl : l.length ≤ 4611686018427387904) (hn : 0 < n) (hn2 : n ≤ 1000000)
    (hs : step ≤ 1000000) (hla : -1 ≤ last) (hlb : last < n) (hx : Small l) (h0 : IntsAt w p l) (h1 : IntsAt w q (List.replicate n 1)) :
    Calls Try.prog 25 #[.slice p l.length c, .int .i64 step, .slice q n d, .int .i64 last] w fun e w' => e = .returned (.int .i64 (nextW l step n last)) ∧ w' = w := by
  have hn0 : ((n : Int) == 0) = false := by simp; omega
  have hs0 : (0 : Int) ≤ step := by omega
  by_cases hst : step < l.length
  · obtain ⟨b, off, rfl, hc⟩ := h0.get step hst
    have hsm := hx l[step] (List.getElem_mem hst)
    have HX : Hid (nextW l step n last = pickN l[step] n) := by
      show _ = _
      unfold nextW; rw [if_pos hst]; simp [hst]
    have hbd := pickN_bd l[step] n (by omega)
    generalize l[step] = x at hc hsm HX hbd
    have hsti : decide ((step : Int) < l.length) = true := by simp; omega
    by_cases hx0 : x < 0
    · have HP : Hid (-((x + 1).tmod (n : Int)) = pickN x n) := by show _ = _; unfold pickN; rw [if_pos hx0, ← Int.neg_tmod, Int.tmod_eq_emod_of_nonneg (by omega)]
      go_enter Try.func25, Try.ntmps25
      go_wp2_with (go_at_call 35; refine (many35 q d n w (by omega) h1).mono ?_; rintro e w' ⟨rfl, rfl⟩)
      go_loop [11, 12] (fun r i => ∃ k : Nat, (k : Int) ≤ pickN x n ∧ i = .int .i64 k ∧ r = .int .i64 (pickN x n - k)) (fun _ i => n - (intOf i).toNat)
      case atStart => exact ⟨0, by simpa using hbd.1, rfl, by rw [HP.out]; simp⟩
      case round =>
        obtain ⟨k, hk, rfl, rfl⟩ := hrel
        have hlt : k < n := by omega
        obtain ⟨b', off', rfl, hc'⟩ := h1.get k (by simpa using hlt)
        rw [List.getElem_replicate] at hc'
        by_cases hkk : pickN x n = k
        · have hz : (pickN x n - k == 0) = true := by simp; omega
          have HK := Lib.hid hkk
          clear hkk
          go_wp2
          go_ret
          exact ⟨ret_int (by rw [HX.out, HK.out]), rfl⟩
        · have hz : (pickN x n - k == 0) = false := by simp; omega
          have e1 : pickN x n - k - 1 = pickN x n - ((k + 1 : Nat) : Int) := by omega
          have E1 := Lib.hid e1
          have hk1 : ((k + 1 : Nat) : Int) ≤ pickN x n := by omega
          clear e1 hkk
          go_wp2
          go_round
          case rel => exact ⟨k + 1, hk1, by go_num, by rw [E1.out]⟩
          case measure => simp [intOf]; omega
    · have HP : Hid (x % (n : Int) = pickN x n) := by show _ = _; unfold pickN; rw [if_neg hx0]
      have hx1 : 0 ≤ x := by omega
      have hx2 : decide (x < 0) = false := by simpa using hx0
      go_enter Try.func25, Try.ntmps25
      go_wp2_with (go_at_call 35; refine (many35 q d n w (by omega) h1).mono ?_; rintro e w' ⟨rfl, rfl⟩)
      go_loop [11, 12] (fun r i => ∃ k : Nat, (k : Int) ≤ pickN x n ∧ i = .int .i64 k ∧ r = .int .i64 (pickN x n - k)) (fun _ i => n - (intOf i).toNat)
      case atStart => exact ⟨0, by simpa using hbd.1, rfl, by rw [HP.out]; simp⟩
      case round =>
        obtain ⟨k, hk, rfl, rfl⟩ := hrel
        have hlt : k < n := by omega
        obtain ⟨b', off', rfl, hc'⟩ := h1.get k (by simpa using hlt)
        rw [List.getElem_replicate] at hc'
        by_cases hkk : pickN x n = k
        · have hz : (pickN x n - k == 0) = true := by simp; omega
          have HK := Lib.hid hkk
          clear hkk
          go_wp2
          go_ret
          exact ⟨ret_int (by rw [HX.out, HK.out]), rfl⟩
        · have hz : (pickN x n - k == 0) = false := by simp; omega
          have e1 : pickN x n - k - 1 = pickN x n - ((k + 1 : Nat) : Int) := by omega
          have E1 := Lib.hid e1
          have hk1 : ((k + 1 : Nat) : Int) ≤ pickN x n := by omega
          clear e1 hkk
          go_wp2
          go_round
          case rel => exact ⟨k + 1, hk1, by go_num, by rw [E1.out]⟩
          case measure => simp [intOf]; omega
  · have hsti : decide ((step : Int) < l.length) = false := by simp; omega
    by_cases hl0 : 0 ≤ last
    · have hm : ((last + 1) % (n : Int)) = nextW l step n last := by
        unfold nextW; rw [if_neg hst]
        by_cases h : last + 1 < n
        · rw [if_pos ⟨hl0, h⟩, Int.emod_eq_of_lt (by omega) h]
        · rw [if_neg (by omega), show last + 1 = n from by omega]; simp
      have hbd := nextW_bd l step n last hn
      have HM := Lib.hid hm
      clear hm
      obtain ⟨b, off, rfl, hc⟩ := h1.get (nextW l step n last).toNat (by simp; omega)
      rw [List.getElem_replicate] at hc
      rw [← HM.out] at hc hbd
      have hd : decide (last < (n : Int)) = true := by simpa using hlb
      go_enter Try.func25, Try.ntmps25
      go_wp2_with (go_at_call 35; refine (many35 _ d n w (by omega) h1).mono ?_; rintro e w' ⟨rfl, rfl⟩)
      refine wp_loop_rounds 1 ?_
      rw [rounds_succ]
      go_wp2
      go_ret
      exact ⟨ret_int HM.out, rfl⟩
    · have hl1 : decide (0 ≤ last) = false := by simpa using hl0
      have HM : Hid (nextW l step n last = 0) := by show _ = _; unfold nextW; rw [if_neg hst, if_neg (by omega)]
      obtain ⟨b, off, rfl, hc⟩ := h1.get 0 (by simp; omega)
      rw [List.getElem_replicate, Nat.add_zero] at hc
      have hmz : ∀ w : World, (0 : Int) % (n : Int) = 0 := by simp
      go_enter Try.func25, Try.ntmps25
      go_wp2_with (go_at_call 35; refine (many35 _ d n w (by omega) h1).mono ?_; rintro e w' ⟨rfl, rfl⟩)
      refine wp_loop_rounds 1 ?_
      rw [rounds_succ]
      go_wp2
      go_ret
      exact ⟨ret_int (by rw [HM.out]), rfl⟩
end Go.Proofs.Ytgdnkgfgakhpeaa
