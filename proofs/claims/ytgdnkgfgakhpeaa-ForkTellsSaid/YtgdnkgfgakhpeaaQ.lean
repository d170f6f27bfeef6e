/-
  The functions that only read: each by a contract.
-/
import Derived.Test.YtgdnkgfgakhpeaaKit
namespace Go.Proofs.Ytgdnkgfgakhpeaa
open Go.RowKit
set_option linter.unusedVariables false
set_option linter.unusedSimpArgs false

/-- which of n things a raw number speaks of -/
def pickN (c n : Int) : Int := (if c < 0 then -(c + 1) else c) % n
theorem pickN_bd (c n : Int) (h : 0 < n) : 0 ≤ pickN c n ∧ pickN c n < n := by
  unfold pickN; exact ⟨Int.emod_nonneg _ (by omega), Int.emod_lt_of_pos _ h⟩

theorem pick11 (c n : Int) (w : World) (h1 : -9223372036854775808 ≤ c) (h2 : c ≤ 9223372036854775807) (hn : 0 < n) (hn2 : n ≤ 9223372036854775807) :
    Calls Try.prog 11 #[.int .i64 c, .int .i64 n] w fun e w' => e = .returned (.int .i64 (pickN c n)) ∧ w' = w := by
  by_cases h : c < 0
  · go_enter Try.func11, Try.ntmps11
    go_wp2
    go_ret
    refine ⟨ret_int ?_, rfl⟩
    unfold pickN; rw [if_pos h]; rw [← Int.neg_tmod, Int.tmod_eq_emod_of_nonneg (by omega)]
  · go_enter Try.func11, Try.ntmps11
    go_wp2
    go_ret
    refine ⟨ret_int ?_, rfl⟩
    unfold pickN; rw [if_neg (by omega)]

theorem place30 (c n : Int) (w : World) (h1 : -9223372036854775808 ≤ c) (h2 : c ≤ 9223372036854775807) (hn : 0 < n) (hn2 : n ≤ 9223372036854775807) :
    Calls Try.prog 30 #[.int .i64 c, .int .i64 n] w fun e w' => e = .returned (.int .i64 (pickN c n)) ∧ w' = w := by
  by_cases h : c < 0
  · go_enter Try.func30, Try.ntmps30
    go_wp2
    go_ret
    refine ⟨ret_int ?_, rfl⟩
    unfold pickN; rw [if_pos h]; rw [← Int.neg_tmod, Int.tmod_eq_emod_of_nonneg (by omega)]
  · go_enter Try.func30, Try.ntmps30
    go_wp2
    go_ret
    refine ⟨ret_int ?_, rfl⟩
    unfold pickN; rw [if_neg (by omega)]

/-- Ints: are two lists the same? -/
theorem ints18 (p q : Option Addr) (c d : Nat) (l m : List Int) (w : World) (hl : l.length ≤ 4611686018427387904) (hm : m.length ≤ 4611686018427387904)
    (h0 : IntsAt w p l) (h1 : IntsAt w q m) :
    Calls Try.prog 18 #[.slice p l.length c, .slice q m.length d] w fun e w' => e = .returned (.bool (decide (l = m))) ∧ ∃ n, w' = w.drewN n := by
  by_cases hlen : l.length = m.length
  · have HL := Lib.hid hlen
    have HR : Hid (∀ k, k ≤ l.length → l.take k = m.take k → l.length ≤ k → l = m) := by
      intro k hk e hk'
      rw [List.take_of_length_le (by omega), List.take_of_length_le (by omega)] at e; exact e
    clear hlen
    go_enter Try.func18, Try.ntmps18
    go_wp2
    · exfalso; have := HL.out; simp_all
    go_loopw [5] (fun i wr => ∃ k n : Nat, k ≤ l.length ∧ i = .int .i64 k ∧ wr = w.drewN n ∧ l.take k = m.take k) (fun i _ => l.length - (intOf i).toNat)
    case atStart => exact ⟨0, 0, Nat.zero_le _, rfl, rfl, rfl⟩
    case round =>
      obtain ⟨k, n, hk, rfl, rfl, he⟩ := hrel
      have HE := Lib.hid he
      clear he
      by_cases hlt : k < l.length
      · have hlt2 : k < m.length := by rw [← HL.out]; exact hlt
        obtain ⟨b, off, rfl, hc⟩ := h0.get k hlt
        obtain ⟨b', off', rfl, hc'⟩ := h1.get k hlt2
        have HN : Hid (l[k] ≠ m[k] → l ≠ m) := by
          intro h e; subst e; exact h rfl
        have HS : Hid (l[k] = m[k] → l.take (k + 1) = m.take (k + 1)) := by
          intro h; rw [List.take_succ_eq_append_getElem hlt, List.take_succ_eq_append_getElem hlt2, h, HE.out]
        generalize l[k] = x at hc HN HS
        generalize m[k] = y at hc' HN HS
        by_cases hxy : x = y
        · have HX := Lib.hid hxy
          have hb : (x != y) = false := by simpa using hxy
          clear hxy
          go_wp2
          go_quiet (fail)
          go_wp2
          go_roundw
          case rel => exact ⟨k+1, n + nq, by omega, by go_num, by simp, HS.out HX.out⟩
          case measure => simp [intOf]; omega
        · have hb : (x != y) = true := by simpa using hxy
          go_wp2
          go_quiet (fail)
          go_wp2
          go_ret
          exact ⟨ret_bool (by simpa using HN.out hxy), _, by simp; rfl⟩
      · go_wp2
        go_ret
        exact ⟨ret_bool (by simpa using HR.out k hk HE.out (by omega)), _, rfl⟩
  · go_enter Try.func18, Try.ntmps18
    have hlen' : ((l.length : Int) != m.length) = true := by simp; omega
    go_wp2
    go_ret
    exact ⟨ret_bool (by simp; intro h; exact hlen (by rw [h])), 0, rfl⟩

/-- S1 -/
def rightB (l : List Int) : Bool := decide (1 ≤ l.length) && decide (l.length ≤ 300) && (List.range l.length).all fun i => if i = 0 then decide (l.getD i 0 = -1) else decide (0 ≤ l.getD i 0 ∧ l.getD i 0 < i)

theorem rightB_iff (l : List Int) : rightB l = true ↔ 1 ≤ l.length ∧ l.length ≤ 300 ∧ ∀ i (h : i < l.length), if i = 0 then l[i] = -1 else 0 ≤ l[i] ∧ l[i] < i := by
  unfold rightB
  simp only [Bool.and_eq_true, decide_eq_true_eq, List.all_eq_true, List.mem_range, and_assoc]
  refine and_congr_right fun _ => and_congr_right fun _ => ⟨fun h i hi => ?_, fun h i hi => ?_⟩
  · have := h i hi
    simp only [List.getD_eq_getElem?_getD, List.getElem?_eq_getElem hi, Option.getD_some] at this
    split <;> rename_i h0 <;> simpa [h0] using this
  · have := h i hi
    simp only [List.getD_eq_getElem?_getD, List.getElem?_eq_getElem hi, Option.getD_some]
    split <;> rename_i h0 <;> simpa [h0] using this

/-- so far parents are right -/
def RightTo (l : List Int) (k : Nat) : Prop := ∀ i (h : i < l.length), i < k → if i = 0 then l[i] = -1 else 0 ≤ l[i] ∧ l[i] < i
theorem RightTo.zero (l : List Int) : RightTo l 0 := fun i _ h => by omega
theorem RightTo.succ {l : List Int} {k : Nat} (h : RightTo l k) (hk : k < l.length) (hv : if k = 0 then l[k] = -1 else 0 ≤ l[k] ∧ l[k] < k) : RightTo l (k + 1) := fun i hi hik => by
  by_cases he : i = k
  · subst he; exact hv
  · exact h i hi (by omega)
theorem rightB_false {l : List Int} {k : Nat} (hk : k < l.length) (hv : ¬ if k = 0 then l[k] = -1 else 0 ≤ l[k] ∧ l[k] < k) : rightB l = false := by
  rw [Bool.eq_false_iff]; intro h; rw [rightB_iff] at h; exact hv (h.2.2 k hk)
theorem rightB_true {l : List Int} {k : Nat} (h : RightTo l k) (hk : l.length ≤ k) (h1 : 1 ≤ l.length) (h2 : l.length ≤ 300) : rightB l = true :=
  (rightB_iff l).2 ⟨h1, h2, fun i hi => h i hi (by omega)⟩

theorem right12 (p : Option Addr) (c : Nat) (l : List Int) (w : World) (hl : l.length ≤ 4611686018427387904) (h0 : IntsAt w p l) :
    Calls Try.prog 12 #[.slice p l.length c] w fun e w' => e = .returned (.bool (rightB l)) ∧ w' = w := by
  go_enter Try.func12, Try.ntmps12
  go_wp2
  go_loop [7] (fun i => ∃ k : Nat, k ≤ l.length ∧ i = .int .i64 k ∧ RightTo l k) (fun i => l.length - (intOf i).toNat)
  case atStart => exact ⟨0, Nat.zero_le _, rfl, .zero l⟩
  case round =>
    obtain ⟨k, hk, rfl, hr⟩ := hrel
    have HR := Lib.hid hr
    clear hr
    by_cases hlt : k < l.length
    · obtain ⟨b, off, rfl, hc⟩ := h0.get k hlt
      have HF : Hid ((¬ if k = 0 then l[k] = -1 else 0 ≤ l[k] ∧ l[k] < k) → rightB l = false) := fun h => rightB_false hlt h
      have HS : Hid ((if k = 0 then l[k] = -1 else 0 ≤ l[k] ∧ l[k] < k) → RightTo l (k + 1)) := fun h => HR.out.succ hlt h
      generalize l[k] = x at hc HF HS
      by_cases hk0 : k = 0
      · by_cases hx : x = -1
        · have hb : (x != -1) = false := by simpa using hx
          have HS2 := Lib.hid (HS.out (by rw [if_pos hk0]; exact hx))
          have hk1 : ((k : Int) == 0) = true := by simp; omega
          have hk2 : ¬ (0 : Int) < k := by omega
          have hk3 : decide ((0 : Int) < k) = false := by simp; omega
          clear hk0 hx HS HF
          go_wp2
          go_round
          case rel => exact ⟨k + 1, by omega, by go_num, HS2.out⟩
          case measure => simp [intOf]; omega
        · have hb : (x != -1) = true := by simpa using hx
          have HF2 := Lib.hid (HF.out (by rw [if_pos hk0]; exact hx))
          have hk1 : ((k : Int) == 0) = true := by simp; omega
          clear hk0 hx HS HF
          go_wp2
          go_ret
          exact ⟨ret_bool HF2.out.symm, rfl⟩
      · have hk1 : ((k : Int) == 0) = false := by simp; omega
        have hk2 : (0 : Int) < k := by omega
        by_cases hx0 : x < 0
        · have HF2 := Lib.hid (HF.out (by rw [if_neg hk0]; omega))
          clear HS HF hk0
          go_wp2
          go_ret
          exact ⟨ret_bool HF2.out.symm, rfl⟩
        · have hx1 : decide (x < 0) = false := by simpa using hx0
          by_cases hx2 : (k : Int) ≤ x
          · have HF2 := Lib.hid (HF.out (by rw [if_neg hk0]; omega))
            clear HS HF hk0
            go_wp2
            go_ret
            exact ⟨ret_bool HF2.out.symm, rfl⟩
          · have hx3 : decide ((k : Int) ≤ x) = false := by simpa using hx2
            have HS2 := Lib.hid (HS.out (by rw [if_neg hk0]; omega))
            clear HS HF hk0
            go_wp2
            go_round
            case rel => exact ⟨k + 1, by omega, by go_num, HS2.out⟩
            case measure => simp [intOf]; omega
    · by_cases h1 : 1 ≤ l.length
      · go_wp2
        go_ret
        refine ⟨ret_bool ?_, rfl⟩
        by_cases h2 : l.length ≤ 300
        · rw [rightB_true HR.out (by omega) h1 h2]; simp; omega
        · have : rightB l = false := by rw [Bool.eq_false_iff]; intro h; rw [rightB_iff] at h; exact h2 h.2.1
          rw [this]; simp; omega
      · have hz : decide ((1 : Int) ≤ l.length) = false := by simp; omega
        go_wp2
        go_ret
        refine ⟨ret_bool ?_, rfl⟩
        have : rightB l = false := by rw [Bool.eq_false_iff]; intro h; rw [rightB_iff] at h; exact h1 h.1
        rw [this]

theorem right13 (p : Option Addr) (c : Nat) (l : List Int) (w : World) (hl : l.length ≤ 4611686018427387904) (h0 : IntsAt w p l) :
    Calls Try.prog 13 #[.slice p l.length c] w fun e w' => e = .returned (.bool (rightB l)) ∧ w' = w := by
  by_cases h1 : l.length < 1
  · have HF : Hid (rightB l = false) := by show _ = _; rw [Bool.eq_false_iff]; intro h; rw [rightB_iff] at h; omega
    go_enter Try.func13, Try.ntmps13
    go_wp2
    go_ret
    exact ⟨ret_bool HF.out.symm, rfl⟩
  have h1' : decide ((l.length : Int) < 1) = false := by simp; omega
  by_cases h2 : 300 < l.length
  · have HF : Hid (rightB l = false) := by show _ = _; rw [Bool.eq_false_iff]; intro h; rw [rightB_iff] at h; omega
    go_enter Try.func13, Try.ntmps13
    go_wp2
    go_ret
    exact ⟨ret_bool HF.out.symm, rfl⟩
  have h2' : decide ((300 : Int) < l.length) = false := by simp; omega
  obtain ⟨b, off, hp, hc0⟩ := h0.get 0 (by omega)
  have HF : Hid (l[0] ≠ -1 → rightB l = false) := fun h => rightB_false (k := 0) (by omega) (by rw [if_pos rfl]; exact h)
  have HS : Hid (l[0] = -1 → RightTo l 1) := fun h => (RightTo.zero l).succ (by omega) (by rw [if_pos rfl]; exact h)
  subst hp
  generalize l[0] = x at hc0 HF HS
  simp only [Nat.add_zero] at hc0
  by_cases hx : x = -1
  · have hb : (x != -1) = false := by simpa using hx
    have HS2 := Lib.hid (HS.out hx)
    clear hx HS HF
    go_enter Try.func13, Try.ntmps13
    go_wp2
    go_loop [3] (fun i => ∃ k : Nat, 0 < k ∧ k ≤ l.length ∧ i = .int .i64 k ∧ RightTo l k) (fun i => l.length - (intOf i).toNat)
    case atStart => exact ⟨1, by omega, by omega, rfl, HS2.out⟩
    case round =>
      obtain ⟨k, hk0, hk, rfl, hr⟩ := hrel
      have HR := Lib.hid hr
      clear hr
      by_cases hlt : k < l.length
      · obtain ⟨b', off', hp, hc⟩ := h0.get k hlt
        cases hp
        have HF : Hid ((¬ if k = 0 then l[k] = -1 else 0 ≤ l[k] ∧ l[k] < k) → rightB l = false) := fun h => rightB_false hlt h
        have HS : Hid ((if k = 0 then l[k] = -1 else 0 ≤ l[k] ∧ l[k] < k) → RightTo l (k + 1)) := fun h => HR.out.succ hlt h
        generalize l[k] = y at hc HF HS
        by_cases hx0 : y < 0
        · have HF2 := Lib.hid (HF.out (by rw [if_neg (by omega)]; omega))
          clear HS HF
          go_wp2
          go_ret
          exact ⟨ret_bool HF2.out.symm, rfl⟩
        · have hx1 : decide (y < 0) = false := by simpa using hx0
          by_cases hx2 : (k : Int) ≤ y
          · have HF2 := Lib.hid (HF.out (by rw [if_neg (by omega)]; omega))
            clear HS HF
            go_wp2
            go_ret
            exact ⟨ret_bool HF2.out.symm, rfl⟩
          · have hx3 : decide ((k : Int) ≤ y) = false := by simpa using hx2
            have HS2 := Lib.hid (HS.out (by rw [if_neg (by omega)]; omega))
            clear HS HF
            go_wp2
            go_round
            case rel => exact ⟨k + 1, by omega, by omega, by go_num, HS2.out⟩
            case measure => simp [intOf]; omega
      · go_wp2
        go_ret
        exact ⟨ret_bool (rightB_true HR.out (by omega) (by omega) (by omega)).symm, rfl⟩
  · have hb : (x != -1) = true := by simpa using hx
    have HF2 := Lib.hid (HF.out hx)
    clear hx HS HF
    go_enter Try.func13, Try.ntmps13
    go_wp2
    go_ret
    exact ⟨ret_bool HF2.out.symm, rfl⟩

end Go.Proofs.Ytgdnkgfgakhpeaa
