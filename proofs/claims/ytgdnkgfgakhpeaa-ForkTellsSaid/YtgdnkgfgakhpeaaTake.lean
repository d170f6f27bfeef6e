/-
  fork's take: by a contract.
-/
import Derived.Test.YtgdnkgfgakhpeaaMem
import Derived.BigRegion
import Derived.StillTailTactics
namespace Go.Proofs.Ytgdnkgfgakhpeaa
open Go.RowKit
set_option linter.unusedVariables false
set_option linter.unusedSimpArgs false

/-- the first deque from i on that has some -/
def stealAt (dq : Nat → List Int) (m w : Nat) : Nat → Nat → Option Nat
  | 0, _ => none
  | f + 1, i => if dq ((w + i) % m) = [] then stealAt dq m w f (i + 1) else some ((w + i) % m)

/-- the task that a worker takes, and the deques then -/
def takeS (dq : Nat → List Int) (m w : Nat) : Int × (Nat → List Int) :=
  if dq w = [] then
    match stealAt dq m w m 0 with
    | some k => ((dq k).headD 0, upd dq k (dq k).tail)
    | none => (-1, dq)
  else ((dq w).getLastD 0, upd dq w (dq w).dropLast)

/-- the deques in memory -/
def DqAt (w : World) (D m : Nat) (S : List Nat) (dq : Nat → List Int) : Prop :=
  ∃ dv, Blk w D m dv ∧ ∀ i, i < m → IntsV w S (dv i) (dq i)

theorem DqAt.store {w : World} {D m : Nat} {S : List Nat} {dq : Nat → List Int} (h : DqAt w D m S dq) (hD : D ∈ S) {k : Nat} (hk : k < m) {v : Value} {l : List Int} (hv : IntsV w S v l) :
    DqAt (w.setCell ⟨D, k, none⟩ v) D m S (upd dq k l) := by
  obtain ⟨dv, hb, hd⟩ := h
  have hx : Ext [D] w (w.setCell ⟨D, k, none⟩ v) := (Ext.refl _ _).setCell (.inl (by simp)) _
  have hS : ∀ j ∈ [D], j ∈ S := by simpa using hD
  refine ⟨_, hb.set hk v, fun i hi => ?_⟩
  by_cases he : i = k
  · subst he; rw [upd_same, upd_same]; exact hv.same hx hS
  · rw [upd_other _ _ he, upd_other _ _ he]; exact (hd i hi).same hx hS

theorem DqAt.congrHeap {w w' : World} {D m : Nat} {S : List Nat} {dq : Nat → List Int} (h : DqAt w D m S dq) (hw : w'.heap = w.heap) : DqAt w' D m S dq := by
  obtain ⟨dv, hb, hd⟩ := h
  refine ⟨dv, hb.block (congrArg (·[D]?) hw), fun i hi => ?_⟩
  obtain ⟨p, c, hv, h1, h2, h0, ho⟩ := hd i hi
  refine ⟨p, c, hv, h1, h2, ?_, ho⟩
  rcases h0 with h0 | ⟨b, off, hp, hc⟩
  · exact .inl h0
  · exact .inr ⟨b, off, hp, fun k hk => by rw [← hc k hk]; exact World.cell?_of_block (by rw [hw])⟩

set_option maxHeartbeats 1000000 in
theorem take32 (C D m dc wk : Nat) (S : List Nat) (vC : Nat → Value) (dq : Nat → List Int) (w : World) (hwk : wk < m) (hm : m ≤ 1000) (hDS : D ∈ S)
    (hC : Blk w C 7 vC) (hCd : vC 2 = .slice (some ⟨D, 0, none⟩) m dc) (hD : DqAt w D m S dq) :
    Calls Try.prog 32 #[.pointer (some ⟨C, 0, none⟩), .int .i64 wk] w fun e w' => e = .returned (.int .i64 (takeS dq m wk).1) ∧ Ext [D] w w' ∧ DqAt w' D m S (takeS dq m wk).2 := by
  have hD' := hD
  obtain ⟨dv, hb, hd⟩ := hD
  have c2 := hC.cell (o := 2) (by omega)
  rw [hCd] at c2
  have cw := hb.cell hwk
  have hvw := hd wk hwk
  have zw := hb.frozen wk
  by_cases hown : dq wk = []
  · have HT : Hid (takeS dq m wk = match stealAt dq m wk m 0 with | some k => ((dq k).headD 0, upd dq k (dq k).tail) | none => (-1, dq)) := by
      show _ = _; unfold takeS; rw [if_pos hown]
    rw [hown] at hvw
    obtain ⟨p, c, hv, -, -, -, -⟩ := hvw
    rw [hv] at cw
    clear hown hv
    go_enter Try.func32, Try.ntmps32
    go_wp2
    go_loop [41] (fun i => ∃ k : Nat, k ≤ m ∧ i = .int .i64 k ∧ stealAt dq m wk m 0 = stealAt dq m wk (m - k) k) (fun i => m - (intOf i).toNat)
    case atStart => exact ⟨0, Nat.zero_le _, rfl, rfl⟩
    case round =>
      obtain ⟨k, hk, rfl, he⟩ := hrel
      have HE := Lib.hid he
      clear he
      by_cases hlt : k < m
      · have hmod : (wk + k) % m < m := Nat.mod_lt _ (by omega)
        have hmc : ((wk : Int) + k) % (m : Int) = (((wk + k) % m : Nat) : Int) := by rw [Int.natCast_emod]; rfl
        have HST : Hid (stealAt dq m wk (m - k) k = if dq ((wk + k) % m) = [] then stealAt dq m wk (m - (k + 1)) (k + 1) else some ((wk + k) % m)) := by
          show _ = _
          rw [show m - k = (m - (k + 1)) + 1 by omega]; rfl
        generalize (wk + k) % m = j at *
        have cj := hb.cell hmod
        have hvj := hd j hmod
        have zj := hb.frozen j
        by_cases hne : dq j = []
        · have HS2 := Lib.hid (HST.out.trans (if_pos hne))
          rw [hne] at hvj
          obtain ⟨p2, c2', hv, -, -, -, -⟩ := hvj
          rw [hv] at cj
          clear hv hne HST
          go_wp2
          go_round
          case rel => exact ⟨k + 1, by omega, by go_num, HE.out.trans HS2.out⟩
          case measure => simp [intOf]; omega
        · have hl : 0 < (dq j).length := List.length_pos_iff.2 hne
          obtain ⟨b, off, c2', hv, hbl, hbS⟩ := hvj.lt hne
          rw [hv] at cj hvj
          have hcap : (dq j).length ≤ c2' := by obtain ⟨p', c', h1, h2, _⟩ := hvj; cases h1; exact h2
          have hcm : c2' ≤ 9223372036854775807 := by obtain ⟨p', c', h1, h2, h3, _⟩ := hvj; cases h1; simpa [maxLen] using h3
          have hbD : b ≠ D := fun e => hbS (e ▸ hDS)
          have hin : IntsAt w (some ⟨b, off, none⟩) (dq j) := by obtain ⟨p', c', h1, h2, h3, h4, _⟩ := hvj; cases h1; exact h4
          obtain ⟨b', off', hp', hfst⟩ := hin.get 0 hl
          cases hp'
          rw [Nat.add_zero] at hfst
          have HT2 : Hid (takeS dq m wk = ((dq j)[0], upd dq j (dq j).tail)) := by
            show _ = _
            rw [HT.out, HE.out, HST.out, if_neg hne]
            show ((dq j).headD 0, upd dq j (dq j).tail) = _
            congr 1
            rw [List.headD_eq_head?_getD, List.head?_eq_getElem?, List.getElem?_eq_getElem hl]; rfl
          have hfst2 : ∀ v, (w.setCell ⟨D, j, none⟩ v).cell? ⟨b, off, none⟩ = some (.int .i64 (dq j)[0]) := fun v => by
            rw [World.cell?_setCell_other _ _ _ _ (by intro e; cases e; exact hbD rfl)]; exact hfst
          have hsl := run_slAtL (some ⟨b, off, none⟩) (dq j).length c2' 1 (by omega) (by omega)
          have HS : ∀ q, (q = some ⟨b, off + 1, none⟩ ∨ c2' = 1) → DqAt (w.setCell ⟨D, j, none⟩ (.slice q ((dq j).length - 1) (c2' - 1))) D m S (upd dq j (dq j).tail) :=
            fun q hq => DqAt.store hD' hDS hmod (hvj.tail hne hq)
          clear HT HST
          generalize (dq j)[0] = x at hfst hfst2 HT2
          generalize hL : (dq j).length = L at *
          have hL1 : decide ((0 : Int) < L) = true := by simp; omega
          by_cases hc1 : c2' = 1
          · have hsl2 : ∀ W, (Instr.sliceAt 22 (.slice (some ⟨b, off, none⟩) L c2') (some (.int .i64 1)) none none).run Try.prog W = .ok (.slice (some ⟨b, off, none⟩) (L - 1) (c2' - 1)) W := fun W => by rw [hsl W]; simp [hc1]
            have HS3 := HS (some ⟨b, off, none⟩) (.inr hc1)
            clear hsl hc1 HS
            go_wp2
            go_still_tail 8, (by kernel_rfl)
            go_wp2
            go_ret
            rw [HT2.out]
            exact ⟨rfl, Ext.store (by simp) rfl rfl rfl rfl, HS3.congrHeap rfl⟩
          · have hsl2 : ∀ W, (Instr.sliceAt 22 (.slice (some ⟨b, off, none⟩) L c2') (some (.int .i64 1)) none none).run Try.prog W = .ok (.slice (some ⟨b, off + 1, none⟩) (L - 1) (c2' - 1)) W := fun W => by rw [hsl W]; simp [hc1, Addr.add]
            have HS3 := HS (some ⟨b, off + 1, none⟩) (.inl rfl)
            clear hsl hc1 HS
            go_wp2
            go_still_tail 8, (by kernel_rfl)
            go_wp2
            go_ret
            rw [HT2.out]
            exact ⟨rfl, Ext.store (by simp) rfl rfl rfl rfl, HS3.congrHeap rfl⟩
      · obtain rfl : k = m := by omega
        have HT2 : Hid (takeS dq k wk = (-1, dq)) := by
          show _ = _
          rw [HT.out, HE.out, Nat.sub_self]; rfl
        go_wp2
        go_ret
        rw [HT2.out]
        exact ⟨rfl, Ext.refl _ _, hD'⟩
  · have hl : 0 < (dq wk).length := List.length_pos_iff.2 hown
    obtain ⟨b, off, c, hv, hbl, hbS⟩ := hvw.lt hown
    rw [hv] at cw hvw
    have hcap : (dq wk).length ≤ c := by obtain ⟨p', c', h1, h2, _⟩ := hvw; cases h1; exact h2
    have HS := DqAt.store hD' hDS hwk hvw.init
    have hin : IntsAt w (some ⟨b, off, none⟩) (dq wk) := by obtain ⟨p', c', h1, h2, h3, h4, _⟩ := hvw; cases h1; exact h4
    obtain ⟨b', off', hp', hlast⟩ := hin.get ((dq wk).length - 1) (by omega)
    cases hp'
    have HT : Hid (takeS dq m wk = ((dq wk)[(dq wk).length - 1], upd dq wk (dq wk).dropLast)) := by
      show _ = _; unfold takeS; rw [if_neg hown]
      congr 1
      rw [List.getLastD_eq_getLast?, List.getLast?_eq_getElem?, List.getElem?_eq_getElem (by omega)]; rfl
    generalize (dq wk)[(dq wk).length - 1] = x at hlast HT
    have hcm : c ≤ 9223372036854775807 := by obtain ⟨p', c', h1, h2, h3, _⟩ := hvw; cases h1; simpa [maxLen] using h3
    generalize hL : (dq wk).length = L at *
    have e0 : (0 : Int) ≤ (L : Int) - 1 := by omega
    have e1 : (1 : Int) ≤ (L : Int) := by omega
    have e2 : (L : Int) - 1 ≤ (c : Int) := by omega
    have e3 : (L : Int) ≤ (c : Int) + 1 := by omega
    have hsl := run_slAtH (some ⟨b, off, none⟩) L c ((L : Int) - 1) (by omega) (by omega)
    rw [show ((L : Int) - 1).toNat = L - 1 by omega] at hsl
    have hbD : b ≠ D := fun e => hbS (e ▸ hDS)
    have htn : ((L : Int) - 1).toNat = L - 1 := by omega
    have hlast2 : ∀ v, (w.setCell ⟨D, wk, none⟩ v).cell? ⟨b, off + (L - 1), none⟩ = some (.int .i64 x) := fun v => by
      rw [World.cell?_setCell_other _ _ _ _ (by intro e; cases e; exact hbD rfl)]; exact hlast
    have hwr : IntKind.i64.wrap ((L : Int) - 1) = (L : Int) - 1 := IntWalk.i64_in _ (by omega)
    go_enter Try.func32, Try.ntmps32
    go_wp2
    go_still_tail 11, (by kernel_rfl)
    go_wp2
    go_ret
    rw [HT.out]
    exact ⟨rfl, Ext.store (by simp) rfl rfl rfl rfl, HS.congrHeap rfl⟩
end Go.Proofs.Ytgdnkgfgakhpeaa
