/-
  fork's join: by a contract.
-/
import Derived.Test.YtgdnkgfgakhpeaaMem
import Derived.BigRegion
import Derived.StillTailTactics
namespace Go.Proofs.Ytgdnkgfgakhpeaa
open Go.RowKit
set_option linter.unusedVariables false
set_option linter.unusedSimpArgs false

/-- a frame's cells -/
def frCells (par : Nat → Int) (kv : Nat → Value) (sm lf : Nat → Int) : Nat → Value := fun o =>
  match o % 4 with
  | 0 => .int .i64 (par (o / 4))
  | 1 => kv (o / 4)
  | 2 => .int .i64 (sm (o / 4))
  | _ => .int .i64 (lf (o / 4))

theorem frCells0 (par kv sm lf) (t : Nat) : frCells par kv sm lf (t * 4) = .int .i64 (par t) := by
  unfold frCells; rw [show t * 4 % 4 = 0 by omega, show t * 4 / 4 = t by omega]; rfl
theorem frCells1 (par kv sm lf) (t : Nat) : frCells par kv sm lf (t * 4 + 1) = kv t := by
  unfold frCells; rw [show (t * 4 + 1) % 4 = 1 by omega, show (t * 4 + 1) / 4 = t by omega]; rfl
theorem frCells2 (par kv sm lf) (t : Nat) : frCells par kv sm lf (t * 4 + 2) = .int .i64 (sm t) := by
  unfold frCells; rw [show (t * 4 + 2) % 4 = 2 by omega, show (t * 4 + 2) / 4 = t by omega]; rfl
theorem frCells3 (par kv sm lf) (t : Nat) : frCells par kv sm lf (t * 4 + 3) = .int .i64 (lf t) := by
  unfold frCells; rw [show (t * 4 + 3) % 4 = 3 by omega, show (t * 4 + 3) / 4 = t by omega]; rfl

/-- what a task's end does to the sums, and to how many kids are left; whether the first one is done -/
def joinS (par : Nat → Int) : Nat → (Nat → Int) → (Nat → Int) → Nat → (Nat → Int) × (Nat → Int) × Bool
  | 0, s, l, _ => (s, l, false)
  | f + 1, s, l, t =>
    if par t < 0 then (s, l, true)
    else
      let p := (par t).toNat
      let s' := upd s p (wrap64 (s p + s t))
      let l' := upd l p (wrap64 (l p - 1))
      if l' p = 0 then joinS par f s' l' p else (s', l', false)

theorem join34 (C T n tc : Nat) (v6 : Nat → Value) (par : Nat → Int) (kv : Nat → Value) (hCT : C ≠ T) (hn : n ≤ 1000000)
    (hpar : ∀ i, i < n → par i < i) : ∀ (f t : Nat) (sm lf : Nat → Int) (w : World), t < f → t < n →
    Blk w C 7 (upd (upd v6 0 (.slice (some ⟨T, 0, none⟩) n tc)) 1 (.bool false)) → Blk w T (n * 4) (frCells par kv sm lf) →
    Calls Try.prog 34 #[.pointer (some ⟨C, 0, none⟩), .int .i64 t] w fun e w' => e = .returned (.tuple #[]) ∧ Ext [C, T] w w' ∧
      Blk w' C 7 (upd (upd v6 0 (.slice (some ⟨T, 0, none⟩) n tc)) 1 (.bool (joinS par f sm lf t).2.2)) ∧
      Blk w' T (n * 4) (frCells par kv (joinS par f sm lf t).1 (joinS par f sm lf t).2.1) := by
  intro f
  induction f with
  | zero => intro t _ _ _ h; omega
  | succ f ih =>
    intro t sm lf w htf htn hC hT
    have c0 := hC.cell (o := 0) (by omega)
    have c1 := hC.cell (o := 1) (by omega)
    have z1 := hC.frozen 1
    simp only [upd] at c0 c1
    have t0 := hT.cell (o := t * 4) (by omega)
    have t2 := hT.cell (o := t * 4 + 2) (by omega)
    rw [frCells0] at t0
    rw [frCells2] at t2
    by_cases hp : par t < 0
    · have HJ : Hid (joinS par (f + 1) sm lf t = (sm, lf, true)) := by show _ = _; unfold joinS; rw [if_pos hp]
      go_enter Try.func34, Try.ntmps34
      go_wp2
      refine bodyPost_ret (results_none rfl _ _ _) rfl ?_
      refine ⟨rfl, (Ext.refl _ _).setCell (.inl (by simp)) _, ?_, ?_⟩
      · rw [HJ.out]
        refine (hC.set (o := 1) (by omega) _).congr fun o _ => ?_
        unfold upd; split <;> rfl
      · rw [HJ.out]
        exact hT.setOther (Ne.symm hCT) _
    · have hpt := hpar t htn
      obtain ⟨p, hp'⟩ : ∃ p : Nat, par t = p := ⟨(par t).toNat, by omega⟩
      rw [hp'] at t0 hpt
      have p2 := hT.cell (o := p * 4 + 2) (by omega)
      have p3 := hT.cell (o := p * 4 + 3) (by omega)
      rw [frCells2] at p2
      rw [frCells3] at p3
      have zz2 := hT.frozen (p * 4 + 2)
      have zz3 := hT.frozen (p * 4 + 3)
      have HP := Lib.hid hp'
      have hpn : p < n := by omega
      have HJ : Hid (joinS par (f + 1) sm lf t = if wrap64 (lf p - 1) = 0 then joinS par f (upd sm p (wrap64 (sm p + sm t))) (upd lf p (wrap64 (lf p - 1))) p else (upd sm p (wrap64 (sm p + sm t)), upd lf p (wrap64 (lf p - 1)), false)) := by
        show _ = _
        conv => lhs; unfold joinS
        rw [if_neg hp, hp']
        simp [upd_same]
      have HC : ∀ (W : World) (y z : Value), W.heap = ((w.setCell ⟨T, p * 4 + 2, none⟩ y).setCell ⟨T, p * 4 + 3, none⟩ z).heap → Blk W C 7 (upd (upd v6 0 (.slice (some ⟨T, 0, none⟩) n tc)) 1 (.bool false)) := fun W y z hW =>
        ((hC.setOther hCT _).setOther hCT _).block (congrArg (·[C]?) hW)
      have HT : ∀ (W : World) (y z : Int), W.heap = ((w.setCell ⟨T, p * 4 + 2, none⟩ (.int .i64 y)).setCell ⟨T, p * 4 + 3, none⟩ (.int .i64 z)).heap → Blk W T (n * 4) (frCells par kv (upd sm p y) (upd lf p z)) := fun W y z hW =>
        (((hT.set (o := p * 4 + 2) (by omega) (.int .i64 y)).set (o := p * 4 + 3) (by omega) (.int .i64 z)).congr fun o ho => by
          obtain ⟨i, j, hj, rfl⟩ : ∃ i j, j < 4 ∧ o = i * 4 + j := ⟨o / 4, o % 4, by omega, by omega⟩
          by_cases hip : i = p
          · subst hip
            rcases j with _ | _ | _ | _ | j
            · rw [upd_other _ _ (by omega), upd_other _ _ (by omega)]; exact (frCells0 ..).trans (frCells0 ..).symm
            · rw [upd_other _ _ (by omega), upd_other _ _ (by omega)]; exact (frCells1 ..).trans (frCells1 ..).symm
            · rw [upd_other _ _ (by omega), upd_same]; exact ((frCells2 ..).trans (by rw [upd_same])).symm
            · rw [upd_same]; exact ((frCells3 ..).trans (by rw [upd_same])).symm
            · omega
          · rw [upd_other _ _ (by omega), upd_other _ _ (by omega)]
            unfold frCells
            rw [show (i * 4 + j) / 4 = i by omega, upd_other _ _ hip, upd_other _ _ hip]).block (congrArg (·[T]?) hW)
      have HE : ∀ (W : World) (y z : Value), W.heap = ((w.setCell ⟨T, p * 4 + 2, none⟩ y).setCell ⟨T, p * 4 + 3, none⟩ z).heap → W.os = w.os → W.tape = w.tape → W.output = w.output → Ext [C, T] w W := fun W y z hW h1 h2 h3 =>
        ⟨h1, h2, h3, by rw [hW]; simp [World.setCell], fun k hk hS => by
          rw [hW, Below.heap_setCell _ _ _ _ (fun e => hS (by rw [e]; simp)), Below.heap_setCell _ _ _ _ (fun e => hS (by rw [e]; simp))]⟩
      clear hp' hp hpar
      by_cases hz : wrap64 (lf p - 1) = 0
      · have hzb : (wrap64 (lf p - 1) == 0) = true := by simpa using hz
        have HJ2 := Lib.hid (HJ.out.trans (if_pos hz))
        clear hz HJ
        go_enter Try.func34, Try.ntmps34
        go_wp2
        go_still_tail 15, (by kernel_rfl)
        go_wp2_with (go_at_call 34; refine (ih p (upd sm p (wrap64 (sm p + sm t))) (upd lf p (wrap64 (lf p - 1))) _ (by omega) hpn ?_ ?_).mono ?_; (exact HC _ _ _ rfl); (exact HT _ _ _ rfl); rintro e w' ⟨rfl, hx, hC', hT'⟩)
        go_end0
        refine ⟨rfl, Ext.trans (S := [C, T]) (T := [C, T]) ?_ hx (by simp), ?_, ?_⟩
        · exact HE _ _ _ rfl rfl rfl rfl
        · rw [HJ2.out]; exact hC'
        · rw [HJ2.out]; exact hT'
      · have hzb : (wrap64 (lf p - 1) == 0) = false := by simpa using hz
        have HJ2 := Lib.hid (HJ.out.trans (if_neg hz))
        clear hz HJ
        go_enter Try.func34, Try.ntmps34
        go_wp2
        go_still_tail 15, (by kernel_rfl)
        go_wp2
        go_end0
        refine ⟨rfl, HE _ _ _ rfl rfl rfl rfl, ?_, ?_⟩
        · rw [HJ2.out]; exact HC _ _ _ rfl
        · rw [HJ2.out]; exact HT _ _ _ rfl
end Go.Proofs.Ytgdnkgfgakhpeaa
