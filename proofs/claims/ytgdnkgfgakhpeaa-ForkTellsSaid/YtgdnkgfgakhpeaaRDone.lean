/-
  the reference's done: by a contract.
-/
import Derived.Test.YtgdnkgfgakhpeaaMem
import Derived.BigRegion
import Derived.StillTailTactics
namespace Go.Proofs.Ytgdnkgfgakhpeaa
open Go.RowKit
set_option linter.unusedVariables false
set_option linter.unusedSimpArgs false

/-- what a task's end does to the sums, and to how many kids are left; whether the first one is done -/
def doneR (par : Nat → Int) : Nat → (Nat → Int) → (Nat → Int) → Nat → (Nat → Int) × (Nat → Int) × Bool
  | 0, s, l, _ => (s, l, false)
  | f + 1, s, l, t =>
    if t = 0 then (s, l, true)
    else
      let p := (par t).toNat
      let s' := upd s p (wrap64 (s p + s t))
      let l' := upd l p (wrap64 (l p - 1))
      if 0 < l' p then (s', l', false) else doneR par f s' l' p

/-- a block of ints -/
def intsF (f : Nat → Int) : Nat → Value := fun o => .int .i64 (f o)
theorem intsF_upd (f : Nat → Int) (i : Nat) (x : Int) : upd (intsF f) i (.int .i64 x) = intsF (upd f i x) := by
  funext o
  by_cases h : o = i
  · subst h; rw [upd_same]; unfold intsF; rw [upd_same]
  · rw [upd_other _ _ h]; unfold intsF; rw [upd_other _ _ h]

def doneF (F : Nat → Value) (b : Bool) : Nat → Value := match b with | true => upd F 8 (.bool true) | false => F
def DoneP (X A L n : Nat) (F : Nat → Value) (w w' : World) (r : (Nat → Int) × (Nat → Int) × Bool) : Prop :=
  Ext [X, A, L] w w' ∧ Blk w' X 9 (doneF F r.2.2) ∧ Blk w' A n (intsF r.1) ∧ Blk w' L n (intsF r.2.1)

theorem done36 (X A L n pc ac lc : Nat) (pp : Option Addr) (F : Nat → Value) (l : List Int) (par : Nat → Int) (hpl : ∀ i (h : i < l.length), l[i] = par i) (hXA : X ≠ A) (hXL : X ≠ L) (hAL : A ≠ L) (hn : n ≤ 1000000) (hl : l.length = n)
    (hpar : ∀ i, 0 < i → i < n → 0 ≤ par i ∧ par i < i) (t : Nat) (sm lf : Nat → Int) (w : World) (ht : t < n)
    (hF0 : F 0 = .slice pp n pc) (hF2 : F 2 = .slice (some ⟨A, 0, none⟩) n ac) (hF3 : F 3 = .slice (some ⟨L, 0, none⟩) n lc)
    (hX : Blk w X 9 F) (hA : Blk w A n (intsF sm)) (hL : Blk w L n (intsF lf)) (hp : IntsAt w pp l) (hpo : ∀ a, pp = some a → a.block ≠ X ∧ a.block ≠ A ∧ a.block ≠ L) :
    Calls Try.prog 36 #[.pointer (some ⟨X, 0, none⟩), .int .i64 t] w fun e w' => e = .returned (.tuple #[]) ∧ DoneP X A L n F w w' (doneR par n sm lf t) := by
  have HL := Lib.hid hl
  clear hl
  go_enter Try.func36, Try.ntmps36
  go_wp2
  go_loopw [1] (fun i wr => ∃ (k f : Nat) (s q : Nat → Int), i = .int .i64 k ∧ k < n ∧ k < f ∧ Ext [X, A, L] w wr ∧ Blk wr X 9 F ∧ Blk wr A n (intsF s) ∧ Blk wr L n (intsF q) ∧
      Hid (doneR par n sm lf t = doneR par f s q k)) (fun i _ => (intOf i).toNat)
  case atStart => exact ⟨t, n, sm, lf, rfl, ht, ht, Ext.refl _ _, hX, hA, hL, rfl⟩
  case round =>
    obtain ⟨k, f, s, q, rfl, hk, hkf, hext, hX1, hA1, hL1, HE⟩ := hrel
    have c0 := hX1.cell (o := 0) (by omega)
    have c2 := hX1.cell (o := 2) (by omega)
    have c3 := hX1.cell (o := 3) (by omega)
    have c8 := hX1.cell (o := 8) (by omega)
    have z8 := hX1.frozen 8
    rw [hF0] at c0
    rw [hF2] at c2
    rw [hF3] at c3
    obtain ⟨f, rfl⟩ : ∃ g, f = g + 1 := ⟨f - 1, by omega⟩
    by_cases hk0 : k = 0
    · subst hk0
      have HR : Hid (doneR par n sm lf t = (s, q, true)) := by
        show _ = _
        rw [HE.out]; unfold doneR; rw [if_pos rfl]
      go_wp2
      go_end0
      rw [HR.out]
      refine ⟨rfl, hext.setCell (.inl (by simp)) _, ?_, hA1.setOther (by exact Ne.symm hXA) _, hL1.setOther (by exact Ne.symm hXL) _⟩
      exact hX1.set (o := 8) (by omega) _
    · have hpk := hpar k (by omega) hk
      obtain ⟨b, off, rfl, hc0⟩ := hp.get k (by rw [HL.out]; exact hk)
      have hpo1 := hpo _ rfl
      have hc := hext.cell hc0 (by simp; omega)
      rw [hpl] at hc
      clear hc0
      obtain ⟨p, hp'⟩ : ∃ p : Nat, par k = p := ⟨(par k).toNat, by omega⟩
      rw [hp'] at hc hpk
      have HP := Lib.hid hp'
      have hpn : p < n := by omega
      have a1 := hA1.cell (o := p) hpn
      have a2 := hA1.cell (o := k) hk
      have l1 := hL1.cell (o := p) hpn
      have y1 := hA1.frozen p
      have y2 := hL1.frozen p
      simp only [intsF] at a1 a2 l1
      have HJ : Hid (doneR par n sm lf t = if 0 < wrap64 (q p - 1) then (upd s p (wrap64 (s p + s k)), upd q p (wrap64 (q p - 1)), false) else doneR par f (upd s p (wrap64 (s p + s k))) (upd q p (wrap64 (q p - 1))) p) := by
        show _ = _
        rw [HE.out]
        conv => lhs; unfold doneR
        rw [if_neg hk0]
        simp only [hp', Int.toNat_natCast, upd_same]
      have HX : ∀ (W : World) (y z : Value), W.heap = ((wr.setCell ⟨A, p, none⟩ y).setCell ⟨L, p, none⟩ z).heap → Blk W X 9 F := fun W y z hW =>
        ((hX1.setOther hXA _).setOther hXL _).block (congrArg (·[X]?) hW)
      have HA : ∀ (W : World) (y : Int) (z : Value), W.heap = ((wr.setCell ⟨A, p, none⟩ (.int .i64 y)).setCell ⟨L, p, none⟩ z).heap → Blk W A n (intsF (upd s p y)) := fun W y z hW => by
        rw [← intsF_upd]
        exact ((hA1.set hpn _).setOther hAL _).block (congrArg (·[A]?) hW)
      have HLL : ∀ (W : World) (y : Value) (z : Int), W.heap = ((wr.setCell ⟨A, p, none⟩ y).setCell ⟨L, p, none⟩ (.int .i64 z)).heap → Blk W L n (intsF (upd q p z)) := fun W y z hW => by
        rw [← intsF_upd]
        exact ((hL1.setOther (Ne.symm hAL) _).set hpn _).block (congrArg (·[L]?) hW)
      have HX3 : ∀ (W : World) (y z : Value), W.heap = ((wr.setCell ⟨A, p, none⟩ y).setCell ⟨L, p, none⟩ z).heap → W.os = wr.os → W.tape = wr.tape → W.output = wr.output → Ext [X, A, L] w W := fun W y z hW h1 h2 h3 =>
        ((hext.setCell (p := ⟨A, p, none⟩) (.inl (by simp)) y).setCell (p := ⟨L, p, none⟩) (.inl (by simp)) z).alike hW h1 h2 h3
      have hkb : decide ((0 : Int) < (k : Int)) = true := by simp; omega
      clear hp' hp hpar hpo hX hA hL
      by_cases hz : 0 < wrap64 (q p - 1)
      · have hzb : decide (0 < wrap64 (q p - 1)) = true := by simpa using hz
        have HJ2 := Lib.hid (HJ.out.trans (if_pos hz))
        clear hz HJ
        go_wp2
        go_still_tail 21, (by kernel_rfl)
        go_wp2
        refine bodyPost_ret (results_none rfl _ _ _) rfl ?_
        rw [HJ2.out]
        exact ⟨rfl, HX3 _ _ _ rfl rfl rfl rfl, HX _ _ _ rfl, HA _ _ _ rfl, HLL _ _ _ rfl⟩
      · have hzb : decide (0 < wrap64 (q p - 1)) = false := by simpa using hz
        have HJ2 := Lib.hid (HJ.out.trans (if_neg hz))
        clear hz HJ
        go_wp2
        go_still_tail 21, (by kernel_rfl)
        go_wp2
        go_roundw
        case rel => exact ⟨p, f, _, _, rfl, hpn, by omega, HX3 _ _ _ rfl rfl rfl rfl, HX _ _ _ rfl, HA _ _ _ rfl, HLL _ _ _ rfl, HJ2.out⟩
        case measure => simp [intOf]; omega
end Go.Proofs.Ytgdnkgfgakhpeaa
