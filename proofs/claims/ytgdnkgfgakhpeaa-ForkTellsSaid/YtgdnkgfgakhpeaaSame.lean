/-
  Same: by a contract.
-/
import Derived.Test.YtgdnkgfgakhpeaaTot
namespace Go.Proofs.Ytgdnkgfgakhpeaa
open Go.RowKit
set_option linter.unusedVariables false
set_option linter.unusedSimpArgs false

def sameB (a b : Res) : Bool := decide (a.sum = b.sum) && decide (a.steps = b.steps) && decide (a.ord = b.ord) && decide (a.who = b.who)

set_option maxRecDepth 100000 in
set_option maxHeartbeats 400000 in
theorem same17 (po pw qo qw : Option Addr) (co cw do' dw : Nat) (a b : Res) (w : World) (h1 : a.ord.length ≤ 4611686018427387904) (h2 : a.who.length ≤ 4611686018427387904) (h3 : b.ord.length ≤ 4611686018427387904) (h4 : b.who.length ≤ 4611686018427387904)
    (i1 : IntsAt w po a.ord) (i2 : IntsAt w pw a.who) (i3 : IntsAt w qo b.ord) (i4 : IntsAt w qw b.who) :
    Calls Try.prog 17 #[.agg #[.int .i64 a.sum, .slice po a.ord.length co, .slice pw a.who.length cw, .int .i64 a.steps], .agg #[.int .i64 b.sum, .slice qo b.ord.length do', .slice qw b.who.length dw, .int .i64 b.steps]] w
      fun e w' => e = .returned (.bool (sameB a b)) ∧ Ext [] w w' := by
  obtain ⟨s1, o1, wh1, t1, e1⟩ := a
  obtain ⟨s2, o2, wh2, t2, e2⟩ := b
  simp only at *
  have ho := fun W (hx : Ext [] w W) => ints18 po qo co do' o1 o2 W h1 h3 (i1.ext0 hx) (i3.ext0 hx)
  have hw := fun W (hx : Ext [] w W) => ints18 pw qw cw dw wh1 wh2 W h2 h4 (i2.ext0 hx) (i4.ext0 hx)
  have HF : Hid (sameB ⟨s1, o1, wh1, t1, e1⟩ ⟨s2, o2, wh2, t2, e2⟩ = (decide (s1 = s2) && decide (t1 = t2) && decide (o1 = o2) && decide (wh1 = wh2))) := rfl
  obtain ⟨A, hA⟩ : ∃ A, A = decide (o1 = o2) := ⟨_, rfl⟩
  obtain ⟨B, hB⟩ : ∃ B, B = decide (wh1 = wh2) := ⟨_, rfl⟩
  rw [← hA, ← hB] at HF
  rw [← hA] at ho
  rw [← hB] at hw
  clear hA hB
  replace ho : ∀ z1 z2 W, z1 = Value.slice po o1.length co → z2 = Value.slice qo o2.length do' → Ext [] w W → Calls Try.prog 18 #[z1, z2] W fun e w' => e = .returned (.bool A) ∧ ∃ n, w' = W.drewN n := fun z1 z2 W e1 e2 hx => by subst e1; subst e2; exact ho W hx
  replace hw : ∀ z1 z2 W, z1 = Value.slice pw wh1.length cw → z2 = Value.slice qw wh2.length dw → Ext [] w W → Calls Try.prog 18 #[z1, z2] W fun e w' => e = .returned (.bool B) ∧ ∃ n, w' = W.drewN n := fun z1 z2 W e1 e2 hx => by subst e1; subst e2; exact hw W hx
  by_cases hs : s1 = s2
  · have hsb : (s1 == s2) = true := by simpa using hs
    rw [decide_eq_true hs] at HF
    by_cases ht : t1 = t2
    · have htb : (t1 == t2) = true := by simpa using ht
      rw [decide_eq_true ht] at HF
      clear hs ht
      cases A
      · go_enter Try.func17, Try.ntmps17
        go_wp2_with (go_at_call 18; refine (ho _ _ _ (by rfl) (by rfl) ?_).mono ?_; (repeat (first | exact Ext.refl _ _ | refine Ext.alloc ?_ _ | refine Ext.drewN ?_ _ | refine Ext.drew ?_)); rintro e w' ⟨rfl, n, hw'⟩; subst w')
        go_ret
        rw [HF.out]
        exact ⟨rfl, (((Ext.refl [] w).alloc _).alloc _).drewN _⟩
      · go_enter Try.func17, Try.ntmps17
        go_wp2_with (first | (go_at_call 18; refine (ho _ _ _ (by rfl) (by rfl) ?_).mono ?_; (repeat (first | exact Ext.refl _ _ | refine Ext.alloc ?_ _ | refine Ext.drewN ?_ _ | refine Ext.drew ?_)); rintro e w' ⟨rfl, n, hw'⟩; subst w') | (go_at_call 18; refine (hw _ _ _ (by rfl) (by rfl) ?_).mono ?_; (repeat (first | exact Ext.refl _ _ | refine Ext.alloc ?_ _ | refine Ext.drewN ?_ _ | refine Ext.drew ?_)); rintro e w' ⟨rfl, n2, hw'⟩; subst w'))
        go_ret
        rw [HF.out]
        exact ⟨by simp, (((Ext.refl [] w).alloc _).alloc _).drewN _⟩
    · have htb : (t1 == t2) = false := by simpa using ht
      rw [decide_eq_false ht] at HF
      clear hs ht
      go_enter Try.func17, Try.ntmps17
      go_wp2
      go_ret
      rw [HF.out]
      exact ⟨by simp, ((Ext.refl [] w).alloc _).alloc _⟩
  · have hsb : (s1 == s2) = false := by simpa using hs
    rw [decide_eq_false hs] at HF
    clear hs
    go_enter Try.func17, Try.ntmps17
    go_wp2
    go_ret
    rw [HF.out]
    exact ⟨by simp, ((Ext.refl [] w).alloc _).alloc _⟩
end Go.Proofs.Ytgdnkgfgakhpeaa
