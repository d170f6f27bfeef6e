/-
  ForkEnds: the walk.
-/
import Derived.Test.YtgdnkgfgakhpeaaLawKit
namespace Go.Proofs.Ytgdnkgfgakhpeaa
open Go.RowKit
set_option linter.unusedVariables false
set_option linter.unusedSimpArgs false

set_option maxRecDepth 100000 in
set_option maxHeartbeats 2000000 in
theorem ends5 (p r : Option Addr) (c d : Nat) (raw picks : List Int) (workers : Int) (w : World) (hl : raw.length ≤ 1000000000000000) (hk : picks.length ≤ 1000000000000000) (hs : Small raw) (hs2 : Small picks)
    (hw1 : -9223372036854775808 ≤ workers) (hw2 : workers ≤ 9223372036854775807) (h0 : IntsAt w p raw) (h1 : IntsAt w r picks) :
    Calls Try.prog 5 #[.slice p raw.length c, .int .i64 workers, .slice r picks.length d] w fun e w' => e = .returned (.bool true) ∧ Ext [] w w' := by
  have hp := fun W => pick11 workers 9 W hw1 hw2 (by omega) (by omega)
  have hq := pickN_bd workers 9 (by omega)
  have hT := fun W (hx : Ext [] w W) => tree10v p c raw W (by omega) hs (h0.ext0 hx)
  have hb := treeL_bd raw
  obtain ⟨st1, _, _, e1, _⟩ := fork_ok (good_tree raw) (pickN workers 9) hq.1 (by omega) picks (fun _ _ => True) trivial (fun _ _ _ _ _ _ _ _ _ => trivial)
  obtain ⟨st2, _, _, e2, _⟩ := fork_ok (good_tree raw) 0 (by omega) (by omega) picks (fun _ _ => True) trivial (fun _ _ _ _ _ _ _ _ _ => trivial)
  have hA := fun W pt ct (hx : Ext [] w W) (hi : IntsAt W pt (treeL raw)) => run15 pt pt r ct ct d (treeL raw) (treeL raw) picks (1 + pickN workers 9) W (by omega) (by omega) (by omega) hs2 hi hi (h1.ext0 hx)
  have hB := fun W pt ct (hx : Ext [] w W) (hi : IntsAt W pt (treeL raw)) => run15 pt pt r ct ct d (treeL raw) (treeL raw) picks (1 + 0) W (by omega) (by omega) (by omega) hs2 hi hi (h1.ext0 hx)
  rw [e1] at hA
  rw [e2] at hB
  generalize totalV (treeL raw) = S at hA hB
  generalize st1.ord = o1 at hA
  generalize st1.who = u1 at hA
  generalize st2.ord = o2 at hB
  generalize st2.who = u2 at hB
  generalize treeL raw = t at *
  generalize pickN workers 9 = q at *
  obtain ⟨k, hk1⟩ : ∃ k, k = (1 + q) * (t.length : Int) := ⟨_, rfl⟩
  have hk2 : (t.length : Int) ≤ k := by
    have h2 : q * (t.length : Int) ≥ 0 := Int.mul_nonneg hq.1 (by omega)
    rw [hk1, Int.add_mul]; omega
  have hk3 : k ≤ 9 * (t.length : Int) := by
    rw [hk1]; exact Int.mul_le_mul_of_nonneg_right (by omega) (by omega)
  have H1 : (t.length : Int) ≤ (1 + q) * (t.length : Int) := by omega
  have H2 : (1 + q) * (t.length : Int) ≤ 9 * (t.length : Int) := by omega
  have hA' : ∀ W pt ct z1 z2, z1 = Value.slice pt t.length ct → z2 = Value.slice r picks.length d → Ext [] w W → IntsAt W pt t → Calls Try.prog 15 #[z1, z1, .int .i64 (1 + q), z2] W (RunPost W ⟨S, o1, u1, t.length, 0⟩) := fun W pt ct z1 z2 e1 e2 hx hi => by subst e1; subst e2; exact hA W pt ct hx hi
  have hB' : ∀ W pt ct z1 z2, z1 = Value.slice pt t.length ct → z2 = Value.slice r picks.length d → Ext [] w W → IntsAt W pt t → Calls Try.prog 15 #[z1, z1, .int .i64 1, z2] W (RunPost W ⟨S, o2, u2, t.length, 0⟩) := fun W pt ct z1 z2 e1 e2 hx hi => by subst e1; subst e2; exact hB W pt ct hx hi
  clear hA hB e1 e2 hk1 hk2 hk3 h0 h1
  go_enter Try.func5, Try.ntmps5
  go_wp2_with fail
  refine (awake9 _).mono ?_; rintro e1 w1 ⟨rfl, hx1⟩
  go_wp2_with fail
  refine (hT _ hx1).mono ?_; rintro e2 w2 ⟨pt, ct, rfl, it, hx2, hct1, hct2⟩
  go_wp2_with fail
  refine (hp _).mono ?_; rintro e3 w3 ⟨rfl, hw3⟩; subst w3
  go_wp2_with fail
  refine (hA' _ pt ct _ _ (by rfl) (by rfl) (hx1.trans0 hx2) it).mono ?_
  rintro e4 w4 ⟨v4, rfl, ⟨po1, co1, pw1, cw1, rfl, io1, iw1⟩, hx4⟩
  have z4 := hx4.size
  go_wp2_with fail
  refine (hB' _ pt ct _ _ (by rfl) (by rfl) (((hx1.trans0 hx2).trans0 hx4).alloc _) (it.ext0 (hx4.alloc _))).mono ?_
  rintro e5 w5 ⟨v5, rfl, ⟨po2, co2, pw2, cw2, rfl, io2, iw2⟩, hx5⟩
  have z5 := hx5.size
  simp only [World.size_alloc] at z5
  obtain ⟨a0, a1, a2, a3⟩ := res4 rfl hx5
  have z6 : w4.heap.size < w5.heap.size := by omega
  go_wp2_with fail
  all_goals go_ret
  exact ⟨rfl, ((((hx1.trans0 hx2).trans0 hx4).alloc _).trans0 hx5).alloc _⟩
end Go.Proofs.Ytgdnkgfgakhpeaa
