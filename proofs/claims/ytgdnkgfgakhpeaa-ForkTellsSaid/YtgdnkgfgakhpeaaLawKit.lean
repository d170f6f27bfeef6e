/-
  What the laws of fork share: trees and values by raw numbers are right; a run of right tasks ends well.
-/
import Derived.Test.YtgdnkgfgakhpeaaAwake
import Derived.Test.YtgdnkgfgakhpeaaFin
namespace Go.Proofs.Ytgdnkgfgakhpeaa
open Go.RowKit
set_option linter.unusedVariables false
set_option linter.unusedSimpArgs false

theorem treeL_len (l : List Int) : (treeL l).length = min l.length 39 + 1 := treeTo_len l _
theorem treeL_bd (l : List Int) : 1 ≤ (treeL l).length ∧ (treeL l).length ≤ 40 := by rw [treeL_len]; omega

theorem treeTo_get (l : List Int) : ∀ (k i : Nat) (h : i < (treeTo l k).length), if i = 0 then (treeTo l k)[i] = -1 else 0 ≤ (treeTo l k)[i] ∧ (treeTo l k)[i] < i
  | 0, i, h => by
    have : i = 0 := by simpa [treeTo] using h
    subst this
    rw [if_pos rfl]; rfl
  | k + 1, i, h => by
    have hk := treeTo_len l k
    by_cases hi : i < k + 1
    · have := treeTo_get l k i (by omega)
      simp only [treeTo]
      rw [List.getElem_append_left (by omega)]
      exact this
    · have : i = k + 1 := by rw [treeTo_len] at h; omega
      subst this
      simp only [treeTo]
      rw [if_neg (by omega), List.getElem_append_right (by omega)]
      simp only [hk, Nat.sub_self, List.getElem_cons_zero]
      have := pickN_bd (l.getD k 0) ((k : Int) + 1) (by omega)
      omega

theorem treeL_right (l : List Int) : rightB (treeL l) = true := by
  rw [rightB_iff]
  have := treeL_bd l
  exact ⟨this.1, by omega, fun i h => treeTo_get l _ i h⟩

theorem treeL_small (l : List Int) : ∀ x ∈ treeL l, -1 ≤ x ∧ x ≤ 40 := by
  intro x hx
  obtain ⟨i, hi, rfl⟩ := List.getElem_of_mem hx
  have := treeTo_get l _ i hi
  have hb := treeL_bd l
  unfold treeL at *
  by_cases h : i = 0
  · rw [if_pos h] at this; omega
  · rw [if_neg h] at this; omega

theorem valTo_small (l : List Int) : ∀ (n : Nat), ∀ x ∈ valTo l n, -300 ≤ x ∧ x ≤ 1000 + n
  | 0, x, h => by cases h
  | n + 1, x, h => by
    simp only [valTo, List.mem_append, List.mem_singleton] at h
    rcases h with h | h
    · have := valTo_small l n x h; omega
    · have := pickN_bd (l.getD n 0) 1000 (by omega)
      split at h <;> omega

theorem good_tree (l : List Int) : Good (treeL l) (treeL l) := ⟨treeL_right l, rfl, fun x hx => by have := treeL_small l x hx; omega⟩
theorem good_val (l v : List Int) : Good (treeL l) (valTo v (treeL l).length) :=
  ⟨treeL_right l, valTo_len _ _, fun x hx => by have := valTo_small v _ x hx; have := treeL_bd l; omega⟩

theorem small_of (l : List Int) (h : ∀ x ∈ l, -1099511627776 ≤ x ∧ x ≤ 1099511627776) : Small l := fun x hx => by have := h x hx; omega

/-- a run of right tasks: what it comes to -/
theorem fork_ok {l vals : List Int} (g : Good l vals) (q : Int) (h0 : 0 ≤ q) (h1 : q < 64) (picks : List Int) (P : St → Int → Prop) (hP0 : P (initS l vals) (-1))
    (hP : ∀ st D last t, SI l vals (1 + q).toNat st D → P st last → st.ends = false → (takeS st.dq (1 + q).toNat (nextW picks st.ord.length (1 + q).toNat last).toNat).1 = t → 0 ≤ t → P (stepS (parOf l) (kidsTo l l.length) l.length (1 + q).toNat st (nextW picks st.ord.length (1 + q).toNat last).toNat) (nextW picks st.ord.length (1 + q).toNat last)) :
    ∃ st D last, forkRun l vals (1 + q) picks = ⟨totalV vals, st.ord, st.who, l.length, 0⟩ ∧ SI l vals (1 + q).toNat st D ∧ st.ord.length = l.length ∧ st.who.length = l.length ∧ (∀ u, u < l.length → (u : Int) ∈ st.ord) ∧ P st last ∧
      runS (parOf l) (kidsTo l l.length) l.length (1 + q).toNat picks 100001 (initS l vals) (-1) = some st := by
  obtain ⟨st, D, last, rt, r1, r2, r3, r4, r5, r6, k1, k2, k3⟩ := run_fin (m := (1 + q).toNat) g (by omega) picks P hP0 hP
  refine ⟨st, D, last, ?_, r2, k1, by rw [r2.wl, k1], k2, r4, r1⟩
  have e : 1 + q = (((1 + q).toNat : Nat) : Int) := by omega
  have := forkRun_good (m := (1 + q).toNat) g (by omega) (by omega) picks
  rw [← e] at this
  rw [this, r1]
  unfold resOf
  simp only [r2.steps, k1, k3]

/-- a tree, by a contract: as a slice's value -/
theorem tree10v (p : Option Addr) (c : Nat) (l : List Int) (w : World) (hl : l.length ≤ 4611686018427387904) (hs : Small l) (h0 : IntsAt w p l) :
    Calls Try.prog 10 #[.slice p l.length c] w fun e w' => ∃ pt ct, e = .returned (.slice pt (treeL l).length ct) ∧ IntsAt w' pt (treeL l) ∧ Ext [] w w' ∧ (treeL l).length ≤ ct ∧ ct ≤ maxLen := by
  refine (tree10 p c l w hl hs h0).mono ?_
  rintro e w' ⟨v, rfl, ho, hx⟩
  have h2 := ho.2
  obtain ⟨_, p', c', rfl, hi, _⟩ := IntsAt.of_owns ho
  refine ⟨p', c', rfl, hi, hx, ?_⟩
  rcases h2 with ⟨hv, h0⟩ | ⟨g, cap, cur, hv, hb, hg, hle, hm, _⟩
  · injection hv with _ h1 h2; exact ⟨by omega, by unfold maxLen; omega⟩
  · injection hv with _ h1 h2; rw [h2]; exact ⟨hle, hm⟩

theorem values14v (p : Option Addr) (c n : Nat) (l : List Int) (w : World) (hl : l.length ≤ 4611686018427387904) (hn : n ≤ 1000000) (hs : Small l) (h0 : IntsAt w p l) :
    Calls Try.prog 14 #[.slice p l.length c, .int .i64 n] w fun e w' => ∃ pt ct, e = .returned (.slice pt (valTo l n).length ct) ∧ IntsAt w' pt (valTo l n) ∧ Ext [] w w' := by
  refine (values14 p c n l w hl hn hs h0).mono ?_
  rintro e w' ⟨v, rfl, ho, hx⟩
  obtain ⟨_, p', c', rfl, hi, _⟩ := IntsAt.of_owns ho
  exact ⟨p', c', rfl, hi, hx⟩
end Go.Proofs.Ytgdnkgfgakhpeaa
