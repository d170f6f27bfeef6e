/-
  What fork's Run comes to: as the reference says; and what the laws ask of it.
-/
import Derived.Test.YtgdnkgfgakhpeaaPlain
import Derived.Test.YtgdnkgfgakhpeaaQ
namespace Go.Proofs.Ytgdnkgfgakhpeaa
open Go.RowKit
set_option linter.unusedVariables false
set_option linter.unusedSimpArgs false

theorem vals_small {vals : List Int} (h : ¬ 0 ≤ idxF oddB vals) : ∀ x ∈ vals, -1099511627776 ≤ x ∧ x ≤ 1099511627776 := by
  unfold idxF at h
  cases hf : vals.findIdx? oddB with
  | some i => rw [hf] at h; simp only at h; omega
  | none =>
    intro x hx
    rw [List.findIdx?_eq_none_iff] at hf
    have := hf x hx
    unfold oddB at this
    simp at this
    omega
theorem vals_even {vals : List Int} (h : ∀ x ∈ vals, -1099511627776 ≤ x ∧ x ≤ 1099511627776) : ¬ 0 ≤ idxF oddB vals := by
  rw [idxF_none (k := vals.length) (Nat.le_refl _) (fun i hi _ => by
    have := h _ (List.getElem_mem hi)
    unfold oddB; simp; omega)]
  omega

structure Good (l vals : List Int) : Prop where
  right : rightB l = true
  len : vals.length = l.length
  small : ∀ x ∈ vals, -1099511627776 ≤ x ∧ x ≤ 1099511627776

theorem Good.tree {l vals : List Int} (g : Good l vals) : TreeOk (parOf l) (kidsTo l l.length) l.length := by
  obtain ⟨h1, h2, h3⟩ := (rightB_iff l).1 g.right
  exact tree_ok h1 h2 h3

def totalV (vals : List Int) : Int := sumTo (fun u => vals.getD u 0) vals.length
theorem Good.tot_bd {l vals : List Int} (g : Good l vals) : -1000000000000000 ≤ totalV vals ∧ totalV vals ≤ 1000000000000000 := by
  have hb : ∀ u, u < vals.length → -1099511627776 ≤ vals.getD u 0 ∧ vals.getD u 0 ≤ 1099511627776 := fun u hu => by
    rw [List.getD_eq_getElem?_getD, List.getElem?_eq_getElem hu]; exact g.small _ (List.getElem_mem hu)
  have h2 := g.tree.n2
  have hl := g.len
  have h1 := sumTo_le (n := vals.length) (f := fun _ => -1099511627776) (g := fun u => vals.getD u 0) (fun u hu => (hb u hu).1)
  have h3 := sumTo_le (n := vals.length) (g := fun _ => 1099511627776) (f := fun u => vals.getD u 0) (fun u hu => (hb u hu).2)
  rw [sumTo_const] at h1 h3
  unfold totalV
  omega

section
variable {l vals : List Int} {m : Nat} (g : Good l vals) (hm : 1 ≤ m)
abbrev SI (l vals : List Int) (m : Nat) (st : St) (D : Nat → Bool) : Prop := SInv (parOf l) (kidsTo l l.length) l.length m (fun u => vals.getD u 0) (sumTo (fun u => vals.getD u 0) l.length) st D

include g hm in
theorem run_fin (picks : List Int) (P : St → Int → Prop) (h0 : P (initS l vals) (-1))
    (hP : ∀ st D last t, SI l vals m st D → P st last → st.ends = false → (takeS st.dq m (nextW picks st.ord.length m last).toNat).1 = t → 0 ≤ t → P (stepS (parOf l) (kidsTo l l.length) l.length m st (nextW picks st.ord.length m last).toNat) (nextW picks st.ord.length m last)) :
    ∃ st D last rt, runS (parOf l) (kidsTo l l.length) l.length m picks 100001 (initS l vals) (-1) = some st ∧ SI l vals m st D ∧ st.ends = true ∧ P st last ∧
      runRR (parOf l) (kidsTo l l.length) l.length m picks vals 100000 0 initR (-1) = some (rt, st.ord.length) ∧ Sim l.length st rt ∧ st.ord.length = l.length ∧ (∀ u, u < l.length → (u : Int) ∈ st.ord) ∧ st.sm 0 = totalV vals := by
  have T := g.tree
  have n2 := T.n2
  obtain ⟨st, D, last, rt, h1, h2, h3, h4, h5, h6⟩ := run_spec (m := m) (tot := sumTo (fun u => vals.getD u 0) l.length) (vals := fun u => vals.getD u 0) T (by omega) (v := vals) (picks := picks) (fun _ _ => rfl) P hP l.length 100001 (initS l vals) _ initR (-1)
    (init_inv T (by omega) (fun x hx => by have := g.small x hx; omega)) (init_sim l vals) h0 (by omega) (by omega) rfl rfl
  obtain ⟨k1, k2, k, k3⟩ := h2.fin T h3
  refine ⟨st, D, last, rt, h1, h2, h3, h4, h5, h6, k1, k2, ?_⟩
  have hb := g.tot_bd
  have hr := h2.J.rng 0
  have e : sumTo (fun u => vals.getD u 0) l.length = totalV vals := by unfold totalV; rw [g.len]
  rw [e] at k3
  omega

theorem forkRun_good (g : Good l vals) (hm : 1 ≤ m) (hm2 : m ≤ 64) (picks : List Int) : forkRun l vals m picks = resOf (runS (parOf l) (kidsTo l l.length) l.length m picks 100001 (initS l vals) (-1)) := by
  unfold forkRun
  rw [if_neg (by
    have h1 := vals_even g.small
    rintro (h | h | h | h | h)
    · rw [g.right] at h; cases h
    · exact h g.len
    · omega
    · omega
    · exact h1 h), Int.toNat_natCast]
end

theorem fork_is_ref (l vals : List Int) (w : Int) (picks : List Int) : forkRun l vals w picks = refRun l vals w picks := by
  by_cases hb : rightB l = false ∨ vals.length ≠ l.length ∨ w < 1 ∨ 64 < w ∨ 0 ≤ idxF oddB vals
  · unfold forkRun refRun
    rw [if_pos hb, if_pos hb]
  · have h := hb
    simp only [not_or, Bool.not_eq_false, Decidable.not_not] at h
    obtain ⟨hr, hlen, hw1, hw2, hodd⟩ := h
    have g : Good l vals := ⟨hr, hlen, vals_small hodd⟩
    obtain ⟨st, D, last, rt, h1, h2, h3, _, h5, h6, k1, k2, _⟩ := run_fin (m := w.toNat) g (by omega) picks (fun _ _ => True) trivial (fun _ _ _ _ _ _ _ _ _ => trivial)
    unfold forkRun refRun
    rw [if_neg hb, if_neg hb, h1, h5]
    unfold resOf resR
    have := (h6.ag 0 g.tree.n1 (by simpa using k2 0 g.tree.n1)).1
    simp only [h6.ord, h6.who, this, h2.steps]

end Go.Proofs.Ytgdnkgfgakhpeaa
