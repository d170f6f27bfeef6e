/-
  What a run of the reference is, in plain words; what each step keeps.
-/
import Derived.Test.YtgdnkgfgakhpeaaRRun1
namespace Go.Proofs.Ytgdnkgfgakhpeaa
open Go.RowKit
set_option linter.unusedVariables false
set_option linter.unusedSimpArgs false

def stepR (par : Nat → Int) (kids : Nat → List Int) (n m : Nat) (vals : List Int) (st : Rt) (wk : Nat) : Rt :=
  if (takeS st.dq m wk).1 < 0 then { st with dq := (takeS st.dq m wk).2 }
  else runT par kids n { st with dq := (takeS st.dq m wk).2 } (takeS st.dq m wk).1.toNat wk (vals.getD (takeS st.dq m wk).1.toNat 0)

/-- steps, till the first task is done -/
def runRR (par : Nat → Int) (kids : Nat → List Int) (n m : Nat) (picks vals : List Int) : Nat → Nat → Rt → Int → Option (Rt × Nat)
  | 0, _, _, _ => none
  | f + 1, i, st, last =>
    if (stepR par kids n m vals st (nextW picks i m last).toNat).done then some (stepR par kids n m vals st (nextW picks i m last).toNat, i + 1)
    else runRR par kids n m picks vals f (i + 1) (stepR par kids n m vals st (nextW picks i m last).toNat) (nextW picks i m last)

def initR : Rt := ⟨fun _ => 0, fun _ => 0, fun i => if i = 0 then [0] else [], [], [], false⟩

def resR : Option (Rt × Nat) → Res
  | none => Res.no 3
  | some (st, k) => ⟨st.sm 0, st.ord, st.who, k, 0⟩

def refRun (l vals : List Int) (workers : Int) (picks : List Int) : Res :=
  if rightB l = false ∨ vals.length ≠ l.length ∨ workers < 1 ∨ 64 < workers ∨ 0 ≤ idxF oddB vals then Res.no 1
  else resR (runRR (parOf l) (kidsTo l l.length) l.length workers.toNat picks vals 100000 0 initR (-1))

theorem doneR_bd (par : Nat → Int) (B : Int) : ∀ (f : Nat) (s q : Nat → Int) (t : Nat), (∀ i, -B ≤ q i ∧ q i ≤ B) → 0 ≤ B → B + f ≤ 1000000000000 → ∀ i, -(B + f) ≤ (doneR par f s q t).2.1 i ∧ (doneR par f s q t).2.1 i ≤ B + f
  | 0, s, q, t, hq, _, _, i => by have := hq i; unfold doneR; simp; omega
  | f + 1, s, q, t, hq, h0, hB, i => by
    unfold doneR
    by_cases ht : t = 0
    · rw [if_pos ht]; have := hq i; simp; omega
    · rw [if_neg ht]
      have hp := hq (par t).toNat
      have hw : wrap64 (q (par t).toNat - 1) = q (par t).toNat - 1 := by rw [wrap64]; omega
      have hq' : ∀ j, -(B + 1) ≤ upd q (par t).toNat (wrap64 (q (par t).toNat - 1)) j ∧ upd q (par t).toNat (wrap64 (q (par t).toNat - 1)) j ≤ B + 1 := fun j => by
        by_cases hj : j = (par t).toNat
        · subst hj; rw [upd_same, hw]; omega
        · rw [upd_other _ _ hj]; have := hq j; omega
      simp only
      split
      · have := hq' i; simp; omega
      · have := doneR_bd par (B + 1) f (upd s (par t).toNat (wrap64 (s (par t).toNat + s t))) _ (par t).toNat hq' (by omega) (by omega) i
        omega

structure RtOk (n m j : Nat) (st : Rt) : Prop where
  dq : ∀ i, i < m → ∀ x ∈ st.dq i, 0 ≤ x ∧ x < n
  len : ∀ i, (st.dq i).length ≤ 1 + 300 * j
  ord : st.ord.length ≤ j
  who : st.who.length ≤ j
  lf : ∀ i, -(1000 * j : Int) ≤ st.lf i ∧ st.lf i ≤ 1000 * j

theorem RtOk.step {par : Nat → Int} {kids : Nat → List Int} {n m j wk : Nat} {vals : List Int} {st : Rt} (h : RtOk n m j st) (hj : j ≤ 100000) (hw : wk < m) (hn : n ≤ 300) (hk : ∀ i, (kids i).length ≤ 300) (hkm : ∀ i, ∀ x ∈ kids i, 0 ≤ x ∧ x < n) :
    RtOk n m (j + 1) (stepR par kids n m vals st wk) := by
  have hl := fun i => Nat.le_trans (takeS_len st.dq m wk i) (h.len i)
  unfold stepR
  by_cases ht : (takeS st.dq m wk).1 < 0
  · rw [if_pos ht]
    exact ⟨fun i hi x hx => h.dq i hi x (takeS_sub hx), fun i => by show ((takeS st.dq m wk).2 i).length ≤ _; have := hl i; omega, by have := h.ord; show st.ord.length ≤ _; omega, by have := h.who; show st.who.length ≤ _; omega, fun i => by have := h.lf i; show _ ≤ st.lf i ∧ st.lf i ≤ _; omega⟩
  · rw [if_neg ht]
    generalize (takeS st.dq m wk).1.toNat = t
    refine ⟨fun i hi x hx => ?_, fun i => ?_, by have := h.ord; simp [runT]; omega, by have := h.who; simp [runT]; omega, fun i => ?_⟩
    · simp only [runT] at hx
      by_cases he : i = wk
      · subst he
        simp only [upd_same, List.mem_append] at hx
        rcases hx with hx | hx
        · exact h.dq i hi x (takeS_sub hx)
        · exact hkm _ x hx
      · simp only [upd_other _ _ he] at hx
        exact h.dq i hi x (takeS_sub hx)
    · simp only [runT]
      by_cases he : i = wk
      · subst he
        simp only [upd_same, List.length_append]
        have := hl i; have := hk t; omega
      · simp only [upd_other _ _ he]
        have := hl i; omega
    · have hq : ∀ i, -(1000 * j + 300 : Int) ≤ upd st.lf t (st.lf t + (kids t).length) i ∧ upd st.lf t (st.lf t + (kids t).length) i ≤ 1000 * j + 300 := fun i => by
        have h1 := h.lf i; have h2 := hk t
        by_cases hi : i = t
        · subst hi; rw [upd_same]; omega
        · rw [upd_other _ _ hi]; omega
      simp only [runT]
      split
      · have := doneR_bd par (1000 * j + 300) n (upd st.sm t (vals.getD t 0)) _ t hq (by omega) (by omega) i
        omega
      · have := hq i; show _ ≤ upd st.lf t _ i ∧ upd st.lf t _ i ≤ _; omega

theorem RtOk.init {n m : Nat} (h : 1 ≤ n) : RtOk n m 0 initR := by
  refine ⟨fun i hi x hx => ?_, fun i => ?_, Nat.zero_le _, Nat.zero_le _, fun i => by simp [initR]⟩
  · simp only [initR] at hx
    by_cases h0 : i = 0
    · rw [if_pos h0] at hx; simp at hx; omega
    · rw [if_neg h0] at hx; cases hx
  · simp only [initR]
    by_cases h0 : i = 0
    · rw [if_pos h0]; simp
    · rw [if_neg h0]; simp
end Go.Proofs.Ytgdnkgfgakhpeaa
