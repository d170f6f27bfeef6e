/-
  What a run of the crew is, in plain words of lists and functions; what each step keeps.
-/
import Derived.Test.YtgdnkgfgakhpeaaOf
import Derived.Test.YtgdnkgfgakhpeaaNext
namespace Go.Proofs.Ytgdnkgfgakhpeaa
open Go.RowKit
set_option linter.unusedVariables false
set_option linter.unusedSimpArgs false

/-- steps, till the first task is done -/
def runS (par : Nat → Int) (kids : Nat → List Int) (n m : Nat) (picks : List Int) : Nat → St → Int → Option St
  | 0, _, _ => none
  | f + 1, st, last =>
    if st.ends then some st
    else if st.steps = 100000 then none
    else runS par kids n m picks f (stepS par kids n m st (nextW picks st.steps.toNat m last).toNat) (nextW picks st.steps.toNat m last)

def parOf (l : List Int) : Nat → Int := fun i => if i < l.length then l.getD i 0 else 0
def initS (l vals : List Int) : St :=
  { sm := fun i => if i < l.length then vals.getD i 0 else 0, lf := fun i => ((kidsTo l l.length i).length : Int), dq := fun i => if i = 0 then [0] else [], ord := [], who := [], steps := 0, ends := false }

/-- what comes of tasks: sum, order, who, steps, error -/
structure Res where
  sum : Int
  ord : List Int
  who : List Int
  steps : Int
  err : Int
def Res.no (e : Int) : Res := ⟨0, [], [], 0, e⟩

def resOf : Option St → Res
  | none => Res.no 3
  | some st => ⟨st.sm 0, st.ord, st.who, st.steps, 0⟩

def forkRun (l vals : List Int) (workers : Int) (picks : List Int) : Res :=
  if rightB l = false ∨ vals.length ≠ l.length ∨ workers < 1 ∨ 64 < workers ∨ 0 ≤ idxF oddB vals then Res.no 1
  else resOf (runS (parOf l) (kidsTo l l.length) l.length workers.toNat picks 100001 (initS l vals) (-1))

/-- what a run keeps -/
structure StOk (n m j : Nat) (st : St) : Prop where
  steps : st.steps = j
  dq : ∀ i, i < m → ∀ x ∈ st.dq i, 0 ≤ x ∧ x < n
  len : ∀ i, (st.dq i).length ≤ 1 + 300 * j
  ord : st.ord.length ≤ j
  who : st.who.length ≤ j

theorem takeS_sub {dq : Nat → List Int} {m w i : Nat} {x : Int} (h : x ∈ (takeS dq m w).2 i) : x ∈ dq i := by
  unfold takeS at h
  by_cases h0 : dq w = []
  · rw [if_pos h0] at h
    cases hs : stealAt dq m w m 0 with
    | none => rw [hs] at h; exact h
    | some k =>
      rw [hs] at h
      by_cases he : i = k
      · subst he; rw [show (((dq i).headD 0, upd dq i (dq i).tail) : Int × (Nat → List Int)).2 = upd dq i (dq i).tail from rfl, upd_same] at h; exact List.mem_of_mem_tail h
      · rw [show (((dq k).headD 0, upd dq k (dq k).tail) : Int × (Nat → List Int)).2 = upd dq k (dq k).tail from rfl, upd_other _ _ he] at h; exact h
  · rw [if_neg h0] at h
    by_cases he : i = w
    · subst he; rw [show (((dq i).getLastD 0, upd dq i (dq i).dropLast) : Int × (Nat → List Int)).2 = upd dq i (dq i).dropLast from rfl, upd_same] at h; exact (List.dropLast_sublist _).subset h
    · rw [show (((dq w).getLastD 0, upd dq w (dq w).dropLast) : Int × (Nat → List Int)).2 = upd dq w (dq w).dropLast from rfl, upd_other _ _ he] at h; exact h

theorem StOk.step {par : Nat → Int} {kids : Nat → List Int} {n m j wk : Nat} {st : St} (h : StOk n m j st) (hw : wk < m) (hk : ∀ i, (kids i).length ≤ 300) (hkm : ∀ i, ∀ x ∈ kids i, 0 ≤ x ∧ x < n) :
    StOk n m (j + 1) (stepS par kids n m st wk) := by
  have hs := h.steps
  have hl := fun i => Nat.le_trans (takeS_len st.dq m wk i) (h.len i)
  unfold stepS
  by_cases ht : (takeS st.dq m wk).1 < 0
  · simp only [ht, if_true]
    exact ⟨by show st.steps + 1 = _; omega, fun i hi x hx => h.dq i hi x (takeS_sub hx), fun i => by show ((takeS st.dq m wk).2 i).length ≤ _; have := hl i; omega, by have := h.ord; show st.ord.length ≤ _; omega, by have := h.who; show st.who.length ≤ _; omega⟩
  · simp only [ht, if_false]
    refine ⟨by show st.steps + 1 = _; omega, fun i hi x hx => ?_, fun i => ?_, by have := h.ord; simp; omega, by have := h.who; simp; omega⟩
    · by_cases he : i = wk
      · subst he
        simp only [upd_same, List.mem_append] at hx
        rcases hx with hx | hx
        · exact h.dq i hi x (takeS_sub hx)
        · exact hkm _ x hx
      · simp only [upd_other _ _ he] at hx
        exact h.dq i hi x (takeS_sub hx)
    · by_cases he : i = wk
      · subst he
        simp only [upd_same, List.length_append]
        have := hl i; have := hk (takeS st.dq m i).1.toNat; omega
      · simp only [upd_other _ _ he]
        have := hl i; omega

theorem StOk.init (l vals : List Int) (m : Nat) (h : 1 ≤ l.length) : StOk l.length m 0 (initS l vals) := by
  refine ⟨rfl, fun i hi x hx => ?_, fun i => ?_, Nat.zero_le _, Nat.zero_le _⟩
  · simp only [initS] at hx
    by_cases h0 : i = 0
    · rw [if_pos h0] at hx; simp at hx; omega
    · rw [if_neg h0] at hx; cases hx
  · simp only [initS]
    by_cases h0 : i = 0
    · rw [if_pos h0]; simp
    · rw [if_neg h0]; simp
end Go.Proofs.Ytgdnkgfgakhpeaa
