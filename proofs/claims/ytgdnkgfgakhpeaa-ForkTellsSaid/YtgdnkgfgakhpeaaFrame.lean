/-
  What a row's arguments are: slices of ints, laid open; their lengths by their weights.
-/
import Derived.Test.YtgdnkgfgakhpeaaKit
import Derived.Test.YtgdnkgfgakhpeaaQ2
import Derived.ProofKit
import Derived.OpenShut
import Derived.ChangeOld
import Derived.Below
import Derived.SizedLaws
import Derived.ChangeSlices
import Derived.Carry
namespace Go.Proofs.Ytgdnkgfgakhpeaa
open Go.ChangeShapes Go.WideShapes Go.ChangeAt Go.RowKit
set_option linter.unusedVariables false
set_option linter.unusedSimpArgs false

theorem own : ownKnob Try.prog.godebug = none := by kernel_rfl
theorem laidOut : laidOutB Try.prog = true := by kernel_rfl

theorem wf_small {l : List Int} (h : ∀ n ∈ l, (Lit.int .i64 n).wf = true) : Small l := fun x hx => by
  have := h x hx
  simpa [Lit.wf, IntKind.min, IntKind.max, IntKind.signed, IntKind.bits] using this
theorem wf_int {n : Int} (h : (Lit.int .i64 n).wf = true) : -9223372036854775808 ≤ n ∧ n ≤ 9223372036854775807 := by
  simpa [Lit.wf, IntKind.min, IntKind.max, IntKind.signed, IntKind.bits] using h

theorem open22 {H : Type} {enc : TypeId × Value → H} {W : World} {b0 : Nat} {v : Value} {d : DataW H} {ps : List MemPlace} {ts : List TypeId} {ds : List (DataW H)} (j : Nat)
    (hok : Value.okWide Try.prog W .any b0 22 v) (hsz : (DataW.weightsEach Try.prog ts ds).all (· ≤ reachBytes) = true) (ht : ts[j]? = some 22) (hd : ds[j]? = some d)
    (h : DataW.Trod enc Try.prog W 0 (fun _ => true) true 22 v d ps) :
    ∃ p c l, v = .slice p l.length c ∧ IntsAt W p l ∧ Small l ∧ l.length ≤ 1000000000000000 ∧ l.length * 8 ≤ 140737488351232 ∧ l.length ≤ c ∧ c ≤ maxLen := by
  obtain ⟨a, len, cap, rfl⟩ := okWide_slice Try.underlying22 hok
  obtain ⟨fuel, hf⟩ := h
  rcases open_ints Try.underlying22 Try.underlying3 (by kernel_rfl) hf with ⟨hcs, _⟩ | ⟨x, l, c, zs, hcs, _, hl, hm, hz, hx, hcell, hwz⟩
  · simp [Value.cells] at hcs
    obtain ⟨rfl, rfl, rfl⟩ := hcs
    exact ⟨none, 0, [], rfl, .inl rfl, fun x hx => (by cases hx), by simp, by simp, by simp, by unfold maxLen; omega⟩
  · simp [Value.cells] at hcs
    obtain ⟨rfl, rfl, rfl⟩ := hcs
    obtain ⟨hx, _⟩ := Prod.mk.inj hx
    subst hx
    have z := sized_slice hsz ht hd Try.underlying22
    rw [show Try.prog.bytesOf 3 = 8 by kernel_rfl] at z
    have hz' : zs.length = cap := by simpa using hz
    have h1 : (lits (H := H) .i64 (zs.take len)).length + (lits (H := H) .i64 (zs.drop len)).length = zs.length := by simp [lits]; omega
    rw [h1] at z
    have hr : reachBytes = 140737488351232 := by decide
    rw [hr] at z
    have hlen : (zs.take len).length = len := by simp; omega
    refine ⟨some x, cap, zs.take len, by rw [hlen], ?_, fun y hy => wf_small hwz y (List.mem_of_mem_take hy), by omega, by omega, by omega, hm⟩
    by_cases h0 : zs.take len = []
    · exact .inl h0
    · obtain ⟨xb, xo, xs⟩ := x
      have hi : xs = none := by
        have := hcell 0 (by have : 0 < (zs.take len).length := List.length_pos_iff.2 h0; omega)
        rcases xs with _ | i
        · rfl
        · simp only [Addr.add, if_pos, World.cell?] at this
          split at this <;> simp at this
      subst hi
      refine .inr ⟨xb, xo, rfl, fun k hk => ?_⟩
      have := hcell k (by omega)
      rw [List.getElem_take]
      have e : (⟨xb, xo, none⟩ : Addr).add k = ⟨xb, xo + k, none⟩ := by unfold Addr.add; split <;> simp_all
      rw [e] at this
      rw [this, List.getD_eq_getElem?_getD, List.getElem?_eq_getElem (by omega)]; rfl
end Go.Proofs.Ytgdnkgfgakhpeaa
