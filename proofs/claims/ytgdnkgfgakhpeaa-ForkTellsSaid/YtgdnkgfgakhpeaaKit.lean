/-
  Words of this proof: what a slice of ints reads as, and which blocks a step may have turned. Nothing of the program's dump is in them but its element types.
-/
import Derived.Test.YtgdnkgfgakhpeaaRows
import Derived.WalkKit
import Derived.WalkSpells
import Derived.WalkLawsBesides
import Derived.Deep.QuietTactic
import Derived.BigQuiet
import Derived.Deep.Draws
import Derived.IntWalk
import Derived.Lib.Hide
import Derived.Deep.AppendLies
namespace Go.Proofs.Ytgdnkgfgakhpeaa
open Go.RowKit

/-- A slice's address p reads as the list l of ints. -/
def IntsAt (w : World) (p : Option Addr) (l : List Int) : Prop :=
  l = [] ∨ ∃ b off, p = some ⟨b, off, none⟩ ∧ ∀ k (h : k < l.length), w.cell? ⟨b, off + k, none⟩ = some (.int .i64 l[k])

theorem IntsAt.nil (w : World) (p : Option Addr) : IntsAt w p [] := .inl rfl

theorem IntsAt.get {w : World} {p : Option Addr} {l : List Int} (h : IntsAt w p l) (k : Nat) (hk : k < l.length) :
    ∃ b off, p = some ⟨b, off, none⟩ ∧ w.cell? ⟨b, off + k, none⟩ = some (.int .i64 l[k]) := by
  rcases h with rfl | ⟨b, off, hp, hc⟩
  · simp at hk
  · exact ⟨b, off, hp, hc k hk⟩

/-- All but the blocks of S that were there in w is in w' as it was. -/
structure Ext (S : List Nat) (w w' : World) : Prop where
  os : w'.os = w.os
  tape : w'.tape = w.tape
  output : w'.output = w.output
  size : w.heap.size ≤ w'.heap.size
  block : ∀ k, k < w.heap.size → k ∉ S → w'.heap[k]? = w.heap[k]?

theorem Ext.refl (S : List Nat) (w : World) : Ext S w w := ⟨rfl, rfl, rfl, Nat.le_refl _, fun _ _ _ => rfl⟩
theorem Ext.trans {S T : List Nat} {a b c : World} (h : Ext S a b) (k : Ext T b c) (hT : ∀ i ∈ T, i ∈ S ∨ a.heap.size ≤ i) : Ext S a c :=
  ⟨k.os.trans h.os, k.tape.trans h.tape, k.output.trans h.output, Nat.le_trans h.size k.size, fun i hi hS =>
    (k.block i (Nat.lt_of_lt_of_le hi h.size) (fun hm => by rcases hT i hm with h1 | h1; exact hS h1; omega)).trans (h.block i hi hS)⟩
theorem Ext.mono {S T : List Nat} {a b : World} (h : Ext S a b) (hT : ∀ i ∈ S, i ∈ T) : Ext T a b :=
  ⟨h.os, h.tape, h.output, h.size, fun i hi hS => h.block i hi (fun hm => hS (hT i hm))⟩
theorem Ext.drewN {S : List Nat} {a b : World} (h : Ext S a b) (n : Nat) : Ext S a (b.drewN n) := ⟨h.os, h.tape, h.output, h.size, h.block⟩
theorem Ext.drew {S : List Nat} {a b : World} (h : Ext S a b) : Ext S a b.drew := ⟨h.os, h.tape, h.output, h.size, h.block⟩
theorem Ext.alloc {S : List Nat} {a b : World} (h : Ext S a b) (o : Obj) : Ext S a (b.alloc o) :=
  ⟨h.os, h.tape, h.output, by have := h.size; simp; omega, fun k hk hS => by
    rw [Below.heap_alloc _ _ _ (by have := h.size; omega)]; exact h.block k hk hS⟩
theorem Ext.setCell {S : List Nat} {a b : World} (h : Ext S a b) {p : Addr} (hp : p.block ∈ S ∨ a.heap.size ≤ p.block) (u : Value) : Ext S a (b.setCell p u) :=
  ⟨h.os, h.tape, h.output, by have := h.size; simp [World.setCell]; omega, fun k hk hS => by
    rw [Below.heap_setCell _ _ _ _ (by rintro rfl; rcases hp with hp | hp; exact hS hp; omega)]; exact h.block k hk hS⟩
theorem Ext.grown {S : List Nat} {a w w' : World} {row : Option Nat} (h : Ext S a w) (hg : w.grownBy w' row) (hr : ∀ k, row = some k → k ∈ S ∨ a.heap.size ≤ k) : Ext S a w' :=
  ⟨hg.os.trans h.os, hg.tape.trans h.tape, hg.output.trans h.output, Nat.le_trans h.size hg.size, fun k hk hS =>
    (hg.block k (Nat.lt_of_lt_of_le hk h.size) (fun e => by rcases hr k e.symm with h1 | h1; exact hS h1; omega)).trans (h.block k hk hS)⟩
theorem Ext.below {w w' : World} (h : Ext [] w w') : Below w.heap.size w w' := ⟨h.os, h.tape, h.output, h.size, fun k hk => h.block k hk (by simp)⟩
theorem Ext.of_below {w w' : World} (h : Below w.heap.size w w') : Ext [] w w' := ⟨h.os, h.tape, h.output, h.size, fun k hk _ => h.block k hk⟩
theorem Ext.get {S : List Nat} {w w' : World} (h : Ext S w w') {b : Nat} {o : Obj} (hb : w.heap[b]? = some o) (hS : b ∉ S) : w'.heap[b]? = some o := by
  rw [h.block b ?_ hS]; exact hb
  rcases Nat.lt_or_ge b w.heap.size with h1 | h1
  · exact h1
  · rw [Array.getElem?_eq_none h1] at hb; cases hb
theorem Ext.cell {S : List Nat} {w w' : World} (h : Ext S w w') {a : Addr} {v : Value} (hb : w.cell? a = some v) (hS : a.block ∉ S) : w'.cell? a = some v := by
  rw [World.cell?_of_block (h.block a.block (World.block_lt_of_cell? w a hb) hS)]; exact hb

theorem IntsAt.ext {S : List Nat} {w w' : World} {p : Option Addr} {l : List Int} (h : IntsAt w p l) (hx : Ext S w w') (hS : ∀ a, p = some a → a.block ∉ S) : IntsAt w' p l := by
  rcases h with rfl | ⟨b, off, hp, hc⟩
  · exact .inl rfl
  · exact .inr ⟨b, off, hp, fun k hk => hx.cell (hc k hk) (hS ⟨b, off, none⟩ hp)⟩
theorem IntsAt.ext0 {w w' : World} {p : Option Addr} {l : List Int} (h : IntsAt w p l) (hx : Ext [] w w') : IntsAt w' p l := h.ext hx (by simp)
theorem IntsAt.drewN {w : World} {p : Option Addr} {l : List Int} (h : IntsAt w p l) (n : Nat) : IntsAt (w.drewN n) p l := h

/-- What the call owns reads as ints. -/
theorem IntsAt.of_owns {w : World} {base n : Nat} {v : Value} {l : List Int} (h : w.ownsRow base 3 1 v n (l.map (Value.int .i64))) :
    n = l.length ∧ ∃ p c, v = .slice p l.length c ∧ IntsAt w p l ∧ ∀ a, p = some a → base ≤ a.block ∧ a.block < w.heap.size := by
  have hn : n = l.length := by have := h.1; simpa using this.symm
  subst hn
  refine ⟨rfl, ?_⟩
  rcases h.2 with ⟨hv, h0⟩ | ⟨g, cap, cur, hv, hb, hg, hle, hm, hs, ht⟩
  · refine ⟨none, 0, by rw [hv, h0], .inl (List.length_eq_zero_iff.1 h0), by simp⟩
  · refine ⟨some ⟨g, 0, none⟩, cap, hv, .inr ⟨g, 0, rfl, fun k hk => ?_⟩, ?_⟩
    · have hlt : k < cur.size := by omega
      have h2 : (cur.toList.take (l.length * 1))[k]? = (l.map (Value.int .i64))[k]? := by rw [ht]
      rw [List.getElem?_take, if_pos (by omega)] at h2
      simp only [World.cell?, hg, Nat.zero_add, Option.isSome_none]
      simpa [hk] using h2
    · rintro a rfl2
      cases rfl2
      refine ⟨hb, ?_⟩
      rcases Nat.lt_or_ge g w.heap.size with h1 | h1
      · exact h1
      · rw [Array.getElem?_eq_none h1] at hg; cases hg

theorem ret_int {k : IntKind} {a b : Int} (h : a = b) : Ending.returned (.int k a) = .returned (.int k b) := by rw [h]
theorem ret_bool {a b : Bool} (h : a = b) : Ending.returned (.bool a) = .returned (.bool b) := by rw [h]

/-- The row of the element type's table, for append on []int. -/
theorem Try.info3 : (Try.prog.info? 3).map (fun i => (i.zero, i.size, i.bytes)) = some (some (.int .i64 0), 1, 8) := by kernel_rfl

/-- 'append(s, x)' of one int, onto what the call owns: the int has just been laid into a block of its own. -/
theorem wpList_app1 {ops : Array Oper} {rest : List Oper} {o : Oper} {a : Act} {Q : Exit → Act → World → Prop} {wr : World} (hgd : o.guard = none) (s x : Operand)
    (ho : o.op = .call { callee := .builtin .append, args := #[s, x], argTypes := #[22, 22] })
    (base : Nat) (v : Value) (n : Nat) (l : List Int) (y : Int) (hs : a.eval s = v) (hx : a.eval x = .slice (some ⟨wr.heap.size, 0, none⟩) 1 1)
    (hown : wr.ownsRow base 3 1 v n (l.map (Value.int .i64))) (hn : n ≤ 1000000000000) (hbase : base ≤ wr.heap.size)
    (h : ∀ v' w', w'.ownsRow base 3 1 v' (n + 1) ((l ++ [y]).map (Value.int .i64)) → (wr.alloc (.cells #[.int .i64 y] 3)).grownBy w' v.ownBlock → (v' = .slice none 0 0 ↔ False) → wpList Try.prog ops Q rest (a.put o.dst v') w') :
    wpList Try.prog ops Q (o :: rest) a (wr.alloc (.cells #[.int .i64 y] 3)) := by
  obtain ⟨i0, hi, hz0, hz1, hz2⟩ := info_parts Try.info3
  refine wpList_append_own _ hgd s x 22 ho base 3 i0 (.int .i64 0) 1 8 Try.underlying22 hi hz0 hz1 hz2 rfl (by decide) v n _ hs (hown.alloc _) ⟨wr.heap.size, 0, none⟩ 1 1 [.int .i64 y] hx rfl ?_ (by simp [Value.oneCell']) (by unfold maxLen; omega) (by omega) (by simp; omega) ?_
  · intro j u hu
    have hj : j = 0 := by
      rcases j with _ | j
      · rfl
      · simp at hu
    subst hj
    simp at hu
    subst hu
    simp [Addr.add]
  · intro v' w' h1 h2 h3
    refine h v' w' (by simpa using h1) h2 (by simpa using h3)
end Go.Proofs.Ytgdnkgfgakhpeaa
