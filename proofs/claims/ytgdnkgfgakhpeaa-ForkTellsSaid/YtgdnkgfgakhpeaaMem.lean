/-
  Words of this proof, more: a block whose cells are told by a function.
-/
import Derived.Test.YtgdnkgfgakhpeaaKit
namespace Go.Proofs.Ytgdnkgfgakhpeaa
open Go.RowKit
set_option linter.unusedVariables false
set_option linter.unusedSimpArgs false

/-- Block b has n cells; the one at o holds F o; it may be written. -/
def Blk (w : World) (b n : Nat) (F : Nat → Value) : Prop :=
  ∃ cs ty, w.heap[b]? = some (.cells cs ty (0, 0)) ∧ cs.size = n ∧ ∀ o, o < n → cs[o]? = some (F o)

/-- F, but for one place -/
def upd {α : Type} (F : Nat → α) (o : Nat) (v : α) : Nat → α := fun x => if x = o then v else F x
theorem upd_same {α : Type} (F : Nat → α) (o : Nat) (v : α) : upd F o v o = v := by simp [upd]
theorem upd_other {α : Type} (F : Nat → α) {o x : Nat} (v : α) (h : x ≠ o) : upd F o v x = F x := by simp [upd, h]

section
variable {w w' : World} {b n : Nat} {F : Nat → Value}

theorem Blk.lt (h : Blk w b n F) : b < w.heap.size := by
  obtain ⟨cs, ty, hb, _⟩ := h
  rcases Nat.lt_or_ge b w.heap.size with h1 | h1
  · exact h1
  · rw [Array.getElem?_eq_none h1] at hb; cases hb

theorem Blk.cell (h : Blk w b n F) {o : Nat} (ho : o < n) : w.cell? ⟨b, o, none⟩ = some (F o) := by
  obtain ⟨cs, ty, hb, hs, hc⟩ := h
  simp only [World.cell?, hb]
  simpa using hc o ho

theorem Blk.frozen (h : Blk w b n F) (o : Nat) : w.frozen? ⟨b, o, none⟩ = false := by
  obtain ⟨cs, ty, hb, _⟩ := h
  simp [World.frozen?, hb]

theorem Blk.congr {G : Nat → Value} (h : Blk w b n F) (hFG : ∀ o, o < n → F o = G o) : Blk w b n G := by
  obtain ⟨cs, ty, hb, hs, hc⟩ := h
  exact ⟨cs, ty, hb, hs, fun o ho => by rw [hc o ho, hFG o ho]⟩

theorem Blk.set (h : Blk w b n F) {o : Nat} (ho : o < n) (v : Value) : Blk (w.setCell ⟨b, o, none⟩ v) b n (upd F o v) := by
  obtain ⟨cs, ty, hb, hs, hc⟩ := h
  refine ⟨cs.setIfInBounds o v, ty, ?_, by simpa using hs, fun x hx => ?_⟩
  · simp [World.setCell, Array.getElem?_modify, hb]
  · rw [Array.getElem?_setIfInBounds]
    by_cases he : o = x
    · subst he; simp [upd, hs, hx]
    · rw [if_neg he, hc x hx, upd_other _ _ (fun e => he e.symm)]

theorem Blk.block (h : Blk w b n F) (hb : w'.heap[b]? = w.heap[b]?) : Blk w' b n F := by
  obtain ⟨cs, ty, hb', r⟩ := h
  exact ⟨cs, ty, by rw [hb, hb'], r⟩
theorem Blk.setOther (h : Blk w b n F) {a : Addr} (ha : b ≠ a.block) (v : Value) : Blk (w.setCell a v) b n F :=
  h.block (Below.heap_setCell _ _ _ _ ha)
theorem Blk.alloc (h : Blk w b n F) (o : Obj) : Blk (w.alloc o) b n F := h.block (Below.heap_alloc _ _ _ h.lt)
theorem Blk.drew (h : Blk w b n F) : Blk w.drew b n F := h
theorem Blk.drewN (h : Blk w b n F) (k : Nat) : Blk (w.drewN k) b n F := h
theorem Blk.ext {S : List Nat} (h : Blk w b n F) (hx : Ext S w w') (hS : b ∉ S) : Blk w' b n F := h.block (hx.block b h.lt hS)
theorem Blk.grown {row : Option Nat} (h : Blk w b n F) (hg : w.grownBy w' row) (hr : some b ≠ row) : Blk w' b n F := h.block (hg.block b h.lt hr)
theorem Blk.new (w : World) (cs : Array Value) (ty : TypeId) : Blk (w.alloc (.cells cs ty)) w.heap.size cs.size (fun o => cs.getD o undef) :=
  ⟨cs, ty, heap_alloc_new w _, rfl, fun o ho => by simp [Array.getD_eq_getD_getElem?, ho]⟩
end

theorem Ext.alike {S : List Nat} {a b c : World} (h : Ext S a b) (hh : c.heap = b.heap) (h1 : c.os = b.os) (h2 : c.tape = b.tape) (h3 : c.output = b.output) : Ext S a c :=
  ⟨h1.trans h.os, h2.trans h.tape, h3.trans h.output, by rw [hh]; exact h.size, fun k hk hS => by rw [hh]; exact h.block k hk hS⟩
theorem Ext.store {S : List Nat} {a c : World} {b o : Nat} {v : Value} (hb : b ∈ S) (hh : c.heap = (a.setCell ⟨b, o, none⟩ v).heap) (h1 : c.os = a.os) (h2 : c.tape = a.tape) (h3 : c.output = a.output) : Ext S a c :=
  ((Ext.refl S a).setCell (p := ⟨b, o, none⟩) (.inl hb) v).alike hh h1 h2 h3

/-- the blocks that a slice's value reads lie in none of S -/
def Out (S : List Nat) (p : Option Addr) : Prop := ∀ a, p = some a → a.block ∉ S

/-- The value v is a slice that reads as l; what it reads lies in none of the blocks S. -/
def IntsV (w : World) (S : List Nat) (v : Value) (l : List Int) : Prop :=
  ∃ p c, v = .slice p l.length c ∧ l.length ≤ c ∧ c ≤ maxLen ∧ IntsAt w p l ∧ (l ≠ [] → Out S p)

theorem IntsV.lt {w : World} {S : List Nat} {v : Value} {l : List Int} (h : IntsV w S v l) (hl : l ≠ []) : ∃ b off c, v = .slice (some ⟨b, off, none⟩) l.length c ∧ b < w.heap.size ∧ b ∉ S := by
  obtain ⟨p, c, hv, _, _, h0, ho⟩ := h
  rcases h0 with h0 | ⟨b, off, rfl, hc⟩
  · exact absurd h0 hl
  · exact ⟨b, off, c, hv, World.block_lt_of_cell? w _ (hc 0 (List.length_pos_iff.2 hl)), ho hl _ rfl⟩

/-- a later world, other blocks to keep out of -/
theorem IntsV.ext {w w' : World} {S T U : List Nat} {v : Value} {l : List Int} (h : IntsV w S v l) (hx : Ext T w w') (hT : ∀ k ∈ T, k ∈ S ∨ w.heap.size ≤ k) (hU : ∀ k ∈ U, k ∈ S ∨ w.heap.size ≤ k) : IntsV w' U v l := by
  by_cases hl : l = []
  · obtain ⟨p, c, hv, h1, h2, _, _⟩ := h
    exact ⟨p, c, hv, h1, h2, .inl hl, fun hn => absurd hl hn⟩
  · have hlt := h.lt hl
    obtain ⟨p, c, hv, h1, h2, h0, ho⟩ := h
    obtain ⟨b, off, c', hv', hb, hS⟩ := hlt
    rw [hv] at hv'
    cases hv'
    have key : ∀ (X : List Nat), (∀ k ∈ X, k ∈ S ∨ w.heap.size ≤ k) → b ∉ X := fun X hX hm => by
      rcases hX b hm with h3 | h3
      · exact hS h3
      · omega
    refine ⟨_, _, hv, h1, h2, h0.ext hx (fun a ha => by cases ha; exact key T hT), fun _ a ha => by cases ha; exact key U hU⟩

theorem IntsV.same {w w' : World} {S T : List Nat} {v : Value} {l : List Int} (h : IntsV w S v l) (hx : Ext T w w') (hT : ∀ k ∈ T, k ∈ S) : IntsV w' S v l :=
  h.ext hx (fun k hk => .inl (hT k hk)) (fun k hk => .inl hk)

theorem IntsV.nil (w : World) (S : List Nat) : IntsV w S (.slice none 0 0) [] := ⟨none, 0, rfl, by simp, by simp [maxLen], .inl rfl, fun h => absurd rfl h⟩

/-- all but the last one -/
theorem IntsV.init {w : World} {S : List Nat} {p : Option Addr} {l : List Int} {c : Nat} (h : IntsV w S (.slice p l.length c) l) : IntsV w S (.slice p (l.length - 1) c) l.dropLast := by
  obtain ⟨p', c', hv, h1, h2, h0, ho⟩ := h
  cases hv
  refine ⟨p, c, by simp, by simp; omega, h2, ?_, fun hl => ho (fun e => hl (by simp [e]))⟩
  rcases h0 with rfl | ⟨b, off, hp, hc⟩
  · exact .inl rfl
  · exact .inr ⟨b, off, hp, fun k hk => by rw [List.getElem_dropLast]; exact hc k (by simp at hk; omega)⟩

/-- all but the first one: the address is one further on (or, where nothing is left, any) -/
theorem IntsV.tail {w : World} {S : List Nat} {b off : Nat} {l : List Int} {c : Nat} {q : Option Addr} (hl : l ≠ []) (h : IntsV w S (.slice (some ⟨b, off, none⟩) l.length c) l) (hq : q = some ⟨b, off + 1, none⟩ ∨ c = 1) :
    IntsV w S (.slice q (l.length - 1) (c - 1)) l.tail := by
  obtain ⟨p', c', hv, h1, h2, h0, ho⟩ := h
  cases hv
  refine ⟨q, c - 1, by simp, by simp; omega, by omega, ?_, fun hlt a ha => ?_⟩
  · rcases hq with rfl | rfl
    · rcases h0 with rfl | ⟨b', off', hp, hc⟩
      · exact .inl rfl
      · cases hp
        refine .inr ⟨b, off + 1, rfl, fun k hk => ?_⟩
        rw [List.getElem_tail, show off + 1 + k = off + (k + 1) by omega]
        exact hc (k + 1) (by simp at hk; omega)
    · left
      have : 0 < l.length := List.length_pos_iff.2 hl
      exact List.length_eq_zero_iff.1 (by simp; omega)
  · rcases hq with rfl | rfl
    · cases ha
      exact ho hl ⟨b, off, none⟩ rfl
    · have : 0 < l.length := List.length_pos_iff.2 hl
      exact absurd (List.length_eq_zero_iff.1 (by simp; omega)) hlt
theorem size3 (w : World) : (sizeOf 3).run Try.prog w = .ok 1 w := by kernel_rfl
theorem run_slH (p : Option Addr) (n c : Nat) (h : Int) (h0 : 0 ≤ h) (h1 : h ≤ c) (w : World) :
    (Instr.slice 22 (.slice p n c) none (some (.int .i64 h)) none).run Try.prog w = .ok (.slice p h.toNat c) w := by
  have e : Try.prog.elem 22 = 3 := by kernel_rfl
  rw [run_slice_h (P := Try.prog) (t := 22) (a := p) (len := n) (cap := c) (ht := by rw [e]; exact Try.underlying22) (kh := .i64) (h := h) (h0 := h0) (h2 := h1)]
  rw [e, size3]
  simp [sliced]
  rcases p with _ | a <;> simp [Addr.add]
theorem run_slL (p : Option Addr) (n c : Nat) (h : Int) (h0 : 0 ≤ h) (h1 : h ≤ n) (w : World) :
    (Instr.slice 22 (.slice p n c) (some (.int .i64 h)) none none).run Try.prog w = .ok (.slice (if c = h.toNat then p else p.map (·.add h.toNat)) (n - h.toNat) (c - h.toNat)) w := by
  have e : Try.prog.elem 22 = 3 := by kernel_rfl
  rw [run_slice_l (P := Try.prog) (t := 22) (a := p) (len := n) (cap := c) (ht := by rw [e]; exact Try.underlying22) (kl := .i64) (l := h) (h0 := h0) (h1 := h1)]
  rw [e, size3]
  simp [sliced]

theorem run_slAtH (p : Option Addr) (n c : Nat) (h : Int) (h0 : 0 ≤ h) (h1 : h ≤ c) (w : World) :
    (Instr.sliceAt 22 (.slice p n c) none (some (.int .i64 h)) none).run Try.prog w = .ok (.slice p h.toNat c) w := by
  rw [run_sliceAt_slice _ _ _ _ _ _ (by rw [show Try.prog.elem 22 = 3 by kernel_rfl]; exact Try.underlying22)]; exact run_slH p n c h h0 h1 w
theorem run_slAtL (p : Option Addr) (n c : Nat) (h : Int) (h0 : 0 ≤ h) (h1 : h ≤ n) (w : World) :
    (Instr.sliceAt 22 (.slice p n c) (some (.int .i64 h)) none none).run Try.prog w = .ok (.slice (if c = h.toNat then p else p.map (·.add h.toNat)) (n - h.toNat) (c - h.toNat)) w := by
  rw [run_sliceAt_slice _ _ _ _ _ _ (by rw [show Try.prog.elem 22 = 3 by kernel_rfl]; exact Try.underlying22)]; exact run_slL p n c h h0 h1 w

/-- the blocks of Pr are as they were -/
structure Keeps (Pr : Nat → Prop) (w w' : World) : Prop where
  os : w'.os = w.os
  tape : w'.tape = w.tape
  output : w'.output = w.output
  size : w.heap.size ≤ w'.heap.size
  block : ∀ k, Pr k → w'.heap[k]? = w.heap[k]?
theorem Keeps.refl (Pr : Nat → Prop) (w : World) : Keeps Pr w w := ⟨rfl, rfl, rfl, Nat.le_refl _, fun _ _ => rfl⟩
theorem Keeps.trans {Pr : Nat → Prop} {a b c : World} (h : Keeps Pr a b) (k : Keeps Pr b c) : Keeps Pr a c :=
  ⟨k.os.trans h.os, k.tape.trans h.tape, k.output.trans h.output, Nat.le_trans h.size k.size, fun i hi => (k.block i hi).trans (h.block i hi)⟩
theorem Ext.keeps {S : List Nat} {Pr : Nat → Prop} {w w' : World} (h : Ext S w w') (hS : ∀ b ∈ S, ¬ Pr b) (hP : ∀ b, Pr b → b < w.heap.size) : Keeps Pr w w' :=
  ⟨h.os, h.tape, h.output, h.size, fun k hk => h.block k (hP k hk) (fun hm => hS k hm hk)⟩
end Go.Proofs.Ytgdnkgfgakhpeaa
