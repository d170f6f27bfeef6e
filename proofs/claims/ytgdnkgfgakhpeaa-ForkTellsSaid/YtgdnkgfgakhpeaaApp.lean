/-
  append, in the forms that this proof asks for.
-/
import Derived.Test.YtgdnkgfgakhpeaaMem
import Derived.Deep.RegionLaw
namespace Go.Proofs.Ytgdnkgfgakhpeaa
open Go.RowKit
set_option linter.unusedVariables false
set_option linter.unusedSimpArgs false

theorem add_eq (b off j : Nat) : (⟨b, off, none⟩ : Addr).add j = ⟨b, off + j, none⟩ := by unfold Addr.add; split <;> simp_all

theorem IntsAt.cells {w : World} {p : Option Addr} {l : List Int} (h : IntsAt w p l) {a : Addr} (hp : p = some a) : ∀ j v, (l.map (Value.int .i64))[j]? = some v → w.cell? (a.add j) = some v := by
  intro j v hv
  rcases h with rfl | ⟨b, off, hp', hc⟩
  · simp at hv
  · rw [hp] at hp'
    cases hp'
    rw [List.getElem?_map] at hv
    rcases Nat.lt_or_ge j l.length with hj | hj
    · rw [List.getElem?_eq_getElem hj] at hv
      simp at hv
      subst hv
      rw [add_eq]; exact hc j hj
    · rw [List.getElem?_eq_none hj] at hv; simp at hv

theorem run_append_zero (ty : TypeId) (p q : Option Addr) (n cap c : Nat) (hn : n ≤ cap) (w : World) :
    (Builtin.append_ #[22, 22] ty #[.slice p n cap, .slice q 0 c]).run Try.prog w = .ok (.slice p n cap) w := by
  obtain ⟨i0, hi, hz0, hz1, hz2⟩ := info_parts Try.info3
  have hu := Try.underlying22
  rcases p with _ | a <;> rcases q with _ | b
  · simp [Builtin.append_, run_underlying hu, sizeOf, typeInfo, hi, Builtin.lenOf, hn, Builtin.firstCells]
  · have hf := run_firstCells_some (P := Try.prog) w 1 0 b 0 c [] rfl (by simp)
    simp [Builtin.append_, run_underlying hu, sizeOf, typeInfo, hi, hz1, Builtin.lenOf, hn, hf]
  · simp [Builtin.append_, run_underlying hu, sizeOf, typeInfo, hi, Builtin.lenOf, hn, Builtin.firstCells, storeCells]
  · have hf := run_firstCells_some (P := Try.prog) w 1 0 b 0 c [] rfl (by simp)
    simp [Builtin.append_, run_underlying hu, sizeOf, typeInfo, hi, hz1, Builtin.lenOf, hn, hf, storeCells]

/-- what a new row reads as -/
theorem IntsV.fresh {w : World} {S : List Nat} {o : Array Value} {l : List Int} {cap : Nat} (ho : ∀ k (h : k < l.length), o[k]? = some (.int .i64 l[k])) (hc : l.length ≤ cap) (hm : cap ≤ maxLen) (hS : ∀ b ∈ S, b < w.heap.size) :
    IntsV (w.alloc (.cells o 3)) S (.slice (some ⟨w.heap.size, 0, none⟩) l.length cap) l := by
  refine ⟨_, _, rfl, hc, hm, .inr ⟨_, 0, rfl, fun k hk => ?_⟩, fun _ a ha => ?_⟩
  · rw [Nat.zero_add, World.cell?_alloc_new]; exact ho k hk
  · cases ha
    intro hm
    exact absurd (hS _ hm) (by simp)

theorem run_app_clip (S : List Nat) (ty : TypeId) (p q : Option Addr) (l k : List Int) (c : Nat) (w : World) (hl : IntsAt w p l) (hk : IntsAt w q k) (hb : l.length + k.length ≤ 1000000000)
    (hSl : l ≠ [] → Out S p) (hS : ∀ b ∈ S, b < w.heap.size) :
    ∃ v' w', (Builtin.append_ #[22, 22] ty #[.slice p l.length l.length, .slice q k.length c]).run Try.prog w = .ok v' w' ∧ IntsV w' S v' (l ++ k) ∧ Ext [] w w' := by
  obtain ⟨i0, hi, hz0, hz1, hz2⟩ := info_parts Try.info3
  by_cases hk0 : k = []
  · subst hk0
    refine ⟨_, w, run_append_zero ty p q l.length l.length c (Nat.le_refl _) w, ?_, Ext.refl _ _⟩
    rw [List.append_nil]
    exact ⟨p, l.length, rfl, Nat.le_refl _, by simp only [maxLen]; simp at hb; omega, hl, hSl⟩
  · have hkl : 0 < k.length := List.length_pos_iff.2 hk0
    obtain ⟨aq, hq⟩ : ∃ a, q = some a := by
      rcases hk with h | ⟨b, off, h, _⟩
      · exact absurd h hk0
      · exact ⟨_, h⟩
    have hck := hk.cells hq
    subst hq
    have hcap := grownCap_ge w.drew (l.length + k.length) l.length 3
    have hcap1 := grownCap_ge w (l.length + k.length) l.length 3
    have hcap2 := grownCap_le_maxLen w (l.length + k.length) l.length 3 (by simp only [maxLen]; omega)
    by_cases hp : ∃ a, p = some a
    · obtain ⟨ap, hp⟩ := hp
      have hcl := hl.cells hp
      subst hp
      have hr := run_append_grow (P := Try.prog) w 22 ty 3 i0 (.int .i64 0) Try.underlying22 hi hz0 ap l.length l.length (l.map (Value.int .i64)) (by simp [hz1]) hcl aq k.length c (k.map (Value.int .i64)) (by simp [hz1]) hck
        (by omega) (by omega) (by rw [hz2]; exact growslice_fits (by omega) (by omega))
      refine ⟨_, _, hr, ?_, ((Ext.refl _ _).drew).alloc _⟩
      have := IntsV.fresh (w := w.drew) (S := S) (o := (l.map (Value.int .i64)).toArray ++ (k.map (Value.int .i64)).toArray ++ Builtin.zeroCells (Value.int .i64 0).cells (grownCap w (l.length + k.length) l.length 3 - (l.length + k.length))) (l := l ++ k) (cap := grownCap w (l.length + k.length) l.length 3) (fun j hj => ?_) (by simpa using hcap1) hcap2 hS
      · simpa using this
      · rw [Array.append_assoc]
        simp only [List.length_append] at hj
        rw [Array.getElem?_append]
        by_cases h1 : j < l.length
        · simp [h1, List.getElem_append]
        · simp only [List.size_toArray, List.length_map, h1, if_false]
          rw [Array.getElem?_append]
          have h2 : j - l.length < k.length := by omega
          simp [h2, List.getElem_append, h1]
    · have hp' : p = none := by rcases p with _ | a; rfl; exact absurd ⟨a, rfl⟩ hp
      subst hp'
      have hl0 : l = [] := by
        rcases hl with h | ⟨b, off, h, _⟩
        · exact h
        · cases h
      subst hl0
      have hr := run_append_nil (P := Try.prog) w 22 ty 3 i0 (.int .i64 0) Try.underlying22 hi hz0 aq k.length c (k.map (Value.int .i64)) (by simp [hz1]) hck (by omega) (by simp at hb; omega) (by rw [hz2]; simp at hb; omega)
      simp only [List.length_nil, Nat.zero_add] at hcap1 hcap2
      refine ⟨_, _, hr, ?_, ((Ext.refl _ _).drew).alloc _⟩
      have := IntsV.fresh (w := w.drew) (S := S) (o := (k.map (Value.int .i64)).toArray ++ Builtin.zeroCells (Value.int .i64 0).cells (grownCap w k.length 0 3 - k.length)) (l := k) (cap := grownCap w k.length 0 3) (fun j hj => ?_) hcap1 hcap2 hS
      · simpa using this
      · rw [Array.getElem?_append]
        simp [hj]

/-- at an operation -/
theorem wp_app_clip {o : Oper} {a : Act} {w : World} {K : Act → World → Prop} {Q : Exit → Act → World → Prop} (s x : Operand) (ho : o.op = .call { callee := .builtin .append, args := #[s, x], argTypes := #[22, 22] })
    (S : List Nat) (p q : Option Addr) (l k : List Int) (c : Nat) (hs : a.eval s = .slice p l.length l.length) (hx : a.eval x = .slice q k.length c) (hl : IntsAt w p l) (hk : IntsAt w q k) (hb : l.length + k.length ≤ 1000000000)
    (hSl : l ≠ [] → Out S p) (hS : ∀ b ∈ S, b < w.heap.size) (h : ∀ v' w', IntsV w' S v' (l ++ k) → Ext [] w w' → K (a.put o.dst v') w') : o.wp Try.prog a w K Q := by
  obtain ⟨v', w', hr, h1, h2⟩ := run_app_clip S o.type p q l k c w hl hk hb hSl hS
  unfold Oper.wp execOp
  simp only [ho, resolve, invoke, builtin, Sem.run_bind, Sem.run_pure, Result.andThen_ok, List.map_toArray, List.map_cons, List.map_nil, hs, hx, hr]
  exact h v' w' h1 h2

theorem wpList_app_clip {ops : Array Oper} {rest : List Oper} {o : Oper} {a : Act} {w : World} {Q : Exit → Act → World → Prop} (hgd : o.guard = none) (s x : Operand) (ho : o.op = .call { callee := .builtin .append, args := #[s, x], argTypes := #[22, 22] })
    (S : List Nat) (p q : Option Addr) (l k : List Int) (c : Nat) (hs : a.eval s = .slice p l.length l.length) (hx : a.eval x = .slice q k.length c) (hl : IntsAt w p l) (hk : IntsAt w q k) (hb : l.length + k.length ≤ 1000000000)
    (hSl : l ≠ [] → Out S p) (hS : ∀ b ∈ S, b < w.heap.size) (h : ∀ v' w', IntsV w' S v' (l ++ k) → Ext [] w w' → wpList Try.prog ops Q rest (a.put o.dst v') w') : wpList Try.prog ops Q (o :: rest) a w :=
  wpList_plain hgd fun _ hK => wp_app_clip s x ho S p q l k c hs hx hl hk hb hSl hS fun v' w' h1 h2 => hK _ _ (h v' w' h1 h2)

theorem step_app_clip {ops : Array Oper} {o : Oper} {a : Act} {w : World} {K : Act → World → Prop} {Q : Exit → Act → World → Prop} {E : Prop} (hgd : o.guard = none) (s x : Operand) (ho : o.op = .call { callee := .builtin .append, args := #[s, x], argTypes := #[22, 22] })
    (S : List Nat) (p q : Option Addr) (l k : List Int) (c : Nat) (hs : a.eval s = .slice p l.length l.length) (hx : a.eval x = .slice q k.length c) (hl : IntsAt w p l) (hk : IntsAt w q k) (hb : l.length + k.length ≤ 1000000000)
    (hSl : l ≠ [] → Out S p) (hS : ∀ b ∈ S, b < w.heap.size) (h : ∀ v' w', IntsV w' S v' (l ++ k) → Ext [] w w' → K (a.put o.dst v') w') : if Region.wanted o (yielded ops a.tmps) = true then Oper.wp Try.prog o a w K Q else E := by
  have hw : Region.wanted o (yielded ops a.tmps) = true := by simp [Region.wanted, hgd]
  rw [if_pos hw]
  exact wp_app_clip s x ho S p q l k c hs hx hl hk hb hSl hS h

/-- 'append(s, x)' of one int that lies in a block of its own, onto what is owned; at an operation -/
theorem wp_app1 {o : Oper} {a : Act} {w : World} {K : Act → World → Prop} {Q : Exit → Act → World → Prop} (s x : Operand) (ho : o.op = .call { callee := .builtin .append, args := #[s, x], argTypes := #[22, 22] })
    (v : Value) (l : List Int) (y : Int) (g : Nat) (hs : a.eval s = v) (hx : a.eval x = .slice (some ⟨g, 0, none⟩) 1 1) (hg : w.cell? ⟨g, 0, none⟩ = some (.int .i64 y))
    (hown : w.ownsRow 0 3 1 v l.length (l.map (Value.int .i64))) (hn : l.length ≤ 1000000000000)
    (h : ∀ g' cap w', w'.ownsRow 0 3 1 (.slice (some ⟨g', 0, none⟩) (l.length + 1) cap) (l ++ [y]).length ((l ++ [y]).map (Value.int .i64)) → w.grownBy w' v.ownBlock → (v.ownBlock = some g' ∨ g' = w.heap.size) → K (a.put o.dst (.slice (some ⟨g', 0, none⟩) (l.length + 1) cap)) w') : o.wp Try.prog a w K Q := by
  obtain ⟨i0, hi, hz0, hz1, hz2⟩ := info_parts Try.info3
  refine wp_append_lies w s x 22 ho 0 3 i0 (.int .i64 0) 1 8 Try.underlying22 hi hz0 hz1 hz2 rfl (by decide) v l.length _ hs hown ⟨g, 0, none⟩ 1 1 [.int .i64 y] hx rfl ?_ (by simp [Value.oneCell']) (by omega) (by unfold maxLen; omega) (by omega) (by omega) w.heap.size rfl ?_
  · intro j u hu
    have hj : j = 0 := by
      rcases j with _ | j
      · rfl
      · simp at hu
    subst hj
    simp at hu
    subst hu
    simpa [Addr.add] using hg
  · intro g' cap w' h1 h2 h3 h4
    exact h g' cap w' (by simpa using h1) h2 h3

theorem step_app1 {ops : Array Oper} {o : Oper} {a : Act} {w : World} {K : Act → World → Prop} {Q : Exit → Act → World → Prop} {E : Prop} (hgd : o.guard = none) (s x : Operand) (ho : o.op = .call { callee := .builtin .append, args := #[s, x], argTypes := #[22, 22] })
    (v : Value) (l : List Int) (y : Int) (g : Nat) (hs : a.eval s = v) (hx : a.eval x = .slice (some ⟨g, 0, none⟩) 1 1) (hg : w.cell? ⟨g, 0, none⟩ = some (.int .i64 y))
    (hown : w.ownsRow 0 3 1 v l.length (l.map (Value.int .i64))) (hn : l.length ≤ 1000000000000)
    (h : ∀ g' cap w', w'.ownsRow 0 3 1 (.slice (some ⟨g', 0, none⟩) (l.length + 1) cap) (l ++ [y]).length ((l ++ [y]).map (Value.int .i64)) → w.grownBy w' v.ownBlock → (v.ownBlock = some g' ∨ g' = w.heap.size) → K (a.put o.dst (.slice (some ⟨g', 0, none⟩) (l.length + 1) cap)) w') : if Region.wanted o (yielded ops a.tmps) = true then Oper.wp Try.prog o a w K Q else E := by
  have hw : Region.wanted o (yielded ops a.tmps) = true := by simp [Region.wanted, hgd]
  rw [if_pos hw]
  exact wp_app1 s x ho v l y g hs hx hg hown hn h

/-- the same, the place of the new one open -/
theorem step_app1x {ops : Array Oper} {o : Oper} {a : Act} {w : World} {K : Act → World → Prop} {Q : Exit → Act → World → Prop} {E : Prop} (hgd : o.guard = none) (s x : Operand) (ho : o.op = .call { callee := .builtin .append, args := #[s, x], argTypes := #[22, 22] })
    (v : Value) (l : List Int) (y : Int) (hs : a.eval s = v) (hx : ∃ g, a.eval x = .slice (some ⟨g, 0, none⟩) 1 1 ∧ w.cell? ⟨g, 0, none⟩ = some (.int .i64 y))
    (hown : w.ownsRow 0 3 1 v l.length (l.map (Value.int .i64))) (hn : l.length ≤ 1000000000000)
    (h : ∀ g' cap w', w'.ownsRow 0 3 1 (.slice (some ⟨g', 0, none⟩) (l.length + 1) cap) (l ++ [y]).length ((l ++ [y]).map (Value.int .i64)) → w.grownBy w' v.ownBlock → (v.ownBlock = some g' ∨ g' = w.heap.size) → K (a.put o.dst (.slice (some ⟨g', 0, none⟩) (l.length + 1) cap)) w') : if Region.wanted o (yielded ops a.tmps) = true then Oper.wp Try.prog o a w K Q else E := by
  obtain ⟨g, hx, hg⟩ := hx
  exact step_app1 hgd s x ho v l y g hs hx hg hown hn h

/-- 'append(s, x)' of one int that has just been laid into a block of its own, in a plain region -/
theorem wpList_app1b {ops : Array Oper} {rest : List Oper} {o : Oper} {a : Act} {wr : World} {Q : Exit → Act → World → Prop} (hgd : o.guard = none) (s x : Operand) (ho : o.op = .call { callee := .builtin .append, args := #[s, x], argTypes := #[22, 22] })
    (base : Nat) (v : Value) (l : List Int) (y : Int) (g : Nat) (hs : a.eval s = v) (hx : a.eval x = .slice (some ⟨g, 0, none⟩) 1 1) (hg : g = wr.heap.size)
    (hown : wr.ownsRow base 3 1 v l.length (l.map (Value.int .i64))) (hn : l.length ≤ 1000000000000) (hbase : base ≤ wr.heap.size)
    (h : ∀ g' cap w', w'.ownsRow base 3 1 (.slice (some ⟨g', 0, none⟩) (l.length + 1) cap) (l.length + 1) ((l ++ [y]).map (Value.int .i64)) → (wr.alloc (.cells #[.int .i64 y] 3)).grownBy w' v.ownBlock → (v.ownBlock = some g' ∨ g' = wr.heap.size + 1) → wpList Try.prog ops Q rest (a.put o.dst (.slice (some ⟨g', 0, none⟩) (l.length + 1) cap)) w') :
    wpList Try.prog ops Q (o :: rest) a (wr.alloc (.cells #[.int .i64 y] 3)) := by
  subst hg
  obtain ⟨i0, hi, hz0, hz1, hz2⟩ := info_parts Try.info3
  refine wpList_append_lies _ hgd s x 22 ho base 3 i0 (.int .i64 0) 1 8 Try.underlying22 hi hz0 hz1 hz2 rfl (by decide) v l.length _ hs (hown.alloc _) ⟨wr.heap.size, 0, none⟩ 1 1 [.int .i64 y] hx rfl ?_ (by simp [Value.oneCell']) (by omega) (by unfold maxLen; omega) (by omega) (by simp; omega) (wr.heap.size + 1) (by simp) ?_
  · intro j u hu
    have hj : j = 0 := by
      rcases j with _ | j
      · rfl
      · simp at hu
    subst hj
    simp at hu
    subst hu
    rw [add_eq]
    simp
  · intro g' cap w' h1 h2 h3 h4
    exact h g' cap w' (by simpa using h1) h2 h3
end Go.Proofs.Ytgdnkgfgakhpeaa
