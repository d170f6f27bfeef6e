/-
  the reference's state in memory.
-/
import Derived.Test.YtgdnkgfgakhpeaaRTake
import Derived.Test.YtgdnkgfgakhpeaaRDone
import Derived.Test.YtgdnkgfgakhpeaaRun
namespace Go.Proofs.Ytgdnkgfgakhpeaa
open Go.RowKit
set_option linter.unusedVariables false
set_option linter.unusedSimpArgs false

/-- the state's cells -/
def refCells (pp : Option Addr) (n pc D m dc A ac L lc : Nat) (ov wv : Value) (done : Bool) : Nat → Value
  | 0 => .slice pp n pc
  | 1 => .slice (some ⟨D, 0, none⟩) m dc
  | 2 => .slice (some ⟨A, 0, none⟩) n ac
  | 3 => .slice (some ⟨L, 0, none⟩) n lc
  | 4 => .int .i64 0
  | 5 => ov
  | 6 => wv
  | 7 => .int .i64 0
  | 8 => .bool done
  | _ => undef

/-- how far the reference is -/
structure Rt where
  sm : Nat → Int
  lf : Nat → Int
  dq : Nat → List Int
  ord : List Int
  who : List Int
  done : Bool

/-- the blocks that it may write -/
def mutR (X A L D : Nat) (ov wv : Value) : List Nat := X :: A :: L :: D :: (ov.ownBlock.toList ++ wv.ownBlock.toList)
theorem mem_mutR {X A L D : Nat} {ov wv : Value} {b : Nat} : b ∈ mutR X A L D ov wv ↔ (b = X ∨ b = A ∨ b = L ∨ b = D ∨ ov.ownBlock = some b ∨ wv.ownBlock = some b) := by
  simp [mutR]

structure RefIn (Pr : Nat → Prop) (X A L D n m pc ac lc dc : Nat) (pp : Option Addr) (st : Rt) (ov wv : Value) (w : World) : Prop where
  hX : Blk w X 9 (refCells pp n pc D m dc A ac L lc ov wv st.done)
  hA : Blk w A n (intsF st.sm)
  hL : Blk w L n (intsF st.lf)
  ho : w.ownsRow 0 3 1 ov st.ord.length (st.ord.map (Value.int .i64))
  hw : w.ownsRow 0 3 1 wv st.who.length (st.who.map (Value.int .i64))
  hD : DqAt w D m (mutR X A L D ov wv) st.dq
  ne : X ≠ A ∧ X ≠ L ∧ X ≠ D ∧ A ≠ L ∧ A ≠ D ∧ L ≠ D
  hoC : ∀ b, ov.ownBlock = some b → b ≠ X ∧ b ≠ A ∧ b ≠ L ∧ b ≠ D ∧ ¬ Pr b
  hwC : ∀ b, wv.ownBlock = some b → b ≠ X ∧ b ≠ A ∧ b ≠ L ∧ b ≠ D ∧ ¬ Pr b ∧ ov.ownBlock ≠ some b
  hN : ¬ Pr X ∧ ¬ Pr A ∧ ¬ Pr L ∧ ¬ Pr D
  hP : ∀ b, Pr b → b < w.heap.size

def RefAt (Pr : Nat → Prop) (X A L D n m pc ac lc dc : Nat) (pp : Option Addr) (st : Rt) (w : World) : Prop :=
  ∃ ov wv, RefIn Pr X A L D n m pc ac lc dc pp st ov wv w

section
variable {Pr : Nat → Prop} {X A L D n m pc ac lc dc : Nat} {pp : Option Addr} {st st' : Rt} {ov wv ov' wv' : Value} {w w' : World}

theorem RefIn.ltD (h : RefIn Pr X A L D n m pc ac lc dc pp st ov wv w) : D < w.heap.size := by obtain ⟨dv, hd, _⟩ := h.hD; exact hd.lt

theorem RefIn.turn (h : RefIn Pr X A L D n m pc ac lc dc pp st ov wv w) {T : List Nat} (hx : Ext T w w') (hT : ∀ k ∈ T, k ∈ mutR X A L D ov wv ∨ w.heap.size ≤ k)
    (hX : Blk w' X 9 (refCells pp n pc D m dc A ac L lc ov' wv' st'.done)) (hA : Blk w' A n (intsF st'.sm)) (hL : Blk w' L n (intsF st'.lf))
    (ho : w'.ownsRow 0 3 1 ov' st'.ord.length (st'.ord.map (Value.int .i64))) (hw : w'.ownsRow 0 3 1 wv' st'.who.length (st'.who.map (Value.int .i64)))
    (hD : DqAt w' D m (mutR X A L D ov' wv') st'.dq) (oa : ov'.ownBlock = ov.ownBlock ∨ ∃ g, ov'.ownBlock = some g ∧ w.heap.size ≤ g) (ob : wv'.ownBlock = wv.ownBlock ∨ ∃ g, wv'.ownBlock = some g ∧ w.heap.size ≤ g)
    (hne : ∀ g, wv'.ownBlock = some g → ov'.ownBlock ≠ some g) : RefIn Pr X A L D n m pc ac lc dc pp st' ov' wv' w' ∧ Keeps Pr w w' := by
  have lX := h.hX.lt
  have lA := h.hA.lt
  have lL := h.hL.lt
  have lD := h.ltD
  refine ⟨{ hX := hX, hA := hA, hL := hL, ho := ho, hw := hw, hD := hD, ne := h.ne, hN := h.hN, hoC := ?_, hwC := ?_, hP := fun b hb => Nat.lt_of_lt_of_le (h.hP b hb) hx.size }, ⟨hx.os, hx.tape, hx.output, hx.size, fun k hk => hx.block k (h.hP k hk) (fun hm => ?_)⟩⟩
  · intro b hb
    rcases oa with e | ⟨g, e, hg⟩
    · exact h.hoC b (e ▸ hb)
    · rw [e] at hb; cases hb
      exact ⟨by omega, by omega, by omega, by omega, fun hp => by have := h.hP _ hp; omega⟩
  · intro b hb
    rcases ob with e | ⟨g, e, hg⟩
    · have := h.hwC b (e ▸ hb)
      exact ⟨this.1, this.2.1, this.2.2.1, this.2.2.2.1, this.2.2.2.2.1, hne b hb⟩
    · have hb' := hb
      rw [e] at hb; cases hb
      exact ⟨by omega, by omega, by omega, by omega, fun hp => by have := h.hP _ hp; omega, hne _ hb'⟩
  · rcases hT k hm with h1 | h1
    · rcases mem_mutR.1 h1 with rfl | rfl | rfl | rfl | h1 | h1
      · exact h.hN.1 hk
      · exact h.hN.2.1 hk
      · exact h.hN.2.2.1 hk
      · exact h.hN.2.2.2 hk
      · exact (h.hoC k h1).2.2.2.2 hk
      · exact (h.hwC k h1).2.2.2.2.1 hk
    · have := h.hP k hk; omega

/-- nothing that was there has turned -/
theorem RefIn.later (h : RefIn Pr X A L D n m pc ac lc dc pp st ov wv w) (hx : Ext [] w w') : RefIn Pr X A L D n m pc ac lc dc pp st ov wv w' :=
  (h.turn hx (by simp) (h.hX.ext hx (by simp)) (h.hA.ext hx (by simp)) (h.hL.ext hx (by simp)) (ownsRow_ext h.ho hx (by simp)) (ownsRow_ext h.hw hx (by simp))
    (h.hD.ext hx (by simp) (by simp) (fun k hk => .inl hk)) (.inl rfl) (.inl rfl) (fun g hg => (h.hwC g hg).2.2.2.2.2)).1

/-- what take turned -/
theorem RefIn.took (h : RefIn Pr X A L D n m pc ac lc dc pp st ov wv w) (hx : Ext [D] w w') {dq : Nat → List Int} (hD : DqAt w' D m (mutR X A L D ov wv) dq) :
    RefIn Pr X A L D n m pc ac lc dc pp { st with dq := dq } ov wv w' ∧ Keeps Pr w w' := by
  have hn := h.ne
  exact h.turn hx (by simp [mutR]) (h.hX.ext hx (by simp; omega)) (h.hA.ext hx (by simp; omega)) (h.hL.ext hx (by simp; omega)) (ownsRow_ext h.ho hx (fun b hb => by have := h.hoC b hb; simp; omega)) (ownsRow_ext h.hw hx (fun b hb => by have := h.hwC b hb; simp; omega))
    hD (.inl rfl) (.inl rfl) (fun g hg => (h.hwC g hg).2.2.2.2.2)

/-- the order has grown -/
theorem RefIn.order (h : RefIn Pr X A L D n m pc ac lc dc pp st ov wv w) {o : Obj} {w3 : World} {g k cap : Nat} {t : Int}
    (hown : w3.ownsRow 0 3 1 (.slice (some ⟨g, 0, none⟩) k cap) (st.ord ++ [t]).length ((st.ord ++ [t]).map (Value.int .i64))) (hgr : (w.alloc o).grownBy w3 ov.ownBlock) (hat : ov.ownBlock = some g ∨ g = w.heap.size + 1) :
    RefIn Pr X A L D n m pc ac lc dc pp { st with ord := st.ord ++ [t] } (.slice (some ⟨g, 0, none⟩) k cap) wv (w3.setCell ⟨X, 5, none⟩ (.slice (some ⟨g, 0, none⟩) k cap)) ∧ Keeps Pr w (w3.setCell ⟨X, 5, none⟩ (.slice (some ⟨g, 0, none⟩) k cap)) := by
  have hn := h.ne
  have lX := h.hX.lt
  have hx3 : Ext ov.ownBlock.toList w w3 := ((Ext.refl _ w).alloc o).grown hgr (fun k hk => .inl (by simp [hk]))
  have hx4 : Ext [X] w3 (w3.setCell ⟨X, 5, none⟩ (.slice (some ⟨g, 0, none⟩) k cap)) := (Ext.refl _ _).setCell (.inl (by simp)) _
  have hx : Ext (X :: ov.ownBlock.toList) w (w3.setCell ⟨X, 5, none⟩ (.slice (some ⟨g, 0, none⟩) k cap)) := (hx3.mono (fun i hi => by simp at hi ⊢; exact .inr hi)).trans hx4 (by simp)
  have hno : ∀ x, x ≠ X → ov.ownBlock ≠ some x → x ∉ X :: ov.ownBlock.toList := fun x h1 h2 hm => by
    simp at hm
    rcases hm with hm | hm
    · exact h1 hm
    · exact h2 hm
  have hno3 : ∀ x, ov.ownBlock ≠ some x → x ∉ ov.ownBlock.toList := fun x h2 hm => by simp at hm; exact h2 hm
  have hgX : g ≠ X := by
    rcases hat with e | e
    · exact (h.hoC g e).1
    · omega
  have hD0 := h.hD.ext hx (hno D (by omega) (fun e => (h.hoC D e).2.2.2.1 rfl)) (T := X :: ov.ownBlock.toList) (U := mutR X A L D (.slice (some ⟨g, 0, none⟩) k cap) wv)
    (fun k hk => .inl (by simp at hk; rw [mem_mutR]; rcases hk with rfl | hk; exact .inl rfl; exact .inr (.inr (.inr (.inr (.inl hk))))))
    (fun k hk => by
      rw [mem_mutR] at hk
      rcases hk with rfl | rfl | rfl | rfl | hk | hk
      · exact .inl (by simp [mutR])
      · exact .inl (by simp [mutR])
      · exact .inl (by simp [mutR])
      · exact .inl (by simp [mutR])
      · obtain rfl := Option.some.inj (show some g = some _ from hk)
        rcases hat with e | e
        · exact .inl (by simp [mutR, e])
        · exact .inr (by omega)
      · exact .inl (by simp [mutR, hk]))
  refine h.turn hx (fun k hk => .inl (by simp at hk; rw [mem_mutR]; rcases hk with rfl | hk; exact .inl rfl; exact .inr (.inr (.inr (.inr (.inl hk)))))) ?_ (h.hA.ext hx (hno A (by omega) (fun e => (h.hoC A e).2.1 rfl))) (h.hL.ext hx (hno L (by omega) (fun e => (h.hoC L e).2.2.1 rfl))) (ownsRow_ext hown hx4 (fun b hb => by cases hb; simp; exact hgX)) (ownsRow_ext h.hw hx (fun b hb => hno b (h.hwC b hb).1 (h.hwC b hb).2.2.2.2.2)) hD0 ?_ (.inl rfl) ?_
  · exact ((h.hX.ext hx3 (hno3 X (fun e => (h.hoC X e).1 rfl))).set (o := 5) (by omega) _).congr fun o ho => by
      rcases o with _ | _ | _ | _ | _ | _ | _ | _ | _ | o <;> first | rfl | omega
  · rcases hat with e | e
    · exact .inl e.symm
    · exact .inr ⟨g, rfl, by omega⟩
  · intro b hb e
    obtain rfl := Option.some.inj (show some g = some b from e)
    clear e
    rcases hat with e | e
    · exact (h.hwC g hb).2.2.2.2.2 e
    · have := (h.hw.lt _ hb).2; omega

/-- the row of workers has grown -/
theorem RefIn.workers (h : RefIn Pr X A L D n m pc ac lc dc pp st ov wv w) {o : Obj} {w3 : World} {g k cap : Nat} {t : Int}
    (hown : w3.ownsRow 0 3 1 (.slice (some ⟨g, 0, none⟩) k cap) (st.who ++ [t]).length ((st.who ++ [t]).map (Value.int .i64))) (hgr : (w.alloc o).grownBy w3 wv.ownBlock) (hat : wv.ownBlock = some g ∨ g = w.heap.size + 1) :
    RefIn Pr X A L D n m pc ac lc dc pp { st with who := st.who ++ [t] } ov (.slice (some ⟨g, 0, none⟩) k cap) (w3.setCell ⟨X, 6, none⟩ (.slice (some ⟨g, 0, none⟩) k cap)) ∧ Keeps Pr w (w3.setCell ⟨X, 6, none⟩ (.slice (some ⟨g, 0, none⟩) k cap)) := by
  have hn := h.ne
  have lX := h.hX.lt
  have hx3 : Ext wv.ownBlock.toList w w3 := ((Ext.refl _ w).alloc o).grown hgr (fun k hk => .inl (by simp [hk]))
  have hx4 : Ext [X] w3 (w3.setCell ⟨X, 6, none⟩ (.slice (some ⟨g, 0, none⟩) k cap)) := (Ext.refl _ _).setCell (.inl (by simp)) _
  have hx : Ext (X :: wv.ownBlock.toList) w (w3.setCell ⟨X, 6, none⟩ (.slice (some ⟨g, 0, none⟩) k cap)) := (hx3.mono (fun i hi => by simp at hi ⊢; exact .inr hi)).trans hx4 (by simp)
  have hno : ∀ x, x ≠ X → wv.ownBlock ≠ some x → x ∉ X :: wv.ownBlock.toList := fun x h1 h2 hm => by
    simp at hm
    rcases hm with hm | hm
    · exact h1 hm
    · exact h2 hm
  have hno3 : ∀ x, wv.ownBlock ≠ some x → x ∉ wv.ownBlock.toList := fun x h2 hm => by simp at hm; exact h2 hm
  have hgX : g ≠ X := by
    rcases hat with e | e
    · exact (h.hwC g e).1
    · omega
  have hD0 := h.hD.ext hx (hno D (by omega) (fun e => (h.hwC D e).2.2.2.1 rfl)) (T := X :: wv.ownBlock.toList) (U := mutR X A L D ov (.slice (some ⟨g, 0, none⟩) k cap))
    (fun k hk => .inl (by simp at hk; rw [mem_mutR]; rcases hk with rfl | hk; exact .inl rfl; exact .inr (.inr (.inr (.inr (.inr hk))))))
    (fun k hk => by
      rw [mem_mutR] at hk
      rcases hk with rfl | rfl | rfl | rfl | hk | hk
      · exact .inl (by simp [mutR])
      · exact .inl (by simp [mutR])
      · exact .inl (by simp [mutR])
      · exact .inl (by simp [mutR])
      · exact .inl (by simp [mutR, hk])
      · obtain rfl := Option.some.inj (show some g = some _ from hk)
        rcases hat with e | e
        · exact .inl (by simp [mutR, e])
        · exact .inr (by omega))
  refine h.turn hx (fun k hk => .inl (by simp at hk; rw [mem_mutR]; rcases hk with rfl | hk; exact .inl rfl; exact .inr (.inr (.inr (.inr (.inr hk)))))) ?_ (h.hA.ext hx (hno A (by omega) (fun e => (h.hwC A e).2.1 rfl))) (h.hL.ext hx (hno L (by omega) (fun e => (h.hwC L e).2.2.1 rfl))) (ownsRow_ext h.ho hx (fun b hb => hno b (h.hoC b hb).1 (fun e => (h.hwC b e).2.2.2.2.2 hb))) (ownsRow_ext hown hx4 (fun b hb => by cases hb; simp; exact hgX)) hD0 (.inl rfl) ?_ ?_
  · exact ((h.hX.ext hx3 (hno3 X (fun e => (h.hwC X e).1 rfl))).set (o := 6) (by omega) _).congr fun o ho => by
      rcases o with _ | _ | _ | _ | _ | _ | _ | _ | _ | o <;> first | rfl | omega
  · rcases hat with e | e
    · exact .inl e.symm
    · exact .inr ⟨g, rfl, by omega⟩
  · intro b hb e
    obtain rfl := Option.some.inj (show some g = some b from hb)
    clear hb
    rcases hat with e' | e'
    · exact (h.hwC g e').2.2.2.2.2 e
    · have := (h.ho.lt _ e).2; omega

theorem Blk.setI {w : World} {b n i : Nat} {f : Nat → Int} (h : Blk w b n (intsF f)) (hi : i < n) (x : Int) : Blk (w.setCell ⟨b, i, none⟩ (.int .i64 x)) b n (intsF (upd f i x)) := by
  rw [← intsF_upd]; exact h.set hi _

/-- a sum is laid -/
theorem RefIn.sums (h : RefIn Pr X A L D n m pc ac lc dc pp st ov wv w) {i : Nat} (hi : i < n) (x : Int) :
    RefIn Pr X A L D n m pc ac lc dc pp { st with sm := upd st.sm i x } ov wv (w.setCell ⟨A, i, none⟩ (.int .i64 x)) ∧ Keeps Pr w (w.setCell ⟨A, i, none⟩ (.int .i64 x)) := by
  have hn := h.ne
  have hx : Ext [A] w (w.setCell ⟨A, i, none⟩ (.int .i64 x)) := (Ext.refl _ _).setCell (.inl (by simp)) _
  exact h.turn hx (by simp [mutR]) (h.hX.ext hx (by simp; omega)) (h.hA.setI hi x) (h.hL.ext hx (by simp; omega)) (ownsRow_ext h.ho hx (fun b hb => by have := h.hoC b hb; simp; omega)) (ownsRow_ext h.hw hx (fun b hb => by have := h.hwC b hb; simp; omega))
    (h.hD.ext hx (by simp; omega) (by simp [mutR]) (fun k hk => .inl hk)) (.inl rfl) (.inl rfl) (fun g hg => (h.hwC g hg).2.2.2.2.2)

/-- a count is laid -/
theorem RefIn.left (h : RefIn Pr X A L D n m pc ac lc dc pp st ov wv w) {i : Nat} (hi : i < n) (x : Int) :
    RefIn Pr X A L D n m pc ac lc dc pp { st with lf := upd st.lf i x } ov wv (w.setCell ⟨L, i, none⟩ (.int .i64 x)) ∧ Keeps Pr w (w.setCell ⟨L, i, none⟩ (.int .i64 x)) := by
  have hn := h.ne
  have hx : Ext [L] w (w.setCell ⟨L, i, none⟩ (.int .i64 x)) := (Ext.refl _ _).setCell (.inl (by simp)) _
  exact h.turn hx (by simp [mutR]) (h.hX.ext hx (by simp; omega)) (h.hA.ext hx (by simp; omega)) (h.hL.setI hi x) (ownsRow_ext h.ho hx (fun b hb => by have := h.hoC b hb; simp; omega)) (ownsRow_ext h.hw hx (fun b hb => by have := h.hwC b hb; simp; omega))
    (h.hD.ext hx (by simp; omega) (by simp [mutR]) (fun k hk => .inl hk)) (.inl rfl) (.inl rfl) (fun g hg => (h.hwC g hg).2.2.2.2.2)

/-- a deque is laid -/
theorem RefIn.deque (h : RefIn Pr X A L D n m pc ac lc dc pp st ov wv w) {i : Nat} (hi : i < m) {v : Value} {q : List Int} (hv : IntsV w (mutR X A L D ov wv) v q) :
    RefIn Pr X A L D n m pc ac lc dc pp { st with dq := upd st.dq i q } ov wv (w.setCell ⟨D, i, none⟩ v) ∧ Keeps Pr w (w.setCell ⟨D, i, none⟩ v) :=
  h.took ((Ext.refl _ _).setCell (.inl (by simp)) _) (h.hD.store (by simp [mutR]) hi hv)

/-- what done turned -/
theorem RefIn.ended (h : RefIn Pr X A L D n m pc ac lc dc pp st ov wv w) (hd : st.done = false) {r : (Nat → Int) × (Nat → Int) × Bool} (hp : DoneP X A L n (refCells pp n pc D m dc A ac L lc ov wv false) w w' r) :
    RefIn Pr X A L D n m pc ac lc dc pp { st with sm := r.1, lf := r.2.1, done := r.2.2 } ov wv w' ∧ Keeps Pr w w' := by
  have hn := h.ne
  obtain ⟨hx, hX, hA, hL⟩ := hp
  refine h.turn hx (by simp [mutR]) (hX.congr fun o ho => ?_) hA hL (ownsRow_ext h.ho hx (fun b hb => by have := h.hoC b hb; simp; omega)) (ownsRow_ext h.hw hx (fun b hb => by have := h.hwC b hb; simp; omega))
    (h.hD.ext hx (by simp; omega) (by simp [mutR]) (fun k hk => .inl hk)) (.inl rfl) (.inl rfl) (fun g hg => (h.hwC g hg).2.2.2.2.2)
  obtain ⟨a, b, c⟩ := r
  cases c with
  | false => rfl
  | true => rcases o with _ | _ | _ | _ | _ | _ | _ | _ | _ | o <;> first | rfl | omega
end
end Go.Proofs.Ytgdnkgfgakhpeaa
