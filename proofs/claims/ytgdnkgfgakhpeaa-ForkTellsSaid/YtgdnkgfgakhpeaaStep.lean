/-
  fork's step: by a contract.
-/
import Derived.Test.YtgdnkgfgakhpeaaApp
import Derived.Test.YtgdnkgfgakhpeaaJoin
import Derived.Test.YtgdnkgfgakhpeaaTake
import Derived.Test.YtgdnkgfgakhpeaaReg
import Derived.Deep.RegionHeld3
import Derived.Deep.DeepCutAuto
namespace Go.Proofs.Ytgdnkgfgakhpeaa
open Go.RowKit
set_option linter.unusedVariables false
set_option linter.unusedSimpArgs false

theorem clip33 (p : Option Addr) (n c : Nat) (w : World) (hn : n ≤ c) :
    Calls Try.prog 33 #[.slice p n c] w fun e w' => e = .returned (.slice p n n) ∧ w' = w := by
  have hsl : ∀ w, (Instr.sliceAt 22 (.slice p n c) none (some (.int .i64 (n : Int))) (some (.int .i64 (n : Int)))).run Try.prog w = .ok (.slice p n n) w := fun w => by
    have e : Try.prog.elem 22 = 3 := by kernel_rfl
    rw [run_sliceAt_slice _ _ _ _ _ _ (by rw [e]; exact Try.underlying22)]
    rw [run_slice_hm (P := Try.prog) (t := 22) (a := p) (len := n) (cap := c) (ht := by rw [e]; exact Try.underlying22) (kh := .i64) (km := .i64) (h := n) (m := n) (h0 := by omega) (h2 := by omega) (h3 := by omega)]
    rw [e, size3]
    simp [sliced]
    rcases p with _ | a <;> simp [Addr.add]
  go_enter Try.func33, Try.ntmps33
  go_wp2
  go_ret
  exact ⟨rfl, rfl⟩

theorem own_drew {w : World} {n : Nat} {v : Value} {xs : List Value} (h : w.ownsRow 0 3 1 v n xs) : w.drew.ownsRow 0 3 1 v n xs := h

theorem ownsRow_ext {w w' : World} {S : List Nat} {n : Nat} {v : Value} {xs : List Value} (h : w.ownsRow 0 3 1 v n xs) (hx : Ext S w w') (hS : ∀ b, v.ownBlock = some b → b ∉ S) : w'.ownsRow 0 3 1 v n xs := by
  refine ⟨h.1, ?_⟩
  rcases h.2 with hn | ⟨g, cap, cur, rfl, hb, hgg, rest⟩
  · exact .inl hn
  · exact .inr ⟨g, cap, cur, rfl, hb, hx.get hgg (hS g rfl), rest⟩

/-- the crew's cells -/
def crewCells (T n tc D m dc : Nat) (ends : Bool) (ov wv : Value) (steps : Int) : Nat → Value
  | 0 => .slice (some ⟨T, 0, none⟩) n tc
  | 1 => .bool ends
  | 2 => .slice (some ⟨D, 0, none⟩) m dc
  | 3 => .int .i64 0
  | 4 => ov
  | 5 => wv
  | 6 => .int .i64 steps
  | _ => undef

/-- how far the crew is -/
structure St where
  sm : Nat → Int
  lf : Nat → Int
  dq : Nat → List Int
  ord : List Int
  who : List Int
  steps : Int
  ends : Bool

/-- a worker makes a step -/
def stepS (par : Nat → Int) (kids : Nat → List Int) (n m : Nat) (st : St) (wk : Nat) : St :=
  let r := takeS st.dq m wk
  if r.1 < 0 then { st with dq := r.2, steps := st.steps + 1 }
  else
    let t := r.1.toNat
    let j := if st.lf t = 0 then joinS par n st.sm st.lf t else (st.sm, st.lf, st.ends)
    { sm := j.1, lf := j.2.1, dq := upd r.2 wk (r.2 wk ++ kids t), ord := st.ord ++ [r.1], who := st.who ++ [(wk : Int)], steps := st.steps + 1, ends := j.2.2 }


/-- the blocks that a crew may write -/
def mutB (C T D : Nat) (ov wv : Value) : List Nat := C :: T :: D :: (ov.ownBlock.toList ++ wv.ownBlock.toList)

/-- the crew in memory -/
structure CrewIn (Pr : Nat → Prop) (C T D n m tc dc : Nat) (par : Nat → Int) (kids : Nat → List Int) (st : St) (ov wv : Value) (kv : Nat → Value) (w : World) : Prop where
  hC : Blk w C 7 (crewCells T n tc D m dc st.ends ov wv st.steps)
  hT : Blk w T (n * 4) (frCells par kv st.sm st.lf)
  ho : w.ownsRow 0 3 1 ov st.ord.length (st.ord.map (Value.int .i64))
  hw : w.ownsRow 0 3 1 wv st.who.length (st.who.map (Value.int .i64))
  hD : DqAt w D m (mutB C T D ov wv) st.dq
  hk : ∀ i, i < n → IntsV w (mutB C T D ov wv) (kv i) (kids i)
  hCT : C ≠ T
  hCD : C ≠ D
  hTD : T ≠ D
  hoC : ∀ b, ov.ownBlock = some b → b ≠ C ∧ b ≠ T ∧ b ≠ D ∧ ¬ Pr b
  hwC : ∀ b, wv.ownBlock = some b → b ≠ C ∧ b ≠ T ∧ b ≠ D ∧ ¬ Pr b ∧ ov.ownBlock ≠ some b
  hN : ¬ Pr C ∧ ¬ Pr T ∧ ¬ Pr D
  hP : ∀ b, Pr b → b < w.heap.size

def CrewAt (Pr : Nat → Prop) (C T D n m tc dc : Nat) (par : Nat → Int) (kids : Nat → List Int) (st : St) (w : World) : Prop :=
  ∃ ov wv kv, CrewIn Pr C T D n m tc dc par kids st ov wv kv w

theorem mem_mutB {C T D : Nat} {ov wv : Value} {b : Nat} (h : b ∈ mutB C T D ov wv) : b = C ∨ b = T ∨ b = D ∨ ov.ownBlock = some b ∨ wv.ownBlock = some b := by
  simp [mutB] at h
  rcases h with h | h | h | h | h
  · exact .inl h
  · exact .inr (.inl h)
  · exact .inr (.inr (.inl h))
  · exact .inr (.inr (.inr (.inl h)))
  · exact .inr (.inr (.inr (.inr h)))

theorem CrewIn.ltm {Pr : Nat → Prop} {C T D n m tc dc : Nat} {par : Nat → Int} {kids : Nat → List Int} {st : St} {ov wv : Value} {kv : Nat → Value} {w : World} (h : CrewIn Pr C T D n m tc dc par kids st ov wv kv w) :
    ∀ b ∈ mutB C T D ov wv, b < w.heap.size := by
  intro b hb
  rcases mem_mutB hb with rfl | rfl | rfl | hb | hb
  · exact h.hC.lt
  · exact h.hT.lt
  · obtain ⟨dv, hd, _⟩ := h.hD; exact hd.lt
  · exact (h.ho.lt b hb).2
  · exact (h.hw.lt b hb).2

theorem DqAt.ext {w w' : World} {D m : Nat} {S T U : List Nat} {dq : Nat → List Int} (h : DqAt w D m S dq) (hx : Ext T w w') (hDT : D ∉ T) (hT : ∀ k ∈ T, k ∈ S ∨ w.heap.size ≤ k) (hU : ∀ k ∈ U, k ∈ S ∨ w.heap.size ≤ k) : DqAt w' D m U dq := by
  obtain ⟨dv, hb, hd⟩ := h
  exact ⟨dv, hb.ext hx hDT, fun i hi => (hd i hi).ext hx hT hU⟩


/-- a store into one of the crew's cells that is no slice -/
theorem CrewIn.store6 {Pr : Nat → Prop} {C T D n m tc dc : Nat} {par : Nat → Int} {kids : Nat → List Int} {sm lf : Nat → Int} {dq : Nat → List Int} {ord who : List Int} {steps : Int} {ends : Bool} {ov wv : Value} {kv : Nat → Value} {w : World}
    (h : CrewIn Pr C T D n m tc dc par kids ⟨sm, lf, dq, ord, who, steps, ends⟩ ov wv kv w) (k : Int) :
    CrewIn Pr C T D n m tc dc par kids ⟨sm, lf, dq, ord, who, k, ends⟩ ov wv kv (w.setCell ⟨C, 6, none⟩ (.int .i64 k)) := by
  have hx : Ext [C] w (w.setCell ⟨C, 6, none⟩ (.int .i64 k)) := (Ext.refl _ _).setCell (.inl (by simp)) _
  have hm : ∀ b ∈ [C], b ∈ mutB C T D ov wv ∨ w.heap.size ≤ b := fun b hb => .inl (by simp [mutB]; simp at hb; exact .inl hb)
  have hU : ∀ b ∈ mutB C T D ov wv, b ∈ mutB C T D ov wv ∨ w.heap.size ≤ b := fun b hb => .inl hb
  exact {
    hC := (h.hC.set (o := 6) (by omega) _).congr fun o ho => by
      rcases o with _ | _ | _ | _ | _ | _ | _ | o <;> first | rfl | omega
    hT := h.hT.ext hx (by simpa using h.hCT.symm)
    ho := ownsRow_ext h.ho hx (fun b hb => by simpa using (h.hoC b hb).1)
    hw := ownsRow_ext h.hw hx (fun b hb => by simpa using (h.hwC b hb).1)
    hD := h.hD.ext hx (by simpa using h.hCD.symm) hm hU
    hk := fun i hi => (h.hk i hi).ext hx hm hU
    hCT := h.hCT, hCD := h.hCD, hTD := h.hTD, hoC := h.hoC, hwC := h.hwC, hN := h.hN, hP := fun b hb => Nat.lt_of_lt_of_le (h.hP b hb) hx.size }

/-- what take turned -/
theorem CrewIn.took {Pr : Nat → Prop} {C T D n m tc dc : Nat} {par : Nat → Int} {kids : Nat → List Int} {sm lf : Nat → Int} {dq dq' : Nat → List Int} {ord who : List Int} {steps : Int} {ends : Bool} {ov wv : Value} {kv : Nat → Value} {w w' : World}
    (h : CrewIn Pr C T D n m tc dc par kids ⟨sm, lf, dq, ord, who, steps, ends⟩ ov wv kv w) (hx : Ext [D] w w') (hD : DqAt w' D m (mutB C T D ov wv) dq') :
    CrewIn Pr C T D n m tc dc par kids ⟨sm, lf, dq', ord, who, steps, ends⟩ ov wv kv w' := by
  have hm : ∀ b ∈ [D], b ∈ mutB C T D ov wv ∨ w.heap.size ≤ b := fun b hb => .inl (by simp [mutB]; simp at hb; exact .inr (.inr (.inl hb)))
  have hU : ∀ b ∈ mutB C T D ov wv, b ∈ mutB C T D ov wv ∨ w.heap.size ≤ b := fun b hb => .inl hb
  exact {
    hC := h.hC.ext hx (by simpa using h.hCD)
    hT := h.hT.ext hx (by simpa using h.hTD)
    ho := ownsRow_ext h.ho hx (fun b hb => by simpa using (h.hoC b hb).2.2.1)
    hw := ownsRow_ext h.hw hx (fun b hb => by simpa using (h.hwC b hb).2.2.1)
    hD := hD
    hk := fun i hi => (h.hk i hi).ext hx hm hU
    hCT := h.hCT, hCD := h.hCD, hTD := h.hTD, hoC := h.hoC, hwC := h.hwC, hN := h.hN, hP := fun b hb => Nat.lt_of_lt_of_le (h.hP b hb) hx.size }

/-- two rows that grow, beside a block that is as it was -/
structure Two (C : Nat) (F : Nat → Value) (ov wv : Value) (w2 : World) (a b : Value) (la lb : List Int) (w : World) : Prop where
  hC : Blk w C 7 F
  ha : w.ownsRow 0 3 1 a la.length (la.map (Value.int .i64))
  hb : w.ownsRow 0 3 1 b lb.length (lb.map (Value.int .i64))
  hx : Ext (ov.ownBlock.toList ++ wv.ownBlock.toList) w2 w
  oa : a.ownBlock = ov.ownBlock ∨ ∃ g, a.ownBlock = some g ∧ w2.heap.size ≤ g
  ob : b.ownBlock = wv.ownBlock ∨ ∃ g, b.ownBlock = some g ∧ w2.heap.size ≤ g
  aC : a.ownBlock ≠ some C
  bC : b.ownBlock ≠ some C
  ne : ∀ g, a.ownBlock = some g → b.ownBlock ≠ some g

theorem Two.alloc {C : Nat} {F : Nat → Value} {ov wv : Value} {w2 : World} {a b : Value} {la lb : List Int} {w : World} (h : Two C F ov wv w2 a b la lb w) (o : Obj) : Two C F ov wv w2 a b la lb (w.alloc o) :=
  { h with hC := h.hC.alloc o, ha := h.ha.alloc o, hb := h.hb.alloc o, hx := h.hx.alloc o }
theorem Two.drew {C : Nat} {F : Nat → Value} {ov wv : Value} {w2 : World} {a b : Value} {la lb : List Int} {w : World} (h : Two C F ov wv w2 a b la lb w) : Two C F ov wv w2 a b la lb w.drew :=
  { h with hC := h.hC, ha := own_drew h.ha, hb := own_drew h.hb, hx := h.hx.drew }

theorem Two.left {C : Nat} {F : Nat → Value} {ov wv : Value} {w2 : World} {b : Value} {la lb la' : List Int} {w w' : World} {v' : Value} {g k cap : Nat} (h : Two C F ov wv w2 ov b la lb w) (h1 : w'.ownsRow 0 3 1 v' la'.length (la'.map (Value.int .i64)))
    (h2 : w.grownBy w' ov.ownBlock) (hv' : v' = .slice (some ⟨g, 0, none⟩) k cap) (h3' : ov.ownBlock = some g ∨ g = w.heap.size) : Two C F ov wv w2 v' b la' lb w' := by
  have h3 : v'.ownBlock = ov.ownBlock ∨ v'.ownBlock = some w.heap.size := by
    subst hv'
    rcases h3' with e | e
    · exact .inl e.symm
    · exact .inr (by rw [← e]; rfl)
  exact {
  hC := h.hC.grown h2 (fun e => h.aC e.symm)
  ha := h1
  hb := h.hb.kept h2 (by
    rcases hb : b.ownBlock with _ | g
    · exact .inl rfl
    · exact .inr (fun e => h.ne g e.symm hb))
  hx := h.hx.grown h2 (fun k hk => .inl (by simp [hk]))
  oa := by
    rcases h3 with h3 | h3
    · exact .inl h3
    · exact .inr ⟨_, h3, h.hx.size⟩
  ob := h.ob
  aC := by
    rcases h3 with h3 | h3
    · rw [h3]; exact h.aC
    · rw [h3]; intro e; have := h.hC.lt; cases e; omega
  bC := h.bC
  ne := by
    intro g hg hb
    rcases h3 with h3 | h3
    · exact h.ne g (h3 ▸ hg) hb
    · rw [h3] at hg; cases hg; have := (h.hb.lt _ hb).2; omega }

theorem Two.right {C : Nat} {F : Nat → Value} {ov wv : Value} {w2 : World} {a : Value} {la lb lb' : List Int} {w w' : World} {v' : Value} {g k cap : Nat} (h : Two C F ov wv w2 a wv la lb w) (h1 : w'.ownsRow 0 3 1 v' lb'.length (lb'.map (Value.int .i64)))
    (h2 : w.grownBy w' wv.ownBlock) (hv' : v' = .slice (some ⟨g, 0, none⟩) k cap) (h3' : wv.ownBlock = some g ∨ g = w.heap.size) : Two C F ov wv w2 a v' la lb' w' := by
  have h3 : v'.ownBlock = wv.ownBlock ∨ v'.ownBlock = some w.heap.size := by
    subst hv'
    rcases h3' with e | e
    · exact .inl e.symm
    · exact .inr (by rw [← e]; rfl)
  exact {
  hC := h.hC.grown h2 (fun e => h.bC e.symm)
  hb := h1
  ha := h.ha.kept h2 (by
    rcases hb : a.ownBlock with _ | g
    · exact .inl rfl
    · exact .inr (fun e => h.ne g hb e.symm))
  hx := h.hx.grown h2 (fun k hk => .inl (by simp [hk]))
  ob := by
    rcases h3 with h3 | h3
    · exact .inl h3
    · exact .inr ⟨_, h3, h.hx.size⟩
  oa := h.oa
  bC := by
    rcases h3 with h3 | h3
    · rw [h3]; exact h.bC
    · rw [h3]; intro e; have := h.hC.lt; cases e; omega
  aC := h.aC
  ne := by
    intro g hg hb
    rcases h3 with h3 | h3
    · exact h.ne g hg (h3 ▸ hb)
    · rw [h3] at hb; cases hb; have := (h.ha.lt _ hg).2; omega }

def Rel3 (Pr : Nat → Prop) (C T D n m tc dc : Nat) (par : Nat → Int) (kids : Nat → List Int) (sm lf : Nat → Int) (dq : Nat → List Int) (ord who : List Int) (steps t : Int) (wk : Nat) (kv : Nat → Value) (w2 wx : World) : Prop :=
  ∃ ov' wv', CrewIn Pr C T D n m tc dc par kids ⟨sm, lf, dq, ord ++ [t], who ++ [(wk : Int)], steps + 1, false⟩ ov' wv' kv wx ∧ Keeps Pr w2 wx

/-- both rows have grown, and are stored -/
theorem CrewIn.grew {Pr : Nat → Prop} {C T D n m tc dc : Nat} {par : Nat → Int} {kids : Nat → List Int} {sm lf : Nat → Int} {dq : Nat → List Int} {ord who ord' who' : List Int} {steps : Int} {ends : Bool} {ov wv : Value} {kv : Nat → Value} {w wx W : World} {a b : Value}
    (h : CrewIn Pr C T D n m tc dc par kids ⟨sm, lf, dq, ord, who, steps, ends⟩ ov wv kv w) (ht : Two C (crewCells T n tc D m dc ends ov wv steps) ov wv w a b ord' who' wx)
    (hW : W.heap = ((wx.setCell ⟨C, 4, none⟩ a).setCell ⟨C, 5, none⟩ b).heap) (h1 : W.os = wx.os) (h2 : W.tape = wx.tape) (h3 : W.output = wx.output) :
    CrewIn Pr C T D n m tc dc par kids ⟨sm, lf, dq, ord', who', steps, ends⟩ a b kv W ∧ Keeps Pr w W := by
  have hx2 : Ext [C] wx W := (((Ext.refl [C] wx).setCell (p := ⟨C, 4, none⟩) (.inl (by simp)) a).setCell (p := ⟨C, 5, none⟩) (.inl (by simp)) b).alike hW h1 h2 h3
  have hx : Ext (C :: (ov.ownBlock.toList ++ wv.ownBlock.toList)) w W := (ht.hx.mono (fun i hi => by simp at hi ⊢; exact .inr hi)).trans hx2 (by simp)
  have hold : ∀ x ∈ C :: (ov.ownBlock.toList ++ wv.ownBlock.toList), x ∈ mutB C T D ov wv := fun x hx => by
    simp [mutB] at hx ⊢
    rcases hx with hx | hx | hx
    · exact .inl hx
    · exact .inr (.inr (.inr (.inl hx)))
    · exact .inr (.inr (.inr (.inr hx)))
  have hT : ∀ k ∈ C :: (ov.ownBlock.toList ++ wv.ownBlock.toList), k ∈ mutB C T D ov wv ∨ w.heap.size ≤ k := fun k hk => .inl (hold k hk)
  have hnot : ∀ x, x ≠ C → ov.ownBlock ≠ some x → wv.ownBlock ≠ some x → x ∉ C :: (ov.ownBlock.toList ++ wv.ownBlock.toList) := fun x h1 h2 h3 hm => by
    simp at hm
    rcases hm with hm | hm | hm
    · exact h1 hm
    · exact h2 hm
    · exact h3 hm
  have hU : ∀ k ∈ mutB C T D a b, k ∈ mutB C T D ov wv ∨ w.heap.size ≤ k := fun k hk => by
    rcases mem_mutB hk with rfl | rfl | rfl | hk | hk
    · exact .inl (by simp [mutB])
    · exact .inl (by simp [mutB])
    · exact .inl (by simp [mutB])
    · rcases ht.oa with e | ⟨g, e, hg⟩
      · exact .inl (by simp [mutB, ← e, hk])
      · rw [e] at hk; cases hk; exact .inr hg
    · rcases ht.ob with e | ⟨g, e, hg⟩
      · exact .inl (by simp [mutB, ← e, hk])
      · rw [e] at hk; cases hk; exact .inr hg
  have hTno : T ∉ C :: (ov.ownBlock.toList ++ wv.ownBlock.toList) := hnot T h.hCT.symm (fun e => (h.hoC T e).2.1 rfl) (fun e => (h.hwC T e).2.1 rfl)
  have hDno : D ∉ C :: (ov.ownBlock.toList ++ wv.ownBlock.toList) := hnot D h.hCD.symm (fun e => (h.hoC D e).2.2.1 rfl) (fun e => (h.hwC D e).2.2.1 rfl)
  have hDlt : D < w.heap.size := by obtain ⟨dv, hd, _⟩ := h.hD; exact hd.lt
  refine ⟨{
    hC := (((ht.hC.set (o := 4) (by omega) a).set (o := 5) (by omega) b).congr fun o ho => by
      rcases o with _ | _ | _ | _ | _ | _ | _ | o <;> first | rfl | omega).block (congrArg (·[C]?) hW)
    hT := h.hT.ext hx hTno
    ho := ownsRow_ext ht.ha hx2 (fun x hxx => by simp; rintro rfl; exact ht.aC hxx)
    hw := ownsRow_ext ht.hb hx2 (fun x hxx => by simp; rintro rfl; exact ht.bC hxx)
    hD := h.hD.ext hx hDno hT hU
    hk := fun i hi => (h.hk i hi).ext hx hT hU
    hCT := h.hCT, hCD := h.hCD, hTD := h.hTD
    hoC := fun x hx => by
      rcases ht.oa with e | ⟨g, e, hg⟩
      · exact h.hoC x (e ▸ hx)
      · rw [e] at hx; cases hx
        have := h.hC.lt; have := h.hT.lt
        exact ⟨by omega, by omega, by omega, fun hp => by have := h.hP _ hp; omega⟩
    hwC := fun x hx => by
      refine ⟨?_, ?_, ?_, ?_, fun e => ht.ne x e hx⟩ <;> rcases ht.ob with e | ⟨g, e, hg⟩
      · exact (h.hwC x (e ▸ hx)).1
      · rw [e] at hx; cases hx; have := h.hC.lt; omega
      · exact (h.hwC x (e ▸ hx)).2.1
      · rw [e] at hx; cases hx; have := h.hT.lt; omega
      · exact (h.hwC x (e ▸ hx)).2.2.1
      · rw [e] at hx; cases hx; omega
      · exact (h.hwC x (e ▸ hx)).2.2.2.1
      · rw [e] at hx; cases hx; intro hp; have := h.hP _ hp; omega
    hN := h.hN, hP := fun b hb => Nat.lt_of_lt_of_le (h.hP b hb) hx.size }, ?_⟩
  refine hx.keeps (fun b hb => ?_) h.hP
  simp at hb
  rcases hb with rfl | hb | hb
  · exact h.hN.1
  · exact (h.hoC b hb).2.2.2
  · exact (h.hwC b hb).2.2.2.1

theorem stealAt_lt {dq : Nat → List Int} {m w k : Nat} (hm : 0 < m) : ∀ (f i : Nat), stealAt dq m w f i = some k → k < m ∧ dq k ≠ []
  | 0, _, h => by cases h
  | f + 1, i, h => by
    unfold stealAt at h
    split at h
    · exact stealAt_lt hm f _ h
    · rename_i hne
      cases h
      exact ⟨Nat.mod_lt _ hm, hne⟩

theorem takeS_mem {dq : Nat → List Int} {m w : Nat} (hw : w < m) : (takeS dq m w).1 = -1 ∨ ∃ i, i < m ∧ (takeS dq m w).1 ∈ dq i := by
  unfold takeS
  by_cases h : dq w = []
  · rw [if_pos h]
    cases hs : stealAt dq m w m 0 with
    | none => exact .inl rfl
    | some k =>
      have hk := stealAt_lt (by omega) _ _ hs
      refine .inr ⟨k, hk.1, ?_⟩
      obtain ⟨x, r, hx⟩ := List.exists_cons_of_ne_nil hk.2
      simp [hx]
  · rw [if_neg h]
    refine .inr ⟨w, hw, ?_⟩
    show (dq w).getLastD 0 ∈ _
    rw [List.getLastD_eq_getLast?, List.getLast?_eq_some_getLast h]
    exact List.getLast_mem h

theorem takeS_len (dq : Nat → List Int) (m w i : Nat) : ((takeS dq m w).2 i).length ≤ (dq i).length := by
  unfold takeS
  by_cases h : dq w = []
  · rw [if_pos h]
    cases hs : stealAt dq m w m 0 with
    | none => exact Nat.le_refl _
    | some k =>
      show (upd dq k (dq k).tail i).length ≤ _
      by_cases he : i = k
      · subst he; rw [upd_same]; simp
      · rw [upd_other _ _ he]; exact Nat.le_refl _
  · rw [if_neg h]
    show (upd dq w (dq w).dropLast i).length ≤ _
    by_cases he : i = w
    · subst he; rw [upd_same]; simp
    · rw [upd_other _ _ he]; exact Nat.le_refl _

/-- nothing that was there has turned -/
theorem CrewIn.later {Pr : Nat → Prop} {C T D n m tc dc : Nat} {par : Nat → Int} {kids : Nat → List Int} {st : St} {ov wv : Value} {kv : Nat → Value} {w w' : World}
    (h : CrewIn Pr C T D n m tc dc par kids st ov wv kv w) (hx : Ext [] w w') : CrewIn Pr C T D n m tc dc par kids st ov wv kv w' := by
  have hm : ∀ b ∈ ([] : List Nat), b ∈ mutB C T D ov wv ∨ w.heap.size ≤ b := fun b hb => by cases hb
  have hU : ∀ b ∈ mutB C T D ov wv, b ∈ mutB C T D ov wv ∨ w.heap.size ≤ b := fun b hb => .inl hb
  exact {
    hC := h.hC.ext hx (by simp)
    hT := h.hT.ext hx (by simp)
    ho := ownsRow_ext h.ho hx (by simp)
    hw := ownsRow_ext h.hw hx (by simp)
    hD := h.hD.ext hx (by simp) hm hU
    hk := fun i hi => (h.hk i hi).ext hx hm hU
    hCT := h.hCT, hCD := h.hCD, hTD := h.hTD, hoC := h.hoC, hwC := h.hwC, hN := h.hN, hP := fun b hb => Nat.lt_of_lt_of_le (h.hP b hb) hx.size }

/-- what a join turned -/
theorem CrewIn.joined {Pr : Nat → Prop} {C T D n m tc dc : Nat} {par : Nat → Int} {kids : Nat → List Int} {sm lf sm' lf' : Nat → Int} {dq : Nat → List Int} {ord who : List Int} {steps : Int} {ends ends' : Bool} {ov wv : Value} {kv : Nat → Value} {w w' : World}
    (h : CrewIn Pr C T D n m tc dc par kids ⟨sm, lf, dq, ord, who, steps, ends⟩ ov wv kv w) (hx : Ext [C, T] w w') (hC : Blk w' C 7 (crewCells T n tc D m dc ends' ov wv steps)) (hT : Blk w' T (n * 4) (frCells par kv sm' lf')) :
    CrewIn Pr C T D n m tc dc par kids ⟨sm', lf', dq, ord, who, steps, ends'⟩ ov wv kv w' := by
  have hm : ∀ b ∈ [C, T], b ∈ mutB C T D ov wv ∨ w.heap.size ≤ b := fun b hb => .inl (by simp [mutB]; simp at hb; rcases hb with hb | hb; exact .inl hb; exact .inr (.inl hb))
  have hU : ∀ b ∈ mutB C T D ov wv, b ∈ mutB C T D ov wv ∨ w.heap.size ≤ b := fun b hb => .inl hb
  exact {
    hC := hC
    hT := hT
    ho := ownsRow_ext h.ho hx (fun b hb => by have := h.hoC b hb; simp; omega)
    hw := ownsRow_ext h.hw hx (fun b hb => by have := h.hwC b hb; simp; omega)
    hD := h.hD.ext hx (by have := h.hCD; have := h.hTD; simp; omega) hm hU
    hk := fun i hi => (h.hk i hi).ext hx hm hU
    hCT := h.hCT, hCD := h.hCD, hTD := h.hTD, hoC := h.hoC, hwC := h.hwC, hN := h.hN, hP := fun b hb => Nat.lt_of_lt_of_le (h.hP b hb) hx.size }

attribute [local go_sem] quietE Oper.quietUpon

set_option maxRecDepth 100000 in
set_option maxHeartbeats 2000000 in
theorem step24 (Pr : Nat → Prop) (C T D n m tc dc wk : Nat) (par : Nat → Int) (kids : Nat → List Int) (st : St) (w : World) (hn : n ≤ 1000000) (hm : m ≤ 1000) (hwk : wk < m)
    (hpar : ∀ i, i < n → par i < i) (hs : 0 ≤ st.steps ∧ st.steps ≤ 1000000) (hends : st.ends = false) (hdq : ∀ i, i < m → ∀ x ∈ st.dq i, 0 ≤ x ∧ x < n)
    (hl1 : st.ord.length ≤ 1000000) (hl2 : st.who.length ≤ 1000000) (hl3 : ∀ i, (st.dq i).length ≤ 100000000) (hl4 : ∀ i, (kids i).length ≤ 1000000)
    (h : CrewAt Pr C T D n m tc dc par kids st w) :
    Calls Try.prog 24 #[.pointer (some ⟨C, 0, none⟩), .int .i64 wk] w fun e w' => e = .returned (.tuple #[]) ∧ Keeps Pr w w' ∧ CrewAt Pr C T D n m tc dc par kids (stepS par kids n m st wk) w' := by
  obtain ⟨ov, wv, kv, h⟩ := h
  obtain ⟨sm, lf, dq, ord, who, steps, ends⟩ := st
  simp only at hs hends hdq hl1 hl2 hl3
  subst hends
  have c6 := h.hC.cell (o := 6) (by omega)
  have z6 := h.hC.frozen 6
  simp only [crewCells] at c6
  obtain ⟨hs0, hs1⟩ := hs
  have h6 := h.store6 (steps + 1)
  have htake := take32 C D m dc wk (mutB C T D ov wv) _ dq _ hwk hm (by simp [mutB]) h6.hC rfl h6.hD
  have hB0 : Keeps Pr w (w.setCell ⟨C, 6, none⟩ (.int .i64 (steps + 1))) := ((Ext.refl [C] w).setCell (p := ⟨C, 6, none⟩) (.inl (by simp)) _).keeps (by simpa using h.hN.1) h.hP
  have HS : Hid (stepS par kids n m ⟨sm, lf, dq, ord, who, steps, false⟩ wk = if (takeS dq m wk).1 < 0 then ⟨sm, lf, (takeS dq m wk).2, ord, who, steps + 1, false⟩
    else
    let t := (takeS dq m wk).1.toNat
    let j := if lf t = 0 then joinS par n sm lf t else (sm, lf, false)
    ⟨j.1, j.2.1, upd (takeS dq m wk).2 wk ((takeS dq m wk).2 wk ++ kids t), ord ++ [(takeS dq m wk).1], who ++ [(wk : Int)], steps + 1, j.2.2⟩) := rfl
  have htb : (takeS dq m wk).1 < n ∧ -1 ≤ (takeS dq m wk).1 := by
    rcases takeS_mem (dq := dq) hwk with h1 | ⟨i, hi, h1⟩
    · rw [h1]; omega
    · have := hdq i hi _ h1; omega
  have hlen : ((takeS dq m wk).2 wk).length ≤ 100000000 := Nat.le_trans (takeS_len dq m wk wk) (hl3 wk)
  generalize (takeS dq m wk).1 = t at *
  generalize (takeS dq m wk).2 = dq' at *
  by_cases ht : t < 0
  · have HS2 := Lib.hid (HS.out.trans (if_pos ht))
    clear HS
    go_enter Try.func24, Try.ntmps24
    go_wp2_with (go_at_call 32; refine htake.mono ?_; rintro e w2 ⟨rfl, hx, hD2⟩)
    refine bodyPost_ret (results_none rfl _ _ _) rfl ?_
    refine ⟨rfl, ?_, ?_⟩
    · exact hB0.trans (hx.keeps (by simpa using h.hN.2.2) h6.hP)
    · rw [HS2.out]; exact ⟨ov, wv, kv, h6.took hx hD2⟩
  · have HS2 := Lib.hid (HS.out.trans (if_neg ht))
    clear HS
    go_enter Try.func24, Try.ntmps24
    go_upto_region 3 with (go_at_call 32; refine htake.mono ?_; rintro e w2 ⟨rfl, hx, hD2⟩)
    have h7 := h6.took hx hD2
    have hN := h.hN
    have hBx : Keeps Pr w w2 := hB0.trans (hx.keeps (by simpa using h.hN.2.2) h6.hP)
    clear h6 h htake hD2
    have c4 := h7.hC.cell (o := 4) (by omega)
    have c5 := h7.hC.cell (o := 5) (by omega)
    simp only [crewCells] at c4 c5
    have z4 := h7.hC.frozen 4
    have z5 := h7.hC.frozen 5
    have ho0 := h7.ho
    have hw0 := h7.hw
    go_cut [] (fun wx => Rel3 Pr C T D n m tc dc par kids sm lf dq' ord who steps t wk kv w2 wx)
    case first =>
      have hJ : Two C (crewCells T n tc D m dc false ov wv (steps + 1)) ov wv w2 ov wv ord who w2 := {
        hC := h7.hC, ha := h7.ho, hb := h7.hw, hx := Ext.refl _ _, oa := .inl rfl, ob := .inl rfl
        aC := fun e => (h7.hoC C e).1 rfl, bC := fun e => (h7.hwC C e).1 rfl, ne := fun g h1 h2 => (h7.hwC g h2).2.2.2.2 h1 }
      have hx4 : ∀ x : HW (fun w' => w'.cell? ⟨C, 4, none⟩ = some ov ∧ w'.cell? ⟨C, 5, none⟩ = some wv), x.w.cell? ⟨C, 4, none⟩ = some ov := fun x => x.h.1
      have hx5 : ∀ x : HW (fun w' => w'.cell? ⟨C, 4, none⟩ = some ov ∧ w'.cell? ⟨C, 5, none⟩ = some wv), x.w.cell? ⟨C, 5, none⟩ = some wv := fun x => x.h.2
      haveI : Nonempty (HW (fun w' => w'.cell? ⟨C, 4, none⟩ = some ov ∧ w'.cell? ⟨C, 5, none⟩ = some wv)) := ⟨⟨w2, c4, c5⟩⟩
      refine wp_region_F [(0, false), (1, false), (2, false), (3, false), (4, false), (5, false), (6, true), (7, false), (10, false), (11, false), (12, false), (13, false), (14, true), (15, false)] [18, 19, 20, 21, 22, 23, 24, 25] (fun w' => ∃ x : HW (fun w' => w'.cell? ⟨C, 4, none⟩ = some ov ∧ w'.cell? ⟨C, 5, none⟩ = some wv), w' = x.w) (by kernel_rfl) (by kernel_rfl) (by kernel_rfl) (HW.mk' ⟨c4, c5⟩) (fun d v c a w h => by cases d <;> exact h) ?_
      simp only [opsAt, List.getD_cons_succ, List.getD_cons_zero]
      repeat ((first | refine wpE_read (fun K hK => ?_) | refine wpE_pure (fun K hK => ?_)); go_simp; (refine hK _ ?_; clear hK K))
      refine wpE_nil ?_
      refine anyB_two 8 16 _ _ (by kernel_rfl) (by rfl) (by rfl) (fun K hK => ?_) (fun K hK => ?_)
      · go_simp
        have hJ1 := (hJ.alloc (.cells #[.int .i64 t] 3))
        refine hK _ _ (fun _ _ => HW.mk' ⟨hJ1.hC.cell (o := 4) (by omega), hJ1.hC.cell (o := 5) (by omega)⟩) ?_
        clear hK K
        refine anyB_two 9 16 _ _ (by kernel_rfl) (by rfl) (by rfl) (fun K hK => ?_) (fun K hK => ?_)
        · refine step_app1x (by rfl) (.tmp 25) (.tmp 27) (by rfl) ov ord t (by rfl) ⟨_, by rfl, ?_⟩ hJ1.ha (by omega) ?_
          · simp
          intro g1 c1 w3 ho1 hg1 ha1
          have hJ2 := Two.left hJ1.drew ho1 hg1 rfl ha1
          refine hK _ _ (fun _ _ => HW.mk' ⟨hJ2.hC.cell (o := 4) (by omega), hJ2.hC.cell (o := 5) (by omega)⟩) ?_
          clear hK K
          refine anyB_one 16 _ (by kernel_rfl) (by rfl) (fun K hK => ?_)
          go_simp
          have hJ3 := (hJ2.alloc (.cells #[.int .i64 wk] 3))
          refine hK _ _ (fun _ _ => HW.mk' ⟨hJ3.hC.cell (o := 4) (by omega), hJ3.hC.cell (o := 5) (by omega)⟩) ?_
          clear hK K
          refine anyB_one 17 _ (by kernel_rfl) (by rfl) (fun K hK => ?_)
          refine step_app1x (by rfl) (.tmp 33) (.tmp 35) (by rfl) wv who wk (by rfl) ⟨_, by rfl, ?_⟩ hJ3.hb (by omega) ?_
          · simp
          intro g2 c2 w4 ho2 hg2 ha2
          have hJ4 := Two.right hJ3 ho2 hg2 rfl ha2
          refine hK _ _ (fun _ _ => HW.mk' ⟨hJ4.hC.cell (o := 4) (by omega), hJ4.hC.cell (o := 5) (by omega)⟩) ?_
          clear hK K
          have c44 : w4.cell? ⟨C, 4, none⟩ = some ov := hJ4.hC.cell (o := 4) (by omega)
          have c45 : w4.cell? ⟨C, 5, none⟩ = some wv := hJ4.hC.cell (o := 5) (by omega)
          have z44 := hJ4.hC.frozen 4
          have z45 := hJ4.hC.frozen 5
          refine anyB_tail 18 (by rfl) (by kernel_rfl) (by decide) ?_
          simp only [List.drop_succ_cons, List.drop_zero]
          go_wp2_with fail
          go_meet
          exact ⟨_, _, h7.grew hJ4 rfl rfl rfl rfl⟩
        · go_simp
          have hJ2 := (hJ1.alloc (.cells #[.int .i64 wk] 3))
          refine hK _ _ (fun _ _ => HW.mk' ⟨hJ2.hC.cell (o := 4) (by omega), hJ2.hC.cell (o := 5) (by omega)⟩) ?_
          clear hK K
          refine anyB_one 9 _ (by kernel_rfl) (by rfl) (fun K hK => ?_)
          refine step_app1x (by rfl) (.tmp 25) (.tmp 27) (by rfl) ov ord t (by rfl) ⟨_, by rfl, ?_⟩ hJ2.ha (by omega) ?_
          · first | simp | (rw [World.cell?_drew, World.cell?_alloc_past _ _ _ (by simp)]; simp)
          intro g1 c1 w3 ho1 hg1 ha1
          have hJ3 := Two.left hJ2.drew ho1 hg1 rfl ha1
          refine hK _ _ (fun _ _ => HW.mk' ⟨hJ3.hC.cell (o := 4) (by omega), hJ3.hC.cell (o := 5) (by omega)⟩) ?_
          clear hK K
          refine anyB_one 17 _ (by kernel_rfl) (by rfl) (fun K hK => ?_)
          refine step_app1x (by rfl) (.tmp 33) (.tmp 35) (by rfl) wv who wk (by rfl) ⟨_, by rfl, ?_⟩ hJ3.hb (by omega) ?_
          · first | (exact hg1.cell (by simp) (fun e => absurd (hJ.ha.lt _ e.symm).2 (by simp))) | (refine hg1.cell ?_ (fun e => absurd (hJ.ha.lt _ e.symm).2 (by simp)); first | simp | (rw [World.cell?_drew, World.cell?_alloc_past _ _ _ (by simp)]; simp))
          intro g2 c2 w4 ho2 hg2 ha2
          have hJ4 := Two.right hJ3 ho2 hg2 rfl ha2
          refine hK _ _ (fun _ _ => HW.mk' ⟨hJ4.hC.cell (o := 4) (by omega), hJ4.hC.cell (o := 5) (by omega)⟩) ?_
          clear hK K
          have c44 : w4.cell? ⟨C, 4, none⟩ = some ov := hJ4.hC.cell (o := 4) (by omega)
          have c45 : w4.cell? ⟨C, 5, none⟩ = some wv := hJ4.hC.cell (o := 5) (by omega)
          have z44 := hJ4.hC.frozen 4
          have z45 := hJ4.hC.frozen 5
          refine anyB_tail 18 (by rfl) (by kernel_rfl) (by decide) ?_
          simp only [List.drop_succ_cons, List.drop_zero]
          go_wp2_with fail
          go_meet
          exact ⟨_, _, h7.grew hJ4 rfl rfl rfl rfl⟩
      · go_simp
        have hJ1 := (hJ.alloc (.cells #[.int .i64 wk] 3))
        refine hK _ _ (fun _ _ => HW.mk' ⟨hJ1.hC.cell (o := 4) (by omega), hJ1.hC.cell (o := 5) (by omega)⟩) ?_
        clear hK K
        refine anyB_one 8 _ (by kernel_rfl) (by rfl) (fun K hK => ?_)
        go_simp
        have hJ2 := (hJ1.alloc (.cells #[.int .i64 t] 3))
        refine hK _ _ (fun _ _ => HW.mk' ⟨hJ2.hC.cell (o := 4) (by omega), hJ2.hC.cell (o := 5) (by omega)⟩) ?_
        clear hK K
        refine anyB_one 9 _ (by kernel_rfl) (by rfl) (fun K hK => ?_)
        refine step_app1x (by rfl) (.tmp 25) (.tmp 27) (by rfl) ov ord t (by rfl) ⟨_, by rfl, ?_⟩ hJ2.ha (by omega) ?_
        · first | simp | (rw [World.cell?_drew, World.cell?_alloc_past _ _ _ (by simp)]; simp)
        intro g1 c1 w3 ho1 hg1 ha1
        have hJ3 := Two.left hJ2.drew ho1 hg1 rfl ha1
        refine hK _ _ (fun _ _ => HW.mk' ⟨hJ3.hC.cell (o := 4) (by omega), hJ3.hC.cell (o := 5) (by omega)⟩) ?_
        clear hK K
        refine anyB_one 17 _ (by kernel_rfl) (by rfl) (fun K hK => ?_)
        refine step_app1x (by rfl) (.tmp 33) (.tmp 35) (by rfl) wv who wk (by rfl) ⟨_, by rfl, ?_⟩ hJ3.hb (by omega) ?_
        · first | (exact hg1.cell (by simp) (fun e => absurd (hJ.ha.lt _ e.symm).2 (by simp))) | (refine hg1.cell ?_ (fun e => absurd (hJ.ha.lt _ e.symm).2 (by simp)); first | simp | (rw [World.cell?_drew, World.cell?_alloc_past _ _ _ (by simp)]; simp))
        intro g2 c2 w4 ho2 hg2 ha2
        have hJ4 := Two.right hJ3 ho2 hg2 rfl ha2
        refine hK _ _ (fun _ _ => HW.mk' ⟨hJ4.hC.cell (o := 4) (by omega), hJ4.hC.cell (o := 5) (by omega)⟩) ?_
        clear hK K
        have c44 : w4.cell? ⟨C, 4, none⟩ = some ov := hJ4.hC.cell (o := 4) (by omega)
        have c45 : w4.cell? ⟨C, 5, none⟩ = some wv := hJ4.hC.cell (o := 5) (by omega)
        have z44 := hJ4.hC.frozen 4
        have z45 := hJ4.hC.frozen 5
        refine anyB_tail 18 (by rfl) (by kernel_rfl) (by decide) ?_
        simp only [List.drop_succ_cons, List.drop_zero]
        go_wp2_with fail
        go_meet
        exact ⟨_, _, h7.grew hJ4 rfl rfl rfl rfl⟩
    case rest =>
      obtain ⟨ov', wv', h8, hB8⟩ := hcut
      have c2 := h8.hC.cell (o := 2) (by omega)
      have c0 := h8.hC.cell (o := 0) (by omega)
      simp only [crewCells] at c0 c2
      obtain ⟨tn, rfl⟩ : ∃ tn : Nat, t = tn := ⟨t.toNat, by omega⟩
      obtain ⟨dv, hbD, hdv⟩ := h8.hD
      have cw := hbD.cell hwk
      have zw := hbD.frozen wk
      obtain ⟨p, cp, hvw, hcp1, hcp2, hin, hout⟩ := hdv wk hwk
      rw [hvw] at cw
      have htn : tn < n := by omega
      have ck := h8.hT.cell (o := tn * 4 + 1) (by omega)
      have cl := h8.hT.cell (o := tn * 4 + 3) (by omega)
      rw [frCells1] at ck
      rw [frCells3] at cl
      obtain ⟨q, cq, hvk, hcq1, hcq2, hin2, hout2⟩ := h8.hk tn htn
      rw [hvk] at ck
      go_wp2
      have hx2 : ∀ x : HW (Ext [] wc), x.w.cell? ⟨C, 2, none⟩ = some (.slice (some ⟨D, 0, none⟩) m dc) := fun x => x.h.cell c2 (by simp)
      have hx0 : ∀ x : HW (Ext [] wc), x.w.cell? ⟨C, 0, none⟩ = some (.slice (some ⟨T, 0, none⟩) n tc) := fun x => x.h.cell c0 (by simp)
      have hxw : ∀ x : HW (Ext [] wc), x.w.cell? ⟨D, wk, none⟩ = some (.slice p (dq' wk).length cp) := fun x => x.h.cell cw (by simp)
      have hxk : ∀ x : HW (Ext [] wc), x.w.cell? ⟨T, tn * 4 + 1, none⟩ = some (.slice q (kids tn).length cq) := fun x => x.h.cell ck (by simp)
      haveI : Nonempty (HW (Ext [] wc)) := ⟨⟨wc, Ext.refl _ _⟩⟩
      refine wp_region_F [(0, false), (1, false), (2, false), (3, true), (4, false), (5, false), (6, false), (7, false), (8, true), (9, false), (10, false), (11, true), (12, true), (13, false), (14, false), (15, false), (16, false), (17, true), (18, false), (19, false), (20, false), (21, true)] [23, 24] (fun w' => ∃ x : HW (Ext [] wc), w' = x.w) (by kernel_rfl) (by kernel_rfl) (by kernel_rfl) (HW.mk' (Ext.refl _ _).drew) (fun d v c a w h => by cases d <;> exact h) ?_
      simp only [opsAt, List.getD_cons_succ, List.getD_cons_zero]
      repeat ((first | refine wpE_read (fun K hK => ?_) | refine wpE_pure (fun K hK => ?_)); go_simp; first | (refine hK _ ?_; clear hK K) | (apply Exists.intro; refine ⟨fun x => ?_, hK _ ?_⟩; (go_at_call 33; exact clip33 p _ cp _ hcp1); clear hK K))
      refine wpE_nil ?_
      refine anyB_one 22 _ (by kernel_rfl) (by rfl) (fun K hK => ?_)
      refine step_app_clip (by rfl) (.tmp 55) (.tmp 64) (by rfl) (mutB C T D ov' wv') p q (dq' wk) (kids tn) cq (by rfl) (by rfl) hin hin2 ?_ hout ?_ ?_
      · have h1 := hl4 tn
        omega
      · exact h8.ltm
      · intro v5 w5 hv5 hx5
        refine hK _ _ (fun _ _ => HW.mk' ((Ext.refl _ _).drew.trans hx5 (by simp))) ?_
        clear hK K
        have h9 := h8.later ((Ext.refl _ _).drew.trans hx5 (by simp))
        obtain ⟨dv5, hbD5, hdv5⟩ := h9.hD
        have hst := DqAt.store h9.hD (by simp [mutB]) hwk hv5
        obtain ⟨p5, c5, rfl, -, -, -, -⟩ := hv5
        have c52 := h9.hC.cell (o := 2) (by omega)
        have c50 := h9.hC.cell (o := 0) (by omega)
        simp only [crewCells] at c52 c50
        have cw5 := hbD5.cell hwk
        have zw5 := hbD5.frozen wk
        have cl5 := h9.hT.cell (o := tn * 4 + 3) (by omega)
        rw [frCells3] at cl5
        generalize (dq' wk ++ kids tn).length = ln at *
        have hx6 : Ext [D] w5 (w5.setCell ⟨D, wk, none⟩ (.slice p5 ln c5)) := (Ext.refl _ _).setCell (.inl (by simp)) _
        have h10 := h9.took hx6 hst
        have hB10 : Keeps Pr w (w5.setCell ⟨D, wk, none⟩ (.slice p5 ln c5)) := by
          exact (hBx.trans hB8).trans ((((Ext.refl [] _).drew.trans hx5 (by simp)).keeps (by simp) h8.hP).trans (hx6.keeps (by simpa using hN.2.2) h9.hP))
        have hCT := h10.hCT
        have hTD := h10.hTD
        have hCD := h10.hCD
        refine anyB_tail 23 (by rfl) (by kernel_rfl) (by decide) ?_
        simp only [List.drop_succ_cons, List.drop_zero]
        by_cases hz : lf tn = 0
        · have hzb : (lf tn == 0) = true := by simpa using hz
          have HS3 : Hid (stepS par kids n m ⟨sm, lf, dq, ord, who, steps, false⟩ wk = ⟨(joinS par n sm lf tn).1, (joinS par n sm lf tn).2.1, upd dq' wk (dq' wk ++ kids tn), ord ++ [(tn : Int)], who ++ [(wk : Int)], steps + 1, (joinS par n sm lf tn).2.2⟩) := by
            show _ = _; rw [HS2.out]; simp [hz]
          have hC10 := h10.hC.congr (G := upd (upd (crewCells T n tc D m dc false ov' wv' (steps + 1)) 0 (.slice (some ⟨T, 0, none⟩) n tc)) 1 (.bool false)) (fun o ho => by
            rcases o with _ | _ | _ | _ | _ | _ | _ | o <;> first | rfl | omega)
          clear hz
          go_wp2_with (go_at_call 34; refine (join34 C T n tc (crewCells T n tc D m dc false ov' wv' (steps + 1)) par kv hCT hn hpar n tn sm lf _ htn htn ?_ ?_).mono ?_; (exact hC10); (exact h10.hT); rintro e w7 ⟨rfl, hx7, hC7, hT7⟩)
          go_end0
          refine ⟨rfl, hB10.trans (hx7.keeps (by simp; exact ⟨hN.1, hN.2.1⟩) h10.hP), ?_⟩
          rw [HS3.out]
          refine ⟨ov', wv', kv, h10.joined hx7 (hC7.congr fun o ho => ?_) hT7⟩
          rcases o with _ | _ | _ | _ | _ | _ | _ | o <;> first | rfl | omega
        · have hzb : (lf tn == 0) = false := by simpa using hz
          have HS3 : Hid (stepS par kids n m ⟨sm, lf, dq, ord, who, steps, false⟩ wk = ⟨sm, lf, upd dq' wk (dq' wk ++ kids tn), ord ++ [(tn : Int)], who ++ [(wk : Int)], steps + 1, false⟩) := by
            show _ = _; rw [HS2.out]; simp [hz]
          go_wp2
          go_end0
          refine ⟨rfl, hB10, ?_⟩
          rw [HS3.out]
          exact ⟨ov', wv', kv, h10⟩
end Go.Proofs.Ytgdnkgfgakhpeaa
