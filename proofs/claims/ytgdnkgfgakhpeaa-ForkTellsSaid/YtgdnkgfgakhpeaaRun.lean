/-
  fork.Run: by a contract.
-/
import Derived.Test.YtgdnkgfgakhpeaaPure
import Derived.Test.YtgdnkgfgakhpeaaRep
import Derived.Laws.ResultCell
namespace Go.Proofs.Ytgdnkgfgakhpeaa
open Go.RowKit
set_option linter.unusedVariables false
set_option linter.unusedSimpArgs false

theorem contains20 (p : Option Addr) (c : Nat) (l : List Int) (w : World) (hl : l.length ≤ 4611686018427387904) (h0 : IntsAt w p l) :
    Calls Try.prog 20 #[.slice p l.length c, .func (.func 19) #[] #[]] w fun e w' => e = .returned (.bool (decide (0 ≤ idxF oddB l))) ∧ w' = w := by
  go_enter Try.func20, Try.ntmps20
  go_wp2_with (go_at_call 28; refine (idx28_19 p c l w hl h0).mono ?_; rintro e w' ⟨rfl, rfl⟩)
  go_ret
  exact ⟨rfl, rfl⟩

/-- what comes back, in memory -/
def ResAt (N : Nat) (w' : World) (v : Value) (r : Res) : Prop :=
  ∃ po co pw cw, v = .tuple #[.agg #[.int .i64 r.sum, .slice po r.ord.length co, .slice pw r.who.length cw, .int .i64 r.steps], .int .i64 r.err] ∧ IntsAt w' po r.ord ∧ IntsAt w' pw r.who

def RunPost (w : World) (r : Res) (e : Ending) (w' : World) : Prop := ∃ v, e = .returned v ∧ ResAt 0 w' v r ∧ Ext [] w w'

theorem ResAt.no (N : Nat) (w' : World) (e : Int) : ResAt N w' (.tuple #[.agg #[.int .i64 0, .slice none 0 0, .slice none 0 0, .int .i64 0], .int .i64 e]) (Res.no e) :=
  ⟨none, 0, none, 0, rfl, .inl rfl, .inl rfl⟩

section
variable (p q r : Option Addr) (c d e : Nat) (l vals picks : List Int) (wk : Int) (w : World)
variable (hl : l.length ≤ 4611686018427387904) (hv : vals.length ≤ 4611686018427387904) (h0 : IntsAt w p l) (h1 : IntsAt w q vals)

set_option maxRecDepth 100000 in
set_option maxHeartbeats 1000000 in
include hl hv h0 h1 in
theorem run15_bad (hb : rightB l = false ∨ vals.length ≠ l.length ∨ wk < 1 ∨ 64 < wk ∨ 0 ≤ idxF oddB vals) :
    Calls Try.prog 15 #[.slice p l.length c, .slice q vals.length d, .int .i64 wk, .slice r picks.length e] w fun e w' => e = .returned (.tuple #[.agg #[.int .i64 0, .slice none 0 0, .slice none 0 0, .int .i64 0], .int .i64 1]) ∧ Ext [] w w' := by
  have hr12 := right12 p c l (w.alloc (.cells #[.int .i64 0, .slice none 0 0, .slice none 0 0, .int .i64 0] 30)) hl (h0.ext0 ((Ext.refl [] _).alloc _))
  have hc20 := contains20 q d vals (w.alloc (.cells #[.int .i64 0, .slice none 0 0, .slice none 0 0, .int .i64 0] 30)) hv (h1.ext0 ((Ext.refl [] _).alloc _))
  cases hr : rightB l with
  | false =>
    have HR := Lib.hid hr
    clear hr hb
    rw [HR.out] at hr12
    go_enter Try.func15, Try.ntmps15
    go_wp2_with ((go_at_call 12; refine hr12.mono ?_; rintro e w' ⟨rfl, hw'⟩; subst w'))
    refine bodyPost_ret (v := .tuple #[.agg #[.int .i64 0, .slice none 0 0, .slice none 0 0, .int .i64 0], .int .i64 1]) (by simp [results, Try.results15, go_sem]) rfl ⟨rfl, ?_⟩
    (repeat (first | exact Ext.refl _ _ | refine Ext.alloc ?_ _ | refine Ext.setCell ?_ (.inr (by simp)) _ | refine Ext.drew ?_))
  | true =>
    rw [hr] at hr12
    have HR := Lib.hid hr
    clear hr
    by_cases hlen : vals.length = l.length
    · have hlb : ((vals.length : Int) != (l.length : Int)) = false := by simp; omega
      by_cases hw1 : wk < 1
      · clear hb
        go_enter Try.func15, Try.ntmps15
        go_wp2_with ((go_at_call 12; refine hr12.mono ?_; rintro e w' ⟨rfl, hw'⟩; subst w'))
        refine bodyPost_ret (v := .tuple #[.agg #[.int .i64 0, .slice none 0 0, .slice none 0 0, .int .i64 0], .int .i64 1]) (by simp [results, Try.results15, go_sem]) rfl ⟨rfl, ?_⟩
        (repeat (first | exact Ext.refl _ _ | refine Ext.alloc ?_ _ | refine Ext.setCell ?_ (.inr (by simp)) _ | refine Ext.drew ?_))
      · have hw1b : decide (wk < 1) = false := by simpa using hw1
        by_cases hw2 : 64 < wk
        · clear hb
          go_enter Try.func15, Try.ntmps15
          go_wp2_with ((go_at_call 12; refine hr12.mono ?_; rintro e w' ⟨rfl, hw'⟩; subst w'))
          refine bodyPost_ret (v := .tuple #[.agg #[.int .i64 0, .slice none 0 0, .slice none 0 0, .int .i64 0], .int .i64 1]) (by simp [results, Try.results15, go_sem]) rfl ⟨rfl, ?_⟩
          (repeat (first | exact Ext.refl _ _ | refine Ext.alloc ?_ _ | refine Ext.setCell ?_ (.inr (by simp)) _ | refine Ext.drew ?_))
        · have hw2b : decide (64 < wk) = false := by simpa using hw2
          have hodd : decide (0 ≤ idxF oddB vals) = true := by
            rcases hb with h | h | h | h | h
            · rw [HR.out] at h; cases h
            · exact absurd hlen h
            · exact absurd h hw1
            · exact absurd h hw2
            · simpa using h
          rw [hodd] at hc20
          clear hb hodd hlen
          go_enter Try.func15, Try.ntmps15
          go_wp2_with (first | (go_at_call 12; refine hr12.mono ?_; rintro e w' ⟨rfl, hw'⟩; subst w') | (go_at_call 20; refine hc20.mono ?_; rintro e w' ⟨rfl, hw'⟩; subst w'))
          refine bodyPost_ret (v := .tuple #[.agg #[.int .i64 0, .slice none 0 0, .slice none 0 0, .int .i64 0], .int .i64 1]) (by simp [results, Try.results15, go_sem]) rfl ⟨rfl, ?_⟩
          (repeat (first | exact Ext.refl _ _ | refine Ext.alloc ?_ _ | refine Ext.setCell ?_ (.inr (by simp)) _ | refine Ext.drew ?_))
    · have hlb : ((vals.length : Int) != (l.length : Int)) = true := by simp; omega
      clear hb
      go_enter Try.func15, Try.ntmps15
      go_wp2_with ((go_at_call 12; refine hr12.mono ?_; rintro e w' ⟨rfl, hw'⟩; subst w'))
      refine bodyPost_ret (v := .tuple #[.agg #[.int .i64 0, .slice none 0 0, .slice none 0 0, .int .i64 0], .int .i64 1]) (by simp [results, Try.results15, go_sem]) rfl ⟨rfl, ?_⟩
      (repeat (first | exact Ext.refl _ _ | refine Ext.alloc ?_ _ | refine Ext.setCell ?_ (.inr (by simp)) _ | refine Ext.drew ?_))
end

theorem Try.info22 : (Try.prog.info? 22).map (fun i => (i.zero, i.size, i.bytes)) = some (some (.slice none 0 0), 1, 24) := by kernel_rfl

theorem run_make26 (n : Nat) (hn : n ≤ 1000000) (w : World) :
    ∃ cs, (Instr.makeSlice 26 (.int .i64 (n : Int)) (.int .i64 (n : Int))).run Try.prog w = .ok (.slice (some ⟨w.heap.size, 0, none⟩) n n) (w.alloc (.cells cs 22)) ∧
      Blk (w.alloc (.cells cs 22)) w.heap.size n (fun _ => .slice none 0 0) ∧ cs = (List.replicate n (Value.slice none 0 0)).toArray := by
  obtain ⟨i0, hi, hz0, hz1, hz2⟩ := info_parts Try.info22
  have hr := run_make (P := Try.prog) w 26 22 i0 _ Try.underlying26 hi hz0 .i64 .i64 n n (by omega) (by omega) (by rw [hz2]; omega) (by omega)
  simp only [Int.toNat_natCast] at hr
  rw [hz1] at hr
  have e : madeCells (Value.slice none 0 0).cells (n * 1) = (List.replicate n (Value.slice none 0 0)).toArray := by
    apply Array.ext
    · simp [madeCells]
    · intro j h1 h2
      simp [madeCells, Value.cells, Nat.mod_one]
  rw [e] at hr
  refine ⟨_, hr, ⟨_, _, heap_alloc_new w _, by simp, fun o ho => by simp [ho]⟩, rfl⟩

/-- the crew as it is made -/
structure Raw (l vals : List Int) (n m : Nat) (w : World) (C T D base : Nat) (kv : Nat → Value) (dv : Nat → Value) (wx : World) : Prop where
  hC : Blk wx C 7 (crewCells T n n D m m false (.slice none 0 0) (.slice none 0 0) 0)
  hT : Blk wx T (n * 4) (frCells (fun i => if i < n then l.getD i 0 else 0) kv (fun i => if i < n then vals.getD i 0 else 0) (fun i => ((kidsTo l n i).length : Int)))
  hD : Blk wx D m dv
  hR : Blk wx w.heap.size 4 (fun o => if o = 0 then .int .i64 0 else if o = 3 then .int .i64 0 else .slice none 0 0)
  rows : Rows4 wx base n kv (kidsTo l n)
  apart : ∀ i, i < n → ∀ b, (kv i).ownBlock = some b → b ≠ C ∧ b ≠ T ∧ b ≠ D
  ne : C ≠ T ∧ C ≠ D ∧ T ≠ D
  new : w.heap.size < C ∧ w.heap.size < T ∧ w.heap.size < D
  ext : Ext [] w wx

theorem Raw.later {l vals : List Int} {n m : Nat} {w : World} {C T D base : Nat} {kv dv : Nat → Value} {wx wy : World} (h : Raw l vals n m w C T D base kv dv wx) (hx : Ext [] wx wy) (hb : Rows4 wy base n kv (kidsTo l n)) : Raw l vals n m w C T D base kv dv wy :=
  { h with hC := h.hC.ext hx (by simp), hT := h.hT.ext hx (by simp), hD := h.hD.ext hx (by simp), hR := h.hR.ext hx (by simp), rows := hb, ext := h.ext.trans hx (by simp) }

theorem IntsV.of_owns {w : World} {base : Nat} {v : Value} {l : List Int} {S : List Nat} (h : w.ownsRow base 3 1 v l.length (l.map (Value.int .i64))) (hS : ∀ b, v.ownBlock = some b → b ∉ S) : IntsV w S v l := by
  obtain ⟨-, p, c, hv, hi, ha⟩ := IntsAt.of_owns h
  refine ⟨p, c, hv, ?_, ?_, hi, fun _ a e => hS _ (by rw [hv, e]; rfl)⟩
  · rcases h.2 with ⟨h1, h2⟩ | ⟨g, cap, cur, h1, _, _, h2, _⟩
    · omega
    · rw [hv] at h1; simp only [Value.slice.injEq] at h1; omega
  · rcases h.2 with ⟨h1, h2⟩ | ⟨g, cap, cur, h1, _, _, _, h2, _⟩
    · rw [hv] at h1; simp only [Value.slice.injEq] at h1; omega
    · rw [hv] at h1; simp only [Value.slice.injEq] at h1; omega

theorem IntsAt.keeps {Pr : Nat → Prop} {w w' : World} {p : Option Addr} {l : List Int} (h : IntsAt w p l) (hk : Keeps Pr w w') (hP : ∀ a, p = some a → l ≠ [] → Pr a.block) : IntsAt w' p l := by
  rcases h with h | ⟨b, off, rfl, hc⟩
  · exact .inl h
  · by_cases hl : l = []
    · exact .inl hl
    · exact .inr ⟨b, off, rfl, fun k hk' => by rw [World.cell?_of_block (hk.block b (hP _ rfl hl))]; exact hc k hk'⟩

/-- the crew as it starts -/
theorem Raw.crew {l vals : List Int} {n m : Nat} {w wc w5 : World} {C T D base : Nat} {kv : Nat → Value} {po : Option Addr} (hl : l.length = n) (h : Raw l vals n m w C T D base kv (fun _ => .slice none 0 0) wc) (hm : 1 ≤ m)
    (hx5 : Ext [] (((wc.alloc (.cells #[.int .i64 0] 3)).setCell ⟨D, 0, none⟩ (.slice (some ⟨wc.heap.size, 0, none⟩) 1 1)).alloc (.cells #[.int .i64 1] 3)) w5) (hone : IntsAt w5 po (List.replicate m 1))
    (hpo : ∀ a, po = some a → wc.heap.size ≤ a.block) :
    CrewAt (fun b => b < w.heap.size + 1 ∨ ∃ a, po = some a ∧ a.block = b) C T D n m n m (parOf l) (kidsTo l n) (initS l vals) w5 ∧ Blk w5 w.heap.size 4 (fun o => if o = 0 then .int .i64 0 else if o = 3 then .int .i64 0 else .slice none 0 0) ∧ Ext [] w w5 := by
  subst hl
  have hxa : Ext [] wc (wc.alloc (.cells #[.int .i64 0] 3)) := (Ext.refl _ _).alloc _
  have hxb : Ext [D] wc (((wc.alloc (.cells #[.int .i64 0] 3)).setCell ⟨D, 0, none⟩ (.slice (some ⟨wc.heap.size, 0, none⟩) 1 1)).alloc (.cells #[.int .i64 1] 3)) :=
    ((((Ext.refl [D] wc).alloc _).setCell (p := ⟨D, 0, none⟩) (.inl (by simp)) _).alloc _)
  have hx : Ext [D] wc w5 := hxb.trans hx5 (by simp)
  have hmut : mutB C T D (.slice none 0 0) (.slice none 0 0) = [C, T, D] := rfl
  have hm1 : ∀ k ∈ [D], k ∈ [C, T, D] ∨ wc.heap.size ≤ k := fun k hk => .inl (by simp at hk ⊢; exact .inr (.inr hk))
  have hCl := h.hC.lt
  have hTl := h.hT.lt
  have hDl := h.hD.lt
  have hD0 : DqAt wc D m [C, T, D] (fun _ => []) := ⟨_, h.hD, fun i _ => IntsV.nil _ _⟩
  have hD1 := hD0.ext hxa (by simp) (by simp) (fun k hk => .inl hk)
  have hfr : IntsV (wc.alloc (.cells #[.int .i64 0] 3)) [C, T, D] (.slice (some ⟨wc.heap.size, 0, none⟩) 1 1) [0] :=
    IntsV.fresh (l := [0]) (cap := 1) (fun k hk => by
      rcases k with _ | k
      · rfl
      · simp at hk) (by simp) (by simp [maxLen]) (by simp; omega)
  have hD2 := DqAt.store hD1 (by simp) (k := 0) (by omega) hfr
  have hD3 := (hD2.ext (U := [C, T, D]) ((Ext.refl [] _).alloc (.cells #[.int .i64 1] 3)) (by simp) (by simp) (fun k hk => .inl hk)).ext (U := [C, T, D]) hx5 (by simp) (by simp) (fun k hk => .inl hk)
  have hdq : upd (fun _ => []) 0 [0] = (initS l vals).dq := by
    funext i
    by_cases h0 : i = 0
    · subst h0; rfl
    · rw [upd_other _ _ h0]; simp [initS, h0]
  rw [hdq] at hD3
  have hpob : ∀ a, po = some a → a.block < w5.heap.size := fun a ha => by
    obtain ⟨b, off, hp, hc⟩ := hone.get 0 (by simp; omega)
    rw [ha] at hp; cases hp
    exact World.block_lt_of_cell? _ _ hc
  have hnp : ∀ b, w.heap.size < b → b < wc.heap.size → ¬ (b < w.heap.size + 1 ∨ ∃ a, po = some a ∧ a.block = b) := fun b h1 h2 h3 => by
    rcases h3 with h3 | ⟨a, ha, h3⟩
    · omega
    · have := hpo a ha; omega
  have hew : w.heap.size < wc.heap.size := h.hR.lt
  refine ⟨⟨.slice none 0 0, .slice none 0 0, kv, ?_⟩, h.hR.ext hx (by have := h.new; simp; omega), h.ext.trans hx (by have := h.new; simp; omega)⟩
  exact {
    hC := h.hC.ext hx (by have := h.ne; simp; omega)
    hT := h.hT.ext hx (by have := h.ne; simp; omega)
    ho := World.ownsRow_nil _ _ _ _
    hw := World.ownsRow_nil _ _ _ _
    hD := hD3
    hk := fun i hi => by
      rw [hmut]
      refine (IntsV.of_owns (S := [C, T, D]) (h.rows.own i hi) (fun b hb => ?_)).ext hx hm1 (fun k hk => .inl hk)
      have := h.apart i hi b hb
      simp; omega
    hCT := h.ne.1
    hCD := h.ne.2.1
    hTD := h.ne.2.2
    hoC := fun b hb => by cases hb
    hwC := fun b hb => by cases hb
    hN := ⟨hnp C h.new.1 hCl, hnp T h.new.2.1 hTl, hnp D h.new.2.2 hDl⟩
    hP := fun b hb => by
      rcases hb with hb | ⟨a, ha, rfl⟩
      · have := hx.size; omega
      · exact hpob a ha }

/-- how many steps the crew's block tells -/
def stepsOf (C : Nat) (w : World) : Int := match w.cell? ⟨C, 6, none⟩ with | some (.int _ q) => q | _ => 0
theorem stepsOf_eq {C : Nat} {w : World} {q : Int} (h : w.cell? ⟨C, 6, none⟩ = some (.int .i64 q)) : stepsOf C w = q := by unfold stepsOf; rw [h]

theorem four_cells {W : World} {R : Nat} {F : Nat → Value} (h : Blk W R 4 F) (v0 v1 v2 v3 : Value) :
    ((((W.setCell ⟨R, 0, none⟩ v0).setCell ⟨R, 1, none⟩ v1).setCell ⟨R, 2, none⟩ v2).setCell ⟨R, 3, none⟩ v3).cell? ⟨R, 0, none⟩ = some v0 ∧
    ((((W.setCell ⟨R, 0, none⟩ v0).setCell ⟨R, 1, none⟩ v1).setCell ⟨R, 2, none⟩ v2).setCell ⟨R, 3, none⟩ v3).cell? ⟨R, 1, none⟩ = some v1 ∧
    ((((W.setCell ⟨R, 0, none⟩ v0).setCell ⟨R, 1, none⟩ v1).setCell ⟨R, 2, none⟩ v2).setCell ⟨R, 3, none⟩ v3).cell? ⟨R, 2, none⟩ = some v2 ∧
    ((((W.setCell ⟨R, 0, none⟩ v0).setCell ⟨R, 1, none⟩ v1).setCell ⟨R, 2, none⟩ v2).setCell ⟨R, 3, none⟩ v3).cell? ⟨R, 3, none⟩ = some v3 := by
  have hb := (((h.set (o := 0) (by omega) v0).set (o := 1) (by omega) v1).set (o := 2) (by omega) v2).set (o := 3) (by omega) v3
  exact ⟨hb.cell (o := 0) (by omega), hb.cell (o := 1) (by omega), hb.cell (o := 2) (by omega), hb.cell (o := 3) (by omega)⟩

theorem Ext.of_keeps {Pr : Nat → Prop} {w w5 wr : World} (h : Ext [] w w5) (hk : Keeps Pr w5 wr) (hP : ∀ b, b < w.heap.size → Pr b) : Ext [] w wr :=
  ⟨hk.os.trans h.os, hk.tape.trans h.tape, hk.output.trans h.output, Nat.le_trans h.size hk.size, fun k hk' _ => (hk.block k (hP k hk')).trans (h.block k hk' (by simp))⟩

def R0 : Obj := .cells #[.int .i64 0, .slice none 0 0, .slice none 0 0, .int .i64 0] 30
theorem blkR0 (w : World) : Blk (w.alloc R0) w.heap.size 4 (fun o => if o = 0 then .int .i64 0 else if o = 3 then .int .i64 0 else .slice none 0 0) :=
  ⟨_, _, heap_alloc_new w _, rfl, fun o ho => by
    rcases o with _ | _ | _ | _ | o <;> first | rfl | omega⟩

theorem raw_mk {l vals : List Int} {n m : Nat} {w V : World} {C T D base : Nat} {kv : Nat → Value} {wx : World} (hCe : C = V.heap.size)
    (hT : Blk V T (n * 4) (frCells (fun i => if i < n then l.getD i 0 else 0) kv (fun i => if i < n then vals.getD i 0 else 0) (fun i => ((kidsTo l n i).length : Int))))
    (hD : Blk V D m (fun _ => .slice none 0 0)) (hR : Blk V w.heap.size 4 (fun o => if o = 0 then .int .i64 0 else if o = 3 then .int .i64 0 else .slice none 0 0))
    (rows : Rows4 V base n kv (kidsTo l n)) (apart : ∀ i, i < n → ∀ b, (kv i).ownBlock = some b → b ≠ T ∧ b ≠ D) (ne : T ≠ D) (new : w.heap.size < T ∧ w.heap.size < D) (ext : Ext [] w V)
    (hb : base ≤ V.heap.size)
    (hwx : wx = V.alloc (.cells #[.slice (some ⟨T, 0, none⟩) n n, .bool false, .slice (some ⟨D, 0, none⟩) m m, .int .i64 0, .slice none 0 0, .slice none 0 0, .int .i64 0] 50)) :
    Raw l vals n m w C T D base kv (fun _ => .slice none 0 0) wx := by
  subst hCe
  subst hwx
  have hx : Ext [] V (V.alloc (.cells #[.slice (some ⟨T, 0, none⟩) n n, .bool false, .slice (some ⟨D, 0, none⟩) m m, .int .i64 0, .slice none 0 0, .slice none 0 0, .int .i64 0] 50)) := (Ext.refl _ _).alloc _
  exact {
    hC := ⟨_, _, heap_alloc_new V _, rfl, fun o ho => by
      rcases o with _ | _ | _ | _ | _ | _ | _ | o <;> first | rfl | omega⟩
    hT := hT.ext hx (by simp), hD := hD.ext hx (by simp), hR := hR.ext hx (by simp)
    rows := rows.ext hx (by simp)
    apart := fun i hi b hb => ⟨fun e => by have := ((rows.own i hi).lt b hb).2; omega, apart i hi b hb⟩
    ne := ⟨fun e => by have := hT.lt; omega, fun e => by have := hD.lt; omega, ne⟩
    new := ⟨by have := hT.lt; omega, new⟩
    ext := ext.trans hx (by simp) }

section
variable (p q r : Option Addr) (c d e : Nat) (l vals picks : List Int) (m : Nat) (w : World)
variable (hl : l.length ≤ 4611686018427387904) (h0 : IntsAt w p l) (h1 : IntsAt w q vals) (h2 : IntsAt w r picks)

attribute [local go_sem] quietE Oper.quietUpon

set_option maxRecDepth 100000 in
set_option maxHeartbeats 2000000 in
include h0 h1 h2 in
theorem run15_good (n : Nat) (hn : l.length = n) (hr : rightB l = true) (hv : vals.length = n) (hm1 : 1 ≤ m) (hm2 : m ≤ 64) (hodd : ¬ 0 ≤ idxF oddB vals) (hpk : picks.length ≤ 4611686018427387904) (hsm : Small picks) :
    Calls Try.prog 15 #[.slice p n c, .slice q n d, .int .i64 m, .slice r picks.length e] w (RunPost w (resOf (runS (parOf l) (kidsTo l n) n m picks 100001 (initS l vals) (-1)))) := by
  have hri := (rightB_iff l).1 hr
  have hrr : ∀ i, i < n → i = 0 ∧ l.getD i 0 = -1 ∨ 0 ≤ l.getD i 0 ∧ l.getD i 0 < i := fun i hi => by
    have := hri.2.2 i (by omega)
    simp only [List.getD_eq_getElem?_getD, List.getElem?_eq_getElem (show i < l.length by omega), Option.getD_some]
    by_cases h : i = 0
    · rw [if_pos h] at this; exact .inl ⟨h, this⟩
    · rw [if_neg h] at this; exact .inr this
  have hn300 : n ≤ 300 := by omega
  have hn1 : 1 ≤ n := by omega
  have hr12 := right12 p c l (w.alloc R0) (by omega) (h0.ext0 ((Ext.refl [] _).alloc _))
  have hc20 := contains20 q d vals (w.alloc R0) (by omega) (h1.ext0 ((Ext.refl [] _).alloc _))
  rw [hr, hn] at hr12
  rw [hv, show decide (0 ≤ idxF oddB vals) = false by simpa using hodd] at hc20
  have hof := fun W (hx : Ext [] w W) => of21 p q c d n l vals W (by omega) hn hv hrr (h0.ext0 hx) (h1.ext0 hx)
  have HRR := Lib.hid hrr
  have HN := Lib.hid hn
  have HV := Lib.hid hv
  clear hrr hn hv hri hr hodd
  have hmw1 : decide ((m : Int) < 1) = false := by simp; omega
  have hmw2 : decide ((64 : Int) < m) = false := by simp; omega
  unfold R0 at hr12 hc20
  go_enter Try.func15, Try.ntmps15
  go_upto_region 4 with (first | (go_at_call 12; refine hr12.mono ?_; rintro e w' ⟨rfl, hw'⟩; subst w') | (go_at_call 20; refine hc20.mono ?_; rintro e w' ⟨rfl, hw'⟩; subst w'))
  go_cut [11] (fun s11 wx => ∃ C T D base kv, s11 = .pointer (some ⟨C, 0, none⟩) ∧ Raw l vals n m w C T D base kv (fun _ => .slice none 0 0) wx)
  case first =>
    haveI : Nonempty (HW (fun _ => True)) := ⟨⟨w, trivial⟩⟩
    refine wp_region_F [(0, false), (1, false), (3, false)] [2, 4, 5, 6, 7] (fun w' => ∃ x : HW (fun _ => True), w' = x.w) (by kernel_rfl) (by kernel_rfl) (by kernel_rfl) (HW.mk' trivial) (fun d v c a w h => by cases d <;> exact h) ?_
    simp only [opsAt, List.getD_cons_succ, List.getD_cons_zero]
    repeat ((first | refine wpE_read (fun K hK => ?_) | refine wpE_pure (fun K hK => ?_)); go_simp; (refine hK _ ?_; clear hK K))
    refine wpE_nil ?_
    refine anyB_two 2 4 _ _ (by kernel_rfl) (by rfl) (by rfl) (fun K hK => ?_) (fun K hK => ?_)
    · go_simp
      refine (hof _ (by first | exact ((Ext.refl _ _).alloc _).drew | exact ((Ext.refl _ _).drew).alloc _)).mono ?_
      rintro e1 w1 ⟨rfl, hx1, hsz1, kv, hT1, hr1⟩
      refine hK _ _ (fun _ _ => HW.mk' trivial) ?_
      clear hK K
      simp only [World.size_drew, World.size_alloc] at hsz1 hT1 hr1
      refine anyB_one 4 _ (by kernel_rfl) (by rfl) (fun K hK => ?_)
      obtain ⟨cs, hmk, hD1, -⟩ := run_make26 m (by omega) w1
      go_simp
      refine hK _ _ (fun _ _ => HW.mk' trivial) ?_
      clear hK K
      refine anyB_tail 5 (by rfl) (by kernel_rfl) (by decide) ?_
      simp only [List.drop_succ_cons, List.drop_zero]
      go_wp2_with fail
      go_meet
      have hx2 : Ext [] w1 (w1.alloc (.cells cs 22)) := (Ext.refl _ _).alloc _
      have hx0 : Ext [] (w.alloc R0) w1 := ((Ext.refl [] (w.alloc R0)).drew).trans hx1 (by simp)
      refine ⟨_, _, _, _, kv, rfl, raw_mk (V := w1.alloc (.cells cs 22)) (by simp) (hT1.ext hx2 (by simp)) hD1 ((blkR0 w).ext (hx0.trans hx2 (by simp)) (by simp)) (hr1.ext hx2 (by simp)) (fun i hi b hb => ?_) ?_ ?_ (((Ext.refl [] w).alloc R0).trans (hx0.trans hx2 (by simp)) (by simp)) ?_ ?_⟩
      · have := (hr1.own i hi).lt b hb; omega
      · omega
      · omega
      · simp; omega
      · simp
    · obtain ⟨cs, hmk, hD1, -⟩ := run_make26 m (by omega) (w.alloc R0).drew
      simp only [World.size_drew, World.size_alloc] at hmk hD1
      have hx2 : Ext [] (w.alloc R0) ((w.alloc R0).alloc (.cells cs 22)) := (Ext.refl _ _).alloc _
      unfold R0 at hmk
      go_simp
      refine hK _ _ (fun _ _ => HW.mk' trivial) ?_
      clear hK K
      refine anyB_one 2 _ (by kernel_rfl) (by rfl) (fun K hK => ?_)
      go_simp
      refine (hof _ (by first | exact (((Ext.refl _ _).alloc _).alloc _).drew | exact (((Ext.refl _ _).drew).alloc _).alloc _ | exact (((Ext.refl _ _).alloc _).drew).alloc _)).mono ?_
      rintro e1 w1 ⟨rfl, hx1, hsz1, kv, hT1, hr1⟩
      refine hK _ _ (fun _ _ => HW.mk' trivial) ?_
      clear hK K
      simp only [World.size_drew, World.size_alloc] at hsz1 hT1 hr1
      refine anyB_tail 5 (by rfl) (by kernel_rfl) (by decide) ?_
      simp only [List.drop_succ_cons, List.drop_zero]
      go_wp2_with fail
      go_meet
      have hx0 : Ext [] ((w.alloc R0).alloc (.cells cs 22)) w1 := ((Ext.refl [] ((w.alloc R0).alloc (.cells cs 22))).drew).trans hx1 (by simp)
      refine ⟨_, _, _, _, kv, rfl, raw_mk (V := w1) rfl hT1 (Blk.ext (w := (w.alloc R0).alloc (.cells cs 22)) (n := m) (F := fun _ => .slice none 0 0) hD1 hx0 (by simp)) ((blkR0 w).ext (hx2.trans hx0 (by simp)) (by simp)) hr1 (fun i hi b hb => ?_) ?_ ?_ (((Ext.refl [] w).alloc R0).trans (hx2.trans hx0 (by simp)) (by simp)) ?_ ?_⟩
      · have := (hr1.own i hi).lt b hb; omega
      · omega
      · omega
      · omega
      · rfl
  case rest =>
    obtain ⟨C, T, D, base, kv, rfl, hraw⟩ := hcut
    have c2 := hraw.hC.cell (o := 2) (by omega)
    simp only [crewCells] at c2
    have cD := hraw.hD.cell (o := 0) (by omega)
    have cDa : ∀ o, (wc.alloc o).cell? ⟨D, 0, none⟩ = some (.slice none 0 0) := fun o => (hraw.hD.alloc o).cell (o := 0) (by omega)
    have zDa : ∀ o, (wc.alloc o).frozen? ⟨D, 0, none⟩ = false := fun o => (hraw.hD.alloc o).frozen 0
    have hrep := fun W bx hx => rep22 bx m W (by omega) (by omega) hx
    have hmz : (m : Int) ≠ 0 := by omega
    go_wp2_with (go_at_call 22; go_loud (refine (hrep _ _ ?_).mono ?_; (rw [World.cell?_alloc_at _ _ _ _ (by simp)]; rfl); rintro e1 w5 ⟨po, rfl, hone, hx5, hpo⟩))
    have hl := HN.out
    have hcrew := hraw.crew hl hm1 hx5 hone (fun a ha => by have := hpo a ha; simp at this; omega)
    have hInit := StOk.init l vals m (by omega)
    rw [hl] at hInit
    obtain ⟨hcr, hR, hxw⟩ := hcrew
    have hpoM : ∃ b off, po = some ⟨b, off, none⟩ := by
      obtain ⟨b, off, h, _⟩ := hone.get 0 (by simp; omega)
      exact ⟨b, off, h⟩
    have hnR : w.heap.size < C ∧ w.heap.size < T ∧ w.heap.size < D := hraw.new
    have hnE := hraw.ne
    clear cDa zDa hraw hrep hl hx5 hpo
    generalize hPr : (fun b => b < w.heap.size + 1 ∨ ∃ a, po = some a ∧ a.block = b) = Pr at hcr
    have HPr : Hid (∀ b, Pr b ↔ (b < w.heap.size + 1 ∨ ∃ a, po = some a ∧ a.block = b)) := fun b => by rw [← hPr]
    clear hPr
    go_loopw [13] (fun s wr => ∃ (j : Nat) (st : St) (la : Int), s = .int .i64 la ∧ -1 ≤ la ∧ la < m ∧ j ≤ 100000 ∧ StOk n m j st ∧ CrewAt Pr C T D n m n m (parOf l) (kidsTo l n) st wr ∧ Keeps Pr w5 wr ∧
      Hid (runS (parOf l) (kidsTo l n) n m picks 100001 (initS l vals) (-1) = runS (parOf l) (kidsTo l n) n m picks (100001 - j) st la)) (fun _ wr => 100001 - (stepsOf C wr).toNat)
    case atStart => exact ⟨0, _, -1, rfl, by omega, by omega, by omega, hInit, hcr, Keeps.refl _ _, rfl⟩
    case round =>
      obtain ⟨j, st, la, rfl, hla1, hla2, hj, hok, hcr, hkp, HRUN⟩ := hrel
      have hcr' := hcr
      obtain ⟨ov, wv, kv, hci⟩ := hcr'
      have c1 := hci.hC.cell (o := 1) (by omega)
      have c6 := hci.hC.cell (o := 6) (by omega)
      simp only [crewCells] at c1 c6
      have hst := hok.steps
      obtain ⟨sm, lf, dq, ord, who, steps, ends⟩ := st
      simp only at c1 c6 hst
      subst hst
      have hR2 := hR.block (hkp.block w.heap.size ((HPr.out _).2 (.inl (by omega))))
      have q0 := hR2.cell (o := 0) (by omega)
      have q1 := hR2.cell (o := 1) (by omega)
      have q2 := hR2.cell (o := 2) (by omega)
      have q3 := hR2.cell (o := 3) (by omega)
      have y0 := hR2.frozen 0
      have y1 := hR2.frozen 1
      have y2 := hR2.frozen 2
      have y3 := hR2.frozen 3
      simp only [if_true, Nat.one_ne_zero, if_false, show (2 : Nat) ≠ 0 by decide, show (1 : Nat) ≠ 3 by decide, show (2 : Nat) ≠ 3 by decide, show (3 : Nat) ≠ 0 by decide] at q0 q1 q2 q3
      cases ends with
      | true =>
        have HRES : Hid (runS (parOf l) (kidsTo l n) n m picks 100001 (initS l vals) (-1) = some ⟨sm, lf, dq, ord, who, j, true⟩) := by
          refine HRUN.out.trans ?_
          rw [show 100001 - j = (100000 - j) + 1 by omega]
          unfold runS
          rfl
        obtain ⟨-, po2, co2, rfl, hio, hao⟩ := IntsAt.of_owns hci.ho
        obtain ⟨-, pw2, cw2, rfl, hiw, haw⟩ := IntsAt.of_owns hci.hw
        have c0 := hci.hC.cell (o := 0) (by omega)
        have c3 := hci.hC.cell (o := 3) (by omega)
        have c4 := hci.hC.cell (o := 4) (by omega)
        have c5 := hci.hC.cell (o := 5) (by omega)
        have z3 := hci.hC.frozen 3
        have t2 := hci.hT.cell (o := 2) (by omega)
        have ht2 := frCells2 (parOf l) kv sm lf 0
        simp only [Nat.zero_mul, Nat.zero_add] at ht2
        simp only [crewCells] at c0 c3 c4 c5
        rw [ht2] at t2
        clear ht2
        go_wp2
        obtain ⟨f0, f1, f2, f3⟩ := four_cells (hR2.setOther (a := ⟨C, 3, none⟩) (show w.heap.size ≠ C by omega) (.int .i64 (sm 0))) (.int .i64 (sm 0)) (.slice po2 ord.length co2) (.slice pw2 who.length cw2) (.int .i64 (j : Int))
        refine bodyPost_ret (v := .tuple #[.agg #[.int .i64 (sm 0), .slice po2 ord.length co2, .slice pw2 who.length cw2, .int .i64 (j : Int)], .int .i64 0]) (by simp [results, Try.results15, go_sem, f0, f1, f2, f3]) rfl ?_
        have hxs : Ext [C, w.heap.size] wr (((((wr.setCell ⟨C, 3, none⟩ (.int .i64 (sm 0))).setCell ⟨w.heap.size, 0, none⟩ (.int .i64 (sm 0))).setCell ⟨w.heap.size, 1, none⟩ (.slice po2 ord.length co2)).setCell ⟨w.heap.size, 2, none⟩ (.slice pw2 who.length cw2)).setCell ⟨w.heap.size, 3, none⟩ (.int .i64 (j : Int))) :=
          ((((((Ext.refl [C, w.heap.size] wr).setCell (p := ⟨C, 3, none⟩) (.inl (by simp)) _).setCell (p := ⟨w.heap.size, 0, none⟩) (.inl (by simp)) _).setCell (p := ⟨w.heap.size, 1, none⟩) (.inl (by simp)) _).setCell (p := ⟨w.heap.size, 2, none⟩) (.inl (by simp)) _).setCell (p := ⟨w.heap.size, 3, none⟩) (.inl (by simp)) _)
        rw [HRES.out]
        refine ⟨_, rfl, ⟨po2, co2, pw2, cw2, rfl, hio.ext hxs (fun a ha => ?_), hiw.ext hxs (fun a ha => ?_)⟩, (hxw.of_keeps hkp (fun b hb => (HPr.out b).2 (.inl (by omega)))).trans hxs (by simp; omega)⟩
        · have := hci.hoC a.block (by rw [ha]; rfl)
          have hne : a.block ≠ w.heap.size := fun e => this.2.2.2 ((HPr.out _).2 (.inl (by omega)))
          simp; omega
        · have := hci.hwC a.block (by rw [ha]; rfl)
          have hne : a.block ≠ w.heap.size := fun e => this.2.2.2.1 ((HPr.out _).2 (.inl (by omega)))
          simp; omega
      | false =>
        by_cases hj2 : j = 100000
        · subst hj2
          have HRES : Hid (runS (parOf l) (kidsTo l n) n m picks 100001 (initS l vals) (-1) = none) := by
            refine HRUN.out.trans ?_
            unfold runS
            rfl
          obtain ⟨f0, f1, f2, f3⟩ := four_cells hR2 (.int .i64 0) (.slice none 0 0) (.slice none 0 0) (.int .i64 0)
          go_wp2
          refine bodyPost_ret (v := .tuple #[.agg #[.int .i64 0, .slice none 0 0, .slice none 0 0, .int .i64 0], .int .i64 3]) (by simp [results, Try.results15, go_sem, f0, f1, f2, f3]) rfl ?_
          rw [HRES.out]
          refine ⟨_, rfl, ResAt.no 0 _ 3, (hxw.of_keeps hkp (fun b hb => (HPr.out b).2 (.inl (by omega)))).trans (S := []) (T := [w.heap.size]) ?_ (by simp)⟩
          exact (((((Ext.refl [w.heap.size] wr).setCell (p := ⟨w.heap.size, 0, none⟩) (.inl (by simp)) _).setCell (p := ⟨w.heap.size, 1, none⟩) (.inl (by simp)) _).setCell (p := ⟨w.heap.size, 2, none⟩) (.inl (by simp)) _).setCell (p := ⟨w.heap.size, 3, none⟩) (.inl (by simp)) _)
        · have hjb : ((j : Int) == 100000) = false := by simp; omega
          have hone2 : IntsAt wr po (List.replicate m 1) := hone.keeps hkp (fun a ha _ => (HPr.out _).2 (.inr ⟨a, ha, rfl⟩))
          have hpk2 : IntsAt wr r picks := (h2.ext0 hxw).keeps hkp (fun a ha hne => (HPr.out _).2 (.inl (by
            obtain ⟨b, off, he, hc⟩ := h2.get 0 (List.length_pos_iff.2 hne)
            rw [ha] at he; cases he
            have := World.block_lt_of_cell? _ _ hc
            simp at this ⊢; omega)))
          have hpar : ∀ i, i < n → parOf l i < i := fun i hi => by
            unfold parOf
            rw [if_pos (by rw [HN.out]; exact hi)]
            rcases HRR.out i hi with ⟨h, h'⟩ | ⟨_, h⟩ <;> omega
          have hq1 : ord.length ≤ 1000000 := by have := hok.ord; simp at this; omega
          have hq2 : who.length ≤ 1000000 := by have := hok.who; simp at this; omega
          have hq3 : ∀ i, (dq i).length ≤ 100000000 := fun i => by have := hok.len i; simp at this; omega
          have hq4 : ∀ i, (kidsTo l n i).length ≤ 1000000 := fun i => by have := kidsTo_len l n i; omega
          have HOK : Hid (StOk n m (j + 1) (stepS (parOf l) (kidsTo l n) n m ⟨sm, lf, dq, ord, who, j, false⟩ (nextW picks j m la).toNat)) :=
            hok.step (by have := nextW_bd picks j m la (by omega); omega) (fun i => by have := kidsTo_len l n i; omega) (fun i x hx => by have := kidsTo_mem hx; omega)
          have HSTEP : Hid (runS (parOf l) (kidsTo l n) n m picks (100001 - j) ⟨sm, lf, dq, ord, who, j, false⟩ la = runS (parOf l) (kidsTo l n) n m picks (100001 - (j + 1)) (stepS (parOf l) (kidsTo l n) n m ⟨sm, lf, dq, ord, who, j, false⟩ (nextW picks j m la).toNat) (nextW picks j m la)) := by
            show _ = _
            rw [show 100001 - j = (100001 - (j + 1)) + 1 by omega]
            conv => lhs; unfold runS
            simp only [Bool.false_eq_true, if_false]
            rw [if_neg (by omega)]
            rfl
          have hnx := next23 r po e m m j picks la wr hpk (by omega) (by omega) (by omega) hla1 hla2 hsm hpk2 hone2
          have hbd := nextW_bd picks j m la (by omega)
          obtain ⟨wk, hwk⟩ : ∃ wk : Nat, nextW picks j m la = wk := ⟨(nextW picks j m la).toNat, by omega⟩
          have HWK := Lib.hid hwk
          rw [hwk] at hbd
          have hstep := fun W (hW : CrewAt Pr C T D n m n m (parOf l) (kidsTo l n) ⟨sm, lf, dq, ord, who, j, false⟩ W) => step24 Pr C T D n m n m wk (parOf l) (kidsTo l n) ⟨sm, lf, dq, ord, who, j, false⟩ W (by omega) (by omega) (by omega) hpar (by simp; omega) rfl hok.dq hq1 hq2 hq3 hq4 hW
          clear hwk
          go_wp2_with (first | (go_at_call 23; refine hnx.mono ?_; rintro e1 w6 ⟨rfl, hx6⟩; rw [HWK.out]) | (go_at_call 24; refine (hstep _ ?_).mono ?_; (exact ⟨ov, wv, kv, hci.later hx6⟩); rintro e1 w7 ⟨rfl, hkp7, hcr7⟩))
          go_roundw
          case rel =>
            have hE := HWK.out
            have h3 := HOK.out
            have h4 := HSTEP.out
            rw [hE] at h3 h4
            rw [Int.toNat_natCast] at h3 h4
            exact ⟨j + 1, _, (wk : Int), rfl, by omega, by omega, by omega, h3, hcr7, (hkp.trans (hx6.keeps (by simp) hci.hP)).trans hkp7, HRUN.out.trans h4⟩
          case measure =>
            have h3 := HOK.out.steps
            obtain ⟨ov', wv', kv', hci'⟩ := hcr7
            have c67 := hci'.hC.cell (o := 6) (by omega)
            rw [HWK.out, Int.toNat_natCast] at h3
            simp only [crewCells, h3] at c67
            rw [stepsOf_eq c67, stepsOf_eq c6]
            omega
end
end Go.Proofs.Ytgdnkgfgakhpeaa
