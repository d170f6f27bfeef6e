/-
  The reference's Run, good ways: by a contract.
-/
import Derived.Test.YtgdnkgfgakhpeaaRBad
namespace Go.Proofs.Ytgdnkgfgakhpeaa
open Go.RowKit
set_option linter.unusedVariables false
set_option linter.unusedSimpArgs false

section
variable {P : Program} {ops : Array Oper} {md : Region.Mode} {C : World → Prop} {Q : Exit → Act → World → Prop}
theorem anyB_three {B : Nat → Bool} {f : Nat} {listed : Array Bool} {a : Act} {w : World} (i j k : Nat) (oi oj ok : Oper) (hr : Region.ready md ops listed = [i, j, k]) (hoi : ops[i]? = some oi) (hoj : ops[j]? = some oj) (hok : ops[k]? = some ok)
    (h1 : ∀ K : Act → World → Prop, (∀ a' w', (B i = false → C w → C w') → anyB P md ops Q C B f (listed.setIfInBounds i true) a' w' → K a' w') → if Region.wanted oi (yielded ops a.tmps) = true then oi.wp P a w K Q else K (a.put oi.dst undef) w)
    (h2 : ∀ K : Act → World → Prop, (∀ a' w', (B j = false → C w → C w') → anyB P md ops Q C B f (listed.setIfInBounds j true) a' w' → K a' w') → if Region.wanted oj (yielded ops a.tmps) = true then oj.wp P a w K Q else K (a.put oj.dst undef) w)
    (h3 : ∀ K : Act → World → Prop, (∀ a' w', (B k = false → C w → C w') → anyB P md ops Q C B f (listed.setIfInBounds k true) a' w' → K a' w') → if Region.wanted ok (yielded ops a.tmps) = true then ok.wp P a w K Q else K (a.put ok.dst undef) w) :
    anyB P md ops Q C B (f + 1) listed a w := by
  refine ⟨fun h0 => (by rw [hr] at h0; cases h0), fun x hk => ?_⟩
  rw [hr] at hk
  rcases (by simpa using hk : x = i ∨ x = j ∨ x = k) with rfl | rfl | rfl
  · have := h1 (fun a' w' => (B x = false → C w → C w') ∧ anyB P md ops Q C B f (listed.setIfInBounds x true) a' w') (fun a' w' h1 h2 => ⟨h1, h2⟩)
    unfold wpOp
    simp only [hoi]
    split
    · rename_i hx; rw [if_pos hx] at this; exact .inl this
    · rename_i hx; rw [if_neg hx] at this; exact this
  · have := h2 (fun a' w' => (B x = false → C w → C w') ∧ anyB P md ops Q C B f (listed.setIfInBounds x true) a' w') (fun a' w' h1 h2 => ⟨h1, h2⟩)
    unfold wpOp
    simp only [hoj]
    split
    · rename_i hx; rw [if_pos hx] at this; exact .inl this
    · rename_i hx; rw [if_neg hx] at this; exact this
  · have := h3 (fun a' w' => (B x = false → C w → C w') ∧ anyB P md ops Q C B f (listed.setIfInBounds x true) a' w') (fun a' w' h1 h2 => ⟨h1, h2⟩)
    unfold wpOp
    simp only [hok]
    split
    · rename_i hx; rw [if_pos hx] at this; exact .inl this
    · rename_i hx; rw [if_neg hx] at this; exact this
end

def zI (n : Nat) : Obj := .cells (List.replicate n (Value.int .i64 0)).toArray 3
def zS (n : Nat) : Obj := .cells (List.replicate n (Value.slice none 0 0)).toArray 22
theorem blkZI (n : Nat) (w : World) : Blk (w.alloc (zI n)) w.heap.size n (intsF fun _ => 0) := ⟨_, _, heap_alloc_new w _, by simp, fun o ho => by simp [ho, intsF]⟩
theorem blkZS (n : Nat) (w : World) : Blk (w.alloc (zS n)) w.heap.size n (fun _ => .slice none 0 0) := ⟨_, _, heap_alloc_new w _, by simp, fun o ho => by simp [ho]⟩
theorem blkZI' (n b : Nat) (w : World) (hb : b = w.heap.size) : Blk (w.alloc (zI n)) b n (intsF fun _ => 0) := by subst hb; exact blkZI n w
theorem blkZS' (n b : Nat) (w : World) (hb : b = w.heap.size) : Blk (w.alloc (zS n)) b n (fun _ => .slice none 0 0) := by subst hb; exact blkZS n w
theorem mkZI (n : Nat) (hn : n ≤ 1000000) (w : World) : (Instr.makeSlice 22 (.int .i64 (n : Int)) (.int .i64 (n : Int))).run Try.prog w = .ok (.slice (some ⟨w.heap.size, 0, none⟩) n n) (w.alloc (zI n)) := run_make22 n hn w
theorem mkZS (n : Nat) (hn : n ≤ 1000000) (w : World) : (Instr.makeSlice 26 (.int .i64 (n : Int)) (.int .i64 (n : Int))).run Try.prog w = .ok (.slice (some ⟨w.heap.size, 0, none⟩) n n) (w.alloc (zS n)) := by
  obtain ⟨cs, h, -, rfl⟩ := run_make26 n hn w
  exact h

/-- the state as it is made -/
structure RawR (n m pc : Nat) (pp : Option Addr) (w : World) (X A L D : Nat) (wx : World) : Prop where
  hX : Blk wx X 9 (refCells pp n pc D m m A n L n (.slice none 0 0) (.slice none 0 0) false)
  hA : Blk wx A n (intsF fun _ => 0)
  hL : Blk wx L n (intsF fun _ => 0)
  hD : Blk wx D m (fun _ => .slice none 0 0)
  hR : Blk wx w.heap.size 4 (fun o => if o = 0 then .int .i64 0 else if o = 3 then .int .i64 0 else .slice none 0 0)
  ne : X ≠ A ∧ X ≠ L ∧ X ≠ D ∧ A ≠ L ∧ A ≠ D ∧ L ≠ D
  new : w.heap.size < X ∧ w.heap.size < A ∧ w.heap.size < L ∧ w.heap.size < D
  ext : Ext [] w wx

theorem rawR_mk {n m pc : Nat} {pp : Option Addr} {w V : World} {X A L D : Nat} {wx : World} (hwx : wx = (V.alloc (.cells #[.slice pp n pc, .slice (some ⟨D, 0, none⟩) m m, .slice (some ⟨A, 0, none⟩) n n, .slice (some ⟨L, 0, none⟩) n n, .int .i64 0, .slice none 0 0, .slice none 0 0, .int .i64 0, .bool false] 57)).drew) (hXe : X = V.heap.size)
    (hA : Blk V A n (intsF fun _ => 0)) (hL : Blk V L n (intsF fun _ => 0)) (hD : Blk V D m (fun _ => .slice none 0 0)) (hx : Ext [] (w.alloc R0) V) (ne : A ≠ L ∧ A ≠ D ∧ L ≠ D) (new : w.heap.size < A ∧ w.heap.size < L ∧ w.heap.size < D) :
    RawR n m pc pp w X A L D wx := by
  subst hXe
  subst hwx
  have hx2 : Ext [] V (V.alloc (.cells #[.slice pp n pc, .slice (some ⟨D, 0, none⟩) m m, .slice (some ⟨A, 0, none⟩) n n, .slice (some ⟨L, 0, none⟩) n n, .int .i64 0, .slice none 0 0, .slice none 0 0, .int .i64 0, .bool false] 57)).drew := ((Ext.refl _ _).alloc _).drew
  have lA := hA.lt; have lL := hL.lt; have lD := hD.lt
  exact {
    hX := ⟨_, _, heap_alloc_new V _, rfl, fun o ho => by
      rcases o with _ | _ | _ | _ | _ | _ | _ | _ | _ | o <;> first | rfl | omega⟩
    hA := hA.ext hx2 (by simp), hL := hL.ext hx2 (by simp), hD := hD.ext hx2 (by simp), hR := ((blkR0 w).ext hx (by simp)).ext hx2 (by simp)
    ne := ⟨by omega, by omega, by omega, ne⟩
    new := ⟨by have := hx.size; simp at this; omega, new⟩
    ext := (((Ext.refl [] w).alloc R0).trans hx (by simp)).trans hx2 (by simp) }

theorem RawR.ref {n m pc : Nat} {pp : Option Addr} {w wc w5 : World} {X A L D B : Nat} (h : RawR n m pc pp w X A L D wc) (hm : 1 ≤ m)
    (hx5 : Ext [] ((wc.alloc (.cells #[.int .i64 0] 3)).setCell ⟨D, 0, none⟩ (.slice (some ⟨wc.heap.size, 0, none⟩) 1 1)) w5) (hB : wc.heap.size ≤ B) (hB5 : B < w5.heap.size) :
    RefAt (fun b => b < w.heap.size + 1 ∨ b = B) X A L D n m pc n n m pp initR w5 ∧ Blk w5 w.heap.size 4 (fun o => if o = 0 then .int .i64 0 else if o = 3 then .int .i64 0 else .slice none 0 0) ∧ Ext [] w w5 := by
  have hxa : Ext [] wc (wc.alloc (.cells #[.int .i64 0] 3)) := (Ext.refl _ _).alloc _
  have hxb : Ext [D] wc ((wc.alloc (.cells #[.int .i64 0] 3)).setCell ⟨D, 0, none⟩ (.slice (some ⟨wc.heap.size, 0, none⟩) 1 1)) :=
    (((Ext.refl [D] wc).alloc _).setCell (p := ⟨D, 0, none⟩) (.inl (by simp)) _)
  have hx : Ext [D] wc w5 := hxb.trans hx5 (by simp)
  have hmut : mutR X A L D (.slice none 0 0) (.slice none 0 0) = [X, A, L, D] := rfl
  have hXl := h.hX.lt
  have hAl := h.hA.lt
  have hLl := h.hL.lt
  have hDl := h.hD.lt
  have hn := h.new
  have hne := h.ne
  have hD0 : DqAt wc D m [X, A, L, D] (fun _ => []) := ⟨_, h.hD, fun i _ => IntsV.nil _ _⟩
  have hD1 := hD0.ext (U := [X, A, L, D]) hxa (by simp) (by simp) (fun k hk => .inl hk)
  have hfr : IntsV (wc.alloc (.cells #[.int .i64 0] 3)) [X, A, L, D] (.slice (some ⟨wc.heap.size, 0, none⟩) 1 1) [0] :=
    IntsV.fresh (l := [0]) (cap := 1) (fun k hk => by
      rcases k with _ | k
      · rfl
      · simp at hk) (by simp) (by simp [maxLen]) (by simp; omega)
  have hD2 := DqAt.store hD1 (by simp) (k := 0) (by omega) hfr
  have hD3 := hD2.ext (U := [X, A, L, D]) hx5 (by simp) (by simp) (fun k hk => .inl hk)
  have hdq : upd (fun _ => []) 0 [0] = initR.dq := by
    funext i
    by_cases h0 : i = 0
    · subst h0; rfl
    · rw [upd_other _ _ h0]; simp [initR, h0]
  rw [hdq] at hD3
  have hew : w.heap.size < wc.heap.size := h.hR.lt
  refine ⟨⟨.slice none 0 0, .slice none 0 0, ?_⟩, h.hR.ext hx (by simp; omega), h.ext.trans hx (by simp; omega)⟩
  exact {
    hX := h.hX.ext hx (by simp; omega)
    hA := h.hA.ext hx (by simp; omega)
    hL := h.hL.ext hx (by simp; omega)
    ho := World.ownsRow_nil _ _ _ _
    hw := World.ownsRow_nil _ _ _ _
    hD := hD3
    ne := hne
    hoC := fun b hb => by cases hb
    hwC := fun b hb => by cases hb
    hN := ⟨by omega, by omega, by omega, by omega⟩
    hP := fun b hb => by have := hx.size; omega }

section
variable (p q r : Option Addr) (c d e : Nat) (l vals picks : List Int) (m : Nat) (w : World)
variable (h0 : IntsAt w p l) (h1 : IntsAt w q vals) (h2 : IntsAt w r picks)

attribute [local go_sem] quietE Oper.quietUpon

set_option maxRecDepth 100000 in
set_option maxHeartbeats 2000000 in
include h0 h1 h2 in
theorem run16_good (n : Nat) (hn : l.length = n) (hr : rightB l = true) (hv : vals.length = n) (hm1 : 1 ≤ m) (hm2 : m ≤ 64) (hodd : ¬ 0 ≤ idxF oddB vals) (hpk : picks.length ≤ 4611686018427387904) (hsm : Small picks) :
    Calls Try.prog 16 #[.slice p n c, .slice q n d, .int .i64 m, .slice r picks.length e] w (RunPost w (resR (runRR (parOf l) (kidsTo l n) n m picks vals 100000 0 initR (-1)))) := by
  have hri := (rightB_iff l).1 hr
  have hpl : ∀ i (h : i < l.length), l[i] = parOf l i := fun i hi => by unfold parOf; rw [if_pos hi]; simp [hi]
  have hpar : ∀ i, 0 < i → i < n → 0 ≤ parOf l i ∧ parOf l i < i := fun i hi hin => by
    have h := hri.2.2 i (by omega)
    rw [if_neg (by omega), hpl i (by omega)] at h
    exact h
  have hl0 : l.getD 0 0 = -1 := by
    have h := hri.2.2 0 (by omega)
    rw [if_pos rfl] at h
    simp only [List.getD_eq_getElem?_getD, List.getElem?_eq_getElem (show 0 < l.length by omega), Option.getD_some]
    exact h
  have hn300 : n ≤ 300 := by omega
  have hn1 : 1 ≤ n := by omega
  have hr13 := right13 p c l (w.alloc R0) (by omega) (h0.ext0 ((Ext.refl [] _).alloc _))
  rw [hr, hn] at hr13
  have HODD := Lib.hid (idxF_neg hodd)
  have HN := Lib.hid hn
  have HV := Lib.hid hv
  have HPL := Lib.hid hpl
  have HPAR := Lib.hid hpar
  have HL0 := Lib.hid hl0
  clear hn hv hri hr hodd hpl hpar hl0
  have hmw1 : decide ((m : Int) < 1) = false := by simp; omega
  have hmw2 : decide ((64 : Int) < m) = false := by simp; omega
  have hmn := mkZI n (by omega)
  have hmS := mkZS m (by omega)
  have hn0 : decide ((0 : Int) ≤ (n : Int)) = true := by simp
  unfold R0 at hr13
  go_enter Try.func16, Try.ntmps16
  go_wp2_with ((go_at_call 13; refine hr13.mono ?_; rintro e w' ⟨rfl, hw'⟩; subst w'))
  go_loop [10] (fun i => ∃ k : Nat, k ≤ n ∧ i = .int .i64 k) (fun i => n - (intOf i).toNat)
  case atStart => exact ⟨0, Nat.zero_le _, rfl⟩
  case round =>
    obtain ⟨k, hk, rfl⟩ := hrel
    by_cases hlt : k < n
    · obtain ⟨b, off, rfl, hc⟩ := (h1.ext0 ((Ext.refl [] w).alloc (.cells #[.int .i64 0, .slice none 0 0, .slice none 0 0, .int .i64 0] 30))).get k (by rw [HV.out]; exact hlt)
      have hx := HODD.out k (by rw [HV.out]; exact hlt)
      generalize vals[k]'(by rw [HV.out]; exact hlt) = x at hc hx
      have hx1 : decide (x < -1099511627776) = false := by simp [oddB] at hx ⊢; omega
      have hx2 : decide (1099511627776 < x) = false := by simp [oddB] at hx ⊢; omega
      clear hx
      go_wp2
      go_round
      case rel => exact ⟨k + 1, by omega, by go_num⟩
      case measure => simp [intOf]; omega
    · obtain rfl : k = n := by omega
      go_upto_region 8 with fail
      go_cut [11] (fun s11 wx => ∃ X A L D, s11 = .pointer (some ⟨X, 0, none⟩) ∧ RawR k m c p w X A L D wx)
      case first =>
        haveI : Nonempty (HW (fun _ => True)) := ⟨⟨w, trivial⟩⟩
        refine wp_region_F [(0, false), (1, false), (3, false), (4, false), (6, false), (7, false)] [2, 5, 8, 9, 10, 11] (fun w' => ∃ x : HW (fun _ => True), w' = x.w) (by kernel_rfl) (by kernel_rfl) (by kernel_rfl) (HW.mk' trivial) (fun d v c a w h => by cases d <;> exact h) ?_
        simp only [opsAt, List.getD_cons_succ, List.getD_cons_zero]
        repeat ((first | refine wpE_read (fun K hK => ?_) | refine wpE_pure (fun K hK => ?_)); go_simp; (refine hK _ ?_; clear hK K))
        refine wpE_nil ?_
        refine anyB_three 2 5 8 _ _ _ (by kernel_rfl) (by rfl) (by rfl) (by rfl) (fun K hK => ?_) (fun K hK => ?_) (fun K hK => ?_)
        · go_simp
          refine hK _ _ (fun _ _ => HW.mk' trivial) ?_
          clear hK K
          refine anyB_two 5 8 _ _ (by kernel_rfl) (by rfl) (by rfl) (fun K hK => ?_) (fun K hK => ?_)
          · go_simp
            refine hK _ _ (fun _ _ => HW.mk' trivial) ?_
            clear hK K
            refine anyB_one 8 _ (by kernel_rfl) (by rfl) (fun K hK => ?_)
            go_simp
            refine hK _ _ (fun _ _ => HW.mk' trivial) ?_
            clear hK K
            refine anyB_tail 9 (by rfl) (by kernel_rfl) (by decide) ?_
            simp only [List.drop_succ_cons, List.drop_zero]
            go_wp2_with fail
            go_meet
            refine ⟨_, _, _, _, rfl, rawR_mk rfl (by first | rfl | simp) ?_ ?_ ?_ ?_ ?_ ?_⟩
            · first | (refine blkZI' _ _ _ ?_; simp only [World.size_alloc]; done) | (refine Blk.alloc (blkZI' _ _ _ ?_) _; simp only [World.size_alloc]; done) | (refine Blk.alloc (Blk.alloc (blkZI' _ _ _ ?_) _) _; simp only [World.size_alloc]; done)
            · first | (refine blkZI' _ _ _ ?_; simp only [World.size_alloc]; done) | (refine Blk.alloc (blkZI' _ _ _ ?_) _; simp only [World.size_alloc]; done) | (refine Blk.alloc (Blk.alloc (blkZI' _ _ _ ?_) _) _; simp only [World.size_alloc]; done)
            · first | (refine blkZS' _ _ _ ?_; simp only [World.size_alloc]; done) | (refine Blk.alloc (blkZS' _ _ _ ?_) _; simp only [World.size_alloc]; done) | (refine Blk.alloc (Blk.alloc (blkZS' _ _ _ ?_) _) _; simp only [World.size_alloc]; done)
            · exact (((Ext.refl [] (w.alloc R0)).alloc _).alloc _).alloc _
            · omega
            · omega
          · go_simp
            refine hK _ _ (fun _ _ => HW.mk' trivial) ?_
            clear hK K
            refine anyB_one 5 _ (by kernel_rfl) (by rfl) (fun K hK => ?_)
            go_simp
            refine hK _ _ (fun _ _ => HW.mk' trivial) ?_
            clear hK K
            refine anyB_tail 9 (by rfl) (by kernel_rfl) (by decide) ?_
            simp only [List.drop_succ_cons, List.drop_zero]
            go_wp2_with fail
            go_meet
            refine ⟨_, _, _, _, rfl, rawR_mk rfl (by first | rfl | simp) ?_ ?_ ?_ ?_ ?_ ?_⟩
            · first | (refine blkZI' _ _ _ ?_; simp only [World.size_alloc]; done) | (refine Blk.alloc (blkZI' _ _ _ ?_) _; simp only [World.size_alloc]; done) | (refine Blk.alloc (Blk.alloc (blkZI' _ _ _ ?_) _) _; simp only [World.size_alloc]; done)
            · first | (refine blkZI' _ _ _ ?_; simp only [World.size_alloc]; done) | (refine Blk.alloc (blkZI' _ _ _ ?_) _; simp only [World.size_alloc]; done) | (refine Blk.alloc (Blk.alloc (blkZI' _ _ _ ?_) _) _; simp only [World.size_alloc]; done)
            · first | (refine blkZS' _ _ _ ?_; simp only [World.size_alloc]; done) | (refine Blk.alloc (blkZS' _ _ _ ?_) _; simp only [World.size_alloc]; done) | (refine Blk.alloc (Blk.alloc (blkZS' _ _ _ ?_) _) _; simp only [World.size_alloc]; done)
            · exact (((Ext.refl [] (w.alloc R0)).alloc _).alloc _).alloc _
            · omega
            · omega
        · go_simp
          refine hK _ _ (fun _ _ => HW.mk' trivial) ?_
          clear hK K
          refine anyB_two 2 8 _ _ (by kernel_rfl) (by rfl) (by rfl) (fun K hK => ?_) (fun K hK => ?_)
          · go_simp
            refine hK _ _ (fun _ _ => HW.mk' trivial) ?_
            clear hK K
            refine anyB_one 8 _ (by kernel_rfl) (by rfl) (fun K hK => ?_)
            go_simp
            refine hK _ _ (fun _ _ => HW.mk' trivial) ?_
            clear hK K
            refine anyB_tail 9 (by rfl) (by kernel_rfl) (by decide) ?_
            simp only [List.drop_succ_cons, List.drop_zero]
            go_wp2_with fail
            go_meet
            refine ⟨_, _, _, _, rfl, rawR_mk rfl (by first | rfl | simp) ?_ ?_ ?_ ?_ ?_ ?_⟩
            · first | (refine blkZI' _ _ _ ?_; simp only [World.size_alloc]; done) | (refine Blk.alloc (blkZI' _ _ _ ?_) _; simp only [World.size_alloc]; done) | (refine Blk.alloc (Blk.alloc (blkZI' _ _ _ ?_) _) _; simp only [World.size_alloc]; done)
            · first | (refine blkZI' _ _ _ ?_; simp only [World.size_alloc]; done) | (refine Blk.alloc (blkZI' _ _ _ ?_) _; simp only [World.size_alloc]; done) | (refine Blk.alloc (Blk.alloc (blkZI' _ _ _ ?_) _) _; simp only [World.size_alloc]; done)
            · first | (refine blkZS' _ _ _ ?_; simp only [World.size_alloc]; done) | (refine Blk.alloc (blkZS' _ _ _ ?_) _; simp only [World.size_alloc]; done) | (refine Blk.alloc (Blk.alloc (blkZS' _ _ _ ?_) _) _; simp only [World.size_alloc]; done)
            · exact (((Ext.refl [] (w.alloc R0)).alloc _).alloc _).alloc _
            · omega
            · omega
          · go_simp
            refine hK _ _ (fun _ _ => HW.mk' trivial) ?_
            clear hK K
            refine anyB_one 2 _ (by kernel_rfl) (by rfl) (fun K hK => ?_)
            go_simp
            refine hK _ _ (fun _ _ => HW.mk' trivial) ?_
            clear hK K
            refine anyB_tail 9 (by rfl) (by kernel_rfl) (by decide) ?_
            simp only [List.drop_succ_cons, List.drop_zero]
            go_wp2_with fail
            go_meet
            refine ⟨_, _, _, _, rfl, rawR_mk rfl (by first | rfl | simp) ?_ ?_ ?_ ?_ ?_ ?_⟩
            · first | (refine blkZI' _ _ _ ?_; simp only [World.size_alloc]; done) | (refine Blk.alloc (blkZI' _ _ _ ?_) _; simp only [World.size_alloc]; done) | (refine Blk.alloc (Blk.alloc (blkZI' _ _ _ ?_) _) _; simp only [World.size_alloc]; done)
            · first | (refine blkZI' _ _ _ ?_; simp only [World.size_alloc]; done) | (refine Blk.alloc (blkZI' _ _ _ ?_) _; simp only [World.size_alloc]; done) | (refine Blk.alloc (Blk.alloc (blkZI' _ _ _ ?_) _) _; simp only [World.size_alloc]; done)
            · first | (refine blkZS' _ _ _ ?_; simp only [World.size_alloc]; done) | (refine Blk.alloc (blkZS' _ _ _ ?_) _; simp only [World.size_alloc]; done) | (refine Blk.alloc (Blk.alloc (blkZS' _ _ _ ?_) _) _; simp only [World.size_alloc]; done)
            · exact (((Ext.refl [] (w.alloc R0)).alloc _).alloc _).alloc _
            · omega
            · omega
        · go_simp
          refine hK _ _ (fun _ _ => HW.mk' trivial) ?_
          clear hK K
          refine anyB_two 2 5 _ _ (by kernel_rfl) (by rfl) (by rfl) (fun K hK => ?_) (fun K hK => ?_)
          · go_simp
            refine hK _ _ (fun _ _ => HW.mk' trivial) ?_
            clear hK K
            refine anyB_one 5 _ (by kernel_rfl) (by rfl) (fun K hK => ?_)
            go_simp
            refine hK _ _ (fun _ _ => HW.mk' trivial) ?_
            clear hK K
            refine anyB_tail 9 (by rfl) (by kernel_rfl) (by decide) ?_
            simp only [List.drop_succ_cons, List.drop_zero]
            go_wp2_with fail
            go_meet
            refine ⟨_, _, _, _, rfl, rawR_mk rfl (by first | rfl | simp) ?_ ?_ ?_ ?_ ?_ ?_⟩
            · first | (refine blkZI' _ _ _ ?_; simp only [World.size_alloc]; done) | (refine Blk.alloc (blkZI' _ _ _ ?_) _; simp only [World.size_alloc]; done) | (refine Blk.alloc (Blk.alloc (blkZI' _ _ _ ?_) _) _; simp only [World.size_alloc]; done)
            · first | (refine blkZI' _ _ _ ?_; simp only [World.size_alloc]; done) | (refine Blk.alloc (blkZI' _ _ _ ?_) _; simp only [World.size_alloc]; done) | (refine Blk.alloc (Blk.alloc (blkZI' _ _ _ ?_) _) _; simp only [World.size_alloc]; done)
            · first | (refine blkZS' _ _ _ ?_; simp only [World.size_alloc]; done) | (refine Blk.alloc (blkZS' _ _ _ ?_) _; simp only [World.size_alloc]; done) | (refine Blk.alloc (Blk.alloc (blkZS' _ _ _ ?_) _) _; simp only [World.size_alloc]; done)
            · exact (((Ext.refl [] (w.alloc R0)).alloc _).alloc _).alloc _
            · omega
            · omega
          · go_simp
            refine hK _ _ (fun _ _ => HW.mk' trivial) ?_
            clear hK K
            refine anyB_one 2 _ (by kernel_rfl) (by rfl) (fun K hK => ?_)
            go_simp
            refine hK _ _ (fun _ _ => HW.mk' trivial) ?_
            clear hK K
            refine anyB_tail 9 (by rfl) (by kernel_rfl) (by decide) ?_
            simp only [List.drop_succ_cons, List.drop_zero]
            go_wp2_with fail
            go_meet
            refine ⟨_, _, _, _, rfl, rawR_mk rfl (by first | rfl | simp) ?_ ?_ ?_ ?_ ?_ ?_⟩
            · first | (refine blkZI' _ _ _ ?_; simp only [World.size_alloc]; done) | (refine Blk.alloc (blkZI' _ _ _ ?_) _; simp only [World.size_alloc]; done) | (refine Blk.alloc (Blk.alloc (blkZI' _ _ _ ?_) _) _; simp only [World.size_alloc]; done)
            · first | (refine blkZI' _ _ _ ?_; simp only [World.size_alloc]; done) | (refine Blk.alloc (blkZI' _ _ _ ?_) _; simp only [World.size_alloc]; done) | (refine Blk.alloc (Blk.alloc (blkZI' _ _ _ ?_) _) _; simp only [World.size_alloc]; done)
            · first | (refine blkZS' _ _ _ ?_; simp only [World.size_alloc]; done) | (refine Blk.alloc (blkZS' _ _ _ ?_) _; simp only [World.size_alloc]; done) | (refine Blk.alloc (Blk.alloc (blkZS' _ _ _ ?_) _) _; simp only [World.size_alloc]; done)
            · exact (((Ext.refl [] (w.alloc R0)).alloc _).alloc _).alloc _
            · omega
            · omega
      case rest =>
        obtain ⟨X, A, L, D, rfl, hraw⟩ := hcut
        have c1 := hraw.hX.cell (o := 1) (by omega)
        simp only [refCells] at c1
        have cDa : ∀ o, (wc.alloc o).cell? ⟨D, 0, none⟩ = some (.slice none 0 0) := fun o => (hraw.hD.alloc o).cell (o := 0) (by omega)
        have zDa : ∀ o, (wc.alloc o).frozen? ⟨D, 0, none⟩ = false := fun o => (hraw.hD.alloc o).frozen 0
        have hmm := mkZI m (by omega)
        have hm0 : decide ((0 : Int) < (m : Int)) = true := by simp; omega
        go_wp2_with fail
        go_loopw [13] (fun s wr => ∃ j : Nat, j ≤ m ∧ s = .int .i64 j ∧ Ext [] ((wc.alloc (.cells #[.int .i64 0] 3)).setCell ⟨D, 0, none⟩ (.slice (some ⟨wc.heap.size, 0, none⟩) 1 1)) wr ∧ Blk wr (wc.heap.size + 1) m (intsF fun o => if o < j then 1 else 0)) (fun i _ => m - (intOf i).toNat)
        case atStart =>
          refine ⟨0, Nat.zero_le _, rfl, (Ext.refl _ _).alloc _, (blkZI' _ _ _ (by simp)).congr fun o _ => by simp [intsF]⟩
        case round =>
          clear cDa zDa c1
          obtain ⟨j, hj, rfl, hx, hB⟩ := hrel
          by_cases hjm : j < m
          · have b1 := hB.cell hjm
            have y1 := hB.frozen j
            simp only [intsF, Nat.lt_irrefl, if_false] at b1
            go_wp2
            go_roundw
            case rel =>
              refine ⟨j + 1, by omega, by go_num, hx.setCell (.inr (by simp)) _, (hB.setI hjm 1).congr fun o _ => ?_⟩
              unfold intsF
              by_cases ho : o = j
              · subst ho; rw [upd_same]; simp
              · rw [upd_other _ _ ho]; simp only [show (o < j + 1) = (o < j) from propext (by omega)]
            case measure => simp [intOf]; omega
          · obtain rfl : j = m := by omega
            have hone : IntsAt wr (some ⟨wc.heap.size + 1, 0, none⟩) (List.replicate j 1) := .inr ⟨_, 0, rfl, fun i hi => by
              rw [Nat.zero_add]
              have := hB.cell (o := i) (by simpa using hi)
              rw [this]
              simp at hi
              simp [intsF, hi]⟩
            obtain ⟨href, hR, hxw⟩ := hraw.ref hm1 hx (B := wc.heap.size + 1) (by omega) hB.lt
            have hnR := hraw.new
            have hnE := hraw.ne
            have hInit := RtOk.init (n := k) (m := j) hn1
            generalize hPr : (fun b => b < w.heap.size + 1 ∨ b = wc.heap.size + 1) = Pr at href
            have HPr : Hid (∀ b, Pr b ↔ (b < w.heap.size + 1 ∨ b = wc.heap.size + 1)) := fun b => by rw [← hPr]
            clear hPr hraw hx hB hmm hmn hmS
            obtain ⟨w5, rfl⟩ : ∃ w5, w5 = wr := ⟨_, rfl⟩
            go_wp2_with fail
            go_loopw [14, 15] (fun s14 s15 wr => ∃ (i : Nat) (st : Rt) (la : Int), s14 = .int .i64 la ∧ s15 = .int .i64 i ∧ -1 ≤ la ∧ la < j ∧ i ≤ 100000 ∧ st.done = false ∧ RtOk k j i st ∧ RefAt Pr X A L D k j c k k j p st wr ∧ Keeps Pr w5 wr ∧
              Hid (runRR (parOf l) (kidsTo l k) k j picks vals 100000 0 initR (-1) = runRR (parOf l) (kidsTo l k) k j picks vals (100000 - i) i st la)) (fun _ i _ => 100000 - (intOf i).toNat)
            case atStart => exact ⟨0, _, -1, rfl, rfl, by omega, by omega, by omega, rfl, hInit, href, Keeps.refl _ _, rfl⟩
            case round =>
              obtain ⟨i, st, la, rfl, rfl, hla1, hla2, hi100, hdn, hok, ⟨ov, wv, hi⟩, hkp, HRUN⟩ := hrel
              obtain ⟨sm, lf, dq, ord, who, done⟩ := st
              simp only at hdn
              subst hdn
              have hR2 := hR.block (hkp.block w.heap.size ((HPr.out _).2 (.inl (by omega))))
              have q0 := hR2.cell (o := 0) (by omega)
              have q1 := hR2.cell (o := 1) (by omega)
              have q2 := hR2.cell (o := 2) (by omega)
              have q3 := hR2.cell (o := 3) (by omega)
              have y0 := hR2.frozen 0
              have y1 := hR2.frozen 1
              have y2 := hR2.frozen 2
              have y3 := hR2.frozen 3
              simp only [if_true, Nat.one_ne_zero, if_false, show (2 : Nat) ≠ 0 by decide, show (1 : Nat) ≠ 3 by decide, show (2 : Nat) ≠ 3 by decide, show (3 : Nat) ≠ 0 by decide] at q0 q1 q2 q3
              by_cases hj2 : i = 100000
              · subst hj2
                have HRES : Hid (runRR (parOf l) (kidsTo l k) k j picks vals 100000 0 initR (-1) = none) := HRUN.out
                obtain ⟨f0, f1, f2, f3⟩ := four_cells hR2 (.int .i64 0) (.slice none 0 0) (.slice none 0 0) (.int .i64 0)
                go_wp2
                refine bodyPost_ret (v := .tuple #[.agg #[.int .i64 0, .slice none 0 0, .slice none 0 0, .int .i64 0], .int .i64 3]) (by simp [results, Try.results16, go_sem, f0, f1, f2, f3]) rfl ?_
                rw [HRES.out]
                refine ⟨_, rfl, ResAt.no 0 _ 3, (hxw.of_keeps hkp (fun b hb => (HPr.out b).2 (.inl (by omega)))).trans (S := []) (T := [w.heap.size]) ?_ (by simp)⟩
                exact (((((Ext.refl [w.heap.size] wr).setCell (p := ⟨w.heap.size, 0, none⟩) (.inl (by simp)) _).setCell (p := ⟨w.heap.size, 1, none⟩) (.inl (by simp)) _).setCell (p := ⟨w.heap.size, 2, none⟩) (.inl (by simp)) _).setCell (p := ⟨w.heap.size, 3, none⟩) (.inl (by simp)) _)
              · have hjb : decide ((i : Int) < 100000) = true := by simp; omega
                have hpP : ∀ a, p = some a → Pr a.block := fun a ha => (HPr.out _).2 (.inl (by
                  obtain ⟨b, off, he, hc⟩ := h0.get 0 (by rw [HN.out]; omega)
                  rw [ha] at he; cases he
                  have := World.block_lt_of_cell? _ _ hc
                  simp at this ⊢; omega))
                have hpw := fun W (hk : Keeps Pr w5 W) => (h0.ext0 hxw).keeps hk (fun a ha _ => hpP a ha)
                have hone2 : IntsAt wr (some ⟨wc.heap.size + 1, 0, none⟩) (List.replicate j 1) := hone.keeps hkp (fun a ha _ => (HPr.out _).2 (.inr (by cases ha; rfl)))
                have hpk2 : IntsAt wr r picks := (h2.ext0 hxw).keeps hkp (fun a ha hne => (HPr.out _).2 (.inl (by
                  obtain ⟨b, off, he, hc⟩ := h2.get 0 (List.length_pos_iff.2 hne)
                  rw [ha] at he; cases he
                  have := World.block_lt_of_cell? _ _ hc
                  simp at this ⊢; omega)))
                have hq1 : ord.length ≤ 1000000 := by have := hok.ord; simp at this; omega
                have hq2 : who.length ≤ 1000000 := by have := hok.who; simp at this; omega
                have hq3 : ∀ i, (dq i).length ≤ 100000000 := fun i => by have := hok.len i; simp at this; omega
                have hnx := refNext25 r (some ⟨wc.heap.size + 1, 0, none⟩) e j j i picks la wr hpk (by omega) (by omega) (by omega) hla1 hla2 hsm hpk2 hone2
                have hbd := nextW_bd picks i j la (by omega)
                obtain ⟨wk, hwk⟩ : ∃ wk : Nat, nextW picks i j la = wk := ⟨(nextW picks i j la).toNat, by omega⟩
                have HOK : Hid (RtOk k j (i + 1) (stepR (parOf l) (kidsTo l k) k j vals ⟨sm, lf, dq, ord, who, false⟩ wk)) :=
                  hok.step (by omega) (by omega) hn300 (fun i => by have := kidsTo_len l k i; omega) (fun i x hx => by have := kidsTo_mem hx; omega)
                have HSTEP : Hid (runRR (parOf l) (kidsTo l k) k j picks vals 100000 0 initR (-1) = if (stepR (parOf l) (kidsTo l k) k j vals ⟨sm, lf, dq, ord, who, false⟩ wk).done then some (stepR (parOf l) (kidsTo l k) k j vals ⟨sm, lf, dq, ord, who, false⟩ wk, i + 1) else runRR (parOf l) (kidsTo l k) k j picks vals (100000 - (i + 1)) (i + 1) (stepR (parOf l) (kidsTo l k) k j vals ⟨sm, lf, dq, ord, who, false⟩ wk) wk) := by
                  refine HRUN.out.trans ?_
                  rw [show 100000 - i = (100000 - (i + 1)) + 1 by omega]
                  conv => lhs; unfold runRR
                  rw [hwk, Int.toNat_natCast]
                rw [hwk] at hbd hnx
                have htake := fun W (hW : RefIn Pr X A L D k j c k k j p ⟨sm, lf, dq, ord, who, false⟩ ov wv W) => take26 X D j j wk (mutR X A L D ov wv) _ dq W (by omega) (by omega) (by simp [mutR]) hW.hX rfl hW.hD
                have hmem := takeS_mem (dq := dq) (m := j) (w := wk) (by omega)
                have hlf := hok.lf
                have hdqr := hok.dq
                simp only at hlf hdqr
                have hrange : (takeS dq j wk).1 = -1 ∨ 0 ≤ (takeS dq j wk).1 ∧ (takeS dq j wk).1 < k := by
                  rcases hmem with h | ⟨i', hi', h⟩
                  · exact .inl h
                  · exact .inr (hdqr i' hi' _ h)
                have htl := takeS_len dq j wk wk
                have HSR : Hid (stepR (parOf l) (kidsTo l k) k j vals ⟨sm, lf, dq, ord, who, false⟩ wk = if (takeS dq j wk).1 < 0 then ⟨sm, lf, (takeS dq j wk).2, ord, who, false⟩ else runT (parOf l) (kidsTo l k) k ⟨sm, lf, (takeS dq j wk).2, ord, who, false⟩ (takeS dq j wk).1.toNat wk (vals.getD (takeS dq j wk).1.toNat 0)) := rfl
                obtain ⟨x, dq', hT⟩ : ∃ x dq', takeS dq j wk = (x, dq') := ⟨_, _, rfl⟩
                rw [hT] at htake hrange HSR htl
                simp only at hrange HSR htl
                clear hmem hT hwk hdqr hok HRUN hpk2 hone2
                rcases hrange with rfl | ⟨hx0, hxk⟩
                · have HS2 := Lib.hid (HSR.out.trans (if_pos (by omega)))
                  have HE2 : Hid (runRR (parOf l) (kidsTo l k) k j picks vals 100000 0 initR (-1) = runRR (parOf l) (kidsTo l k) k j picks vals (100000 - (i + 1)) (i + 1) ⟨sm, lf, dq', ord, who, false⟩ wk) := by
                    show _ = _
                    rw [HSTEP.out, HS2.out]; rfl
                  have HO2 : Hid (RtOk k j (i + 1) ⟨sm, lf, dq', ord, who, false⟩) := by
                    have := HOK.out; rw [HS2.out] at this; exact this
                  clear HSTEP HSR HOK HS2
                  go_wp2_with (first | (go_at_call 25; refine hnx.mono ?_; rintro e1 w6 ⟨rfl, hw6⟩; subst w6) | (go_at_call 26; refine (htake _ hi).mono ?_; rintro e1 w7 ⟨rfl, hx7, hD7⟩; have h7 := hi.took hx7 hD7; have c8 := h7.1.hX.cell (o := 8) (by omega); simp only [refCells] at c8))
                  go_roundw
                  case rel => exact ⟨i + 1, _, (wk : Int), rfl, by go_num, by omega, by omega, by omega, rfl, HO2.out, ⟨ov, wv, h7.1⟩, hkp.trans h7.2, HE2.out⟩
                  case measure => simp [intOf]; omega
                · obtain ⟨t, rfl⟩ : ∃ t : Nat, x = t := ⟨x.toNat, by omega⟩
                  obtain ⟨b, off, rfl, hvc⟩ := h1.get t (by rw [HV.out]; omega)
                  have hbw := World.block_lt_of_cell? _ _ hvc
                  have hval : ∀ W, Keeps Pr w5 W → W.cell? ⟨b, off + t, none⟩ = some (.int .i64 (vals.getD t 0)) := fun W hk => by
                    rw [World.cell?_of_block (hk.block b ((HPr.out _).2 (.inl (by simp at hbw ⊢; omega)))), hxw.cell hvc (by simp)]
                    simp [show t < vals.length by rw [HV.out]; omega]
                  have HS2 := Lib.hid (HSR.out.trans (if_neg (by omega)))
                  rw [Int.toNat_natCast] at HS2
                  generalize vals.getD t 0 = v at hval HS2
                  have hrun := fun W (hk : Keeps Pr w5 W) (hW : RefIn Pr X A L D k j c k k j p ⟨sm, lf, dq', ord, who, false⟩ ov wv W) => run27 Pr X A L D k j c k k j p l (parOf l) t wk v ⟨sm, lf, dq', ord, who, false⟩ W hn1 (by omega) (by omega) (by omega) (by omega) HN.out HPL.out HPAR.out HL0.out rfl (by have := (hlf t).1; simp only; omega) (by have := (hlf t).2; simp only; omega) hq1 hq2 (by have := hq3 wk; simp only; omega) (hpw W hk) hpP ⟨ov, wv, hW⟩
                  obtain ⟨st2, hst2⟩ : ∃ s, s = runT (parOf l) (kidsTo l k) k ⟨sm, lf, dq', ord, who, false⟩ t wk v := ⟨_, rfl⟩
                  simp only [← hst2] at hrun
                  have HS3 := Lib.hid (HS2.out.trans hst2.symm)
                  clear hst2 HS2 HSR hvc
                  obtain ⟨sm2, lf2, dq2, ord2, who2, done2⟩ := st2
                  have HO2 : Hid (RtOk k j (i + 1) ⟨sm2, lf2, dq2, ord2, who2, done2⟩) := by
                    have := HOK.out; rw [HS3.out] at this; exact this
                  cases done2 with
                  | false =>
                    have HE2 : Hid (runRR (parOf l) (kidsTo l k) k j picks vals 100000 0 initR (-1) = runRR (parOf l) (kidsTo l k) k j picks vals (100000 - (i + 1)) (i + 1) ⟨sm2, lf2, dq2, ord2, who2, false⟩ wk) := by
                      show _ = _
                      rw [HSTEP.out, HS3.out]; rfl
                    clear HSTEP HOK HS3
                    go_wp2_with (first
                      | (go_at_call 25; refine hnx.mono ?_; rintro e1 w6 ⟨rfl, hw6⟩; subst w6)
                      | (go_at_call 26; refine (htake _ hi).mono ?_; rintro e1 w7 ⟨rfl, hx7, hD7⟩; have h7 := hi.took hx7 hD7; have hv7 := hval _ (hkp.trans h7.2))
                      | (go_at_call 27; refine (hrun _ (hkp.trans h7.2) h7.1).mono ?_; rintro e1 w8 ⟨rfl, hk8, ov8, wv8, hi8⟩; have c8 := hi8.hX.cell (o := 8) (by omega); simp only [refCells] at c8))
                    go_roundw
                    case rel => exact ⟨i + 1, _, (wk : Int), rfl, by go_num, by omega, by omega, by omega, rfl, HO2.out, ⟨ov8, wv8, hi8⟩, (hkp.trans h7.2).trans hk8, HE2.out⟩
                    case measure => simp [intOf]; omega
                  | true =>
                    have HRES : Hid (runRR (parOf l) (kidsTo l k) k j picks vals 100000 0 initR (-1) = some (⟨sm2, lf2, dq2, ord2, who2, true⟩, i + 1)) := by
                      show _ = _
                      rw [HSTEP.out, HS3.out]; rfl
                    clear HSTEP HOK HS3 q0 q1 q2 q3 y0 y1 y2 y3 hR2
                    go_wp2_with (first
                      | (go_at_call 25; refine hnx.mono ?_; rintro e1 w6 ⟨rfl, hw6⟩; subst w6)
                      | (go_at_call 26; refine (htake _ hi).mono ?_; rintro e1 w7 ⟨rfl, hx7, hD7⟩; have h7 := hi.took hx7 hD7; have hv7 := hval _ (hkp.trans h7.2))
                      | (go_at_call 27; refine (hrun _ (hkp.trans h7.2) h7.1).mono ?_; rintro e1 w8 ⟨rfl, hk8, ov8, wv8, hi8⟩; obtain ⟨-, po2, co2, rfl, hio, hao⟩ := IntsAt.of_owns hi8.ho; obtain ⟨-, pw2, cw2, rfl, hiw, haw⟩ := IntsAt.of_owns hi8.hw; have c2 := hi8.hX.cell (o := 2) (by omega); have c4 := hi8.hX.cell (o := 4) (by omega); have c5 := hi8.hX.cell (o := 5) (by omega); have c6 := hi8.hX.cell (o := 6) (by omega); have c7 := hi8.hX.cell (o := 7) (by omega); have c8 := hi8.hX.cell (o := 8) (by omega); have z4 := hi8.hX.frozen 4; have z7 := hi8.hX.frozen 7; simp only [refCells] at c2 c4 c5 c6 c7 c8; have a0 := hi8.hA.cell (o := 0) (by omega); simp only [intsF] at a0; have hkp8 := (hkp.trans h7.2).trans hk8; have hR8 := hR.block (hkp8.block w.heap.size ((HPr.out _).2 (.inl (by omega)))); have q0 := hR8.cell (o := 0) (by omega); have q1 := hR8.cell (o := 1) (by omega); have q2 := hR8.cell (o := 2) (by omega); have q3 := hR8.cell (o := 3) (by omega); have y0 := hR8.frozen 0; have y1 := hR8.frozen 1; have y2 := hR8.frozen 2; have y3 := hR8.frozen 3; simp only [if_true, Nat.one_ne_zero, if_false, show (2 : Nat) ≠ 0 by decide, show (1 : Nat) ≠ 3 by decide, show (2 : Nat) ≠ 3 by decide, show (3 : Nat) ≠ 0 by decide] at q0 q1 q2 q3))
                    have hRb := (hR8.setOther (a := ⟨X, 4, none⟩) (show w.heap.size ≠ X by omega) (.int .i64 (sm2 0))).setOther (a := ⟨X, 7, none⟩) (show w.heap.size ≠ X by omega) (.int .i64 ((i : Int) + 1))
                    obtain ⟨f0, f1, f2, f3⟩ := four_cells hRb (.int .i64 (sm2 0)) (.slice po2 ord2.length co2) (.slice pw2 who2.length cw2) (.int .i64 ((i : Int) + 1))
                    refine bodyPost_ret (v := .tuple #[.agg #[.int .i64 (sm2 0), .slice po2 ord2.length co2, .slice pw2 who2.length cw2, .int .i64 ((i : Int) + 1)], .int .i64 0]) (by simp [results, Try.results16, go_sem, f0, f1, f2, f3]) rfl ?_
                    have hxs : Ext [X, w.heap.size] w8 ((((((w8.setCell ⟨X, 4, none⟩ (.int .i64 (sm2 0))).setCell ⟨X, 7, none⟩ (.int .i64 ((i : Int) + 1))).setCell ⟨w.heap.size, 0, none⟩ (.int .i64 (sm2 0))).setCell ⟨w.heap.size, 1, none⟩ (.slice po2 ord2.length co2)).setCell ⟨w.heap.size, 2, none⟩ (.slice pw2 who2.length cw2)).setCell ⟨w.heap.size, 3, none⟩ (.int .i64 ((i : Int) + 1))) :=
                      (((((((Ext.refl [X, w.heap.size] w8).setCell (p := ⟨X, 4, none⟩) (.inl (by simp)) _).setCell (p := ⟨X, 7, none⟩) (.inl (by simp)) _).setCell (p := ⟨w.heap.size, 0, none⟩) (.inl (by simp)) _).setCell (p := ⟨w.heap.size, 1, none⟩) (.inl (by simp)) _).setCell (p := ⟨w.heap.size, 2, none⟩) (.inl (by simp)) _).setCell (p := ⟨w.heap.size, 3, none⟩) (.inl (by simp)) _)
                    rw [HRES.out]
                    refine ⟨_, rfl, ⟨po2, co2, pw2, cw2, rfl, hio.ext hxs (fun a ha => ?_), hiw.ext hxs (fun a ha => ?_)⟩, (hxw.of_keeps hkp8 (fun b hb => (HPr.out b).2 (.inl (by omega)))).trans hxs (by simp; omega)⟩
                    · have := hi8.hoC a.block (by rw [ha]; rfl)
                      have hne : a.block ≠ w.heap.size := fun e => this.2.2.2.2 ((HPr.out _).2 (.inl (by omega)))
                      simp; omega
                    · have := hi8.hwC a.block (by rw [ha]; rfl)
                      have hne : a.block ≠ w.heap.size := fun e => this.2.2.2.2.1 ((HPr.out _).2 (.inl (by omega)))
                      simp; omega
end
end Go.Proofs.Ytgdnkgfgakhpeaa
