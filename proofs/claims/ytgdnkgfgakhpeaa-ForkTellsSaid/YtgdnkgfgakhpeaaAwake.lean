/-
  awake: by a contract.
-/
import Derived.Test.YtgdnkgfgakhpeaaEval
namespace Go.Proofs.Ytgdnkgfgakhpeaa
open Go.RowKit
set_option linter.unusedVariables false
set_option linter.unusedSimpArgs false

theorem intsAt_new (w : World) (l : List Int) (ty : TypeId) : IntsAt (w.alloc (.cells (l.map (Value.int .i64)).toArray ty)) (some ⟨w.heap.size, 0, none⟩) l :=
  .inr ⟨_, 0, rfl, fun k hk => by rw [Nat.zero_add, World.cell?_alloc_new]; simp [hk]⟩

theorem intsAt_new' (w : World) (b : Nat) (l : List Int) (ty : TypeId) (hb : b = w.heap.size) : IntsAt (w.alloc (.cells (l.map (Value.int .i64)).toArray ty)) (some ⟨b, 0, none⟩) l := by subst hb; exact intsAt_new w l ty

theorem kA (W : World) (b : Nat) (x y z : Int) (o1 o2 : Obj) (hb : b = W.heap.size) : IntsAt (((W.alloc (.cells #[.int .i64 x, .int .i64 y, .int .i64 z] 3)).alloc o1).alloc o2) (some ⟨b, 0, none⟩) [x, y, z] :=
  ((intsAt_new' W b [x, y, z] 3 hb).ext0 ((Ext.refl [] _).alloc _)).ext0 ((Ext.refl [] _).alloc _)
theorem kB (W : World) (b : Nat) (x y z : Int) (o1 : Obj) (hb : b = W.heap.size) : IntsAt ((W.alloc (.cells #[.int .i64 x, .int .i64 y, .int .i64 z] 3)).alloc o1) (some ⟨b, 0, none⟩) [x, y, z] :=
  (intsAt_new' W b [x, y, z] 3 hb).ext0 ((Ext.refl [] _).alloc _)
theorem kC (W : World) (b : Nat) (x y z : Int) (hb : b = W.heap.size) : IntsAt (W.alloc (.cells #[.int .i64 x, .int .i64 y, .int .i64 z] 3)) (some ⟨b, 0, none⟩) [x, y, z] := intsAt_new' W b [x, y, z] 3 hb

theorem kB2 (W : World) (b : Nat) (x y : Int) (o1 : Obj) (hb : b = W.heap.size) : IntsAt ((W.alloc (.cells #[.int .i64 x, .int .i64 y] 3)).alloc o1) (some ⟨b, 0, none⟩) [x, y] :=
  (intsAt_new' W b [x, y] 3 hb).ext0 ((Ext.refl [] _).alloc _)
theorem kC2 (W : World) (b : Nat) (x y : Int) (hb : b = W.heap.size) : IntsAt (W.alloc (.cells #[.int .i64 x, .int .i64 y] 3)) (some ⟨b, 0, none⟩) [x, y] := intsAt_new' W b [x, y] 3 hb

theorem Ext.trans0 {a b c : World} (h : Ext [] a b) (k : Ext [] b c) : Ext [] a c := h.trans k (by simp)

theorem same18 (p q : Option Addr) (c d : Nat) (l : List Int) (z1 z2 : Value) (W : World) (hl : l.length ≤ 1000) (e1 : z1 = .slice p l.length c) (e2 : z2 = .slice q l.length d) (i1 : IntsAt W p l) (i2 : IntsAt W q l) :
    Calls Try.prog 18 #[z1, z2] W fun e w' => e = .returned (.bool true) ∧ ∃ n, w' = W.drewN n := by
  subst e1; subst e2
  have := ints18 p q c d l l W (by omega) (by omega) i1 i2
  rw [decide_eq_true rfl] at this
  exact this

theorem res4 {w W : World} {b : Nat} {v0 v1 v2 v3 : Value} (hb : b = w.heap.size) (h : Ext [] (w.alloc (.cells #[v0, v1, v2, v3] 30)) W) :
    W.cell? ⟨b, 0, none⟩ = some v0 ∧ W.cell? ⟨b, 1, none⟩ = some v1 ∧ W.cell? ⟨b, 2, none⟩ = some v2 ∧ W.cell? ⟨b, 3, none⟩ = some v3 := by
  subst hb
  exact ⟨h.cell (by rw [World.cell?_alloc_new]; rfl) (by simp), h.cell (by rw [World.cell?_alloc_new]; rfl) (by simp), h.cell (by rw [World.cell?_alloc_new]; rfl) (by simp), h.cell (by rw [World.cell?_alloc_new]; rfl) (by simp)⟩

set_option maxRecDepth 100000 in
set_option maxHeartbeats 2000000 in
theorem awake9 (w : World) : Calls Try.prog 9 #[] w fun e w' => e = .returned (.bool true) ∧ Ext [] w w' := by
  have hA := fun p q c d W h0 h1 => run15 p q none c d 0 [-1, 0, 0] [1, 2, 3] [] 1 W (by decide) (by decide) (by decide) (fun x hx => by cases hx) h0 h1 (.inl rfl)
  rw [evalA] at hA
  have hB := fun p q r c d e W h0 h1 h2 => run15 p q r c d e [-1, 0, 0] [1, 2, 3] [0, 1, 1] 2 W (by decide) (by decide) (by decide) (fun x hx => by simp at hx; omega) h0 h1 h2
  rw [evalB] at hB
  have hC := fun p q c d W h0 h1 => run15 p q none c d 0 [-1, 1] [1, 2] [] 2 W (by decide) (by decide) (by decide) (fun x hx => by cases hx) h0 h1 (.inl rfl)
  rw [evalC] at hC
  have hC := fun p q c d W h0 h1 => (hC p q c d W h0 h1 : Calls Try.prog 15 _ W (RunPost W ⟨0, [], [], 0, 1⟩))
  go_enter Try.func9, Try.ntmps9
  go_upto_region 2 with (go_at_call 15; go_loud (refine (hA _ _ _ _ _ ?_ ?_).mono ?_; (exact (intsAt_new w [-1, 0, 0] 3).ext0 ((Ext.refl [] _).alloc _)); (exact intsAt_new' (w.alloc _) _ [1, 2, 3] 3 (by simp)); rintro e1 w1 ⟨v1, rfl, ⟨po1, co1, pw1, cw1, rfl, io1, iw1⟩, hx1⟩))
  go_upto_region 3 with (go_at_call 15; go_loud (refine (hB _ _ _ _ _ _ _ ?_ ?_ ?_).mono ?_; (exact kA _ _ _ _ _ _ _ (by simp)); (exact kB _ _ _ _ _ _ (by simp)); (exact kC _ _ _ _ _ (by simp)); rintro e2 w2 ⟨v2, rfl, ⟨po2, co2, pw2, cw2, rfl, io2, iw2⟩, hx2⟩))
  go_upto_region 4 with (go_at_call 15; go_loud (refine (hC _ _ _ _ _ ?_ ?_).mono ?_; (exact kB2 _ _ _ _ _ (by simp)); (exact kC2 _ _ _ _ (by simp)); rintro e3 w3 ⟨v3, rfl, ⟨po3, co3, pw3, cw3, rfl, io3, iw3⟩, hx3⟩))
  have y2 : Ext [] (w1.alloc (.cells #[.int .i64 6, .slice po1 3 co1, .slice pw1 3 cw1, .int .i64 3] 30)) w2 := ((((Ext.refl [] _).alloc _).alloc _).alloc _).trans hx2 (by simp)
  have y3 : Ext [] (w2.alloc (.cells #[.int .i64 6, .slice po2 3 co2, .slice pw2 3 cw2, .int .i64 3] 30)) w3 := (((Ext.refl [] _).alloc _).alloc _).trans hx3 (by simp)
  have y4 : Ext [] w2 w3 := ((Ext.refl [] _).alloc _).trans y3 (by simp)
  have y5 : Ext [] w1 w2 := ((Ext.refl [] _).alloc _).trans y2 (by simp)
  have y6 : Ext [] w w1 := (((Ext.refl [] _).alloc _).alloc _).trans hx1 (by simp)
  obtain ⟨a0, a1, a2, a3⟩ := res4 rfl (y2.trans y4 (by simp))
  obtain ⟨b0, b1, b2, b3⟩ := res4 rfl y3
  have s1 := y2.size; have s2 := y3.size
  simp only [World.size_alloc] at s1 s2
  have z1 : w1.heap.size < w3.heap.size := by omega
  have z2 : w2.heap.size < w3.heap.size := by omega
  have z3 : w2.heap.size < w3.heap.size + 1 := by omega
  have z4 : w2.heap.size < w3.heap.size + 1 + 1 := by omega
  have z5 : w2.heap.size < w3.heap.size + 1 + 1 + 1 := by omega
  clear hx1 hx2 hx3 hA hB hC s1 s2
  have r1 : rightB [-1, 0] = true := by kernel_rfl
  have r2 : rightB [] = false := by kernel_rfl
  go_wp2_with fail
  refine (same18 po1 _ co1 _ [0, 2, 1] _ _ _ (by decide) (by rfl) (by rfl) ?_ ?_).mono ?_
  · refine io1.ext0 (Ext.trans0 (y5.trans0 y4) ?_); (repeat (first | exact Ext.refl _ _ | refine Ext.drewN ?_ _ | refine Ext.alloc ?_ _))
  · (first | exact kC _ _ _ _ _ (by simp) | exact kC _ _ _ _ _ rfl)
  rintro e4 w4 ⟨rfl, n4, hw4⟩; subst w4
  go_wp2_with fail
  refine (same18 po2 _ co2 _ [0, 1, 2] _ _ _ (by decide) (by rfl) (by rfl) ?_ ?_).mono ?_
  · refine io2.ext0 (Ext.trans0 y4 ?_); (repeat (first | exact Ext.refl _ _ | refine Ext.drewN ?_ _ | refine Ext.alloc ?_ _))
  · (first | exact kC _ _ _ _ _ (by simp) | exact kC _ _ _ _ _ rfl)
  rintro e4 w4 ⟨rfl, n5, hw4⟩; subst w4
  go_wp2_with fail
  refine (same18 pw2 _ cw2 _ [0, 1, 1] _ _ _ (by decide) (by rfl) (by rfl) ?_ ?_).mono ?_
  · refine iw2.ext0 (Ext.trans0 y4 ?_); (repeat (first | exact Ext.refl _ _ | refine Ext.drewN ?_ _ | refine Ext.alloc ?_ _))
  · (first | exact kC _ _ _ _ _ (by simp) | exact kC _ _ _ _ _ rfl)
  rintro e4 w4 ⟨rfl, n6, hw4⟩; subst w4
  go_wp2_with fail
  refine (right12 _ _ [-1, 0] _ (by decide) ?_).mono ?_
  · (first | exact kC2 _ _ _ _ (by simp) | exact kC2 _ _ _ _ rfl)
  rintro e5 w5 ⟨rfl, hw5⟩; subst w5
  go_wp2_with fail
  refine (right12 none 0 [] _ (by decide) (.inl rfl)).mono ?_; rintro e6 w6 ⟨rfl, hw6⟩; subst w6
  go_wp2_with fail
  go_ret
  refine ⟨rfl, Ext.trans0 (y6.trans0 (y5.trans0 y4)) ?_⟩
  repeat (first | exact Ext.refl _ _ | refine Ext.drewN ?_ _ | refine Ext.alloc ?_ _)
end Go.Proofs.Ytgdnkgfgakhpeaa
