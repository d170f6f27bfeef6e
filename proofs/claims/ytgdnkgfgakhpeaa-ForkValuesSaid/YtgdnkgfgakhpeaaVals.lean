/-
  ForkValues: the walk.
-/
import Derived.Test.YtgdnkgfgakhpeaaLawKit
namespace Go.Proofs.Ytgdnkgfgakhpeaa
open Go.RowKit
set_option linter.unusedVariables false
set_option linter.unusedSimpArgs false

/-- other values: the same but for the sum -/
theorem values_ok {l v v' : List Int} (g : Good l v) (g' : Good l v') (q : Int) (h0 : 0 ≤ q) (h1 : q < 64) (picks : List Int) :
    ∃ o u : List Int, o.length = l.length ∧ u.length = l.length ∧ forkRun l v (1 + q) picks = ⟨totalV v, o, u, l.length, 0⟩ ∧ forkRun l v' (1 + q) picks = ⟨totalV v', o, u, l.length, 0⟩ := by
  obtain ⟨st, D, _, e1, _, h2, h3, _, _, r1⟩ := fork_ok g q h0 h1 picks (fun _ _ => True) trivial (fun _ _ _ _ _ _ _ _ _ => trivial)
  obtain ⟨st', D', _, e1', _, _, _, _, _, r1'⟩ := fork_ok g' q h0 h1 picks (fun _ _ => True) trivial (fun _ _ _ _ _ _ _ _ _ => trivial)
  obtain ⟨b, hb, hs⟩ := SameShape.run 100001 (initS l v) (initS l v') (-1) ⟨rfl, rfl, rfl, rfl, rfl, rfl⟩ st r1
  rw [r1'] at hb
  obtain rfl := Option.some.inj hb
  exact ⟨st.ord, st.who, h2, h3, e1, by rw [e1', hs.ord, hs.who]⟩

/-- values that are each turned -/
def mapTo (f : Int → Int) (l : List Int) : Nat → List Int
  | 0 => []
  | k + 1 => mapTo f l k ++ [f (l.getD k 0)]
theorem mapTo_len (f : Int → Int) (l : List Int) : ∀ k, (mapTo f l k).length = k
  | 0 => rfl
  | k + 1 => by simp [mapTo, mapTo_len f l k]
theorem mapTo_get (f : Int → Int) (l : List Int) : ∀ k i, i < k → (mapTo f l k).getD i 0 = f (l.getD i 0)
  | 0, i, h => by omega
  | k + 1, i, h => by
    simp only [mapTo]
    by_cases e : i = k
    · subst e
      rw [List.getD_eq_getElem?_getD, List.getElem?_append_right (by rw [mapTo_len]; omega), mapTo_len]; simp
    · rw [List.getD_eq_getElem?_getD, List.getElem?_append_left (by rw [mapTo_len]; omega), ← List.getD_eq_getElem?_getD, mapTo_get f l k i (by omega)]
theorem mapTo_small {f : Int → Int} {l : List Int} {B : Int} (h : ∀ x ∈ l, -B ≤ f x ∧ f x ≤ B) : ∀ k, k ≤ l.length → ∀ x ∈ mapTo f l k, -B ≤ x ∧ x ≤ B
  | 0, _, x, hx => by cases hx
  | k + 1, hk, x, hx => by
    simp only [mapTo, List.mem_append, List.mem_singleton] at hx
    rcases hx with hx | hx
    · exact mapTo_small h k (by omega) x hx
    · rw [hx, List.getD_eq_getElem?_getD, List.getElem?_eq_getElem (by omega)]
      exact h _ (List.getElem_mem (by omega))

theorem total_more (v : List Int) (c : Int) : totalV (mapTo (· + c) v v.length) = totalV v + c * v.length := by
  unfold totalV
  rw [mapTo_len, sumTo_congr (g := fun u => v.getD u 0 + c) (fun i hi => mapTo_get _ v _ i hi), sumTo_add, sumTo_const]
theorem total_twice (v : List Int) : totalV (mapTo (2 * ·) v v.length) = 2 * totalV v := by
  unfold totalV
  rw [mapTo_len, sumTo_congr (g := fun u => v.getD u 0 + v.getD u 0) (fun i hi => by rw [mapTo_get _ v _ i hi]; omega), sumTo_add]; omega

theorem Rows4.congr {w : World} {base n : Nat} {kv : Nat → Value} {kids kids' : Nat → List Int} (h : Rows4 w base n kv kids) (hk : ∀ i, i < n → kids i = kids' i) : Rows4 w base n kv kids' :=
  ⟨fun i hi => by rw [← hk i hi]; exact h.own i hi, h.ne⟩

set_option maxRecDepth 100000 in
set_option maxHeartbeats 4000000 in
theorem values8 (p q r : Option Addr) (c d f : Nat) (raw values picks : List Int) (workers by' : Int) (w : World) (hl : raw.length ≤ 1000000000000000) (hv : values.length ≤ 1000000000000000) (hk : picks.length ≤ 1000000000000000) (hs : Small raw) (hs1 : Small values) (hs2 : Small picks)
    (hw1 : -9223372036854775808 ≤ workers) (hw2 : workers ≤ 9223372036854775807) (hy1 : -9223372036854775808 ≤ by') (hy2 : by' ≤ 9223372036854775807) (h0 : IntsAt w p raw) (h1 : IntsAt w q values) (h2 : IntsAt w r picks) :
    Calls Try.prog 8 #[.slice p raw.length c, .slice q values.length d, .int .i64 workers, .slice r picks.length f, .int .i64 by'] w fun e w' => e = .returned (.bool true) ∧ Ext [] w w' := by
  have hp := fun W => pick11 workers 9 W hw1 hw2 (by omega) (by omega)
  have hq := pickN_bd workers 9 (by omega)
  have hp2 := fun W => pick11 by' 100 W hy1 hy2 (by omega) (by omega)
  have hq2 := pickN_bd by' 100 (by omega)
  have hT := fun W (hx : Ext [] w W) => tree10v p c raw W (by omega) hs (h0.ext0 hx)
  have hb := treeL_bd raw
  have hV := fun W (hx : Ext [] w W) => values14v q d (treeL raw).length values W (by omega) (by omega) hs1 (h1.ext0 hx)
  have g := good_val raw values
  have hvs := valTo_small values (treeL raw).length
  have hvl := g.len
  have g1 : Good (treeL raw) (mapTo (· + pickN by' 100) (valTo values (treeL raw).length) (treeL raw).length) := ⟨g.right, mapTo_len _ _ _, mapTo_small (fun x hx => by have := hvs x hx; omega) _ (by omega)⟩
  have g2 : Good (treeL raw) (mapTo (2 * ·) (valTo values (treeL raw).length) (treeL raw).length) := ⟨g.right, mapTo_len _ _ _, mapTo_small (fun x hx => by have := hvs x hx; omega) _ (by omega)⟩
  obtain ⟨o, u, ho, hu, e1, e2⟩ := values_ok g g1 (pickN workers 9) hq.1 (by omega) picks
  obtain ⟨o', u', _, _, e1', e3⟩ := values_ok g g2 (pickN workers 9) hq.1 (by omega) picks
  rw [e1] at e1'
  have he := (Res.mk.injEq .. ▸ e1' : _)
  obtain ⟨_, rfl, rfl, _⟩ := he
  have t1 := total_more (valTo values (treeL raw).length) (pickN by' 100)
  have t2 := total_twice (valTo values (treeL raw).length)
  have tb := g.tot_bd
  rw [hvl] at t1 t2
  have HM1 : Hid (∀ k, mapTo (· + pickN by' 100) (valTo values (treeL raw).length) (k + 1) = mapTo (· + pickN by' 100) (valTo values (treeL raw).length) k ++ [(valTo values (treeL raw).length).getD k 0 + pickN by' 100]) := fun k => rfl
  have HM2 : Hid (∀ k, mapTo (2 * ·) (valTo values (treeL raw).length) (k + 1) = mapTo (2 * ·) (valTo values (treeL raw).length) k ++ [2 * (valTo values (treeL raw).length).getD k 0]) := fun k => rfl
  have HL1 := Lib.hid (mapTo_len (· + pickN by' 100) (valTo values (treeL raw).length))
  have HL2 := Lib.hid (mapTo_len (2 * ·) (valTo values (treeL raw).length))
  have HZ1 : Hid (mapTo (· + pickN by' 100) (valTo values (treeL raw).length) 0 = []) := rfl
  have HZ2 : Hid (mapTo (2 * ·) (valTo values (treeL raw).length) 0 = []) := rfl
  generalize totalV (valTo values (treeL raw).length) = S at *
  generalize mapTo (· + pickN by' 100) (valTo values (treeL raw).length) = L1 at *
  generalize mapTo (2 * ·) (valTo values (treeL raw).length) = L2 at *
  have HVS := Lib.hid hvs
  clear g g1 g2 hvs e1'
  generalize valTo values (treeL raw).length = v at *
  generalize treeL raw = t at *
  have hA : ∀ W pt ct pv cv z1 z2 z3, z1 = Value.slice pt t.length ct → z2 = Value.slice pv v.length cv → z3 = Value.slice r picks.length f → Ext [] w W → IntsAt W pt t → IntsAt W pv v → Calls Try.prog 15 #[z1, z2, .int .i64 (1 + pickN workers 9), z3] W (RunPost W ⟨S, o, u, t.length, 0⟩) := fun W pt ct pv cv z1 z2 z3 a1 a2 a3 hx hi hj => by
    subst a1; subst a2; subst a3
    have := run15 pt pv r ct cv f t v picks (1 + pickN workers 9) W (by omega) (by omega) (by omega) hs2 hi hj (h2.ext0 hx)
    rw [e1] at this; exact this
  have hB : ∀ W pt ct pv cv z1 z2 z3, z1 = Value.slice pt t.length ct → z2 = Value.slice pv (L1 t.length).length cv → z3 = Value.slice r picks.length f → Ext [] w W → IntsAt W pt t → IntsAt W pv (L1 t.length) → Calls Try.prog 15 #[z1, z2, .int .i64 (1 + pickN workers 9), z3] W (RunPost W ⟨totalV (L1 t.length), o, u, t.length, 0⟩) := fun W pt ct pv cv z1 z2 z3 a1 a2 a3 hx hi hj => by
    subst a1; subst a2; subst a3
    have := run15 pt pv r ct cv f t (L1 t.length) picks (1 + pickN workers 9) W (by omega) (by rw [HL1.out]; omega) (by omega) hs2 hi hj (h2.ext0 hx)
    rw [e2] at this; exact this
  have hC : ∀ W pt ct pv cv z1 z2 z3, z1 = Value.slice pt t.length ct → z2 = Value.slice pv (L2 t.length).length cv → z3 = Value.slice r picks.length f → Ext [] w W → IntsAt W pt t → IntsAt W pv (L2 t.length) → Calls Try.prog 15 #[z1, z2, .int .i64 (1 + pickN workers 9), z3] W (RunPost W ⟨totalV (L2 t.length), o, u, t.length, 0⟩) := fun W pt ct pv cv z1 z2 z3 a1 a2 a3 hx hi hj => by
    subst a1; subst a2; subst a3
    have := run15 pt pv r ct cv f t (L2 t.length) picks (1 + pickN workers 9) W (by omega) (by rw [HL2.out]; omega) (by omega) hs2 hi hj (h2.ext0 hx)
    rw [e3] at this; exact this
  clear e1 e2 e3
  generalize totalV (L1 t.length) = S1 at *
  generalize totalV (L2 t.length) = S2 at *
  generalize pickN workers 9 = q9 at *
  generalize pickN by' 100 = y at *
  have HT1 := Lib.hid t1
  have HT2 := Lib.hid t2
  have HVL := Lib.hid hvl
  clear t1 t2 hvl
  go_enter Try.func8, Try.ntmps8
  go_wp2_with fail
  refine (awake9 _).mono ?_; rintro e1 w1 ⟨rfl, hx1⟩
  go_wp2_with fail
  refine (hT _ hx1).mono ?_; rintro e2 w2 ⟨pt, ct, rfl, it, hx2, hct1, hct2⟩
  go_wp2_with fail
  refine (hV _ (hx1.trans0 hx2)).mono ?_; rintro e3 w3 ⟨pv, cv, rfl, iv, hx3⟩
  go_wp2_with fail
  refine (hp2 _).mono ?_; rintro e4 w4 ⟨rfl, hw4⟩; subst w4
  go_wp2_with fail
  go_loopw [15, 16, 17] (fun s15 s16 s17 wr => ∃ (k : Nat) (kv : Nat → Value), s17 = .int .i64 k ∧ kv 0 = s15 ∧ kv 1 = s16 ∧ k ≤ t.length ∧ Rows4 wr w3.heap.size 2 kv (fun i => if i = 0 then L1 k else L2 k) ∧ Ext [] w3 wr) (fun _ _ i _ => t.length - (intOf i).toNat)
  case atStart => exact ⟨0, fun _ => .slice none 0 0, rfl, rfl, rfl, Nat.zero_le _, ⟨fun i _ => by rw [HZ1.out, HZ2.out]; simp only [ite_self]; exact World.ownsRow_nil _ _ _ _, fun i j b _ _ _ h => by cases h⟩, Ext.refl _ _⟩
  case round =>
    obtain ⟨k, kv, rfl, rfl, rfl, hkn, hrows, hext⟩ := hrel
    by_cases hlt : k < t.length
    · have hkv : k < v.length := by rw [HVL.out]; exact hlt
      obtain ⟨b1, f1, hp1, c1⟩ := iv.get k hkv
      have hxv := HVS.out _ (List.getElem_mem hkv)
      have HA1 : Hid (L1 (k + 1) = L1 k ++ [v[k] + y]) := by show _ = _; rw [HM1.out, List.getD_eq_getElem?_getD, List.getElem?_eq_getElem hkv]; rfl
      have HA2 : Hid (L2 (k + 1) = L2 k ++ [2 * v[k]]) := by show _ = _; rw [HM2.out, List.getD_eq_getElem?_getD, List.getElem?_eq_getElem hkv]; rfl
      have l1 := HL1.out k
      have l2 := HL2.out k
      have c0 := hext.cell c1 (by simp)
      generalize v[k] = x at *
      subst hp1
      have hsz := hext.size
      have HK0 : Hid ((fun i => if i = 0 then L1 k else L2 k) 0 = L1 k) := rfl
      have hown := hrows.own 0 (by omega)
      simp only [if_true] at hown
      have HR := Lib.hid hrows
      clear hrows
      generalize hl1 : L1 k = m1 at *
      generalize hl2 : L2 k = m2 at *
      have HM1k := Lib.hid hl1
      have HM2k := Lib.hid hl2
      have HLL1 := Lib.hid l1
      have HLL2 := Lib.hid l2
      have l1' : m1.length ≤ 1000000 := by omega
      have l2' : m2.length ≤ 1000000 := by omega
      clear hl1 hl2 l1 l2 HK0
      have hsz0 : w3.heap.size ≤ wr.heap.size := hsz
      have hgrow : ∀ (W : World) (g cap : Nat), W.ownsRow w3.heap.size 3 1 (.slice (some ⟨g, 0, none⟩) (m1.length + 1) cap) (m1.length + 1) ((m1 ++ [x + y]).map (Value.int .i64)) → (wr.alloc (.cells #[.int .i64 (x + y)] 3)).grownBy W (kv 0).ownBlock → ((kv 0).ownBlock = some g ∨ g = wr.heap.size + 1) →
          Rows4 W w3.heap.size 2 (upd kv 0 (.slice (some ⟨g, 0, none⟩) (m1.length + 1) cap)) (upd (fun i => if i = 0 then m1 else m2) 0 (m1 ++ [x + y])) ∧ W.ownsRow w3.heap.size 3 1 (kv 1) m2.length (m2.map (Value.int .i64)) := by
        intro W g cap ho hg hat
        have hr := (HR.out.ext ((Ext.refl [] wr).alloc (.cells #[.int .i64 (x + y)] 3)) (by simp)).grow (p := 0) (by omega) (v := .slice (some ⟨g, 0, none⟩) (m1.length + 1) cap) (x := x + y) ho hg (by
          rcases hat with e | e
          · exact .inl e
          · exact .inr (by rw [e]; simp [Value.ownBlock]))
        refine ⟨hr, ?_⟩
        have := hr.own 1 (by omega)
        rw [upd_other _ _ (by omega), upd_other _ _ (by omega)] at this
        exact this
      go_wp2_with (first
        | (at_builtin; refine wpList_app1b (by rfl) (.tmp 40) (.tmp 47) (by rfl) w3.heap.size (kv 0) m1 (x + y) wr.heap.size (by rfl) (by rfl) rfl hown (by omega) hsz ?_; intro g3 cap3 w5 hown3 hgr3 hat3; have hext5 : Ext [] w3 w5 := (hext.alloc _).grown hgr3 (fun j hj => .inr (hown.lt j hj).1); have c5 := hext5.cell c1 (by simp); have hsz5 := hext5.size; have HR5 := Lib.hid (hgrow _ _ _ hown3 hgr3 hat3); have hown5 := HR5.out.2)
        | (at_builtin; refine wpList_app1b (by rfl) (.tmp 49) (.tmp 55) (by rfl) w3.heap.size (kv 1) m2 (2 * x) w5.heap.size (by rfl) (by rfl) rfl hown5 (by omega) hsz5 ?_; intro g6 cap6 w6 hown6 hgr6 hat6))
      have hr6 := (HR5.out.1.ext ((Ext.refl [] w5).alloc (.cells #[.int .i64 (2 * x)] 3)) (by simp)).grow (p := 1) (by omega) (v := .slice (some ⟨g6, 0, none⟩) (m2.length + 1) cap6) (x := 2 * x) hown6 hgr6 (by
          rcases hat6 with e | e
          · exact .inl e
          · exact .inr (by rw [e]; simp [Value.ownBlock]))
      have hext6 : Ext [] w3 w6 := (hext5.alloc _).grown hgr6 (fun j hj => .inr (hown5.lt j hj).1)
      have HR6 := Lib.hid hr6
      clear hr6
      go_roundw
      case rel =>
        refine ⟨k + 1, _, by go_num, rfl, rfl, by omega, HR6.out.congr (fun i hi => ?_), hext6⟩
        rw [HA1.out, HA2.out]
        rcases i with _ | _ | i
        · rfl
        · rfl
        · omega
      case measure => simp [intOf]; omega
    · obtain rfl : k = t.length := by omega
      obtain ⟨w4, rfl⟩ : ∃ w4, w4 = wr := ⟨_, rfl⟩
      have hq1 := hrows.own 0 (by omega)
      have hq2 := hrows.own 1 (by omega)
      simp only [if_true] at hq1
      simp only [if_neg (show ¬ (1 : Nat) = 0 by omega)] at hq2
      obtain ⟨_, p1, d1, hk1, i1, _⟩ := IntsAt.of_owns hq1
      obtain ⟨_, p2, d2, hk2, i2, _⟩ := IntsAt.of_owns hq2
      rw [HL1.out] at hk1
      rw [HL2.out] at hk2
      clear hrows hq1 hq2
      generalize kv 0 = x1 at *
      generalize kv 1 = x2 at *
      subst hk1 hk2
      have jt : IntsAt w4 pt t := it.ext0 (hx3.trans0 hext)
      have jv : IntsAt w4 pv v := iv.ext0 hext
      have x04 : Ext [] w w4 := ((hx1.trans0 hx2).trans0 hx3).trans0 hext
      have hf1 : decide ((t.length : Int) < v.length) = false := by rw [HVL.out]; simp
      have hf2 : ¬ t.length < v.length := by rw [HVL.out]; omega
      go_wp2_with fail
      refine (hp _).mono ?_; rintro e5 w5 ⟨rfl, hw5⟩; subst w5
      go_wp2_with fail
      refine (hA _ pt ct pv cv _ _ _ (by rfl) (by rfl) (by rfl) x04 jt jv).mono ?_
      rintro e6 w6 ⟨v6, rfl, ⟨po1, co1, pw1, cw1, rfl, io1, iw1⟩, hx6⟩
      have z6 := hx6.size
      go_wp2_with fail
      refine (hB _ pt ct p1 d1 _ _ _ (by rfl) (by rw [HL1.out]) (by rfl) (x04.trans0 (hx6.alloc _)) (jt.ext0 (hx6.alloc _)) (i1.ext0 (hx6.alloc _))).mono ?_
      rintro e7 w7 ⟨v7, rfl, ⟨po2, co2, pw2, cw2, rfl, io2, iw2⟩, hx7⟩
      have z7 := hx7.size
      simp only [World.size_alloc] at z7
      go_wp2_with fail
      refine (hC _ pt ct p2 d2 _ _ _ (by rfl) (by rw [HL2.out]) (by rfl) ((x04.trans0 (hx6.alloc _)).trans0 (hx7.alloc _)) ((jt.ext0 (hx6.alloc _)).ext0 (hx7.alloc _)) ((i2.ext0 (hx6.alloc _)).ext0 (hx7.alloc _))).mono ?_
      rintro e8 w8 ⟨v8, rfl, ⟨po3, co3, pw3, cw3, rfl, io3, iw3⟩, hx8⟩
      have z8 := hx8.size
      simp only [World.size_alloc] at z8
      obtain ⟨a0, a1, a2, a3⟩ := res4 rfl (hx7.trans0 (((Ext.refl [] w7).alloc _).trans0 hx8))
      obtain ⟨b0, b1, b2, b3⟩ := res4 rfl hx8
      have z9 : w6.heap.size < w8.heap.size := by omega
      have z10 : w7.heap.size < w8.heap.size := by omega
      have z11 : w6.heap.size < w8.heap.size + 1 := by omega
      have z12 : w7.heap.size < w8.heap.size + 1 := by omega
      obtain ⟨k9, hk9⟩ : ∃ k, k = y * (t.length : Int) := ⟨_, rfl⟩
      have k1 : 0 ≤ y * (t.length : Int) := Int.mul_nonneg hq2.1 (by omega)
      have k2 : y * (t.length : Int) ≤ 99 * (t.length : Int) := Int.mul_le_mul_of_nonneg_right (by omega) (by omega)
      have q1 : (S1 == S + y * (t.length : Int)) = true := by rw [HT1.out]; simp
      have q2 : (S2 == 2 * S) = true := by rw [HT2.out]; simp
      have hol : o.length ≤ 1000 := by omega
      have hul : u.length ≤ 1000 := by omega
      have hI : ∀ W q1 q2 f1 f2, IntsAt W q1 o → IntsAt W q2 o → Calls Try.prog 18 #[.slice q1 t.length f1, .slice q2 t.length f2] W fun e w' => e = .returned (.bool true) ∧ ∃ n, w' = W.drewN n := fun W q1 q2 f1 f2 i1 i2 => same18 q1 q2 f1 f2 o _ _ W hol (by rw [ho]) (by rw [ho]) i1 i2
      have hJ : ∀ W q1 q2 f1 f2, IntsAt W q1 u → IntsAt W q2 u → Calls Try.prog 18 #[.slice q1 t.length f1, .slice q2 t.length f2] W fun e w' => e = .returned (.bool true) ∧ ∃ n, w' = W.drewN n := fun W q1 q2 f1 f2 i1 i2 => same18 q1 q2 f1 f2 u _ _ W hul (by rw [hu]) (by rw [hu]) i1 i2
      clear hk9
      have X7 : Ext [] w7 w8 := ((Ext.refl [] w7).alloc _).trans0 hx8
      have X6 : Ext [] w6 w8 := (((Ext.refl [] w6).alloc _).trans0 hx7).trans0 X7
      have j1 := io1.ext0 X6
      have j2 := io2.ext0 X7
      have j3 := iw1.ext0 X6
      have X0 : Ext [] w w8 := ((x04.trans0 (hx6.alloc _)).trans0 (hx7.alloc _)).trans0 hx8
      go_wp2_with fail
      refine (hI _ _ _ _ _ (j1.ext0 ?_) (j2.ext0 ?_)).mono ?_
      · exact (Ext.refl [] w8).alloc _
      · exact (Ext.refl [] w8).alloc _
      rintro e9 w9 ⟨rfl, n9, hw9⟩; subst w9
      go_wp2_with fail
      refine (hJ _ _ _ _ _ (j3.ext0 ?_) (iw3.ext0 ?_)).mono ?_
      · exact ((Ext.refl [] w8).alloc _).drewN _
      · exact ((Ext.refl [] w8).alloc _).drewN _
      rintro e10 w10 ⟨rfl, n10, hw10⟩; subst w10
      go_wp2_with fail
      go_ret
      refine ⟨rfl, Ext.trans0 X0 ?_⟩
      repeat (first | exact Ext.refl _ _ | refine Ext.drewN ?_ _ | refine Ext.alloc ?_ _)
end Go.Proofs.Ytgdnkgfgakhpeaa
