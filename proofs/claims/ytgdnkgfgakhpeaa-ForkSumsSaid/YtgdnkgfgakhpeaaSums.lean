/-
  ForkSums: the walk.
-/
import Derived.Test.YtgdnkgfgakhpeaaLawKit
namespace Go.Proofs.Ytgdnkgfgakhpeaa
open Go.RowKit
set_option linter.unusedVariables false
set_option linter.unusedSimpArgs false

theorem sums_round {l vals : List Int} {m : Nat} {st : St} {D : Nat → Bool} (T : TreeOk (parOf l) (kidsTo l l.length) l.length) (h : SI l vals m st D) (hl : st.ord.length = l.length) {k : Nat} (hk : k < l.length) :
    ∃ u : Nat, st.ord[k]? = some (u : Int) ∧ u < l.length ∧ cnt (st.ord.take k) u = 0 ∧ (0 < u → ∃ v : Nat, l[u]? = some (v : Int) ∧ v < u ∧ cnt (st.ord.take k) v = 1) ∧
      ∀ j, cnt (st.ord.take (k + 1)) j = cnt (st.ord.take k) j + one u j := by
  have hko : k < st.ord.length := by omega
  have hx := h.ord_bd T (List.getElem_mem hko)
  have hd : st.ord = st.ord.take k ++ st.ord[k] :: st.ord.drop (k + 1) := by
    rw [← List.drop_eq_getElem_cons hko, List.take_append_drop]
  have hp := h.pre _ _ _ hd
  have hc : ∀ y, cnt st.ord y = cnt (st.ord.take k) y + one st.ord[k] y + cnt (st.ord.drop (k + 1)) y := fun y => by
    conv => lhs; rw [hd]
    rw [show st.ord.take k ++ st.ord[k] :: st.ord.drop (k + 1) = st.ord.take k ++ ([st.ord[k]] ++ st.ord.drop (k + 1)) from rfl, cnt_append, cnt_append, cnt_single]; omega
  have ht : ∀ y, cnt (st.ord.take (k + 1)) y = cnt (st.ord.take k) y + one st.ord[k] y := fun y => by
    rw [List.take_succ_eq_append_getElem hko, cnt_append, cnt_single]
  generalize hxe : st.ord[k] = x at *
  obtain ⟨u, rfl⟩ : ∃ u : Nat, x = u := ⟨x.toNat, by omega⟩
  refine ⟨u, by rw [List.getElem?_eq_getElem hko, hxe], by omega, ?_, fun h0 => ?_, ht⟩
  · have h1 := (h.cnt_ord u).1
    have h2 := hc u
    have h3 := cnt_nonneg (st.ord.take k) u
    have h4 := cnt_nonneg (st.ord.drop (k + 1)) u
    unfold one at h2; rw [if_pos rfl] at h2; omega
  · have hu : u < l.length := by omega
    have hb := T.parb u h0 hu
    rcases hp with hp | hp
    · omega
    · rw [Int.toNat_natCast] at hp
      have e : parOf l u = l[u] := by unfold parOf; rw [if_pos hu, List.getD_eq_getElem?_getD, List.getElem?_eq_getElem hu]; rfl
      rw [e] at hb hp
      refine ⟨l[u].toNat, by rw [List.getElem?_eq_getElem hu, Int.toNat_of_nonneg hb.1], by omega, ?_⟩
      rw [Int.toNat_of_nonneg hb.1]
      have h1 := (h.cnt_ord l[u]).1
      have h2 := hc l[u]
      have h3 := cnt_mem.2 hp
      have h4 := cnt_nonneg (st.ord.drop (k + 1)) l[u]
      have h5 : 0 ≤ one (u : Int) l[u] := by unfold one; split <;> omega
      omega


set_option maxRecDepth 100000 in
set_option maxHeartbeats 4000000 in
theorem sums4 (p q r : Option Addr) (c d f : Nat) (raw values picks : List Int) (workers : Int) (w : World) (hl : raw.length ≤ 1000000000000000) (hv : values.length ≤ 1000000000000000) (hk : picks.length ≤ 1000000000000000) (hs : Small raw) (hs1 : Small values) (hs2 : Small picks)
    (hw1 : -9223372036854775808 ≤ workers) (hw2 : workers ≤ 9223372036854775807) (h0 : IntsAt w p raw) (h1 : IntsAt w q values) (h2 : IntsAt w r picks) :
    Calls Try.prog 4 #[.slice p raw.length c, .slice q values.length d, .int .i64 workers, .slice r picks.length f] w fun e w' => e = .returned (.bool true) ∧ Ext [] w w' := by
  have hp := fun W => pick11 workers 64 W hw1 hw2 (by omega) (by omega)
  have hq := pickN_bd workers 64 (by omega)
  have hT := fun W (hx : Ext [] w W) => tree10v p c raw W (by omega) hs (h0.ext0 hx)
  have hb := treeL_bd raw
  have hV := fun W (hx : Ext [] w W) => values14v q d (treeL raw).length values W (by omega) (by omega) hs1 (h1.ext0 hx)
  have g := good_val raw values
  obtain ⟨st, D, _, e1, hSI, ho, hwl, _⟩ := fork_ok g (pickN workers 64) hq.1 (by omega) picks (fun _ _ => True) trivial (fun _ _ _ _ _ _ _ _ _ => trivial)
  have hvl := g.len
  have HR := Lib.hid (fun (k : Nat) => sums_round (k := k) g.tree hSI ho)
  have HW := Lib.hid hSI.wb
  have hA := fun W pt ct pv cv (hx : Ext [] w W) (hi : IntsAt W pt (treeL raw)) (hj : IntsAt W pv (valTo values (treeL raw).length)) => run15 pt pv r ct cv f (treeL raw) (valTo values (treeL raw).length) picks (1 + pickN workers 64) W (by omega) (by omega) (by omega) hs2 hi hj (h2.ext0 hx)
  rw [e1] at hA
  have HS : Hid (∀ x ∈ valTo values (treeL raw).length, -1099511627776 ≤ x ∧ x ≤ 1099511627776) := g.small
  have HG : Hid (totalV (valTo values (treeL raw).length) = sumTo (fun u => (valTo values (treeL raw).length).getD u 0) (valTo values (treeL raw).length).length) := rfl
  obtain ⟨G, hG⟩ : ∃ G : Nat → Int, G = sumTo (fun u => (valTo values (treeL raw).length).getD u 0) := ⟨_, rfl⟩
  have HG2 : Hid (G (treeL raw).length = totalV (valTo values (treeL raw).length)) := by show _ = _; rw [hG, HG.out, hvl]
  have HG0 : Hid (G 0 = 0) := by show _ = _; rw [hG]; rfl
  have HG1 : Hid (∀ k (h : k < (valTo values (treeL raw).length).length), G (k + 1) = G k + (valTo values (treeL raw).length)[k]) := fun k h => by
    rw [hG, sumTo, List.getD_eq_getElem?_getD, List.getElem?_eq_getElem h]; rfl
  have HGB : Hid (∀ k, k ≤ (valTo values (treeL raw).length).length → -1099511627776 * (k : Int) ≤ G k ∧ G k ≤ 1099511627776 * (k : Int)) := fun k hk => by
    induction k with
    | zero => rw [HG0.out]; omega
    | succ k ih => have := ih (by omega); have h2 := HS.out _ (List.getElem_mem (show k < (valTo values (treeL raw).length).length by omega)); rw [HG1.out k (by omega)]; omega
  clear HG hG
  generalize totalV (valTo values (treeL raw).length) = S at hA HG2
  generalize valTo values (treeL raw).length = v at *
  clear g hSI e1
  generalize st.ord = o at *
  generalize st.who = u at *
  generalize treeL raw = t at *
  obtain ⟨m, hm⟩ : ∃ m : Nat, pickN workers 64 = m := ⟨(pickN workers 64).toNat, by omega⟩
  rw [hm] at hA hp hq HW
  have HW : Hid (∀ x ∈ u, 0 ≤ x ∧ x ≤ m) := fun x hx => by have := HW.out x hx; omega
  clear hm
  have hA : ∀ W pt ct pv cv z1 z2 z3, z1 = Value.slice pt t.length ct → z2 = Value.slice pv v.length cv → z3 = Value.slice r picks.length f → Ext [] w W → IntsAt W pt t → IntsAt W pv v → Calls Try.prog 15 #[z1, z2, .int .i64 (1 + m), z3] W (RunPost W ⟨S, o, u, t.length, 0⟩) := fun W pt ct pv cv z1 z2 z3 e1 e2 e3 hx hi hj => by subst e1; subst e2; subst e3; exact hA W pt ct pv cv hx hi hj
  have hb1 : ((o.length : Int) != t.length) = false := by rw [ho]; simp
  have hb2 : ((u.length : Int) != t.length) = false := by rw [hwl]; simp
  have HO := Lib.hid ho
  have HWL := Lib.hid hwl
  have HVL := Lib.hid hvl
  clear ho hwl hvl
  go_enter Try.func4, Try.ntmps4
  go_wp2_with fail
  refine (awake9 _).mono ?_; rintro e1 w1 ⟨rfl, hx1⟩
  go_wp2_with fail
  refine (hT _ hx1).mono ?_; rintro e2 w2 ⟨pt, ct, rfl, it, hx2, hct1, hct2⟩
  go_wp2_with fail
  refine (hV _ (hx1.trans0 hx2)).mono ?_; rintro e3 w3 ⟨pv, cv, rfl, iv, hx3⟩
  go_wp2_with fail
  refine (hp _).mono ?_; rintro e4 w4 ⟨rfl, hw4⟩; subst w4
  go_wp2_with fail
  refine (hA _ pt ct pv cv _ _ _ (by rfl) (by rfl) (by rfl) ((hx1.trans0 hx2).trans0 hx3) (it.ext0 hx3) iv).mono ?_
  rintro e5 w5 ⟨v5, rfl, ⟨po, co, pw, cw, rfl, io, iw⟩, hx5⟩
  have hmk := fun w => mkZI t.length (by omega) w
  go_wp2_with fail
  go_loopw [14, 16] (fun s14 s16 wr => ∃ k : Nat, k ≤ t.length ∧ s16 = .int .i64 k ∧ s14 = .int .i64 (G k) ∧ Blk wr (w5.heap.size + 1) t.length (fun j => .int .i64 (cnt (o.take k) j)) ∧ Ext [] (w5.alloc (.cells #[.int .i64 S, .slice po o.length co, .slice pw u.length cw, .int .i64 t.length] 30)) wr) (fun _ i _ => t.length - (intOf i).toNat)
  case atStart =>
    refine ⟨0, Nat.zero_le _, rfl, by rw [HG0.out], ?_, (Ext.refl _ _).alloc _⟩
    exact (blkZI' t.length _ _ (by simp)).congr (fun j _ => by simp [intsF, cnt])
  case round =>
    obtain ⟨k, hkn, rfl, rfl, hB, hext⟩ := hrel
    obtain ⟨a0, a1, a2, a3⟩ := res4 rfl hext
    have hz := hext.size
    simp only [World.size_alloc] at hz
    have hxw : Ext [] w5 wr := ((Ext.refl [] w5).alloc _).trans0 hext
    by_cases hlt : k < t.length
    · obtain ⟨x, hxo, hxn, hx0, hxp, hxs⟩ := HR.out k hlt
      have hko : k < o.length := by rw [HO.out]; exact hlt
      have hku : k < u.length := by rw [HWL.out]; exact hlt
      have hkv : k < v.length := by rw [HVL.out]; exact hlt
      have hox : o[k] = (x : Int) := by rw [List.getElem?_eq_getElem hko] at hxo; exact Option.some.inj hxo
      obtain ⟨b1, f1, hp1, c1⟩ := io.get k hko
      obtain ⟨b2, f2, hp2, c2⟩ := iw.get k hku
      obtain ⟨b3, f3, hp3, c3⟩ := iv.get k hkv
      rw [hox] at c1
      have huk := HW.out _ (List.getElem_mem hku)
      have hvk := HS.out _ (List.getElem_mem hkv)
      have hG1 := HG1.out k hkv
      have hGB := HGB.out k (by omega)
      have hGB1 := HGB.out (k + 1) (by omega)
      replace c1 := hxw.cell c1 (by simp)
      replace c2 := hxw.cell c2 (by simp)
      replace c3 := (hx5.trans0 hxw).cell c3 (by simp)
      generalize u[k] = y at *
      generalize v[k] = z at *
      subst hp1 hp2 hp3
      have sx := hB.cell (o := x) hxn
      have fx := hB.frozen x
      simp only [hx0] at sx
      have HB2 : Hid (∀ W : World, Blk (W.setCell ⟨w5.heap.size + 1, x, none⟩ (.int .i64 1)) (w5.heap.size + 1) t.length (upd (fun j => .int .i64 (cnt (o.take k) j)) x (.int .i64 1)) → Blk (W.setCell ⟨w5.heap.size + 1, x, none⟩ (.int .i64 1)) (w5.heap.size + 1) t.length (fun j => .int .i64 (cnt (o.take (k + 1)) j))) := by
        intro W h
        refine h.congr (fun j _ => ?_)
        by_cases e : j = x
        · subst e; rw [upd_same, hxs, hx0]; unfold one; rw [if_pos rfl]; rfl
        · rw [upd_other _ _ e, hxs]; unfold one; rw [if_neg (by omega)]; simp
      have HG' := Lib.hid hG1
      clear hG1 hxs hx0 hxo hox
      by_cases h0 : 0 < x
      · obtain ⟨v0, hv1, hv2, hv3⟩ := hxp h0
        obtain ⟨b4, f4, hp4, c4⟩ := it.get x hxn
        have htx : t[x] = (v0 : Int) := by rw [List.getElem?_eq_getElem hxn] at hv1; exact Option.some.inj hv1
        rw [htx] at c4
        replace c4 := ((hx3.trans0 hx5).trans0 hxw).cell c4 (by simp)
        subst hp4
        have sv := hB.cell (o := v0) (by omega)
        simp only [hv3] at sv
        have hv4 : v0 < t.length := by omega
        clear hv1 hv3 htx hxp
        go_wp2
        have q1 : decide ((x : Int) < 0) = false := by simp
        have q2 : decide ((t.length : Int) ≤ x) = false := by simp; omega
        have q3 : decide ((0 : Int) < x) = true := by simp; omega
        have q4 : decide (y < 0) = false := by simp; omega
        have q5 : decide ((m : Int) < y) = false := by simp; omega
        go_quiet ((go_at_call 11; exact Calls.quiet_of_same (hp _)))
        go_wp2
        go_roundw
        case rel => exact ⟨k + 1, by omega, by go_num, by rw [HG'.out], HB2.out _ ((hB.drewN _).set hxn _), (hext.drewN _).setCell (.inr (by simp)) _⟩
        case measure => simp [intOf]; omega
      · obtain rfl : x = 0 := by omega
        rw [show ((0 : Nat) : Int) = 0 from rfl] at c1
        have q2 : decide ((t.length : Int) ≤ 0) = false := decide_eq_false (by omega)
        have q7 : ¬ (t.length : Int) ≤ 0 := by omega
        have q8 : t ≠ [] := by intro h; rw [h] at hxn; simp at hxn
        have q9 : decide (t = []) = false := decide_eq_false q8
        have q4 : decide (y < 0) = false := by simp; omega
        have q5 : decide ((m : Int) < y) = false := by simp; omega
        clear h0 hxp
        go_wp2
        go_quiet ((go_at_call 11; exact Calls.quiet_of_same (hp _)))
        go_wp2
        go_roundw
        case rel => exact ⟨k + 1, by omega, by go_num, by rw [HG'.out], HB2.out _ ((hB.drewN _).set hxn _), (hext.drewN _).setCell (.inr (by simp)) _⟩
        case measure => simp [intOf]; omega
    · obtain rfl : k = t.length := by omega
      have hSe : (S == G t.length) = true := by rw [HG2.out]; simp
      go_wp2
      go_ret
      exact ⟨ret_bool (by simp), ((((hx1.trans0 hx2).trans0 hx3).trans0 hx5).alloc _).trans0 hext⟩
end Go.Proofs.Ytgdnkgfgakhpeaa
