/-
  ForkTells: the walk.
-/
import Derived.Test.YtgdnkgfgakhpeaaLawKit
import Derived.Test.YtgdnkgfgakhpeaaRRun1
import Derived.Deep.DeepCutAuto
namespace Go.Proofs.Ytgdnkgfgakhpeaa
open Go.RowKit
set_option linter.unusedVariables false
set_option linter.unusedSimpArgs false

theorem own_blk {w : World} {base : Nat} {v : Value} {l : List Int} (h : w.ownsRow base 3 1 v l.length (l.map (Value.int .i64))) (hl : l ≠ []) :
    ∃ g cap N F, v = .slice (some ⟨g, 0, none⟩) l.length cap ∧ base ≤ g ∧ Blk w g N F ∧ l.length ≤ N ∧ ∀ k (h : k < l.length), F k = .int .i64 l[k] := by
  rcases h.2 with ⟨_, h0⟩ | ⟨g, cap, cur, hv, hb, hg, hle, hm, hs, ht⟩
  · exact absurd (List.length_eq_zero_iff.1 h0) hl
  · refine ⟨g, cap, cur.size, fun o => cur.getD o undef, hv, hb, ⟨cur, 3, hg, rfl, fun o ho => by simp [Array.getD_eq_getD_getElem?, ho]⟩, by omega, fun k hk => ?_⟩
    have h2 : (cur.toList.take (l.length * 1))[k]? = (l.map (Value.int .i64))[k]? := by rw [ht]
    rw [List.getElem?_take, if_pos (by omega)] at h2
    have h3 : cur[k]? = some (.int .i64 l[k]) := by simpa [hk] using h2
    simp [Array.getD_eq_getD_getElem?, h3]

theorem IntsAt.take {w : World} {p : Option Addr} {l : List Int} (h : IntsAt w p l) (n : Nat) : IntsAt w p (l.take n) := by
  rcases h with rfl | ⟨b, off, hp, hc⟩
  · left; simp
  · exact .inr ⟨b, off, hp, fun k hk => by rw [List.getElem_take]; exact hc k (by rw [List.length_take] at hk; omega)⟩

theorem forkRun_len (l v : List Int) (w : Int) (p : List Int) : (forkRun l v w p).ord.length ≤ 300 ∧ (forkRun l v w p).who.length ≤ 300 := by
  by_cases hb : rightB l = false ∨ v.length ≠ l.length ∨ w < 1 ∨ 64 < w ∨ 0 ≤ idxF oddB v
  · unfold forkRun
    rw [if_pos hb]; simp [Res.no]
  · have h := hb
    simp only [not_or, Bool.not_eq_false, Decidable.not_not] at h
    obtain ⟨hr, hlen, hw1, hw2, hodd⟩ := h
    have g : Good l v := ⟨hr, hlen, vals_small hodd⟩
    obtain ⟨st, D, last, rt, h1, h2, h3, _, h5, h6, k1, k2, _⟩ := run_fin (m := w.toNat) g (by omega) p (fun _ _ => True) trivial (fun _ _ _ _ _ _ _ _ _ => trivial)
    have n2 := g.tree.n2
    unfold forkRun
    rw [if_neg hb, h1]
    unfold resOf
    simp only [h2.wl, k1]; omega

theorem sameB_refl (a : Res) : sameB a a = true := by unfold sameB; simp

theorem same17r (po pw qo qw : Option Addr) (co cw do' dw : Nat) (r : Res) (w : World) (h1 : r.ord.length ≤ 300) (h2 : r.who.length ≤ 300) (i1 : IntsAt w po r.ord) (i2 : IntsAt w pw r.who) (i3 : IntsAt w qo r.ord) (i4 : IntsAt w qw r.who) :
    Calls Try.prog 17 #[.agg #[.int .i64 r.sum, .slice po r.ord.length co, .slice pw r.who.length cw, .int .i64 r.steps], .agg #[.int .i64 r.sum, .slice qo r.ord.length do', .slice qw r.who.length dw, .int .i64 r.steps]] w
      fun e w' => e = .returned (.bool true) ∧ Ext [] w w' := by
  have := same17 po pw qo qw co cw do' dw r r w (by omega) (by omega) (by omega) (by omega) i1 i2 i3 i4
  rw [sameB_refl] at this
  exact this

set_option maxRecDepth 100000 in
set_option maxHeartbeats 4000000 in
theorem tells3 (pa pv pp pr : Option Addr) (ca cv cp cr : Nat) (any values picks raw : List Int) (workers at' other : Int) (w : World)
    (ha : any.length ≤ 1000000000000000) (hv : values.length ≤ 1000000000000000) (hk : picks.length ≤ 1000000000000000) (hl : raw.length ≤ 1000000000000000) (hca : any.length ≤ ca) (hcm : ca ≤ maxLen)
    (hs : Small raw) (hs1 : Small values) (hs2 : Small picks)
    (hw1 : -9223372036854775808 ≤ workers) (hw2 : workers ≤ 9223372036854775807) (ht1 : -9223372036854775808 ≤ at') (ht2 : at' ≤ 9223372036854775807)
    (h0 : IntsAt w pa any) (h1 : IntsAt w pv values) (h2 : IntsAt w pp picks) (h3 : IntsAt w pr raw) :
    Calls Try.prog 3 #[.slice pa any.length ca, .slice pv values.length cv, .int .i64 workers, .slice pp picks.length cp, .slice pr raw.length cr, .int .i64 at', .int .i64 other] w fun e w' => e = .returned (.bool true) ∧ Ext [] w w' := by
  have hp := fun W => pick11 workers 9 W hw1 hw2 (by omega) (by omega)
  have hq := pickN_bd workers 9 (by omega)
  have hT := fun W (hx : Ext [] w W) => tree10v pr cr raw W (by omega) hs (h3.ext0 hx)
  have hb := treeL_bd raw
  generalize treeL raw = t at *
  have hp2 := fun W => pick11 at' t.length W ht1 ht2 (by omega) (by omega)
  have hq2 := pickN_bd at' t.length (by omega)
  obtain ⟨j, hj⟩ : ∃ j : Nat, pickN at' t.length = j := ⟨(pickN at' t.length).toNat, by omega⟩
  rw [hj] at hp2 hq2
  have hjt : j < t.length := by omega
  clear hj
  have hte : t ≠ [] := by intro h; rw [h] at hjt; simp at hjt
  generalize pickN workers 9 = q at *
  go_enter Try.func3, Try.ntmps3
  go_wp2_with fail
  refine (awake9 _).mono ?_; rintro e1 w1 ⟨rfl, hx1⟩
  go_wp2_with fail
  refine (hT _ hx1).mono ?_; rintro e2 w2 ⟨pt, ct, rfl, it, hx2, hct1, hct2⟩
  have hxx2 : Ext [] w w2 := hx1.trans0 hx2
  have HTE := Lib.hid hte
  clear hte
  go_upto_region 4 with (at_builtin; refine wpList_app_nil (by rfl) (.const (.slice none 0 0)) (.tmp 32) (by rfl) pt t ct (by rfl) (by rfl) it (by omega) ?_; intro v3 w3 ho3 hx3; obtain ⟨g3, cap3, N3, F3, rfl, hg3, hB3, hN3, hF3⟩ := own_blk ho3 HTE.out)
  have c3 := hB3.cell (o := j) (by omega)
  have z3 := hB3.frozen j
  have hext : Ext [] w (w3.setCell ⟨g3, j, none⟩ (.int .i64 other)) := (hxx2.trans0 hx3).setCell (.inr (by have := hxx2.size; show _ ≤ g3; omega)) _
  have hext2 : Ext [] w2 (w3.setCell ⟨g3, j, none⟩ (.int .i64 other)) := hx3.setCell (.inr hg3) _
  have jt := it.ext0 hext2
  have jq : IntsAt (w3.setCell ⟨g3, j, none⟩ (.int .i64 other)) (some ⟨g3, 0, none⟩) (t.set j other) := by
    refine .inr ⟨g3, 0, rfl, fun k hk => ?_⟩
    have hk' : k < t.length := by simpa using hk
    rw [Nat.zero_add, (hB3.set (by omega) (.int .i64 other)).cell (o := k) (by omega)]
    by_cases e : k = j
    · subst e; rw [upd_same]; simp
    · rw [upd_other _ _ e, hF3 k hk', List.getElem_set_ne (by omega)]
  have ja := h0.ext0 hext
  have HJA := Lib.hid (And.intro ja (And.intro jt (And.intro jq hext)))
  clear ja jt jq hext hext2
  have hsl := fun (h : 320 < any.length) => run_slH pa any.length ca 320 (by omega) (by omega)
  go_upto_if 44 with (go_at_call 11; refine (hp2 _).mono ?_; rintro e4 w4 ⟨rfl, hw4⟩; subst w4)
  go_cut [18] (fun s18 wx => ∃ xl : List Int, s18 = .slice pa xl.length ca ∧ xl.length ≤ 320 ∧ IntsAt wx pa xl ∧ IntsAt wx pt t ∧ IntsAt wx (some ⟨g3, 0, none⟩) (t.set j other) ∧ Ext [] w wx)
  case first =>
    by_cases h320 : 320 < any.length
    · have hs3 := hsl h320
      have hb3 : decide ((320 : Int) < any.length) = true := by simp; omega
      go_wp2
      go_meet
      exact ⟨any.take 320, by rw [List.length_take, Nat.min_eq_left (by omega)], by rw [List.length_take]; omega, HJA.out.1.take 320, HJA.out.2.1, HJA.out.2.2.1, HJA.out.2.2.2⟩
    · have hb3 : decide ((320 : Int) < any.length) = false := by simp; omega
      go_wp2
      go_meet
      exact ⟨any, rfl, by omega, HJA.out.1, HJA.out.2.1, HJA.out.2.2.1, HJA.out.2.2.2⟩
  case rest =>
    obtain ⟨xl, rfl, hxl, jx, jt, jq, hext⟩ := hcut
    obtain ⟨w4, rfl⟩ : ∃ w4, w4 = wc := ⟨_, rfl⟩
    have HQL : Hid ((t.set j other).length = t.length) := by show _ = _; simp
    -- the three lists
    obtain ⟨L, hL⟩ : ∃ L : Nat → List Int, L = fun i => if i = 0 then t else if i = 1 then t.set j other else xl := ⟨_, rfl⟩
    obtain ⟨A, hA⟩ : ∃ A : Nat → Option Addr, A = fun i => if i = 0 then pt else if i = 1 then some ⟨g3, 0, none⟩ else pa := ⟨_, rfl⟩
    obtain ⟨C, hC⟩ : ∃ C : Nat → Nat, C = fun i => if i = 0 then ct else if i = 1 then cap3 else ca := ⟨_, rfl⟩
    have HB : Hid (Blk (w4.alloc (.cells #[.slice pt t.length ct, .slice (some ⟨g3, 0, none⟩) t.length cap3, .slice pa xl.length ca] 22)) w4.heap.size 3 (fun i => .slice (A i) (L i).length (C i))) := by
      refine (Blk.new w4 _ 22).congr (fun o ho => ?_)
      rw [hL, hA, hC]
      rcases o with _ | _ | _ | o
      · rfl
      · simp
      · rfl
      · simp at ho; omega
    have HLI : Hid (∀ i, IntsAt w4 (A i) (L i)) := fun i => by
      rw [hL, hA]
      by_cases h0 : i = 0
      · simp only [h0, if_true]; exact jt
      · by_cases h1 : i = 1
        · simp only [h1]; exact jq
        · simp only [h0, h1, if_false]; exact jx
    have HLL : Hid (∀ i, (L i).length ≤ 320) := fun i => by
      rw [hL]
      by_cases h0 : i = 0
      · simp only [h0, if_true]; omega
      · by_cases h1 : i = 1
        · simp only [h1]; simp; omega
        · simp only [h0, h1, if_false]; exact hxl
    clear hL hA hC
    go_wp2_with fail
    go_loopw [52] (fun s52 wr => ∃ i : Nat, i ≤ 3 ∧ s52 = .int .i64 i ∧ Ext [] (w4.alloc (.cells #[.slice pt t.length ct, .slice (some ⟨g3, 0, none⟩) t.length cap3, .slice pa xl.length ca] 22)) wr) (fun i _ => 3 - (intOf i).toNat)
    case atStart => exact ⟨0, by omega, rfl, Ext.refl _ _⟩
    case round =>
      obtain ⟨i, hi, rfl, hex1⟩ := hrel
      obtain ⟨w5, rfl⟩ : ∃ w5, w5 = wr := ⟨_, rfl⟩
      have x5 : Ext [] w w5 := (hext.alloc _).trans0 hex1
      by_cases hlt : i < 3
      · have b1 := (HB.out.ext hex1 (by simp)).cell (o := i) hlt
        have jL := (HLI.out i).ext0 (((Ext.refl [] w4).alloc _).trans0 hex1)
        have hLb := HLL.out i
        have hV := fun W (hx : Ext [] w W) => values14v pv cv (L i).length values W (by omega) (by omega) hs1 (h1.ext0 hx)
        have hVL := valTo_len values (L i).length
        clear jx jt jq
        generalize A i = al at *
        generalize L i = l at *
        generalize C i = cl at *
        go_wp2_with fail
        refine (right12 al cl l _ (by omega) jL).mono ?_; rintro e6 w6 ⟨rfl, hw6⟩; subst w6
        go_wp2_with fail
        refine (right13 al cl l _ (by omega) jL).mono ?_; rintro e6 w6 ⟨rfl, hw6⟩; subst w6
        go_wp2_with fail
        refine (hV _ x5).mono ?_; rintro e6 w6 ⟨p1, c1, rfl, iv1, hx6⟩
        have jL6 := jL.ext0 hx6
        have x6 : Ext [] w w6 := x5.trans0 hx6
        have jV6 := h1.ext0 x6
        generalize valTo values l.length = v1 at *
        obtain ⟨V, hVd⟩ : ∃ V : Nat → List Int, V = fun i => if i = 0 then v1 else values := ⟨_, rfl⟩
        obtain ⟨A2, hA2⟩ : ∃ A : Nat → Option Addr, A = fun i => if i = 0 then p1 else pv := ⟨_, rfl⟩
        obtain ⟨C2, hC2⟩ : ∃ C : Nat → Nat, C = fun i => if i = 0 then c1 else cv := ⟨_, rfl⟩
        have HB2 : Hid (Blk (w6.alloc (.cells #[.slice p1 v1.length c1, .slice pv values.length cv] 22)) w6.heap.size 2 (fun i => .slice (A2 i) (V i).length (C2 i))) := by
          refine (Blk.new w6 _ 22).congr (fun o ho => ?_)
          rw [hVd, hA2, hC2]
          rcases o with _ | _ | o
          · rfl
          · rfl
          · simp at ho; omega
        have HVI : Hid (∀ i, IntsAt w6 (A2 i) (V i)) := fun i => by
          rw [hVd, hA2]
          by_cases h0 : i = 0
          · simp only [h0, if_true]; exact iv1
          · simp only [h0, if_false]; exact jV6
        have HVL : Hid (∀ i, (V i).length ≤ 1000000000000000) := fun i => by
          rw [hVd]
          by_cases h0 : i = 0
          · simp only [h0, if_true]; omega
          · simp only [h0, if_false]; exact hv
        clear hVd hA2 hC2 hVL
        go_wp2_with fail
        go_loopw [68] (fun s68 wr => ∃ k : Nat, k ≤ 2 ∧ s68 = .int .i64 k ∧ Ext [] (w6.alloc (.cells #[.slice p1 v1.length c1, .slice pv values.length cv] 22)) wr) (fun i _ => 2 - (intOf i).toNat)
        case atStart => exact ⟨0, by omega, rfl, Ext.refl _ _⟩
        case round =>
          obtain ⟨k, hk2, rfl, hex2⟩ := hrel
          obtain ⟨w7, rfl⟩ : ∃ w7, w7 = wr := ⟨_, rfl⟩
          have x67 : Ext [] w6 w7 := ((Ext.refl [] w6).alloc _).trans0 hex2
          by_cases hlt2 : k < 2
          · have b2 := (HB2.out.ext hex2 (by simp)).cell (o := k) hlt2
            have jV := (HVI.out k).ext0 x67
            have hVb := HVL.out k
            have jL7 := jL6.ext0 x67
            have jP7 := h2.ext0 (x6.trans0 x67)
            have hA : ∀ W wk (hx : Ext [] w7 W), Calls Try.prog 15 #[.slice al l.length cl, .slice (A2 k) (V k).length (C2 k), .int .i64 wk, .slice pp picks.length cp] W (RunPost W (forkRun l (V k) wk picks)) := fun W wk hx => run15 al (A2 k) pp cl (C2 k) cp l (V k) picks wk W (by omega) (by omega) (by omega) hs2 (jL7.ext0 hx) (jV.ext0 hx) (jP7.ext0 hx)
            have hBr : ∀ W wk (hx : Ext [] w7 W), Calls Try.prog 16 #[.slice al l.length cl, .slice (A2 k) (V k).length (C2 k), .int .i64 wk, .slice pp picks.length cp] W (RunPost W (forkRun l (V k) wk picks)) := fun W wk hx => by
              rw [fork_is_ref]
              exact run16 al (A2 k) pp cl (C2 k) cp l (V k) picks wk W (by omega) (by omega) (by omega) hs2 (jL7.ext0 hx) (jV.ext0 hx) (jP7.ext0 hx)
            have hFL := fun wk => forkRun_len l (V k) wk picks
            clear jV iv1 jV6
            generalize A2 k = av at *
            generalize V k = v at *
            generalize C2 k = cv2 at *
            go_wp2_with fail
            refine (hp _).mono ?_; rintro e8 w8 ⟨rfl, hw8⟩; subst w8
            obtain ⟨K, hK⟩ : ∃ K : Nat → Int, K = fun i => if i = 0 then workers else 1 + q := ⟨_, rfl⟩
            have HB3 : Hid (Blk (w7.alloc (.cells #[.int .i64 workers, .int .i64 (1 + q)] 3)) w7.heap.size 2 (fun i => .int .i64 (K i))) := by
              refine (Blk.new w7 _ 3).congr (fun o ho => ?_)
              rw [hK]
              rcases o with _ | _ | o
              · rfl
              · rfl
              · simp at ho; omega
            clear hK
            go_wp2_with fail
            go_loopw [78] (fun s78 wr => ∃ m : Nat, m ≤ 2 ∧ s78 = .int .i64 m ∧ Ext [] (w7.alloc (.cells #[.int .i64 workers, .int .i64 (1 + q)] 3)) wr) (fun i _ => 2 - (intOf i).toNat)
            case atStart => exact ⟨0, by omega, rfl, Ext.refl _ _⟩
            case round =>
              obtain ⟨m, hm2, rfl, hex3⟩ := hrel
              obtain ⟨w8, rfl⟩ : ∃ w8, w8 = wr := ⟨_, rfl⟩
              have x78 : Ext [] w7 w8 := ((Ext.refl [] w7).alloc _).trans0 hex3
              by_cases hlt3 : m < 2
              · have b3 := (HB3.out.ext hex3 (by simp)).cell (o := m) hlt3
                have hA3 := fun W => hA W (K m)
                have hB3r := fun W => hBr W (K m)
                have hF3 := hFL (K m)
                generalize forkRun l v (K m) picks = r at *
                generalize K m = wk at *
                go_wp2_with fail
                refine (hA3 _ x78).mono ?_
                rintro e9 w9 ⟨v9, rfl, ⟨po1, co1, pw1, cw1, rfl, io1, iw1⟩, hx9⟩
                have y9 := hx9.size
                go_wp2_with fail
                refine (hB3r _ (x78.trans0 (hx9.alloc _))).mono ?_
                rintro e10 w10 ⟨v10, rfl, ⟨po2, co2, pw2, cw2, rfl, io2, iw2⟩, hx10⟩
                obtain ⟨a0, a1, a2, a3⟩ := res4 rfl hx10
                have y10 := hx10.size
                simp only [World.size_alloc] at y10
                have y11 : w9.heap.size < w10.heap.size := by omega
                have j1 := io1.ext0 (((Ext.refl [] w9).alloc _).trans0 hx10)
                have j2 := iw1.ext0 (((Ext.refl [] w9).alloc _).trans0 hx10)
                go_wp2_with fail
                refine (same17r _ _ _ _ _ _ _ _ r _ hF3.1 hF3.2 (j1.ext0 ?_) (j2.ext0 ?_) (io2.ext0 ?_) (iw2.ext0 ?_)).mono ?_
                · exact (Ext.refl [] w10).alloc _
                · exact (Ext.refl [] w10).alloc _
                · exact (Ext.refl [] w10).alloc _
                · exact (Ext.refl [] w10).alloc _
                rintro e11 w11 ⟨rfl, hx11⟩
                have X11 : Ext [] w9 w11 := (((Ext.refl [] w9).alloc _).trans0 hx10).trans0 (((Ext.refl [] w10).alloc _).trans0 hx11)
                go_wp2
                go_roundw
                case rel => exact ⟨m + 1, by omega, by go_num, hex3.trans0 (hx9.trans0 X11)⟩
                case measure => simp [intOf]; omega
              · obtain rfl : m = 2 := by omega
                go_wp2
                go_roundw
                case rel => exact ⟨k + 1, by omega, by go_num, hex2.trans0 x78⟩
                case measure => simp [intOf]; omega
          · obtain rfl : k = 2 := by omega
            go_wp2
            go_roundw
            case rel => exact ⟨i + 1, by omega, by go_num, hex1.trans0 (hx6.trans0 x67)⟩
            case measure => simp [intOf]; omega
      · obtain rfl : i = 3 := by omega
        go_wp2
        go_ret
        exact ⟨rfl, x5⟩
end Go.Proofs.Ytgdnkgfgakhpeaa
