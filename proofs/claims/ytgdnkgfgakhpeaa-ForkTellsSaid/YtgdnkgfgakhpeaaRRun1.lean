/-
  the reference's run of one task: by a contract.
-/
import Derived.Test.YtgdnkgfgakhpeaaRSt
namespace Go.Proofs.Ytgdnkgfgakhpeaa
open Go.RowKit
set_option linter.unusedVariables false
set_option linter.unusedSimpArgs false

/-- a task is run -/
def runT (par : Nat → Int) (kids : Nat → List Int) (n : Nat) (st : Rt) (t wk : Nat) (v : Int) : Rt :=
  let sm1 := upd st.sm t v
  let lf1 := upd st.lf t (st.lf t + (kids t).length)
  let r := if st.lf t + (kids t).length = 0 then doneR par n sm1 lf1 t else (sm1, lf1, st.done)
  { sm := r.1, lf := r.2.1, dq := upd st.dq wk (st.dq wk ++ kids t), ord := st.ord ++ [(t : Int)], who := st.who ++ [(wk : Int)], done := r.2.2 }

theorem ownsRow_extB {w w' : World} {S : List Nat} {B n : Nat} {v : Value} {xs : List Value} (h : w.ownsRow B 3 1 v n xs) (hx : Ext S w w') (hS : ∀ b, v.ownBlock = some b → b ∉ S) : w'.ownsRow B 3 1 v n xs := by
  refine ⟨h.1, ?_⟩
  rcases h.2 with hn | ⟨g, cap, cur, rfl, hb, hgg, rest⟩
  · exact .inl hn
  · exact .inr ⟨g, cap, cur, rfl, hb, hx.get hgg (hS g rfl), rest⟩

/-- a copy of a row of ints: append(nil, x..) -/
theorem wpList_app_nil {ops : Array Oper} {rest : List Oper} {o : Oper} {a : Act} {w : World} {Q : Exit → Act → World → Prop} (hgd : o.guard = none) (s x : Operand) (ho : o.op = .call { callee := .builtin .append, args := #[s, x], argTypes := #[22, 22] })
    (q : Option Addr) (k : List Int) (c : Nat) (hs : a.eval s = .slice none 0 0) (hx : a.eval x = .slice q k.length c) (hk : IntsAt w q k) (hb : k.length ≤ 1000000000)
    (h : ∀ v' w', w'.ownsRow w.heap.size 3 1 v' k.length (k.map (Value.int .i64)) → Ext [] w w' → wpList Try.prog ops Q rest (a.put o.dst v') w') : wpList Try.prog ops Q (o :: rest) a w := by
  by_cases hk0 : k = []
  · subst hk0
    refine wpList_plain hgd fun K hK => ?_
    have hr := run_append_zero o.type none q 0 0 c (Nat.le_refl _) w
    unfold Oper.wp execOp
    simp only [ho, resolve, invoke, builtin, Sem.run_bind, Sem.run_pure, Result.andThen_ok, List.map_toArray, List.map_cons, List.map_nil, hs, hx]
    simp only [List.length_nil] at *
    rw [hr]
    exact hK _ _ (h _ _ (World.ownsRow_nil _ _ _ _) (Ext.refl _ _))
  · obtain ⟨aq, hq⟩ : ∃ a, q = some a := by
      rcases hk with h | ⟨b, off, h, _⟩
      · exact absurd h hk0
      · exact ⟨_, h⟩
    have hck := hk.cells hq
    subst hq
    have hkl : 0 < k.length := List.length_pos_iff.2 hk0
    obtain ⟨i0, hi, hz0, hz1, hz2⟩ := info_parts Try.info3
    refine wpList_append_own _ hgd s x 22 ho w.heap.size 3 i0 (.int .i64 0) 1 8 Try.underlying22 hi hz0 hz1 hz2 rfl (by decide) (.slice none 0 0) 0 [] hs (World.ownsRow_nil _ _ _ _) aq k.length c (k.map (Value.int .i64)) hx (by simp) hck (by simp [Value.oneCell']) (by unfold maxLen; omega) (by omega) (Nat.le_refl _) ?_
    intro v' w' h1 h2 h3
    refine h v' w' (by simpa using h1) ((Ext.refl _ _).grown h2 (fun k hk => by cases hk))

set_option maxRecDepth 100000 in
set_option maxHeartbeats 1000000 in
theorem run27 (Pr : Nat → Prop) (X A L D n m pc ac lc dc : Nat) (pp : Option Addr) (l : List Int) (par : Nat → Int) (t wk : Nat) (v : Int) (st : Rt) (w : World) (hn1 : 1 ≤ n) (hn : n ≤ 1000000) (hm : m ≤ 1000) (ht : t < n) (hwk : wk < m) (hl : l.length = n)
    (hpl : ∀ i (h : i < l.length), l[i] = par i) (hpar : ∀ i, 0 < i → i < n → 0 ≤ par i ∧ par i < i) (hl0 : l.getD 0 0 = -1) (hdone : st.done = false) (hlf1 : -1000000000000 ≤ st.lf t) (hlf2 : st.lf t ≤ 1000000000000)
    (hq1 : st.ord.length ≤ 1000000) (hq2 : st.who.length ≤ 1000000) (hq3 : (st.dq wk).length ≤ 100000000) (hp : IntsAt w pp l) (hpP : ∀ a, pp = some a → Pr a.block)
    (h : RefAt Pr X A L D n m pc ac lc dc pp st w) :
    Calls Try.prog 27 #[.pointer (some ⟨X, 0, none⟩), .int .i64 t, .int .i64 wk, .int .i64 v] w fun e w' => e = .returned (.tuple #[]) ∧ Keeps Pr w w' ∧ RefAt Pr X A L D n m pc ac lc dc pp (runT par (kidsTo l n) n st t wk v) w' := by
  obtain ⟨ov, wv, hi⟩ := h
  have HL := Lib.hid hl
  clear hl
  obtain ⟨sm, lf, dq, ord, who, done⟩ := st
  simp only at hdone hlf1 hlf2 hq1 hq2 hq3
  subst hdone
  have e5 := hi.hX.cell (o := 5) (by omega)
  simp only [refCells] at e5
  have hneX : some X ≠ ov.ownBlock := fun e => (hi.hoC X e.symm).1 rfl
  have hneX2 : some X ≠ wv.ownBlock := fun e => (hi.hwC X e.symm).1 rfl
  go_enter Try.func27, Try.ntmps27
  go_upto_region 2 with (first
    | (at_builtin; refine wpList_app1b (by rfl) (.tmp 15) (.tmp 17) (by rfl) 0 ov ord t w.heap.size (by rfl) (by rfl) rfl hi.ho (by omega) (Nat.zero_le _) ?_; intro g3 cap3 w3 hown3 hgr3 hat3; have hB3 := (hi.hX.alloc (.cells #[.int .i64 t] 3)).grown hgr3 hneX; have q5 := hB3.cell (o := 5) (by omega); have y5 := hB3.frozen 5; simp only [refCells] at q5; have h4 := (hi.order (t := (t : Int)) (by simpa using hown3) hgr3 hat3); clear hB3; have e6 := h4.1.hX.cell (o := 6) (by omega); simp only [refCells] at e6)
    | (at_builtin; refine wpList_app1b (by rfl) (.tmp 27) (.tmp 29) (by rfl) 0 wv who wk _ (by rfl) (by rfl) (by first | rfl | simp) h4.1.hw (by omega) (Nat.zero_le _) ?_; intro g5 cap5 w5 hown5 hgr5 hat5; have hB5 := (h4.1.hX.alloc (.cells #[.int .i64 wk] 3)).grown hgr5 hneX2; have q6 := hB5.cell (o := 6) (by omega); have y6 := hB5.frozen 6; simp only [refCells] at q6; have h6 := (h4.1.workers (t := (wk : Int)) (by simpa using hown5) hgr5 hat5); clear hB5; have a2 := h6.1.hX.cell (o := 2) (by omega); simp only [refCells] at a2; have at1 := h6.1.hA.cell ht; have yt := h6.1.hA.frozen t; simp only [intsF] at at1))
  go_cut [0] (fun s0 wx => s0 = .pointer (some ⟨X, 0, none⟩) ∧ (∃ ov wv, RefIn Pr X A L D n m pc ac lc dc pp ⟨upd sm t v, lf, dq, ord ++ [(t : Int)], who ++ [(wk : Int)], false⟩ ov wv wx) ∧ Keeps Pr w wx)
  case first =>
    go_wp2
    go_meet
    have h7 := h6.1.sums ht v
    exact ⟨rfl, ⟨_, _, h7.1⟩, (h4.2.trans h6.2).trans h7.2⟩
  case rest =>
    obtain ⟨rfl, ⟨ov7, wv7, h7⟩, hkp7⟩ := hcut
    clear hi e5 hneX hneX2
    have f1 := h7.hX.cell (o := 1) (by omega)
    simp only [refCells] at f1
    have HD7 := h7.hD
    obtain ⟨dv, hdb, hdd⟩ := HD7
    replace hdd : ∀ i, i < m → IntsV wc (mutR X A L D ov7 wv7) (dv i) (dq i) := hdd
    have d1 := hdb.cell hwk
    obtain ⟨pq, cq, hdv, hq4, hq5, hqi, hqo⟩ := hdd wk hwk
    rw [hdv] at d1
    clear hdd hdv
    have hpc := hp.keeps hkp7 (fun a ha _ => hpP a ha)
    have hne := h7.ne
    generalize hq : dq wk = q at *
    have HQ := Lib.hid hq
    clear hq
    go_wp2_with (at_builtin; go_loud (refine wpList_app_nil (by rfl) (.const (.slice none 0 0)) (.tmp 47) (by rfl) pq q cq (by rfl) (by rfl) hqi (by omega) ?_; intro lv w8 hown8 hx8))
    go_loopw [8, 9] (fun s8 i wr => ∃ (k : Nat) (lv : Value), 1 ≤ k ∧ k ≤ n ∧ i = .int .i64 k ∧ lv = s8 ∧ wr.ownsRow wc.heap.size 3 1 lv (q ++ kidsTo l k t).length ((q ++ kidsTo l k t).map (Value.int .i64)) ∧ Ext [L] wc wr ∧
      Blk wr L n (intsF (upd lf t (lf t + (kidsTo l k t).length)))) (fun _ i _ => n - (intOf i).toNat)
    case atStart =>
      have hk1 : kidsTo l 1 t = [] := by rw [kidsTo_succ, if_neg (by rw [hl0]; omega), kidsTo_zero]
      refine ⟨1, lv, by omega, by omega, rfl, rfl, ?_, hx8.mono (by simp), ?_⟩
      · rw [hk1, List.append_nil]; exact hown8
      · rw [hk1]
        refine (h7.hL.ext hx8 (by simp)).congr fun o _ => ?_
        unfold intsF
        by_cases ho : o = t
        · subst ho; rw [upd_same]; simp
        · rw [upd_other _ _ ho]
    case round =>
      clear hown8 hx8 d1 f1
      obtain ⟨k, lw, hk1, hkn, rfl, rfl, hown, hext, hLk⟩ := hrel
      have hXk := h7.hX.ext hext (by simp; omega)
      have x0 := hXk.cell (o := 0) (by omega)
      have x1 := hXk.cell (o := 1) (by omega)
      have x3 := hXk.cell (o := 3) (by omega)
      simp only [refCells] at x0 x1 x3
      have hklen := kidsTo_len l k t
      have hsz := hext.size
      by_cases hlt : k < n
      · have HKS : Hid (kidsTo l (k + 1) t = if l.getD k 0 = (t : Int) then kidsTo l k t ++ [(k : Int)] else kidsTo l k t) := kidsTo_succ l k t
        obtain ⟨b, off, rfl, hc0⟩ := hpc.get k (by rw [HL.out]; exact hlt)
        have hPb := hpP _ rfl
        have hbL : b ≠ L := fun e => h7.hN.2.2.1 (e ▸ hPb)
        have hc := hext.cell hc0 (by simpa using hbL)
        have eg : l[k]'(by rw [HL.out]; exact hlt) = l.getD k 0 := by simp [HL.out, hlt]
        rw [eg] at hc
        clear eg hc0
        by_cases hkt : l.getD k 0 = (t : Int)
        · have HK2 := Lib.hid (HKS.out.trans (if_pos hkt))
          rw [hkt] at hc
          clear hkt HKS
          generalize hkk : kidsTo l k t = kk at *
          have HKK := Lib.hid hkk
          clear hkk
          have hneL : some L ≠ lw.ownBlock := fun e => by have := (hown.lt L e.symm).1; have := h7.hL.lt; omega
          have hneXl : some X ≠ lw.ownBlock := fun e => by have := (hown.lt X e.symm).1; have := h7.hX.lt; omega
          have hlen : (q ++ kk).length ≤ 1000000000000 := by simp; omega
          have hw1 : (-1000000000000 : Int) ≤ lf t + kk.length := by omega
          have hw2 : lf t + kk.length ≤ 2000000000000 := by omega
          go_wp2_with (at_builtin; go_loud (refine wpList_app1b (by rfl) (.tmp 67) (.tmp 69) (by rfl) wc.heap.size lw (q ++ kk) k wr.heap.size (by rfl) (by rfl) rfl hown hlen hsz ?_; intro g3 cap3 w3 hown3 hgr3 hat3; have hB3 := (hLk.alloc (.cells #[.int .i64 k] 3)).grown hgr3 hneL; have q3 := hB3.cell ht; have y3 := hB3.frozen t; simp only [intsF, upd_same] at q3; have x33 := ((hXk.alloc (.cells #[.int .i64 k] 3)).grown hgr3 hneXl).cell (o := 3) (by omega); simp only [refCells] at x33))
          go_roundw
          case rel =>
            have hx3 : Ext [L] wc w3 := (hext.alloc (.cells #[.int .i64 k] 3)).grown hgr3 (fun j hj => .inr (hown.lt j hj).1)
            refine ⟨k + 1, _, by omega, by omega, by go_num, rfl, ?_, hx3.setCell (.inl (by simp)) _, ?_⟩
            · rw [HK2.out, ← List.append_assoc]
              have hown4 := ownsRow_extB hown3 ((Ext.refl [L] w3).setCell (p := ⟨L, t, none⟩) (.inl (by simp)) (.int .i64 (lf t + kk.length + 1))) (fun b hb hm => by
                obtain rfl := List.mem_singleton.1 hm
                have := (hown3.lt b hb).1; have := h7.hL.lt; omega)
              rw [show (q ++ kk ++ [(k : Int)]).length = (q ++ kk).length + 1 by simp; omega]
              rw [List.length_append] at hown4 ⊢
              exact hown4
            · rw [HK2.out]
              refine (hB3.setI ht _).congr fun o _ => ?_
              unfold intsF
              by_cases ho : o = t
              · subst ho; rw [upd_same, upd_same]; simp; omega
              · rw [upd_other _ _ ho, upd_other _ _ ho, upd_other _ _ ho]
          case measure => simp [intOf]; omega
        · have HK2 := Lib.hid (HKS.out.trans (if_neg hkt))
          have hkb : (l.getD k 0 == (t : Int)) = false := by simpa using hkt
          clear hkt HKS
          generalize l.getD k 0 = y at *
          go_wp2
          go_roundw
          case rel => exact ⟨k + 1, lw, by omega, by omega, by go_num, rfl, by rw [HK2.out]; exact hown, hext, by rw [HK2.out]; exact hLk⟩
          case measure => simp [intOf]; omega
      · obtain rfl : k = n := by omega
        have hkb : decide ((k : Int) < k) = false := by simp
        obtain ⟨-, po, co, rfl, hio, hao⟩ := IntsAt.of_owns hown
        have h9 := h7.turn (st' := ⟨upd sm t v, upd lf t (lf t + (kidsTo l k t).length), dq, ord ++ [(t : Int)], who ++ [(wk : Int)], false⟩) hext (by simp [mutR]) hXk (h7.hA.ext hext (by simp; omega)) hLk (ownsRow_ext h7.ho hext (fun b hb => by have := h7.hoC b hb; simp; omega)) (ownsRow_ext h7.hw hext (fun b hb => by have := h7.hwC b hb; simp; omega))
          (h7.hD.ext hext (by simp; omega) (by simp [mutR]) (fun j hj => .inl hj)) (.inl rfl) (.inl rfl) (fun g hg => (h7.hwC g hg).2.2.2.2.2)
        have hlm : ∀ b, wc.heap.size ≤ b → b ∉ mutR X A L D ov7 wv7 := fun b hb hm => by
          have := h7.hX.lt; have := h7.hA.lt; have := h7.hL.lt; have := h7.ltD
          rcases mem_mutR.1 hm with e | e | e | e | e | e
          · omega
          · omega
          · omega
          · omega
          · have := (h7.ho.lt b e).2; omega
          · have := (h7.hw.lt b e).2; omega
        have hiv := IntsV.of_owns (S := mutR X A L D ov7 wv7) hown (fun b hb => hlm b (hown.lt b hb).1)
        have h10 := h9.1.deque hwk hiv
        have HFIN : Hid (Keeps Pr w (wr.setCell ⟨D, wk, none⟩ (.slice po (q ++ kidsTo l k t).length co)) ∧ RefIn Pr X A L D k m pc ac lc dc pp ⟨upd sm t v, upd lf t (lf t + (kidsTo l k t).length), upd dq wk (q ++ kidsTo l k t), ord ++ [(t : Int)], who ++ [(wk : Int)], false⟩ ov7 wv7 (wr.setCell ⟨D, wk, none⟩ (.slice po (q ++ kidsTo l k t).length co))) := ⟨(hkp7.trans h9.2).trans h10.2, h10.1⟩
        have dw := (hdb.ext hext (by simp; omega)).cell hwk
        have zw := (hdb.ext hext (by simp; omega)).frozen wk
        have lt1 := HFIN.out.2.hL.cell ht
        have x30 := HFIN.out.2.hX.cell (o := 3) (by omega)
        simp only [refCells] at x30
        simp only [intsF, upd_same] at lt1
        have HRT : Hid (runT par (kidsTo l k) k ⟨sm, lf, dq, ord, who, false⟩ t wk v = if lf t + (kidsTo l k t).length = 0 then
            { sm := (doneR par k (upd sm t v) (upd lf t (lf t + (kidsTo l k t).length)) t).1, lf := (doneR par k (upd sm t v) (upd lf t (lf t + (kidsTo l k t).length)) t).2.1, dq := upd dq wk (q ++ kidsTo l k t), ord := ord ++ [(t : Int)], who := who ++ [(wk : Int)], done := (doneR par k (upd sm t v) (upd lf t (lf t + (kidsTo l k t).length)) t).2.2 }
            else ⟨upd sm t v, upd lf t (lf t + (kidsTo l k t).length), upd dq wk (q ++ kidsTo l k t), ord ++ [(t : Int)], who ++ [(wk : Int)], false⟩) := by
          show _ = _
          unfold runT
          rw [← HQ.out]
          by_cases hz : lf t + (kidsTo l k t).length = 0
          · simp only [hz, if_true]
          · simp only [hz, if_false]
        clear h9 h10 hiv hio hao hlm hXk
        generalize kidsTo l k t = kk at *
        generalize hnq : (q ++ kk).length = nq at *
        have HNQ := Lib.hid hnq
        clear hnq
        by_cases hz : lf t + kk.length = 0
        · have hzb : (lf t + kk.length == 0) = true := by simpa using hz
          have HR2 := Lib.hid (HRT.out.trans (if_pos hz))
          have hdn := done36 X A L k pc ac lc pp _ l par hpl h7.ne.1 h7.ne.2.1 h7.ne.2.2.2.1 hn HL.out hpar t _ _ _ ht rfl rfl rfl HFIN.out.2.hX HFIN.out.2.hA HFIN.out.2.hL (hp.keeps HFIN.out.1 (fun a ha _ => hpP a ha)) (fun a ha => ⟨fun e => h7.hN.1 (e ▸ hpP a ha), fun e => h7.hN.2.1 (e ▸ hpP a ha), fun e => h7.hN.2.2.1 (e ▸ hpP a ha)⟩)
          clear hz HRT
          go_wp2_with (go_at_call 36; refine hdn.mono ?_; rintro e1 w9 ⟨rfl, hdp⟩)
          go_end0
          have hend := HFIN.out.2.ended rfl hdp
          rw [HR2.out]
          exact ⟨rfl, HFIN.out.1.trans hend.2, _, _, hend.1⟩
        · have hzb : (lf t + kk.length == 0) = false := by simpa using hz
          have HR2 := Lib.hid (HRT.out.trans (if_neg hz))
          clear hz HRT
          go_wp2
          go_end0
          rw [HR2.out]
          exact ⟨rfl, HFIN.out.1, _, _, HFIN.out.2⟩
end Go.Proofs.Ytgdnkgfgakhpeaa
