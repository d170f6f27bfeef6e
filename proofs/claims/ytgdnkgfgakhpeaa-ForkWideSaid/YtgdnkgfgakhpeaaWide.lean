/-
  ForkWide: the walk.
-/
import Derived.Test.YtgdnkgfgakhpeaaLawKit
namespace Go.Proofs.Ytgdnkgfgakhpeaa
open Go.RowKit
set_option linter.unusedVariables false
set_option linter.unusedSimpArgs false

/-- a wide tree -/
def wideL (n : Nat) : List Int := -1 :: List.replicate n 0
theorem wideL_len (n : Nat) : (wideL n).length = n + 1 := by simp [wideL]
theorem wideL_succ (n : Nat) : wideL (n + 1) = wideL n ++ [0] := by
  unfold wideL; rw [List.replicate_succ']; rfl
theorem wideL_get (n i : Nat) (h : i < n) : (wideL n).getD (i + 1) 0 = 0 := by
  unfold wideL
  rw [List.getD_eq_getElem?_getD, List.getElem?_cons_succ, List.getElem?_replicate, if_pos h]; rfl
theorem wideL_right (n : Nat) (h : n ≤ 100) : rightB (wideL n) = true := by
  rw [rightB_iff]
  refine ⟨by rw [wideL_len]; omega, by rw [wideL_len]; omega, fun i hi => ?_⟩
  rw [wideL_len] at hi
  rcases i with _ | i
  · rw [if_pos rfl]; rfl
  · rw [if_neg (by omega)]
    have := wideL_get n i (by omega)
    rw [List.getD_eq_getElem?_getD, List.getElem?_eq_getElem (by rw [wideL_len]; omega), Option.getD_some] at this
    rw [this]; omega
theorem wideL_kids0 (n : Nat) : ∀ k, k ≤ n → kidsTo (wideL n) (k + 1) 0 = seg 1 k
  | 0, _ => by rw [kidsTo_succ, kidsTo_zero, if_neg (by show ¬ (-1 : Int) = _; omega)]; rfl
  | k + 1, h => by
    rw [kidsTo_succ, wideL_kids0 n k (by omega), wideL_get n k (by omega), if_pos (by rfl), seg_snoc, show ((k + 1 : Nat) : Int) = 1 + (k : Int) by omega]
theorem wideL_kids (n i : Nat) (h : 0 < i) : kidsTo (wideL n) (wideL n).length i = [] := by
  rw [List.eq_nil_iff_forall_not_mem]
  intro x hx
  have := kidsTo_mem hx
  obtain ⟨h0, h1, h2⟩ := this
  rw [wideL_len] at h1
  by_cases hx0 : x = 0
  · subst hx0; have : (-1 : Int) = (i : Int) := h2; omega
  · have := wideL_get n (x.toNat - 1) (by omega)
    rw [show x.toNat - 1 + 1 = x.toNat by omega] at this
    rw [this] at h2; omega

theorem wideF_flag (L : List (Int × Int)) : ∀ s, (L.foldl wideF s).2.2 = true → s.2.2 = true := by
  induction L with
  | nil => intro s h; exact h
  | cons a L ih =>
    intro s h
    have := ih _ h
    unfold wideF at this
    split at this <;> simp_all

/-- how far the owner, and the others, are -/
def wideAt (n : Nat) (ot wt : List Int) (k : Nat) : Int × Int × Bool := ((ot.zip wt).take k).foldl wideF (1, (n : Int), true)

theorem wide_steps {n : Nat} {ot wt : List Int} {e : Int × Int} (ho : ot.length = n) (hw : wt.length = n) (h : (ot.zip wt).foldl wideF (1, (n : Int), true) = (e.1, e.2, true)) (k : Nat) (hk : k < n) :
    (wt[k]? = some 0 ∧ ot[k]? = some (wideAt n ot wt k).2.1 ∧ (wideAt n ot wt (k + 1)).1 = (wideAt n ot wt k).1 ∧ (wideAt n ot wt (k + 1)).2.1 = (wideAt n ot wt k).2.1 - 1) ∨
    (wt[k]? ≠ some 0 ∧ ot[k]? = some (wideAt n ot wt k).1 ∧ (wideAt n ot wt (k + 1)).1 = (wideAt n ot wt k).1 + 1 ∧ (wideAt n ot wt (k + 1)).2.1 = (wideAt n ot wt k).2.1) := by
  have hz : k < (ot.zip wt).length := by rw [List.length_zip]; omega
  have hs : wideAt n ot wt (k + 1) = wideF (wideAt n ot wt k) (ot.zip wt)[k] := by
    unfold wideAt
    rw [List.take_succ_eq_append_getElem hz, List.foldl_append]; rfl
  have hf : (wideAt n ot wt (k + 1)).2.2 = true := by
    refine wideF_flag ((ot.zip wt).drop (k + 1)) _ ?_
    unfold wideAt
    rw [← List.foldl_append, List.take_append_drop, h]
  rw [List.getElem_zip] at hs
  have h1 : ot[k]? = some ot[k] := List.getElem?_eq_getElem (by omega)
  have h2 : wt[k]? = some wt[k] := List.getElem?_eq_getElem (by omega)
  rw [hs] at hf
  rw [hs, h1, h2]
  unfold wideF at *
  by_cases h0 : wt[k] = 0
  · left
    simp only [h0, if_true] at hf ⊢
    simp only [Bool.and_eq_true, decide_eq_true_eq] at hf
    exact ⟨trivial, by rw [hf.2], trivial, trivial⟩
  · right
    simp only [h0, if_false] at hf ⊢
    simp only [Bool.and_eq_true, decide_eq_true_eq] at hf
    exact ⟨by simpa using h0, by rw [hf.2], trivial, trivial⟩

theorem wide_bd {n : Nat} {ot wt : List Int} : ∀ k : Nat, -(k : Int) ≤ (wideAt n ot wt k).1 - 1 ∧ (wideAt n ot wt k).1 - 1 ≤ k ∧ (n : Int) - k ≤ (wideAt n ot wt k).2.1 ∧ (wideAt n ot wt k).2.1 ≤ n
  | 0 => by unfold wideAt; simp
  | k + 1 => by
    have ih := wide_bd (n := n) (ot := ot) (wt := wt) k
    by_cases hz : k < (ot.zip wt).length
    · have hs : wideAt n ot wt (k + 1) = wideF (wideAt n ot wt k) (ot.zip wt)[k] := by
        unfold wideAt
        rw [List.take_succ_eq_append_getElem hz, List.foldl_append]; rfl
      rw [hs]
      unfold wideF
      split
      · simp only; omega
      · simp only; omega
    · have hs : wideAt n ot wt (k + 1) = wideAt n ot wt k := by
        unfold wideAt
        rw [List.take_of_length_le (by omega), List.take_of_length_le (by omega)]
      rw [hs]; omega

/-- what comes out of a wide tree -/
theorem wide_ok {n : Nat} {vals : List Int} (g : Good (wideL n) vals) (q : Int) (h0 : 0 ≤ q) (h1 : q < 64) (picks : List Int) :
    ∃ ot wt : List Int, forkRun (wideL n) vals (1 + q) (0 :: picks) = ⟨totalV vals, 0 :: ot, 0 :: wt, (wideL n).length, 0⟩ ∧ ot.length = n ∧ wt.length = n ∧
      (wideAt n ot wt n).1 = (wideAt n ot wt n).2.1 + 1 ∧ ∀ k, k < n → (wt[k]? = some 0 ∧ ot[k]? = some (wideAt n ot wt k).2.1 ∧ (wideAt n ot wt (k + 1)).1 = (wideAt n ot wt k).1 ∧ (wideAt n ot wt (k + 1)).2.1 = (wideAt n ot wt k).2.1 - 1) ∨
        (wt[k]? ≠ some 0 ∧ ot[k]? = some (wideAt n ot wt k).1 ∧ (wideAt n ot wt (k + 1)).1 = (wideAt n ot wt k).1 + 1 ∧ (wideAt n ot wt (k + 1)).2.1 = (wideAt n ot wt k).2.1) := by
  obtain ⟨st, D, _, e1, hS, h2, h3, h4, hW, _⟩ := fork_ok g q h0 h1 (0 :: picks) (fun st _ => Wide n (1 + q).toNat st) (.inl ⟨rfl, rfl, rfl⟩) (fun st D last t hS hW _ ht h0' => by
    have hw := nextW_bd (0 :: picks) st.ord.length (1 + q).toNat last (by omega)
    refine Wide.step (wideL_len n) hW (by omega) (fun ho => ?_) ht h0' (by rw [wideL_len]; exact wideL_kids0 n n (Nat.le_refl _)) (fun i hi => wideL_kids n i hi)
    rw [ho]
    unfold nextW
    rw [if_pos (by simp)]
    have : pickN ((0 :: picks).getD ([] : List Int).length 0) ((1 + q).toNat : Nat) = 0 := by
      show pickN 0 _ = 0
      unfold pickN; simp
    rw [this]; rfl)
  rw [wideL_len] at h2
  rcases hW with ⟨e, _⟩ | ⟨f, k, ot, wt, hf, hfn, ho, hw, hc, hl, hd, hd2, hfo⟩
  · rw [e] at h2; simp at h2
  · rw [ho] at h2
    simp at h2
    have hk : k = 0 := by omega
    subst hk
    refine ⟨ot, wt, by rw [e1, ho, hw], h2, by omega, ?_, fun k hk => wide_steps (e := (f, f + ((0 : Nat) : Int) - 1)) h2 (by omega) hfo k hk⟩
    have : wideAt n ot wt n = (f, f + ((0 : Nat) : Int) - 1, true) := by
      unfold wideAt
      rw [List.take_of_length_le (by rw [List.length_zip]; omega), hfo]
    rw [this]; show f = f + ((0 : Nat) : Int) - 1 + 1; omega

/-- append to a row that has no room, as far as a machine goes -/
theorem run_app_clipW (S : List Nat) (ty : TypeId) (p q : Option Addr) (l k : List Int) (c : Nat) (w : World) (hl : IntsAt w p l) (hk : IntsAt w q k) (hb : (l.length + k.length) * 8 ≤ 140737488355328)
    (hSl : l ≠ [] → Out S p) (hS : ∀ b ∈ S, b < w.heap.size) :
    ∃ v' w', (Builtin.append_ #[22, 22] ty #[.slice p l.length l.length, .slice q k.length c]).run Try.prog w = .ok v' w' ∧ IntsV w' S v' (l ++ k) ∧ Ext [] w w' := by
  obtain ⟨i0, hi, hz0, hz1, hz2⟩ := info_parts Try.info3
  by_cases hk0 : k = []
  · subst hk0
    refine ⟨_, w, run_append_zero ty p q l.length l.length c (Nat.le_refl _) w, ?_, Ext.refl _ _⟩
    rw [List.append_nil]
    exact ⟨p, l.length, rfl, Nat.le_refl _, by simp only [maxLen]; simp at hb; omega, hl, hSl⟩
  · have hkl : 0 < k.length := List.length_pos_iff.2 hk0
    obtain ⟨aq, hq⟩ : ∃ a, q = some a := by
      rcases hk with h | ⟨b, off, h, _⟩
      · exact absurd h hk0
      · exact ⟨_, h⟩
    have hck := hk.cells hq
    subst hq
    have hcap := grownCap_ge w.drew (l.length + k.length) l.length 3
    have hcap1 := grownCap_ge w (l.length + k.length) l.length 3
    have hcap2 := grownCap_le_maxLen w (l.length + k.length) l.length 3 (by simp only [maxLen]; omega)
    by_cases hp : ∃ a, p = some a
    · obtain ⟨ap, hp⟩ := hp
      have hcl := hl.cells hp
      subst hp
      have hr := run_append_grow (P := Try.prog) w 22 ty 3 i0 (.int .i64 0) Try.underlying22 hi hz0 ap l.length l.length (l.map (Value.int .i64)) (by simp [hz1]) hcl aq k.length c (k.map (Value.int .i64)) (by simp [hz1]) hck
        (by omega) (by omega) (by rw [hz2]; exact growslice_fits (by omega) (by omega))
      refine ⟨_, _, hr, ?_, ((Ext.refl _ _).drew).alloc _⟩
      have := IntsV.fresh (w := w.drew) (S := S) (o := (l.map (Value.int .i64)).toArray ++ (k.map (Value.int .i64)).toArray ++ Builtin.zeroCells (Value.int .i64 0).cells (grownCap w (l.length + k.length) l.length 3 - (l.length + k.length))) (l := l ++ k) (cap := grownCap w (l.length + k.length) l.length 3) (fun j hj => ?_) (by simpa using hcap1) hcap2 hS
      · simpa using this
      · rw [Array.append_assoc]
        simp only [List.length_append] at hj
        rw [Array.getElem?_append]
        by_cases h1 : j < l.length
        · simp [h1, List.getElem_append]
        · simp only [List.size_toArray, List.length_map, h1, if_false]
          rw [Array.getElem?_append]
          have h2 : j - l.length < k.length := by omega
          simp [h2, List.getElem_append, h1]
    · have hp' : p = none := by rcases p with _ | a; rfl; exact absurd ⟨a, rfl⟩ hp
      subst hp'
      have hl0 : l = [] := by
        rcases hl with h | ⟨b, off, h, _⟩
        · exact h
        · cases h
      subst hl0
      have hr := run_append_nil (P := Try.prog) w 22 ty 3 i0 (.int .i64 0) Try.underlying22 hi hz0 aq k.length c (k.map (Value.int .i64)) (by simp [hz1]) hck (by omega) (by simp at hb; omega) (by rw [hz2]; simp at hb; omega)
      simp only [List.length_nil, Nat.zero_add] at hcap1 hcap2
      refine ⟨_, _, hr, ?_, ((Ext.refl _ _).drew).alloc _⟩
      have := IntsV.fresh (w := w.drew) (S := S) (o := (k.map (Value.int .i64)).toArray ++ Builtin.zeroCells (Value.int .i64 0).cells (grownCap w k.length 0 3 - k.length)) (l := k) (cap := grownCap w k.length 0 3) (fun j hj => ?_) hcap1 hcap2 hS
      · simpa using this
      · rw [Array.getElem?_append]
        simp [hj]

theorem wpList_app_clipW {ops : Array Oper} {rest : List Oper} {o : Oper} {a : Act} {w : World} {Q : Exit → Act → World → Prop} (hgd : o.guard = none) (s x : Operand) (ho : o.op = .call { callee := .builtin .append, args := #[s, x], argTypes := #[22, 22] })
    (p q : Option Addr) (l k : List Int) (c : Nat) (hs : a.eval s = .slice p l.length l.length) (hx : a.eval x = .slice q k.length c) (hl : IntsAt w p l) (hk : IntsAt w q k) (hb : (l.length + k.length) * 8 ≤ 140737488355328)
    (h : ∀ v' w', IntsV w' [] v' (l ++ k) → Ext [] w w' → wpList Try.prog ops Q rest (a.put o.dst v') w') : wpList Try.prog ops Q (o :: rest) a w := by
  refine wpList_plain hgd fun _ hK => ?_
  obtain ⟨v', w', hr, h1, h2⟩ := run_app_clipW [] o.type p q l k c w hl hk hb (fun _ a _ => by simp) (by simp)
  unfold Oper.wp execOp
  simp only [ho, resolve, invoke, builtin, Sem.run_bind, Sem.run_pure, Result.andThen_ok, List.map_toArray, List.map_cons, List.map_nil, hs, hx, hr]
  exact hK _ _ (h v' w' h1 h2)

set_option maxRecDepth 100000 in
set_option maxHeartbeats 4000000 in
theorem wide7 (r : Option Addr) (d : Nat) (kids workers : Int) (picks : List Int) (w : World) (hk : picks.length * 8 ≤ 140737488351232) (hs2 : Small picks)
    (hk1 : -9223372036854775808 ≤ kids) (hk2 : kids ≤ 9223372036854775807) (hw1 : -9223372036854775808 ≤ workers) (hw2 : workers ≤ 9223372036854775807) (h2 : IntsAt w r picks) :
    Calls Try.prog 7 #[.int .i64 kids, .int .i64 workers, .slice r picks.length d] w fun e w' => e = .returned (.bool true) ∧ Ext [] w w' := by
  have hp1 := fun W => pick11 kids 30 W hk1 hk2 (by omega) (by omega)
  have hq1 := pickN_bd kids 30 (by omega)
  have hp2 := fun W => pick11 workers 10 W hw1 hw2 (by omega) (by omega)
  have hq2 := pickN_bd workers 10 (by omega)
  obtain ⟨a, ha⟩ : ∃ a : Nat, pickN kids 30 = a := ⟨(pickN kids 30).toNat, by omega⟩
  rw [ha] at hp1 hq1
  clear ha
  have hV := fun W => values14v none 0 (wideL (1 + a)).length [] W (by simp) (by rw [wideL_len]; omega) (fun x hx => by cases hx) (.inl rfl)
  have g : Good (wideL (1 + a)) (valTo [] (wideL (1 + a)).length) := ⟨wideL_right _ (by omega), valTo_len _ _, fun x hx => by have := valTo_small [] _ x hx; rw [wideL_len] at this; omega⟩
  obtain ⟨ot, wt, e1, ho, hu, hend, hst⟩ := wide_ok g (pickN workers 10) hq2.1 (by omega) picks
  have hA : ∀ W pt ct pv cv pq cq z1 z2 z3, z1 = Value.slice pt (wideL (1 + a)).length ct → z2 = Value.slice pv (valTo [] (wideL (1 + a)).length).length cv → z3 = Value.slice pq (0 :: picks).length cq → IntsAt W pt (wideL (1 + a)) → IntsAt W pv (valTo [] (wideL (1 + a)).length) → IntsAt W pq (0 :: picks) →
      Calls Try.prog 15 #[z1, z2, .int .i64 (1 + pickN workers 10), z3] W (RunPost W ⟨totalV (valTo [] (wideL (1 + a)).length), 0 :: ot, 0 :: wt, (wideL (1 + a)).length, 0⟩) := fun W pt ct pv cv pq cq z1 z2 z3 a1 a2 a3 hi hj hl => by
    subst a1; subst a2; subst a3
    have := run15 pt pv pq ct cv cq (wideL (1 + a)) (valTo [] (wideL (1 + a)).length) (0 :: picks) (1 + pickN workers 10) W (by rw [wideL_len]; omega) (by rw [valTo_len, wideL_len]; omega) (by simp; omega) (fun x hx => by
      rcases List.mem_cons.1 hx with h | h
      · rw [h]; omega
      · exact hs2 x h) hi hj hl
    rw [e1] at this; exact this
  have hbd := fun k => wide_bd (n := 1 + a) (ot := ot) (wt := wt) k
  have HA0 : Hid ((wideAt (1 + a) ot wt (1 - 1)).1 = 1 ∧ (wideAt (1 + a) ot wt (1 - 1)).2.1 = 1 + (a : Int)) := ⟨rfl, by show ((1 + a : Nat) : Int) = _; omega⟩
  have HST : Hid (∀ i, 1 ≤ i → i ≤ 1 + a → ((0 :: wt)[i]? = some 0 ∧ (0 :: ot)[i]? = some (wideAt (1 + a) ot wt (i - 1)).2.1 ∧ (wideAt (1 + a) ot wt (i + 1 - 1)).1 = (wideAt (1 + a) ot wt (i - 1)).1 ∧ (wideAt (1 + a) ot wt (i + 1 - 1)).2.1 = (wideAt (1 + a) ot wt (i - 1)).2.1 - 1) ∨
      ((0 :: wt)[i]? ≠ some 0 ∧ (0 :: ot)[i]? = some (wideAt (1 + a) ot wt (i - 1)).1 ∧ (wideAt (1 + a) ot wt (i + 1 - 1)).1 = (wideAt (1 + a) ot wt (i - 1)).1 + 1 ∧ (wideAt (1 + a) ot wt (i + 1 - 1)).2.1 = (wideAt (1 + a) ot wt (i - 1)).2.1)) := fun i h1 h2 => by
    obtain ⟨k, rfl⟩ : ∃ k, i = k + 1 := ⟨i - 1, by omega⟩
    exact hst k (by omega)
  have HBD : Hid (∀ i, 1 ≤ i → i ≤ 2 + a → -100 ≤ (wideAt (1 + a) ot wt (i - 1)).1 ∧ (wideAt (1 + a) ot wt (i - 1)).1 ≤ 100 ∧ -100 ≤ (wideAt (1 + a) ot wt (i - 1)).2.1 ∧ (wideAt (1 + a) ot wt (i - 1)).2.1 ≤ 100) := fun i h1 h2 => by
    have := hbd (i - 1); omega
  have HEND : Hid ((wideAt (1 + a) ot wt (2 + a - 1)).1 = (wideAt (1 + a) ot wt (2 + a - 1)).2.1 + 1) := by show _ = _; rw [show 2 + a - 1 = 1 + a by omega]; exact hend
  obtain ⟨A, hAd⟩ : ∃ A : Nat → Int, A = fun i => (wideAt (1 + a) ot wt (i - 1)).1 := ⟨_, rfl⟩
  obtain ⟨B, hBd⟩ : ∃ B : Nat → Int, B = fun i => (wideAt (1 + a) ot wt (i - 1)).2.1 := ⟨_, rfl⟩
  have eA : ∀ i, (wideAt (1 + a) ot wt (i - 1)).1 = A i := fun i => by rw [hAd]
  have eB : ∀ i, (wideAt (1 + a) ot wt (i - 1)).2.1 = B i := fun i => by rw [hBd]
  simp only [eA, eB] at HA0 HST HBD HEND
  have HO : Hid ((0 :: ot).length = a + 2) := by show _ = _; simp; omega
  have HU : Hid ((0 :: wt).length = a + 2) := by show _ = _; simp; omega
  have HU0 : Hid ((0 :: wt)[0]? = some (0 : Int)) := rfl
  clear hst hbd hend eA eB hAd hBd ho hu e1 g
  generalize (0 :: ot) = o at *
  generalize (0 :: wt) = u at *
  generalize totalV (valTo [] (wideL (1 + a)).length) = S at *
  have HPL := Lib.hid (wideL_len (1 + a))
  have HWL := Lib.hid wideL_len
  have HWS := Lib.hid wideL_succ
  generalize pickN workers 10 = q at *
  go_enter Try.func7, Try.ntmps7
  go_wp2_with fail
  refine (awake9 _).mono ?_; rintro e1 w1 ⟨rfl, hx1⟩
  go_wp2_with fail
  refine (hp1 _).mono ?_; rintro e2 w2 ⟨rfl, hw2⟩; subst w2
  go_wp2_with fail
  refine (hp2 _).mono ?_; rintro e2 w2 ⟨rfl, hw2⟩; subst w2
  go_wp2_with fail
  go_loopw [10, 11] (fun s10 s11 wr => ∃ (i : Nat) (v : Value), s11 = .int .i64 i ∧ v = s10 ∧ i ≤ 1 + a ∧ wr.ownsRow w1.heap.size 3 1 v (wideL i).length ((wideL i).map (Value.int .i64)) ∧ Ext [] w1 wr) (fun _ i _ => 1 + a - (intOf i).toNat)
  case atStart =>
    refine ⟨0, _, rfl, rfl, Nat.zero_le _, ?_, (Ext.refl _ _).alloc _⟩
    refine ⟨rfl, .inr ⟨w1.heap.size, 1, #[.int .i64 (-1)], rfl, Nat.le_refl _, heap_alloc_new w1 _, ?_⟩⟩
    exact ⟨Nat.le_refl 1, by simp [maxLen], rfl, rfl⟩
  case round =>
    obtain ⟨i, v, rfl, rfl, hi, hown, hext⟩ := hrel
    have hsz := hext.size
    by_cases hlt : i < 1 + a
    · have hb1 : decide ((i : Int) < 1 + a) = true := by simp; omega
      have HS := Lib.hid (HWS.out i)
      have hlen := HWL.out i
      generalize wideL i = tt at *
      go_wp2_with (at_builtin; refine wpList_app1b (by rfl) (.tmp 30) (.tmp 31) (by rfl) w1.heap.size v tt 0 wr.heap.size (by rfl) (by rfl) rfl hown (by omega) hsz ?_; intro g3 cap3 w3 hown3 hgr3 hat3)
      go_roundw
      case rel =>
        refine ⟨i + 1, _, by go_num, rfl, by omega, ?_, (hext.alloc _).grown hgr3 (fun j hj => .inr (hown.lt j hj).1)⟩
        rw [HS.out, List.length_append]
        rw [hlen] at hown3 ⊢
        exact hown3
      case measure => simp [intOf]; omega
    · obtain rfl : i = 1 + a := by omega
      obtain ⟨w2, rfl⟩ : ∃ w2, w2 = wr := ⟨_, rfl⟩
      have hb1 : decide (((1 + a : Nat) : Int) < 1 + a) = false := by simp
      obtain ⟨_, p1, d1, rfl, i1, _⟩ := IntsAt.of_owns hown
      clear hown
      go_wp2_with fail
      refine (hV _).mono ?_; rintro e3 w3 ⟨pv, cv, rfl, iv, hx3⟩
      go_wp2_with (at_builtin; refine wpList_app_clipW (by rfl) (.tmp 39) (.tmp 40) (by rfl) (some ⟨w3.heap.size, 0, none⟩) r [0] picks d (by rfl) (by rfl) (intsAt_new w3 [0] 3) ((h2.ext0 ((hx1.trans0 hext).trans0 hx3)).ext0 ((Ext.refl [] w3).alloc _)) (by simp; omega) ?_; intro v4 w4 hv4 hx4; obtain ⟨pq, cq, rfl, _, _, iq, _⟩ := hv4)
      have x04 : Ext [] w w4 := (((hx1.trans0 hext).trans0 hx3).alloc _).trans0 hx4
      refine (hA _ p1 d1 pv cv pq cq _ _ _ (by rfl) (by rfl) (by rfl) (i1.ext0 ((hx3.alloc _).trans0 hx4)) (iv.ext0 (((Ext.refl [] w3).alloc _).trans0 hx4)) iq).mono ?_
      rintro e5 w5 ⟨v5, rfl, ⟨po, co, pw, cw, rfl, io, iw⟩, hx5⟩
      have hb2 : ((u.length : Int) != 1 + a + 1) = false := by rw [HU.out]; simp; omega
      have hb3 : ((o.length : Int) != 1 + a + 1) = false := by rw [HO.out]; simp; omega
      have hu0 : 0 < u.length := by rw [HU.out]; omega
      have ho0 : 0 < o.length := by rw [HO.out]; omega
      obtain ⟨b0, f0, hpw, c0⟩ := iw.get 0 hu0
      have hue : u[0] = 0 := by have := HU0.out; rw [List.getElem?_eq_getElem hu0] at this; exact Option.some.inj this
      rw [hue, Nat.add_zero] at c0
      have c0' := ((Ext.refl [] w5).alloc (.cells #[.int .i64 S, .slice po o.length co, .slice pw u.length cw, .int .i64 (wideL (1 + a)).length] 30)).cell c0 (by simp)
      have HP0 := Lib.hid hpw
      subst hpw
      go_wp2_with fail
      go_loopw [14, 15, 16] (fun s14 s15 s16 wr => ∃ i : Nat, 1 ≤ i ∧ i ≤ 2 + a ∧ s16 = .int .i64 i ∧ s14 = .int .i64 (A i) ∧ s15 = .int .i64 (B i) ∧ Ext [] (w5.alloc (.cells #[.int .i64 S, .slice po o.length co, .slice (some ⟨b0, f0, none⟩) u.length cw, .int .i64 (wideL (1 + a)).length] 30)) wr) (fun _ _ i _ => 2 + a - (intOf i).toNat)
      case atStart => exact ⟨1, by omega, by omega, rfl, by rw [HA0.out.1], by rw [HA0.out.2], Ext.refl _ _⟩
      case round =>
        obtain ⟨i, hi1, hi2, rfl, rfl, rfl, hex⟩ := hrel
        obtain ⟨k0, k1, k2, k3⟩ := res4 rfl hex
        have hxw : Ext [] w5 wr := ((Ext.refl [] w5).alloc _).trans0 hex
        have hB := HBD.out i hi1 hi2
        by_cases hlt : i ≤ 1 + a
        · have hb4 : decide ((i : Int) ≤ 1 + a) = true := by simp; omega
          have hiu : i < u.length := by rw [HU.out]; omega
          have hio : i < o.length := by rw [HO.out]; omega
          have hB2 := HBD.out (i + 1) (by omega) (by omega)
          obtain ⟨b2, f2, hp2, c2⟩ := iw.get i hiu
          cases hp2
          obtain ⟨b3, f3, hp3, c3⟩ := io.get i hio
          replace c2 := hxw.cell c2 (by simp)
          replace c3 := hxw.cell c3 (by simp)
          have hS := HST.out i hi1 hlt
          rw [List.getElem?_eq_getElem hiu, List.getElem?_eq_getElem hio] at hS
          subst hp3
          generalize u[i] = y at *
          generalize o[i] = x at *
          rcases hS with ⟨h1, h3, h4, h5⟩ | ⟨h1, h3, h4, h5⟩
          · have hy : (y == 0) = true := by simpa using h1
            have hx : x = B i := by simpa using h3
            subst hx
            have H4 := Lib.hid h4
            have H5 := Lib.hid h5
            clear h1 h3 h4 h5
            go_wp2
            go_roundw
            case rel => exact ⟨i + 1, by omega, by omega, by go_num, by rw [H4.out], by rw [H5.out], hex⟩
            case measure => simp [intOf]; omega
          · have hy : (y == 0) = false := by simpa using h1
            have hx : x = A i := by simpa using h3
            subst hx
            have H4 := Lib.hid h4
            have H5 := Lib.hid h5
            clear h1 h3 h4 h5
            go_wp2
            go_roundw
            case rel => exact ⟨i + 1, by omega, by omega, by go_num, by rw [H4.out], by rw [H5.out], hex⟩
            case measure => simp [intOf]; omega
        · obtain rfl : i = 2 + a := by omega
          have hb4 : decide (((2 + a : Nat) : Int) ≤ 1 + a) = false := decide_eq_false (by omega)
          have he : (A (2 + a) == B (2 + a) + 1) = true := by rw [HEND.out]; simp
          go_wp2
          go_ret
          exact ⟨rfl, (((x04.trans0 hx5)).alloc _).trans0 hex⟩
end Go.Proofs.Ytgdnkgfgakhpeaa
