/-
  ForkAlone: the walk.
-/
import Derived.Test.YtgdnkgfgakhpeaaLawKit
import Derived.Test.YtgdnkgfgakhpeaaRRun
namespace Go.Proofs.Ytgdnkgfgakhpeaa
open Go.RowKit
set_option linter.unusedVariables false
set_option linter.unusedSimpArgs false

def lastK (l : List Int) (k : Nat) (x : Int) : Int := (kidsTo l k x.toNat).getLastD (-1)
theorem lastK_zero (l : List Int) (x : Int) : lastK l 0 x = -1 := rfl
theorem lastK_succ (l : List Int) (k : Nat) (x : Int) (h0 : 0 ≤ x) (hk : k < l.length) : lastK l (k + 1) x = if l[k] = x then (k : Int) else lastK l k x := by
  unfold lastK
  rw [kidsTo_succ, List.getD_eq_getElem?_getD, List.getElem?_eq_getElem hk, Option.getD_some, Int.toNat_of_nonneg h0]
  by_cases h : l[k] = x
  · rw [if_pos h, if_pos h, getLastD_app _ _ (by simp)]; rfl
  · rw [if_neg h, if_neg h]
theorem lastK_bd (l : List Int) (x : Int) : ∀ k, -1 ≤ lastK l k x ∧ lastK l k x < k ∨ lastK l k x = -1
  | 0 => .inr rfl
  | k + 1 => by
    have ih := lastK_bd l x k
    unfold lastK at *
    rw [kidsTo_succ]
    split
    · rw [getLastD_app _ _ (by simp)]
      left
      show -1 ≤ (k : Int) ∧ (k : Int) < ((k + 1 : Nat) : Int)
      omega
    · rcases ih with ih | ih
      · left; omega
      · right; exact ih

/-- one worker alone: what comes out -/
theorem alone_ok {l vals : List Int} (g : Good l vals) (picks : List Int) :
    ∃ o u : List Int, forkRun l vals 1 picks = ⟨totalV vals, o, u, l.length, 0⟩ ∧ forkRun l vals 1 [] = ⟨totalV vals, o, u, l.length, 0⟩ ∧ o.length = l.length ∧ u = List.replicate l.length 0 ∧ (∀ x ∈ o, 0 ≤ x ∧ x < l.length) ∧
      ∀ i (h : i + 1 < o.length), 0 ≤ lastK l l.length o[i] → o[i + 1] = lastK l l.length o[i] := by
  obtain ⟨st, D, _, e1, h1, h2, h3, h4, hd, h5⟩ := fork_ok g 0 (by omega) (by omega) picks (fun st _ => Down (kidsTo l l.length) st) ⟨fun a x y b h => by
      have : ([] : List Int) = _ := h
      simp at this, fun a x h => by
      have : ([] : List Int) = _ := h
      simp at this⟩ (fun st D last t _ hd _ ht h0 => by
      have hw := nextW_bd picks st.ord.length (1 + 0 : Int).toNat last (by decide)
      have e : (nextW picks st.ord.length (1 + 0 : Int).toNat last).toNat = 0 := by
        have : (1 + 0 : Int).toNat = 1 := by decide
        omega
      rw [e] at ht ⊢
      exact hd.step ht h0)
  obtain ⟨st', D', _, e1', h1', h2', h3', h4', _, h5'⟩ := fork_ok g 0 (by omega) (by omega) [] (fun st _ => True) trivial (fun _ _ _ _ _ _ _ _ _ => trivial)
  have : st' = st := by
    have a : (1 + 0 : Int).toNat = 1 := by decide
    rw [a] at h5 h5'
    rw [runS_one (picks := []) (picks' := picks) 100001 _ (-1) (-1), h5] at h5'
    exact (Option.some.inj h5').symm
  subst this
  refine ⟨st'.ord, st'.who, e1, e1', h2, ?_, fun x hx => h1.ord_bd g.tree hx, fun i hi hL => ?_⟩
  · refine List.eq_replicate_iff.2 ⟨h3, fun x hx => ?_⟩
    have := h1.wb x hx
    have a : (1 + 0 : Int).toNat = 1 := by decide
    omega
  · have hx := h1.ord_bd g.tree (List.getElem_mem (show i < st'.ord.length by omega))
    have hne : kidsTo l l.length st'.ord[i].toNat ≠ [] := by
      intro h; unfold lastK at hL; rw [h] at hL; simp at hL
    have hs : st'.ord = st'.ord.take i ++ st'.ord[i] :: st'.ord[i + 1] :: st'.ord.drop (i + 2) := by
      rw [← List.drop_eq_getElem_cons hi, ← List.drop_eq_getElem_cons (by omega : i < st'.ord.length), List.take_append_drop]
    have := hd.pairs _ _ _ _ hs hne
    rw [this]
    unfold lastK
    rw [List.getLastD_eq_getLast?, List.getLastD_eq_getLast?, List.getLast?_eq_some_getLast hne]; rfl

theorem intsZI (n b : Nat) (W : World) (hb : b = W.heap.size) : IntsAt (W.alloc (zI n)) (some ⟨b, 0, none⟩) (List.replicate n 0) := by
  have e : zI n = .cells ((List.replicate n (0 : Int)).map (Value.int .i64)).toArray 3 := by unfold zI; rw [List.map_replicate]
  rw [e]
  exact intsAt_new' W b _ 3 hb

attribute [local go_sem] quietE Oper.quietUpon

set_option maxRecDepth 100000 in
set_option maxHeartbeats 4000000 in
theorem alone6 (p r : Option Addr) (c d : Nat) (raw picks : List Int) (w : World) (hl : raw.length ≤ 1000000000000000) (hk : picks.length ≤ 1000000000000000) (hs : Small raw) (hs2 : Small picks) (h0 : IntsAt w p raw) (h2 : IntsAt w r picks) :
    Calls Try.prog 6 #[.slice p raw.length c, .slice r picks.length d] w fun e w' => e = .returned (.bool true) ∧ Ext [] w w' := by
  have hT := fun W (hx : Ext [] w W) => tree10v p c raw W (by omega) hs (h0.ext0 hx)
  have hb := treeL_bd raw
  have hV := fun W => values14v none 0 (treeL raw).length [] W (by simp) (by omega) (fun x hx => by cases hx) (.inl rfl)
  have g := good_val raw []
  obtain ⟨o, u, e1, e2, ho, hu, hob, hdn⟩ := alone_ok g picks
  have hvl := g.len
  have hA := fun W pt ct pv cv (hx : Ext [] w W) (hi : IntsAt W pt (treeL raw)) (hj : IntsAt W pv (valTo [] (treeL raw).length)) => run15 pt pv r ct cv d (treeL raw) (valTo [] (treeL raw).length) picks 1 W (by omega) (by omega) (by omega) hs2 hi hj (h2.ext0 hx)
  have hB := fun W pt ct pv cv (hi : IntsAt W pt (treeL raw)) (hj : IntsAt W pv (valTo [] (treeL raw).length)) => run15 pt pv none ct cv 0 (treeL raw) (valTo [] (treeL raw).length) [] 1 W (by omega) (by omega) (by simp) (fun x hx => by cases hx) hi hj (.inl rfl)
  rw [e1] at hA
  rw [e2] at hB
  generalize totalV (valTo [] (treeL raw).length) = S at hA hB
  generalize valTo [] (treeL raw).length = v at *
  clear g e1 e2
  generalize treeL raw = t at *
  have hA : ∀ W pt ct pv cv z1 z2 z3, z1 = Value.slice pt t.length ct → z2 = Value.slice pv v.length cv → z3 = Value.slice r picks.length d → Ext [] w W → IntsAt W pt t → IntsAt W pv v → Calls Try.prog 15 #[z1, z2, .int .i64 1, z3] W (RunPost W ⟨S, o, u, t.length, 0⟩) := fun W pt ct pv cv z1 z2 z3 e1 e2 e3 hx hi hj => by subst e1; subst e2; subst e3; exact hA W pt ct pv cv hx hi hj
  have hB : ∀ W pt ct pv cv z1 z2, z1 = Value.slice pt t.length ct → z2 = Value.slice pv v.length cv → IntsAt W pt t → IntsAt W pv v → Calls Try.prog 15 #[z1, z2, .int .i64 1, .slice none 0 0] W (RunPost W ⟨S, o, u, t.length, 0⟩) := fun W pt ct pv cv z1 z2 e1 e2 hi hj => by subst e1; subst e2; exact hB W pt ct pv cv hi hj
  have hb1 : ((o.length : Int) != t.length) = false := by rw [ho]; simp
  have HO := Lib.hid ho
  have HU := Lib.hid hu
  have HD := Lib.hid hdn
  have HOB := Lib.hid hob
  have hul : u.length ≤ 1000 := by rw [hu]; simp; omega
  have hol : o.length ≤ 1000 := by omega
  clear ho hu hvl hdn hob
  have hI : ∀ W q1 q2 f1 f2, IntsAt W q1 o → IntsAt W q2 o → Calls Try.prog 18 #[.slice q1 o.length f1, .slice q2 o.length f2] W fun e w' => e = .returned (.bool true) ∧ ∃ n, w' = W.drewN n := fun W q1 q2 f1 f2 i1 i2 => same18 q1 q2 f1 f2 o _ _ W hol rfl rfl i1 i2
  have hI2 : ∀ W q1 q2 f1 f2, IntsAt W q1 u → IntsAt W q2 (List.replicate t.length 0) → Calls Try.prog 18 #[.slice q1 u.length f1, .slice q2 t.length f2] W fun e w' => e = .returned (.bool true) ∧ ∃ n, w' = W.drewN n := fun W q1 q2 f1 f2 i1 i2 => same18 q1 q2 f1 f2 u _ _ W hul rfl (by rw [HU.out, List.length_replicate]) i1 (by rw [HU.out]; exact i2)
  go_enter Try.func6, Try.ntmps6
  go_wp2_with fail
  refine (awake9 _).mono ?_; rintro e1 w1 ⟨rfl, hx1⟩
  go_wp2_with fail
  refine (hT _ hx1).mono ?_; rintro e2 w2 ⟨pt, ct, rfl, it, hx2, hct1, hct2⟩
  go_wp2_with fail
  refine (hV _).mono ?_; rintro e3 w3 ⟨pv, cv, rfl, iv, hx3⟩
  go_wp2_with fail
  refine (hA _ pt ct pv cv _ _ _ (by rfl) (by rfl) (by rfl) ((hx1.trans0 hx2).trans0 hx3) (it.ext0 hx3) iv).mono ?_
  rintro e5 w5 ⟨v5, rfl, ⟨po, co, pw, cw, rfl, io, iw⟩, hx5⟩
  go_wp2_with fail
  refine (hB _ pt ct pv cv _ _ (by rfl) (by rfl) ((it.ext0 hx3).ext0 (hx5.alloc _)) (iv.ext0 (hx5.alloc _))).mono ?_
  rintro e6 w6 ⟨v6, rfl, ⟨po2, co2, pw2, cw2, rfl, io2, iw2⟩, hx6⟩
  have z6 := hx6.size
  simp only [World.size_alloc] at z6
  have z7 : w5.heap.size < w6.heap.size := by omega
  obtain ⟨a0, a1, a2, a3⟩ := res4 rfl hx6
  go_wp2_with fail
  refine (hI _ _ _ _ _ ((io.ext0 ((Ext.refl [] _).alloc _)).ext0 (hx6.alloc _)) (io2.ext0 ((Ext.refl [] _).alloc _))).mono ?_
  rintro e7 w7 ⟨rfl, n7, hw7⟩; subst w7
  go_wp2_with fail
  go_loopw [12] (fun s12 wr => ∃ i : Nat, i ≤ t.length ∧ s12 = .int .i64 i ∧ Ext [] w6 wr) (fun i _ => t.length - (intOf i).toNat)
  case atStart => exact ⟨0, Nat.zero_le _, rfl, ((Ext.refl _ _).alloc _).drewN _⟩
  case round =>
    obtain ⟨i, hi, rfl, hext⟩ := hrel
    obtain ⟨w8, rfl⟩ : ∃ w8, w8 = wr := ⟨_, rfl⟩
    by_cases hlt : i + 1 < t.length
    · have hio : i < o.length := by rw [HO.out]; omega
      have hio2 : i + 1 < o.length := by rw [HO.out]; omega
      obtain ⟨b1, f1, hp1, c1⟩ := io.get i hio
      obtain ⟨b2, f2, hp2, c2⟩ := io.get (i + 1) hio2
      have hxb := HOB.out _ (List.getElem_mem hio)
      have HDi := Lib.hid (HD.out i hio2)
      have h56 : Ext [] w5 w8 := (((Ext.refl [] w5).alloc _).trans0 hx6).trans0 hext
      have d1 := hext.cell a1 (by simp)
      replace c1 := h56.cell c1 (by simp)
      replace c2 := h56.cell c2 (by simp)
      have jt : IntsAt w8 pt t := it.ext0 ((hx3.trans0 hx5).trans0 h56)
      generalize o[i] = x at *
      generalize o[i + 1] = y at *
      subst hp1
      cases hp2
      go_wp2
      go_loopw [13, 14] (fun s13 s14 wr => ∃ k : Nat, k ≤ t.length ∧ s14 = .int .i64 k ∧ s13 = .int .i64 (lastK t k x) ∧ Ext [] w8 wr) (fun _ i _ => t.length - (intOf i).toNat)
      case atStart => exact ⟨0, Nat.zero_le _, rfl, rfl, Ext.refl _ _⟩
      case round =>
        obtain ⟨k, hkn, rfl, rfl, hex2⟩ := hrel
        by_cases hkt : k < t.length
        · obtain ⟨b3, f3, hp3, c3⟩ := jt.get k hkt
          replace c3 := hex2.cell c3 (by simp)
          have e1 := hex2.cell c1 (by simp)
          have e2 := hex2.cell d1 (by simp)
          have HS := Lib.hid (lastK_succ t k x hxb.1 hkt)
          generalize t[k] = z at *
          subst hp3
          by_cases hzx : z = x
          · have hb2 : (z == x) = true := by simpa using hzx
            have HS2 : Hid (lastK t (k + 1) x = k) := by show _ = _; rw [HS.out, if_pos hzx]
            clear hzx HS
            go_wp2
            go_quiet (fail)
            go_wp2
            go_roundw
            case rel => exact ⟨k + 1, by omega, by go_num, by rw [HS2.out], hex2.drewN _⟩
            case measure => simp [intOf]; omega
          · have hb2 : (z == x) = false := by simpa using hzx
            have HS2 : Hid (lastK t (k + 1) x = lastK t k x) := by show _ = _; rw [HS.out, if_neg hzx]
            clear hzx HS
            go_wp2
            go_quiet (fail)
            go_wp2
            go_roundw
            case rel => exact ⟨k + 1, by omega, by go_num, by rw [HS2.out], hex2.drewN _⟩
            case measure => simp [intOf]; omega
        · obtain rfl : k = t.length := by omega
          have e1 := hex2.cell c2 (by simp)
          have e2 := hex2.cell d1 (by simp)
          have HL : Hid (0 ≤ lastK t t.length x → y = lastK t t.length x) := HDi.out
          generalize lastK t t.length x = L at *
          by_cases hL : 0 ≤ L
          · have hyL : (y != L) = false := by rw [HL.out hL]; simp
            go_wp2
            go_roundw
            case rel => exact ⟨i + 1, by omega, by go_num, hext.trans0 hex2⟩
            case measure => simp [intOf]; omega
          · have hL2 : decide (0 ≤ L) = false := by simpa using hL
            go_wp2
            go_roundw
            case rel => exact ⟨i + 1, by omega, by go_num, hext.trans0 hex2⟩
            case measure => simp [intOf]; omega
    · have hlt2 : decide ((i : Int) + 1 < t.length) = false := by simp; omega
      have d2 := hext.cell a2 (by simp)
      go_wp2
      have hmk := fun w => mkZI t.length (by omega) w
      have hxx2 : ∀ x : HW (fun w' => w'.cell? ⟨w5.heap.size, 2, none⟩ = some (.slice pw u.length cw)), x.w.cell? ⟨w5.heap.size, 2, none⟩ = some (.slice pw u.length cw) := fun x => x.h
      haveI : Nonempty (HW (fun w' => w'.cell? ⟨w5.heap.size, 2, none⟩ = some (.slice pw u.length cw))) := ⟨⟨w8, d2⟩⟩
      refine wp_region_F [(0, false), (1, false), (2, false), (3, true), (4, false), (5, false)] [7, 9] (fun w' => ∃ x : HW (fun w' => w'.cell? ⟨w5.heap.size, 2, none⟩ = some (.slice pw u.length cw)), w' = x.w) (by kernel_rfl) (by kernel_rfl) (by kernel_rfl) (HW.mk' d2) (fun d v c a w h => by cases d <;> exact h) ?_
      simp only [opsAt, List.getD_cons_succ, List.getD_cons_zero]
      repeat ((first | refine wpE_read (fun K hK => ?_) | refine wpE_pure (fun K hK => ?_)); go_simp; (refine hK _ ?_; clear hK K))
      refine wpE_nil ?_
      refine anyB_one 6 _ (by kernel_rfl) (by rfl) (fun K hK => ?_)
      go_simp
      refine hK _ _ (fun _ _ => HW.mk' (((Ext.refl [] w8).alloc _).cell d2 (by simp))) ?_
      clear hK K
      refine anyB_one 7 _ (by kernel_rfl) (by rfl) (fun K hK => ?_)
      go_simp
      refine (hI2 _ _ _ _ _ (((iw.ext0 ((Ext.refl [] _).alloc _)).ext0 hx6).ext0 ((hext.alloc _).drew)) ((intsZI _ _ _ rfl).ext0 (Ext.refl [] _).drew)).mono ?_
      rintro e9 w9 ⟨rfl, n9, hw9⟩
      subst w9
      go_simp
      refine hK _ _ (fun _ _ => HW.mk' (((((Ext.refl [] w8).alloc (zI t.length)).drew).drewN n9).cell d2 (by simp))) ?_
      clear hK K
      refine anyB_one 8 _ (by kernel_rfl) (by rfl) (fun K hK => ?_)
      go_simp
      refine hK _ _ (fun _ _ => HW.mk' (((((Ext.refl [] w8).alloc (zI t.length)).drew).drewN n9).cell d2 (by simp))) ?_
      clear hK K
      refine anyB_one 9 _ (by kernel_rfl) (by rfl) (fun K hK => ?_)
      go_simp
      refine hK _ _ (fun _ _ => HW.mk' (((((Ext.refl [] w8).alloc (zI t.length)).drew).drewN n9).cell d2 (by simp))) ?_
      clear hK K
      refine anyB_end (by kernel_rfl) ?_ 0
      go_wp2
      go_ret
      exact ⟨rfl, ((((hx1.trans0 hx2).trans0 hx3).trans0 hx5).alloc _).trans0 (hx6.trans0 ((hext.alloc _).drewN _))⟩
end Go.Proofs.Ytgdnkgfgakhpeaa
