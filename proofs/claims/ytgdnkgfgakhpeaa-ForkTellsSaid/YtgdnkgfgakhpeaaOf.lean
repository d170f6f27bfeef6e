/-
  fork's frames of tasks: by a contract.
-/
import Derived.Test.YtgdnkgfgakhpeaaStep
import Derived.Test.YtgdnkgfgakhpeaaQ2
import Derived.Laws.ResultCell
namespace Go.Proofs.Ytgdnkgfgakhpeaa
open Go.RowKit
set_option linter.unusedVariables false
set_option linter.unusedSimpArgs false

/-- the kids of a task, of the first k -/
def kidsTo (l : List Int) (k i : Nat) : List Int := ((List.range k).filter fun j => l.getD j 0 = (i : Int)).map fun j : Nat => (j : Int)
theorem kidsTo_zero (l : List Int) (i : Nat) : kidsTo l 0 i = [] := rfl
theorem kidsTo_succ (l : List Int) (k i : Nat) : kidsTo l (k + 1) i = if l.getD k 0 = (i : Int) then kidsTo l k i ++ [(k : Int)] else kidsTo l k i := by
  unfold kidsTo
  rw [List.range_succ, List.filter_append, List.map_append]
  by_cases h : l.getD k 0 = (i : Int)
  · rw [if_pos h, List.filter_cons_of_pos (by simpa using h)]; rfl
  · rw [if_neg h, List.filter_cons_of_neg (by simpa using h)]; simp
theorem kidsTo_len (l : List Int) (k i : Nat) : (kidsTo l k i).length ≤ k := by
  unfold kidsTo
  rw [List.length_map]
  exact Nat.le_trans (List.length_filter_le _ _) (by simp)
theorem kidsTo_mem {l : List Int} {k i : Nat} {x : Int} (h : x ∈ kidsTo l k i) : 0 ≤ x ∧ x < k ∧ l.getD x.toNat 0 = (i : Int) := by
  unfold kidsTo at h
  simp only [List.mem_map, List.mem_filter, List.mem_range, decide_eq_true_eq] at h
  obtain ⟨j, ⟨hj, he⟩, rfl⟩ := h
  exact ⟨by omega, by omega, by simpa using he⟩

theorem Try.info54 : (Try.prog.info? 54).map (fun i => (i.zero, i.size, i.bytes)) = some (some (.agg #[.int .i64 0, .slice none 0 0, .int .i64 0, .int .i64 0]), 4, 48) := by kernel_rfl

theorem run_make45 (n : Nat) (hn : n ≤ 1000000) (w : World) :
    ∃ cs, (Instr.makeSlice 45 (.int .i64 (n : Int)) (.int .i64 (n : Int))).run Try.prog w = .ok (.slice (some ⟨w.heap.size, 0, none⟩) n n) (w.alloc (.cells cs 54)) ∧
      Blk (w.alloc (.cells cs 54)) w.heap.size (n * 4) (frCells (fun _ => 0) (fun _ => .slice none 0 0) (fun _ => 0) (fun _ => 0)) := by
  obtain ⟨i0, hi, hz0, hz1, hz2⟩ := info_parts Try.info54
  have hr := run_make (P := Try.prog) w 45 54 i0 _ Try.underlying45 hi hz0 .i64 .i64 n n (by omega) (by omega) (by rw [hz2]; omega) (by omega)
  simp only [Int.toNat_natCast] at hr
  refine ⟨_, hr, ?_⟩
  rw [hz1]
  refine ⟨_, _, heap_alloc_new w _, by simp [madeCells], fun o ho => ?_⟩
  simp only [madeCells, Array.getElem?_map, Array.getElem?_range, Value.cells]
  rw [if_pos ho]
  simp only [Option.map_some, Option.some.injEq]
  unfold frCells
  have h4 : o % 4 < 4 := Nat.mod_lt _ (by omega)
  generalize o % 4 = r at *
  rcases r with _ | _ | _ | _ | r
  · rfl
  · rfl
  · rfl
  · rfl
  · omega

/-- the kids' rows: each is owned, no two are one -/
structure Rows4 (w : World) (base n : Nat) (kv : Nat → Value) (kids : Nat → List Int) : Prop where
  own : ∀ i, i < n → w.ownsRow base 3 1 (kv i) (kids i).length ((kids i).map (Value.int .i64))
  ne : ∀ i j b, i < n → j < n → i ≠ j → (kv i).ownBlock = some b → (kv j).ownBlock ≠ some b

theorem Rows4.ext {w w' : World} {base n : Nat} {kv : Nat → Value} {kids : Nat → List Int} {S : List Nat} (h : Rows4 w base n kv kids) (hx : Ext S w w') (hS : ∀ b ∈ S, b < base) : Rows4 w' base n kv kids := by
  refine ⟨fun i hi => ?_, h.ne⟩
  have ho := h.own i hi
  refine ⟨ho.1, ?_⟩
  rcases ho.2 with hn | ⟨g, cap, cur, hv, hb, hgg, rest⟩
  · exact .inl hn
  · exact .inr ⟨g, cap, cur, hv, hb, hx.get hgg (fun hm => by have := hS _ hm; omega), rest⟩

theorem Rows4.grow {w w' : World} {base n p : Nat} {kv : Nat → Value} {kids : Nat → List Int} {v : Value} {x : Int} (h : Rows4 w base n kv kids) (hp : p < n)
    (h1 : w'.ownsRow base 3 1 v ((kids p).length + 1) ((kids p ++ [x]).map (Value.int .i64))) (h2 : w.grownBy w' (kv p).ownBlock) (h3 : (kv p).ownBlock = v.ownBlock ∨ v.ownBlock = some w.heap.size) :
    Rows4 w' base n (upd kv p v) (upd kids p (kids p ++ [x])) := by
  refine ⟨fun i hi => ?_, fun i j b hi hj hij hb => ?_⟩
  · by_cases he : i = p
    · subst he; rw [upd_same, upd_same]; simpa using h1
    · rw [upd_other _ _ he, upd_other _ _ he]
      refine (h.own i hi).kept h2 ?_
      rcases hb : (kv i).ownBlock with _ | g
      · exact .inl rfl
      · exact .inr (fun e => h.ne i p g hi hp he hb e.symm)
  · by_cases hi' : i = p
    · subst hi'
      rw [upd_same] at hb
      rw [upd_other _ _ (Ne.symm hij)]
      rcases h3 with h3 | h3
      · exact h.ne i j b hi hj hij (h3.trans hb)
      · intro e
        rw [h3] at hb; cases hb
        have := ((h.own j hj).lt _ e).2; omega
    · rw [upd_other _ _ hi'] at hb
      by_cases hj' : j = p
      · subst hj'
        rw [upd_same]
        rcases h3 with h3 | h3
        · rw [← h3]; exact h.ne i j b hi hj hij hb
        · intro e
          rw [h3] at e; cases e
          have := ((h.own i hi).lt _ hb).2; omega
      · rw [upd_other _ _ hj']; exact h.ne i j b hi hj hij hb

theorem Rows4.nil (w : World) (base n : Nat) (l : List Int) : Rows4 w base n (fun _ => .slice none 0 0) (kidsTo l 0) :=
  ⟨fun i _ => World.ownsRow_nil _ _ _ _, fun i j b _ _ _ h => by cases h⟩

/-- the head of the loop -/
structure OfRel (l vals : List Int) (R T n k : Nat) (w wr : World) (kv : Nat → Value) : Prop where
  hT : Blk wr T (n * 4) (frCells (fun i => if i < k then l.getD i 0 else 0) kv (fun i => if i < k then vals.getD i 0 else 0) (fun i => ((kidsTo l k i).length : Int)))
  hR : Blk wr R 2 (fun o => if o = 0 then .slice none 0 0 else .bool false)
  rows : Rows4 wr (w.heap.size + 2) n kv (kidsTo l k)
  ext : Ext [] w wr
  sz : w.heap.size + 2 ≤ wr.heap.size


theorem frCells_set (par : Nat → Int) (kv : Nat → Value) (sm lf : Nat → Int) (i j : Nat) (hj : j < 4) (v : Value) (par' : Nat → Int) (kv' : Nat → Value) (sm' lf' : Nat → Int)
    (h0 : (j = 0 → v = .int .i64 (par' i)) ∧ (j ≠ 0 → par' i = par i) ∧ ∀ x, x ≠ i → par' x = par x)
    (h1 : (j = 1 → v = kv' i) ∧ (j ≠ 1 → kv' i = kv i) ∧ ∀ x, x ≠ i → kv' x = kv x)
    (h2 : (j = 2 → v = .int .i64 (sm' i)) ∧ (j ≠ 2 → sm' i = sm i) ∧ ∀ x, x ≠ i → sm' x = sm x)
    (h3 : (j = 3 → v = .int .i64 (lf' i)) ∧ (j ≠ 3 → lf' i = lf i) ∧ ∀ x, x ≠ i → lf' x = lf x) (o : Nat) :
    upd (frCells par kv sm lf) (i * 4 + j) v o = frCells par' kv' sm' lf' o := by
  obtain ⟨a, b, hb, rfl⟩ : ∃ a b, b < 4 ∧ o = a * 4 + b := ⟨o / 4, o % 4, by omega, by omega⟩
  have e1 : (a * 4 + b) / 4 = a := by omega
  have e2 : (a * 4 + b) % 4 = b := by omega
  by_cases he : a * 4 + b = i * 4 + j
  · have ha : a = i := by omega
    have hbj : b = j := by omega
    subst ha; subst hbj
    rw [upd_same]
    unfold frCells
    rw [e1, e2]
    rcases b with _ | _ | _ | _ | b
    · exact h0.1 rfl
    · exact h1.1 rfl
    · exact h2.1 rfl
    · exact h3.1 rfl
    · omega
  · rw [upd_other _ _ he]
    unfold frCells
    rw [e1, e2]
    by_cases ha : a = i
    · subst ha
      have hbj : b ≠ j := fun e => he (by rw [e])
      rcases b with _ | _ | _ | _ | b
      · simp only [h0.2.1 (Ne.symm hbj)]
      · simp only [h1.2.1 (Ne.symm hbj)]
      · simp only [h2.2.1 (Ne.symm hbj)]
      · simp only [h3.2.1 (Ne.symm hbj)]
      · omega
    · rw [h0.2.2 a ha, h1.2.2 a ha, h2.2.2 a ha, h3.2.2 a ha]

/-- a task's parent and value are laid -/
theorem OfRel.laid {l vals : List Int} {R T n k : Nat} {w wr : World} {kv : Nat → Value} (h : OfRel l vals R T n k w wr kv) (hk : k < n) (hRT : R ≠ T) (hT : w.heap.size ≤ T) (hT2 : T < w.heap.size + 2) :
    let W := (wr.setCell ⟨T, k * 4, none⟩ (.int .i64 (l.getD k 0))).setCell ⟨T, k * 4 + 2, none⟩ (.int .i64 (vals.getD k 0))
    Blk W T (n * 4) (frCells (fun i => if i < k + 1 then l.getD i 0 else 0) kv (fun i => if i < k + 1 then vals.getD i 0 else 0) (fun i => ((kidsTo l k i).length : Int))) ∧
    Blk W R 2 (fun o => if o = 0 then .slice none 0 0 else .bool false) ∧ Rows4 W (w.heap.size + 2) n kv (kidsTo l k) ∧ Ext [] w W ∧ w.heap.size + 2 ≤ W.heap.size := by
  intro W
  have hx : Ext [T] wr W := ((Ext.refl [T] wr).setCell (p := ⟨T, k * 4, none⟩) (.inl (by simp)) _).setCell (p := ⟨T, k * 4 + 2, none⟩) (.inl (by simp)) _
  refine ⟨?_, h.hR.ext hx (by simpa using hRT), h.rows.ext hx (by simp; omega), ?_, by have := hx.size; have := h.sz; omega⟩
  · have b1 := h.hT.set (o := k * 4) (by omega) (.int .i64 (l.getD k 0))
    have b2 := (b1.congr fun o _ => frCells_set _ _ _ _ k 0 (by omega) _ (fun i => if i < k + 1 then l.getD i 0 else 0) kv (fun i => if i < k then vals.getD i 0 else 0) (fun i => ((kidsTo l k i).length : Int))
      ⟨by simp, by simp, fun x hx => by by_cases h : x < k <;> simp [h, show (x < k + 1) = (x < k) from propext (by omega)]⟩ ⟨by simp, by simp, by simp⟩ ⟨by simp, by simp, by simp⟩ ⟨by simp, by simp, by simp⟩ o).set (o := k * 4 + 2) (by omega) (.int .i64 (vals.getD k 0))
    exact b2.congr fun o _ => frCells_set _ _ _ _ k 2 (by omega) _ _ kv (fun i => if i < k + 1 then vals.getD i 0 else 0) _
      ⟨by simp, by simp, by simp⟩ ⟨by simp, by simp, by simp⟩ ⟨by simp, by simp, fun x hx => by by_cases h : x < k <;> simp [h, show (x < k + 1) = (x < k) from propext (by omega)]⟩ ⟨by simp, by simp, by simp⟩ o
  · exact h.ext.trans hx (by simp; omega)

set_option maxRecDepth 100000 in
set_option maxHeartbeats 1000000 in
theorem of21 (p q : Option Addr) (c d n : Nat) (l vals : List Int) (w : World) (hn : n ≤ 1000000) (hl : l.length = n) (hv : vals.length = n) (hr : ∀ i, i < n → i = 0 ∧ l.getD i 0 = -1 ∨ 0 ≤ l.getD i 0 ∧ l.getD i 0 < i)
    (h0 : IntsAt w p l) (h1 : IntsAt w q vals) :
    Calls Try.prog 21 #[.slice p n c, .slice q n d] w fun e w' => e = .returned (.agg #[.slice (some ⟨w.heap.size + 1, 0, none⟩) n n, .bool false]) ∧ Ext [] w w' ∧ w.heap.size + 2 ≤ w'.heap.size ∧
      ∃ kv, Blk w' (w.heap.size + 1) (n * 4) (frCells (fun i => if i < n then l.getD i 0 else 0) kv (fun i => if i < n then vals.getD i 0 else 0) (fun i => ((kidsTo l n i).length : Int))) ∧ Rows4 w' (w.heap.size + 2) n kv (kidsTo l n) := by
  have HL := Lib.hid hl
  have HV := Lib.hid hv
  clear hl hv
  obtain ⟨cs, hmk, hT0⟩ := run_make45 n hn (w.alloc (.cells #[.slice none 0 0, .bool false] 47))
  simp only [World.size_alloc] at hmk hT0
  go_enter Try.func21, Try.ntmps21
  go_wp2
  go_loopw [13] (fun i wr => ∃ k kv, k ≤ n ∧ i = .int .i64 k ∧ OfRel l vals w.heap.size (w.heap.size + 1) n k w wr kv) (fun i _ => n - (intOf i).toNat)
  case atStart =>
    refine ⟨0, _, Nat.zero_le _, rfl, ⟨?_, ?_, Rows4.nil _ _ _ l, ((Ext.refl _ _).alloc _).alloc _, by simp⟩⟩
    · exact hT0.congr fun o ho => by simp [kidsTo_zero]
    · refine ⟨_, _, (by rw [Below.heap_alloc _ _ _ (by simp)]; exact heap_alloc_new w _), rfl, fun o ho => ?_⟩
      rcases o with _ | _ | o <;> first | rfl | omega
  case round =>
    obtain ⟨k, kv, hk, rfl, hrel⟩ := hrel
    have HREL := Lib.hid hrel
    obtain ⟨hT, hR, hrows, hext, hsz⟩ := hrel
    by_cases hlt : k < n
    · obtain ⟨b, off, rfl, hc0⟩ := h0.get k (by rw [HL.out]; exact hlt)
      obtain ⟨b', off', rfl, hc1⟩ := h1.get k (by rw [HV.out]; exact hlt)
      have hc := hext.cell hc0 (by simp)
      have hc' := hext.cell hc1 (by simp)
      have hrk := hr k hlt
      have eg : l[k]'(by rw [HL.out]; exact hlt) = l.getD k 0 := by simp [HL.out, hlt]
      have eg' : vals[k]'(by rw [HV.out]; exact hlt) = vals.getD k 0 := by simp [HV.out, hlt]
      rw [eg] at hc
      rw [eg'] at hc'
      clear eg eg' hc0 hc1
      have HP : Hid (∀ i, kidsTo l (k + 1) i = if l.getD k 0 = (i : Int) then kidsTo l k i ++ [(k : Int)] else kidsTo l k i) := fun i => kidsTo_succ l k i
      have ck := hT.cell (o := k * 4) (by omega)
      have ck2 := hT.cell (o := k * 4 + 2) (by omega)
      have zk := hT.frozen (k * 4)
      have zk2 := hT.frozen (k * 4 + 2)
      rw [frCells0] at ck
      rw [frCells2] at ck2
      have hlaid := HREL.out.laid hlt (by omega) (by omega) (by omega)
      simp only at hlaid
      rcases hrk with ⟨hk0, hx⟩ | ⟨hx0, hx1⟩
      · have hx1 : ¬ (0 : Int) ≤ l.getD k 0 := by omega
        have hx2 : l.getD k 0 < 0 := by omega
        have HK : Hid (kidsTo l (k + 1) = kidsTo l k) := by
          show _ = _; funext i; rw [HP.out, if_neg (by omega)]
        clear hx hrows hT hR hk0 hr
        generalize l.getD k 0 = x at *
        generalize vals.getD k 0 = y at *
        go_wp2
        go_roundw
        case rel =>
          refine ⟨k + 1, kv, by omega, by go_num, ⟨hlaid.1.congr fun o _ => ?_, hlaid.2.1, ?_, hlaid.2.2.2.1, hlaid.2.2.2.2⟩⟩
          · rw [HK.out]
          · rw [HK.out]; exact hlaid.2.2.1
        case measure => simp [intOf]; omega
      · obtain ⟨P0, hP0⟩ : ∃ P0 : Nat, l.getD k 0 = P0 := ⟨(l.getD k 0).toNat, by omega⟩
        have HK : Hid (kidsTo l (k + 1) = upd (kidsTo l k) P0 (kidsTo l k P0 ++ [(k : Int)])) := by
          show _ = _; funext i; rw [HP.out, hP0]
          by_cases he : i = P0
          · subst he; rw [if_pos rfl, upd_same]
          · rw [if_neg (by omega), upd_other _ _ he]
        rw [hP0] at hx0 hx1 hlaid hc
        have hpk : P0 < k := by omega
        have HP0 := Lib.hid hP0
        generalize vals.getD k 0 = y at *
        obtain ⟨hlT, hlR, hlrows, hlext, hlsz⟩ := hlaid
        have hklen := kidsTo_len l k P0
        clear hT hR hrows hr hP0 HREL HP
        have ckp : ((wr.setCell ⟨w.heap.size + 1, k * 4, none⟩ (.int .i64 (P0 : Int))).setCell ⟨w.heap.size + 1, k * 4 + 2, none⟩ (.int .i64 y)).cell? ⟨w.heap.size + 1, P0 * 4 + 1, none⟩ = some (kv P0) := by
          have := hlT.cell (o := P0 * 4 + 1) (by omega)
          rw [frCells1] at this
          exact this
        have hsz2 : wr.heap.size = ((wr.setCell ⟨w.heap.size + 1, k * 4, none⟩ (.int .i64 (P0 : Int))).setCell ⟨w.heap.size + 1, k * 4 + 2, none⟩ (.int .i64 y)).heap.size := by simp
        have HSZ := Lib.hid hsz2
        have hne : some (w.heap.size + 1) ≠ (kv P0).ownBlock := fun e => by have := ((hlrows.own P0 (by omega)).lt _ e.symm).1; omega
        have hP1 : P0 * 4 + 1 < n * 4 := by omega
        have hP3 : P0 * 4 + 3 < n * 4 := by omega
        clear hsz2
        go_wp2_with (at_builtin; refine wpList_app1b (by rfl) (.tmp 39) (.tmp 41) (by rfl) (w.heap.size + 2) (kv P0) (kidsTo l k P0) k wr.heap.size (by rfl) (by rfl) HSZ.out (hlrows.own P0 (by omega)) (by omega) hlsz ?_; intro g3 cap3 w3 hown3 hgr3 hat3; have hB3 := (hlT.alloc (.cells #[.int .i64 k] 3)).grown hgr3 hne; have q1 := hB3.cell hP1; have q3 := hB3.cell hP3; rw [frCells1] at q1; rw [frCells3] at q3; have y1 := hB3.frozen (P0 * 4 + 1); have y3 := hB3.frozen (P0 * 4 + 3))
        go_roundw
        case rel =>
          have hx3 : Ext [w.heap.size + 1] w3 ((w3.setCell ⟨w.heap.size + 1, P0 * 4 + 1, none⟩ (.slice (some ⟨g3, 0, none⟩) ((kidsTo l k P0).length + 1) cap3)).setCell ⟨w.heap.size + 1, P0 * 4 + 3, none⟩ (.int .i64 (((kidsTo l k P0).length : Int) + 1))) :=
            ((Ext.refl [w.heap.size + 1] w3).setCell (p := ⟨w.heap.size + 1, P0 * 4 + 1, none⟩) (.inl (by simp)) _).setCell (p := ⟨w.heap.size + 1, P0 * 4 + 3, none⟩) (.inl (by simp)) _
          have hrw3 := (hlrows.ext (w' := _) ((Ext.refl [] _).alloc (.cells #[.int .i64 k] 3)) (by simp)).grow (x := (k : Int)) (by omega) hown3 hgr3 (by
            rcases hat3 with e | e
            · exact .inl e
            · right; rw [e]; simp [Value.ownBlock])
          have hB5 := (hB3.set (o := P0 * 4 + 1) (by omega) (.slice (some ⟨g3, 0, none⟩) ((kidsTo l k P0).length + 1) cap3)).congr fun o _ => frCells_set _ _ _ _ P0 1 (by omega) _ (fun i => if i < k + 1 then l.getD i 0 else 0) (upd kv P0 (.slice (some ⟨g3, 0, none⟩) ((kidsTo l k P0).length + 1) cap3)) (fun i => if i < k + 1 then vals.getD i 0 else 0) (fun i => ((kidsTo l k i).length : Int))
            ⟨by simp, by simp, by simp⟩ ⟨fun _ => (upd_same ..).symm, by simp, fun x hx => upd_other _ _ hx⟩ ⟨by simp, by simp, by simp⟩ ⟨by simp, by simp, by simp⟩ o
          have hB6 := (hB5.set (o := P0 * 4 + 3) (by omega) (.int .i64 (((kidsTo l k P0).length : Int) + 1))).congr fun o _ => frCells_set _ _ _ _ P0 3 (by omega) _ (fun i => if i < k + 1 then l.getD i 0 else 0) (upd kv P0 (.slice (some ⟨g3, 0, none⟩) ((kidsTo l k P0).length + 1) cap3)) (fun i => if i < k + 1 then vals.getD i 0 else 0) (fun i => ((kidsTo l (k + 1) i).length : Int))
            ⟨by simp, by simp, by simp⟩ ⟨by simp, by simp, by simp⟩ ⟨by simp, by simp, by simp⟩ ⟨fun _ => by rw [HK.out, upd_same]; simp, by simp, fun x hx => by rw [HK.out, upd_other _ _ hx]⟩ o
          have hxa : Ext [] w w3 := (hlext.alloc _).grown hgr3 (fun b hb => .inr (by have := ((hlrows.own P0 (by omega)).lt b hb).1; omega))
          refine ⟨k + 1, _, by omega, by go_num, ⟨hB6, ?_, ?_, hxa.trans hx3 (by simp), ?_⟩⟩
          · refine Blk.ext ((hlR.alloc (.cells #[.int .i64 k] 3)).grown hgr3 ?_) hx3 (by simp)
            intro e; have := ((hlrows.own P0 (by omega)).lt _ e.symm).1; omega
          · rw [HK.out]; exact hrw3.ext hx3 (by simp)
          · have := hxa.size; have := hx3.size; have := hgr3.size; simp at this; omega
        case measure => simp [intOf]; omega
    · obtain rfl : k = n := by omega
      have r0 := hR.cell (o := 0) (by omega)
      have r1 := hR.cell (o := 1) (by omega)
      have z0 := hR.frozen 0
      have z1 := hR.frozen 1
      simp only [if_true, Nat.one_ne_zero, if_false] at r0 r1
      go_wp2
      have rr0 : ∀ v, (wr.setCell ⟨w.heap.size, 0, none⟩ v).cell? ⟨w.heap.size, 0, none⟩ = some v := fun v => World.cell?_setCell_same _ _ _ r0
      have rr1 : ∀ v v', ((wr.setCell ⟨w.heap.size, 0, none⟩ v).setCell ⟨w.heap.size, 1, none⟩ v').cell? ⟨w.heap.size, 1, none⟩ = some v' := fun v v' =>
        World.cell?_setCell_same _ _ v' (u := .bool false) (by rw [World.cell?_setCell_other _ _ _ _ (by simp)]; exact r1)
      refine bodyPost_ret (v := .agg #[.slice (some ⟨w.heap.size + 1, 0, none⟩) k k, .bool false]) (by simp [results, Try.results21, go_sem, rr0, rr1]) rfl ?_
      have hxR : Ext [w.heap.size] wr ((wr.setCell ⟨w.heap.size, 0, none⟩ (.slice (some ⟨w.heap.size + 1, 0, none⟩) k k)).setCell ⟨w.heap.size, 1, none⟩ (.bool false)) :=
        ((Ext.refl [w.heap.size] wr).setCell (p := ⟨w.heap.size, 0, none⟩) (.inl (by simp)) _).setCell (p := ⟨w.heap.size, 1, none⟩) (.inl (by simp)) _
      exact ⟨rfl, hext.trans hxR (by simp), by have := hxR.size; omega, kv, hT.ext hxR (by simp), hrows.ext hxR (by simp)⟩
end Go.Proofs.Ytgdnkgfgakhpeaa
