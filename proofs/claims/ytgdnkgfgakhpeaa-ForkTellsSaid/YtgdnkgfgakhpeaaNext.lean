/-
  pick.Next, of workers that have one step left each: by a contract.
-/
import Derived.Test.YtgdnkgfgakhpeaaQ2
namespace Go.Proofs.Ytgdnkgfgakhpeaa
open Go.RowKit
set_option linter.unusedVariables false
set_option linter.unusedSimpArgs false

theorem clos31 (x last : Int) (a : Addr) (w : World) (h : w.cell? a = some (.int .i64 last)) :
    Calls Try.prog 31 #[.int .i64 x, .pointer (some a)] w fun e w' => e = .returned (.bool (decide (last < x))) ∧ w' = w := by
  go_enter Try.func31, Try.ntmps31
  go_wp2
  go_ret
  exact ⟨rfl, rfl⟩

/-- a value that is out of bounds -/
def oddB (x : Int) : Bool := decide (x < -1099511627776 ∨ 1099511627776 < x)

theorem clos19 (x : Int) (w : World) :
    Calls Try.prog 19 #[.int .i64 x] w fun e w' => e = .returned (.bool (oddB x)) ∧ w' = w := by
  by_cases h : x < -1099511627776
  · go_enter Try.func19, Try.ntmps19
    go_wp2
    go_ret
    exact ⟨ret_bool (by simp [h, oddB]), rfl⟩
  · have h' : decide (x < -1099511627776) = false := by simpa using h
    go_enter Try.func19, Try.ntmps19
    go_wp2
    go_ret
    exact ⟨ret_bool (by simp [oddB]; omega), rfl⟩

/-- the first place at which g is true; below 0: there is none -/
def idxF (g : Int → Bool) (l : List Int) : Int := match l.findIdx? g with | some i => i | none => -1

theorem idxF_hit {g : Int → Bool} {l : List Int} {k : Nat} (hk : k < l.length) (hb : ∀ i (h : i < l.length), i < k → g l[i] = false) (hg : g l[k] = true) : idxF g l = k := by
  unfold idxF
  have : l.findIdx? g = some k := by
    rw [List.findIdx?_eq_some_iff_getElem]
    exact ⟨hk, hg, fun j hj => by simp [hb j (by omega) hj]⟩
  rw [this]
theorem idxF_none {g : Int → Bool} {l : List Int} {k : Nat} (hk : l.length ≤ k) (hb : ∀ i (h : i < l.length), i < k → g l[i] = false) : idxF g l = -1 := by
  unfold idxF
  have : l.findIdx? g = none := by
    rw [List.findIdx?_eq_none_iff]
    intro x hx
    obtain ⟨i, hi, rfl⟩ := List.mem_iff_getElem.1 hx
    exact hb i hi (by omega)
  rw [this]

theorem idx28_31 (p : Option Addr) (c : Nat) (l : List Int) (last : Int) (a : Addr) (w : World) (hl : l.length ≤ 4611686018427387904) (h0 : IntsAt w p l) (h : w.cell? a = some (.int .i64 last)) :
    Calls Try.prog 28 #[.slice p l.length c, .func (.func 31) #[] #[.pointer (some a)]] w fun e w' => e = .returned (.int .i64 (idxF (fun x => decide (last < x)) l)) ∧ w' = w := by
  go_enter Try.func28, Try.ntmps28
  go_wp2
  go_loop [8] (fun i => ∃ k : Nat, k ≤ l.length ∧ i = .int .i64 k ∧ ∀ i (h : i < l.length), i < k → decide (last < l[i]) = false) (fun i => l.length - (intOf i).toNat)
  case atStart => exact ⟨0, Nat.zero_le _, rfl, fun i _ h => by omega⟩
  case round =>
    obtain ⟨k, hk, rfl, hb⟩ := hrel
    have HB := Lib.hid hb
    clear hb
    by_cases hlt : k < l.length
    · obtain ⟨b, off, rfl, hc⟩ := h0.get k hlt
      have HF : Hid (decide (last < l[k]) = true → idxF (fun x => decide (last < x)) l = k) := fun h => idxF_hit hlt HB.out h
      have HS : Hid (decide (last < l[k]) = false → ∀ i (h : i < l.length), i < k + 1 → decide (last < l[i]) = false) := fun h i hi hik => by
        by_cases he : i = k
        · subst he; exact h
        · exact HB.out i hi (by omega)
      generalize l[k] = x at hc HF HS
      by_cases hx : last < x
      · have hxb : decide (last < x) = true := by simpa using hx
        go_wp2_with (go_at_call 31; refine (clos31 x last a w h).mono ?_; rintro e w' ⟨rfl, rfl⟩)
        go_ret
        exact ⟨ret_int (HF.out hxb).symm, rfl⟩
      · have hxb : decide (last < x) = false := by simpa using hx
        go_wp2_with (go_at_call 31; refine (clos31 x last a w h).mono ?_; rintro e w' ⟨rfl, rfl⟩)
        go_round
        case rel => exact ⟨k + 1, by omega, by go_num, HS.out hxb⟩
        case measure => simp [intOf]; omega
    · go_wp2
      go_ret
      exact ⟨ret_int (idxF_none (k := k) (by omega) HB.out).symm, rfl⟩

theorem idx28_19 (p : Option Addr) (c : Nat) (l : List Int) (w : World) (hl : l.length ≤ 4611686018427387904) (h0 : IntsAt w p l) :
    Calls Try.prog 28 #[.slice p l.length c, .func (.func 19) #[] #[]] w fun e w' => e = .returned (.int .i64 (idxF oddB l)) ∧ w' = w := by
  go_enter Try.func28, Try.ntmps28
  go_wp2
  go_loop [8] (fun i => ∃ k : Nat, k ≤ l.length ∧ i = .int .i64 k ∧ ∀ i (h : i < l.length), i < k → oddB l[i] = false) (fun i => l.length - (intOf i).toNat)
  case atStart => exact ⟨0, Nat.zero_le _, rfl, fun i _ h => by omega⟩
  case round =>
    obtain ⟨k, hk, rfl, hb⟩ := hrel
    have HB := Lib.hid hb
    clear hb
    by_cases hlt : k < l.length
    · obtain ⟨b, off, rfl, hc⟩ := h0.get k hlt
      have HF : Hid (oddB l[k] = true → idxF oddB l = k) := fun h => idxF_hit hlt HB.out h
      have HS : Hid (oddB l[k] = false → ∀ i (h : i < l.length), i < k + 1 → oddB l[i] = false) := fun h i hi hik => by
        by_cases he : i = k
        · subst he; exact h
        · exact HB.out i hi (by omega)
      generalize l[k] = x at hc HF HS
      generalize hg : oddB x = g at HF HS
      have HG := Lib.hid hg
      clear hg
      cases g with
      | true =>
        go_wp2_with (go_at_call 19; refine (clos19 x w).mono ?_; rintro e w' ⟨rfl, rfl⟩; rw [HG.out])
        go_ret
        exact ⟨ret_int (HF.out trivial).symm, rfl⟩
      | false =>
        go_wp2_with (go_at_call 19; refine (clos19 x w).mono ?_; rintro e w' ⟨rfl, rfl⟩; rw [HG.out])
        go_round
        case rel => exact ⟨k + 1, by omega, by go_num, HS.out trivial⟩
        case measure => simp [intOf]; omega
    · go_wp2
      go_ret
      exact ⟨ret_int (idxF_none (k := k) (by omega) HB.out).symm, rfl⟩

/-- 0, 1, .. as ints -/
def upTo (n : Nat) : List Int := (List.range n).map fun i : Nat => (i : Int)
theorem upTo_length (n : Nat) : (upTo n).length = n := by simp [upTo]
theorem upTo_get (n k : Nat) (h : k < (upTo n).length) : (upTo n)[k] = k := by simp [upTo]
theorem upTo_succ (n : Nat) : upTo (n + 1) = upTo n ++ [(n : Int)] := by simp [upTo, List.range_succ]

set_option maxRecDepth 100000 in
set_option maxHeartbeats 400000 in
theorem next23 (p q : Option Addr) (c d n step : Nat) (l : List Int) (last : Int) (w : World) (hl : l.length ≤ 4611686018427387904) (hn : 0 < n) (hn2 : n ≤ 1000000)
    (hs : step ≤ 1000000) (hla : -1 ≤ last) (hlb : last < n) (hx : Small l) (h0 : IntsAt w p l) (h1 : IntsAt w q (List.replicate n 1)) :
    Calls Try.prog 23 #[.slice p l.length c, .int .i64 step, .slice q n d, .int .i64 last] w fun e w' => e = .returned (.int .i64 (nextW l step n last)) ∧ Ext [] w w' := by
  obtain ⟨i0, hi, hz0, hz1, hz2⟩ := info_parts Try.info3
  have hmf : ∀ (fn : Fn) (first cap : Array Value) (w : World), (Instr.makeFunc fn first cap).run Try.prog w = .ok (.func fn first cap) w := fun _ _ _ _ => rfl
  go_enter Try.func23, Try.ntmps23
  go_wp2
  go_loopw [9, 15] (fun v i wr => ∃ k : Nat, k ≤ n ∧ i = .int .i64 k ∧ wr.ownsRow (w.heap.size + 1) 3 1 v k ((upTo k).map (Value.int .i64)) ∧ Ext [] w wr ∧ wr.cell? ⟨w.heap.size, 0, none⟩ = some (.int .i64 last)) (fun _ i _ => n - (intOf i).toNat)
  case atStart => exact ⟨0, Nat.zero_le _, rfl, World.ownsRow_nil _ _ _ _, (Ext.refl _ _).alloc _, by simp⟩
  case round =>
    obtain ⟨k, hk, rfl, hown, hext, hcl⟩ := hrel
    by_cases hlt : k < n
    · obtain ⟨b, off, rfl, hc0⟩ := h1.get k (by simpa using hlt)
      rw [List.getElem_replicate] at hc0
      have hc := hext.cell hc0 (by simp)
      clear hc0
      have hbig : k ≤ 1000000 := by omega
      have hsz : w.heap.size + 1 ≤ wr.heap.size := World.block_lt_of_cell? _ _ hcl
      have hk12 : k ≤ 1000000000000 := by omega
      go_wp2_with (at_builtin; refine wpList_app1 (by rfl) _ _ (by rfl) (w.heap.size + 1) _ k (upTo k) k (by rfl) (by rfl) hown hk12 hsz ?_; intro v1 w1 hown1 hgr1 _)
      have hcl1 : w1.cell? ⟨w.heap.size, 0, none⟩ = some (.int .i64 last) := by
        refine hgr1.cell (by rw [World.cell?_alloc_past _ _ _ (by show _ < _; omega)]; exact hcl) ?_
        intro e; have := (hown.lt _ e.symm).1; simp at this; omega
      go_roundw
      case rel =>
        refine ⟨k + 1, by omega, by go_num, ?_, ?_, hcl1⟩
        · rw [upTo_succ]; exact hown1
        · exact (hext.alloc _).grown hgr1 (fun b hb => .inr (by have := (hown.lt b hb).1; omega))
      case measure => simp [intOf]; omega
    · obtain rfl : k = n := by omega
      obtain ⟨-, pa, ca, rfl, hall, hpa⟩ := IntsAt.of_owns hown
      rw [upTo_length]
      have hlen := upTo_length k
      have hn0 : ((k : Int) == 0) = false := by simp; omega
      have hs0 : (0 : Int) ≤ step := by omega
      by_cases hst : step < l.length
      · obtain ⟨b, off, rfl, hc0⟩ := h0.get step hst
        have hc := hext.cell hc0 (by simp)
        have hsm := hx l[step] (List.getElem_mem hst)
        have hbd := pickN_bd l[step] k (by omega)
        have HX : Hid (nextW l step k last = pickN l[step] k) := by
          show _ = _
          unfold nextW; rw [if_pos hst]; simp [hst]
        obtain ⟨K, hK⟩ : ∃ K : Nat, pickN l[step] k = K := ⟨(pickN l[step] k).toNat, by omega⟩
        rw [hK] at hbd
        obtain ⟨b2, off2, rfl, hc2⟩ := hall.get K (by rw [hlen]; omega)
        rw [upTo_get] at hc2
        have HK := Lib.hid hK
        generalize l[step] = x at hc hsm HX HK
        have hsti : decide ((step : Int) < l.length) = true := by simp; omega
        clear hlen hc0 hpa hown hK
        go_wp2_with (go_at_call 30; refine (place30 x k wr (by omega) (by omega) (by omega) (by omega)).mono ?_; rintro e w' ⟨rfl, rfl⟩; rw [HK.out])
        go_ret
        exact ⟨ret_int (by rw [HX.out, HK.out]), hext⟩
      · have hsti : decide ((step : Int) < l.length) = false := by simp; omega
        have hcl' := hcl
        have HN : Hid (nextW l step k last = if 0 ≤ last ∧ last + 1 < k then last + 1 else 0) := by show _ = _; unfold nextW; rw [if_neg hst]
        have hidx := idx28_31 pa ca (upTo k) last ⟨w.heap.size, 0, none⟩ wr (by rw [hlen]; omega) hall hcl
        rw [hlen] at hidx
        obtain ⟨b2, off2, rfl, hc2⟩ := hall.get 0 (by rw [hlen]; omega)
        rw [upTo_get, Nat.add_zero] at hc2
        by_cases hA : 0 ≤ last ∧ last + 1 < k
        · obtain ⟨hA1, hA2⟩ := hA
          obtain ⟨K, rfl⟩ : ∃ K : Nat, last = K := ⟨last.toNat, by omega⟩
          obtain ⟨b3, off3, he3, hc3⟩ := hall.get (K + 1) (by rw [hlen]; omega)
          cases he3
          rw [upTo_get] at hc3
          have HI : Hid (idxF (fun x => decide ((K : Int) < x)) (upTo k) = ((K + 1 : Nat) : Int)) :=
            idxF_hit (by rw [hlen]; omega) (fun i hi hik => by rw [upTo_get]; simp; omega) (by rw [upTo_get]; simp; omega)
          clear hpa hown
          have hlen2 := Lib.hid hlen
          go_wp2_with (go_at_call 28; refine hidx.mono ?_; rintro e w' ⟨rfl, rfl⟩; rw [HI.out])
          go_ret
          exact ⟨ret_int (by rw [HN.out, if_pos ⟨hA1, hA2⟩]), hext⟩
        · by_cases hB : last < 0
          · have HI : Hid (idxF (fun x => decide (last < x)) (upTo k) = ((0 : Nat) : Int)) :=
              idxF_hit (by rw [hlen]; omega) (fun i hi hik => by omega) (by rw [upTo_get]; simpa using hB)
            have hB1 : decide (0 ≤ last) = false := by simpa using hB
            clear hpa hown
            go_wp2_with (go_at_call 28; refine hidx.mono ?_; rintro e w' ⟨rfl, rfl⟩; rw [HI.out])
            go_ret
            exact ⟨ret_int (by rw [HN.out, if_neg hA]), hext⟩
          · have HI : Hid (idxF (fun x => decide (last < x)) (upTo k) = -1) :=
              idxF_none (k := k) (by omega) (fun i hi hik => by rw [upTo_get]; simp; omega)
            clear hpa hown
            go_wp2_with (go_at_call 28; refine hidx.mono ?_; rintro e w' ⟨rfl, rfl⟩; rw [HI.out])
            go_ret
            exact ⟨ret_int (by rw [HN.out, if_neg hA]), hext⟩
end Go.Proofs.Ytgdnkgfgakhpeaa
