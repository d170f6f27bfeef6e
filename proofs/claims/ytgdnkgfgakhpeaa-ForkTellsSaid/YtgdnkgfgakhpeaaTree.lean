/-
  Tree and Values: by contracts.
-/
import Derived.Test.YtgdnkgfgakhpeaaSame
namespace Go.Proofs.Ytgdnkgfgakhpeaa
open Go.RowKit
set_option linter.unusedVariables false
set_option linter.unusedSimpArgs false

/-- a tree by raw numbers -/
def treeTo (l : List Int) : Nat → List Int
  | 0 => [-1]
  | k + 1 => treeTo l k ++ [pickN (l.getD k 0) (k + 1)]
def treeL (l : List Int) : List Int := treeTo l (min l.length 39)
theorem treeTo_len (l : List Int) : ∀ k, (treeTo l k).length = k + 1
  | 0 => rfl
  | k + 1 => by simp [treeTo, treeTo_len l k]

theorem tree10 (p : Option Addr) (c : Nat) (l : List Int) (w : World) (hl : l.length ≤ 4611686018427387904) (hs : Small l) (h0 : IntsAt w p l) :
    Calls Try.prog 10 #[.slice p l.length c] w fun e w' => ∃ v, e = .returned v ∧ w'.ownsRow w.heap.size 3 1 v (treeL l).length ((treeL l).map (Value.int .i64)) ∧ Ext [] w w' := by
  have HT : Hid (∀ k, treeTo l (k + 1) = treeTo l k ++ [pickN (l.getD k 0) (k + 1)]) := fun k => rfl
  have HTL : Hid (∀ k, k = min l.length 39 → treeL l = treeTo l k) := fun k h => by subst h; rfl
  have HLEN := Lib.hid (treeTo_len l)
  go_enter Try.func10, Try.ntmps10
  go_wp2
  go_loopw [3, 4] (fun s3 s4 wr => ∃ (k : Nat) (v : Value), s4 = .int .i64 k ∧ v = s3 ∧ k ≤ l.length ∧ k ≤ 39 ∧ wr.ownsRow w.heap.size 3 1 v (treeTo l k).length ((treeTo l k).map (Value.int .i64)) ∧ Ext [] w wr) (fun _ i _ => 39 - (intOf i).toNat)
  case atStart =>
    refine ⟨0, _, rfl, rfl, Nat.zero_le _, Nat.zero_le _, ?_, (Ext.refl _ _).alloc _⟩
    refine ⟨rfl, .inr ⟨w.heap.size, 1, #[.int .i64 (-1)], rfl, Nat.le_refl _, heap_alloc_new w _, ?_⟩⟩
    exact ⟨Nat.le_refl 1, by simp [maxLen], rfl, rfl⟩
  case round =>
    obtain ⟨k, v, rfl, rfl, hk, hk39, hown, hext⟩ := hrel
    by_cases hlt : k < l.length
    · have hb1 : decide ((k : Int) < l.length) = true := by simp; omega
      by_cases hlt2 : k < 39
      · have hb2 : decide ((k : Int) < 39) = true := by simp; omega
        obtain ⟨b, off, rfl, hc0⟩ := h0.get k hlt
        have hc := hext.cell hc0 (by simp)
        have hx := hs l[k] (List.getElem_mem hlt)
        have HS : Hid (treeTo l (k + 1) = treeTo l k ++ [pickN l[k] (k + 1)]) := by
          show _ = _
          rw [HT.out]; simp [hlt]
        generalize l[k] = x at hc hx HS
        have hp := fun W => pick11 x ((k : Int) + 1) W (by omega) (by omega) (by omega) (by omega)
        have hlen := HLEN.out k
        have hsz := hext.size
        generalize treeTo l k = tt at *
        generalize pickN x (k + 1) = y at *
        clear hc0 HT HTL HLEN
        go_wp2_with (first
          | (go_at_call 11; refine (hp _).mono ?_; rintro e1 w6 ⟨rfl, hw6⟩; subst w6)
          | (at_builtin; refine wpList_app1b (by rfl) (.tmp 16) (.tmp 24) (by rfl) w.heap.size v tt y wr.heap.size (by rfl) (by rfl) rfl hown (by omega) hsz ?_; intro g3 cap3 w3 hown3 hgr3 hat3))
        go_roundw
        case rel =>
          refine ⟨k + 1, _, by go_num, rfl, by omega, by omega, ?_, (hext.alloc _).grown hgr3 (fun j hj => .inr (hown.lt j hj).1)⟩
          rw [HS.out, List.length_append]
          rw [hlen] at hown3 ⊢
          exact hown3
        case measure => simp [intOf]; omega
      · have hb2 : decide ((k : Int) < 39) = false := by simp; omega
        have HE := Lib.hid (HTL.out k (by omega))
        clear HT HTL HLEN
        go_wp2
        go_ret
        exact ⟨_, rfl, by rw [HE.out]; exact hown, hext⟩
    · have hb1 : decide ((k : Int) < l.length) = false := by simp; omega
      have HE := Lib.hid (HTL.out k (by omega))
      clear HT HTL HLEN
      go_wp2
      go_ret
      exact ⟨_, rfl, by rw [HE.out]; exact hown, hext⟩

/-- values by raw numbers -/
def valTo (l : List Int) : Nat → List Int
  | 0 => []
  | k + 1 => valTo l k ++ [if k < l.length then pickN (l.getD k 0) 1000 - 300 else k]
theorem valTo_len (l : List Int) : ∀ k, (valTo l k).length = k
  | 0 => rfl
  | k + 1 => by simp [valTo, valTo_len l k]

theorem values14 (p : Option Addr) (c n : Nat) (l : List Int) (w : World) (hl : l.length ≤ 4611686018427387904) (hn : n ≤ 1000000) (hs : Small l) (h0 : IntsAt w p l) :
    Calls Try.prog 14 #[.slice p l.length c, .int .i64 n] w fun e w' => ∃ v, e = .returned v ∧ w'.ownsRow w.heap.size 3 1 v (valTo l n).length ((valTo l n).map (Value.int .i64)) ∧ Ext [] w w' := by
  have HT : Hid (∀ k, valTo l (k + 1) = valTo l k ++ [if k < l.length then pickN (l.getD k 0) 1000 - 300 else k]) := fun k => rfl
  have HLEN := Lib.hid (valTo_len l)
  go_enter Try.func14, Try.ntmps14
  go_wp2
  go_loopw [5, 6] (fun s3 s4 wr => ∃ (k : Nat) (v : Value), s4 = .int .i64 k ∧ v = s3 ∧ k ≤ n ∧ wr.ownsRow w.heap.size 3 1 v (valTo l k).length ((valTo l k).map (Value.int .i64)) ∧ Ext [] w wr) (fun _ i _ => n - (intOf i).toNat)
  case atStart => exact ⟨0, _, rfl, rfl, Nat.zero_le _, World.ownsRow_nil _ _ _ _, Ext.refl _ _⟩
  case round =>
    obtain ⟨k, v, rfl, rfl, hk, hown, hext⟩ := hrel
    by_cases hlt : k < n
    · have hlen := HLEN.out k
      have hsz := hext.size
      by_cases hlt2 : k < l.length
      · obtain ⟨b, off, rfl, hc0⟩ := h0.get k hlt2
        have hc := hext.cell hc0 (by simp)
        have hx := hs l[k] (List.getElem_mem hlt2)
        have HS : Hid (valTo l (k + 1) = valTo l k ++ [pickN l[k] 1000 - 300]) := by
          show _ = _
          rw [HT.out, if_pos hlt2]; simp [hlt2]
        generalize l[k] = x at hc hx HS
        have hp := fun W => pick11 x 1000 W (by omega) (by omega) (by omega) (by omega)
        have hpb := pickN_bd x 1000 (by omega)
        generalize valTo l k = tt at *
        generalize pickN x 1000 = y at *
        clear hc0 HT HLEN
        go_wp2_with (first
          | (go_at_call 11; refine (hp _).mono ?_; rintro e1 w6 ⟨rfl, hw6⟩; subst w6)
          | (at_builtin; refine wpList_app1b (by rfl) (.tmp 24) (.tmp 26) (by rfl) w.heap.size v tt (y - 300) wr.heap.size (by rfl) (by rfl) rfl hown (by omega) hsz ?_; intro g3 cap3 w3 hown3 hgr3 hat3))
        go_roundw
        case rel =>
          refine ⟨k + 1, _, by go_num, rfl, by omega, ?_, (hext.alloc _).grown hgr3 (fun j hj => .inr (hown.lt j hj).1)⟩
          rw [HS.out, List.length_append]
          rw [hlen] at hown3 ⊢
          exact hown3
        case measure => simp [intOf]; omega
      · have HS : Hid (valTo l (k + 1) = valTo l k ++ [(k : Int)]) := by
          show _ = _
          rw [HT.out, if_neg hlt2]
        generalize valTo l k = tt at *
        clear HT HLEN
        go_wp2_with (at_builtin; refine wpList_app1b (by rfl) (.tmp 24) (.tmp 26) (by rfl) w.heap.size v tt k wr.heap.size (by rfl) (by rfl) rfl hown (by omega) hsz ?_; intro g3 cap3 w3 hown3 hgr3 hat3)
        go_roundw
        case rel =>
          refine ⟨k + 1, _, by go_num, rfl, by omega, ?_, (hext.alloc _).grown hgr3 (fun j hj => .inr (hown.lt j hj).1)⟩
          rw [HS.out, List.length_append]
          rw [hlen] at hown3 ⊢
          exact hown3
        case measure => simp [intOf]; omega
    · obtain rfl : k = n := by omega
      go_wp2
      go_ret
      exact ⟨_, rfl, hown, hext⟩
end Go.Proofs.Ytgdnkgfgakhpeaa
