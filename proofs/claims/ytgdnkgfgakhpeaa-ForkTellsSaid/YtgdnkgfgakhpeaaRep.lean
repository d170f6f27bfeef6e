/-
  slices.Repeat of one int: by a contract; and what it asks of math/bits.
-/
import Derived.Test.YtgdnkgfgakhpeaaNext
import Derived.Test.YtgdnkgfgakhpeaaReg
import Derived.Test.YtgdnkgfgakhpeaaApp
import Derived.Laws.BitsAllLaws
import Derived.Laws.CopyOwn
import Derived.Deep.RegionLaw
namespace Go.Proofs.Ytgdnkgfgakhpeaa
open Go.RowKit
attribute [local go_sem] quietE Oper.quietUpon
set_option linter.unusedVariables false
set_option linter.unusedSimpArgs false

theorem mul38 (n : Nat) (w : World) (hn : n ≤ 1000000) :
    Calls Try.prog 38 #[.int .u64 1, .int .u64 n] w fun e w' => e = .returned (.tuple #[.int .u64 0, .int .u64 n]) ∧ w' = w := by
  have a1 : bits .and .u64 1 4294967295 = 1 := by kernel_rfl
  have a3 : bits .and .u64 0 4294967295 = 0 := by kernel_rfl
  have a2 : bits .and .u64 (n : Int) 4294967295 = n := by
    have := u64_and_nat n 4294967295 (by omega) (by omega)
    rw [show (4294967295 : Int) = ((4294967295 : Nat) : Int) from rfl, this]
    congr 1
    rw [show 4294967295 = 2 ^ 32 - 1 from rfl, Nat.and_two_pow_sub_one_eq_mod]
    exact Nat.mod_eq_of_lt (by omega)
  have d1 : (n : Int) / 4294967296 = 0 := by omega
  have w1 : IntKind.u64.wrap (n : Int) = n := by simp [IntKind.wrap, IntKind.bits, IntKind.signed]; omega
  have w0 : IntKind.u64.wrap 0 = 0 := by kernel_rfl
  go_enter Try.func38, Try.ntmps38
  go_wp2
  go_ret2
  exact ⟨by simp [a1, a2, a3, d1, w1, w0], rfl⟩

theorem mul29 (n : Nat) (w : World) (hn : n ≤ 1000000) :
    Calls Try.prog 29 #[.int .u64 1, .int .u64 n] w fun e w' => e = .returned (.tuple #[.int .u64 0, .int .u64 n]) ∧ w' = w := by
  have w1 : IntKind.u64.wrap (n : Int) = n := by simp [IntKind.wrap, IntKind.bits, IntKind.signed]; omega
  go_enter Try.func29, Try.ntmps29
  go_wp2_with (go_at_call 38; refine (mul38 n w hn).mono ?_; rintro e w' ⟨rfl, rfl⟩)
  go_ret2
  exact ⟨by simp [w1], rfl⟩

/-- k ones, then naughts -/
def onesTo (k n : Nat) : List Value := List.replicate k (.int .i64 1) ++ List.replicate (n - k) (.int .i64 0)
theorem onesTo_len {k n : Nat} (h : k ≤ n) : (onesTo k n).length = n := by simp [onesTo]; omega
theorem onesTo_splice {k n c : Nat} (h : k + c ≤ n) : splice (onesTo k n) k (List.replicate c (.int .i64 1)) = onesTo (k + c) n := by
  unfold splice onesTo
  rw [List.take_left' (by simp)]
  have : List.drop (k + (List.replicate c (Value.int .i64 1)).length) (List.replicate k (Value.int .i64 1) ++ List.replicate (n - k) (Value.int .i64 0)) = List.replicate (n - (k + c)) (Value.int .i64 0) := by
    rw [List.drop_append]
    simp
    omega
  rw [this, ← List.append_assoc, ← List.replicate_append_replicate]

theorem run_make22 (n : Nat) (hn : n ≤ 1000000) (w : World) :
    (Instr.makeSlice 22 (.int .i64 (n : Int)) (.int .i64 (n : Int))).run Try.prog w = .ok (.slice (some ⟨w.heap.size, 0, none⟩) n n) (w.alloc (.cells (List.replicate n (Value.int .i64 0)).toArray 3)) := by
  obtain ⟨i0, hi, hz0, hz1, hz2⟩ := info_parts Try.info3
  have hr := run_make (P := Try.prog) w 22 3 i0 (.int .i64 0) Try.underlying22 hi hz0 .i64 .i64 n n (by omega) (by omega) (by rw [hz2]; omega) (by omega)
  simp only [Int.toNat_natCast] at hr
  rw [hr, hz1]
  have : madeCells (Value.int .i64 0).cells (n * 1) = (List.replicate n (Value.int .i64 0)).toArray := by
    apply Array.ext
    · simp [madeCells]
    · intro j h1 h2
      simp [madeCells, Value.cells, Nat.mod_one]
  rw [this]

set_option maxRecDepth 100000 in
set_option maxHeartbeats 1000000 in
theorem rep22 (bx n : Nat) (w : World) (hn : 0 < n) (hn2 : n ≤ 1000000) (hx : w.cell? ⟨bx, 0, none⟩ = some (.int .i64 1)) :
    Calls Try.prog 22 #[.slice (some ⟨bx, 0, none⟩) 1 1, .int .i64 n] w fun e w' => ∃ p, e = .returned (.slice p n n) ∧ IntsAt w' p (List.replicate n 1) ∧ Ext [] w w' ∧ (∀ a, p = some a → w.heap.size ≤ a.block) := by
  have w1 : IntKind.u64.wrap (n : Int) = n := by simp [IntKind.wrap, IntKind.bits, IntKind.signed]; omega
  have w2 : IntKind.i64.wrap (n : Int) = n := IntWalk.i64_in _ (by omega)
  have hn0 : decide ((n : Int) < 0) = false := by simp
  obtain ⟨i0, hi, hz0, hz1, hz2⟩ := info_parts Try.info3
  have hmk := run_make22 n hn2
  go_enter Try.func22, Try.ntmps22
  have hsz : (Try.prog.info? 3).map (·.size) = some 1 := by kernel_rfl
  have hg0 : (w.alloc (.cells (List.replicate n (Value.int .i64 0)).toArray 3)).heap[w.heap.size]? = some (.cells (List.replicate n (Value.int .i64 0)).toArray 3 (0, 0)) := heap_alloc_new w _
  have HG := Lib.hid hg0
  clear hg0
  have hx0 : ∀ j v, ([.int .i64 1] : List Value)[j]? = some v → (w.alloc (.cells (List.replicate n (Value.int .i64 0)).toArray 3)).cell? ((⟨bx, 0, none⟩ : Addr).add j) = some v := by
    intro j v hv
    rcases j with _ | j
    · simp at hv; subst hv
      have := World.block_lt_of_cell? w _ hx
      rw [add_eq, World.cell?_alloc_past _ _ _ (by simpa using this)]
      simpa using hx
    · simp at hv
  have HX := Lib.hid hx0
  clear hx0
  have HB : Hid (Below w.heap.size w (w.alloc (.cells (List.replicate n (Value.int .i64 0)).toArray 3))) := (Below.refl _ _).alloc (Nat.le_refl _) _
  have hmin : Nat.min 1 n = 1 := Nat.min_eq_left (by omega)
  go_wp2_with (first | (go_at_call 29; refine (mul29 n w hn2).mono ?_; rintro e w' ⟨rfl, hw'⟩; subst w') | (refine wpList_copy_splice (by rfl) (.tmp 31) (.tmp 32) 22 22 (by rfl) 3 Try.underlying22 hsz (some ⟨w.heap.size, 0, none⟩) (some ⟨bx, 0, none⟩) n n 1 1 (by rfl) (by rfl) w.heap.size 0 _ 3 HG.out [.int .i64 1] (by rw [hmin]; rfl) (fun _ => ⟨rfl, _, rfl, HX.out⟩) (by simp; omega) (by simp [Value.oneCell']) w.heap.size w HB.out (Nat.le_refl _) ?_; intro w1 hg1 hb1))
  have hg2 : w1.heap[w.heap.size]? = some (.cells (onesTo 1 n).toArray 3 (0, 0)) := by
    have := hg1.out
    rw [show splice (List.replicate n (Value.int .i64 0)) 0 [.int .i64 1] = onesTo 1 n by
      obtain ⟨m, rfl⟩ : ∃ m, n = m + 1 := ⟨n - 1, by omega⟩
      simp [splice, onesTo, List.replicate_succ]] at this
    exact this
  have HG2 := Lib.hid hg2
  clear hg1 hg2
  go_loopw [8] (fun s wr => ∃ k : Nat, 0 < k ∧ k ≤ n ∧ s = .int .i64 k ∧ Hid (wr.heap[w.heap.size]? = some (.cells (onesTo k n).toArray 3 (0, 0))) ∧ Below w.heap.size w wr) (fun s _ => n - (intOf s).toNat)
  case atStart => exact ⟨1, by omega, by omega, rfl, HG2, hb1⟩
  case round =>
    obtain ⟨k, hk0, hk, rfl, hg, hb⟩ := hrel
    by_cases hlt : k < n
    · have hsl1 : ∀ W, (Instr.sliceAt 22 (.slice (some ⟨w.heap.size, 0, none⟩) n n) (some (.int .i64 (k : Int))) none none).run Try.prog W = .ok (.slice (some ⟨w.heap.size, k, none⟩) (n - k) (n - k)) W := fun W => by
        rw [run_slAtL _ n n k (by omega) (by omega) W]
        simp only [Int.toNat_natCast]
        rw [if_neg (by omega)]
        simp [add_eq]
      have hsl2 : ∀ W, (Instr.sliceAt 22 (.slice (some ⟨w.heap.size, 0, none⟩) n n) none (some (.int .i64 (k : Int))) none).run Try.prog W = .ok (.slice (some ⟨w.heap.size, 0, none⟩) k n) W := fun W => by
        rw [run_slAtH _ n n k (by omega) (by omega) W]; simp
      obtain ⟨c, hc, hcn⟩ : ∃ c : Nat, c = Nat.min k (n - k) ∧ 0 < c ∧ c ≤ k ∧ k + c ≤ n := ⟨_, rfl, by simp only [Nat.min_def]; split <;> omega⟩
      have HC := Lib.hid hc
      clear hc
      obtain ⟨hc0, hc1, hc2⟩ := hcn
      have hsrc : ∀ j v, (List.replicate c (Value.int .i64 1))[j]? = some v → wr.cell? ((⟨w.heap.size, 0, none⟩ : Addr).add j) = some v := by
        intro j v hv
        have hj : j < c := by
          rcases Nat.lt_or_ge j c with h | h
          · exact h
          · rw [List.getElem?_eq_none (by simpa using h)] at hv; cases hv
        rw [List.getElem?_replicate, if_pos hj] at hv
        cases hv
        rw [add_eq, Nat.zero_add]
        have := hg.out
        simp only [World.cell?, this]
        simp [onesTo, List.getElem?_append, show j < k by omega]
      have HS := Lib.hid hsrc
      clear hsrc
      have HWr : Hid (wr.drew.heap[w.heap.size]? = some (.cells (onesTo k n).toArray 3 (0, 0))) := hg.out
      have HS2 : Hid (∀ j v, (List.replicate c (Value.int .i64 1))[j]? = some v → wr.drew.cell? ((⟨w.heap.size, 0, none⟩ : Addr).add j) = some v) := HS.out
      have e1 : IntKind.i64.wrap ((k : Int) + (c : Int)) = (k : Int) + c := IntWalk.i64_in _ (by omega)
      go_wp2
      haveI : Nonempty (HW (fun _ => True)) := ⟨⟨wr, trivial⟩⟩
      refine wp_region_F [(0, false), (1, false), (2, false), (3, false), (4, false), (5, false), (6, false)] [7, 8, 9] (fun w' => ∃ x : HW (fun _ => True), w' = x.w) (by kernel_rfl) (by kernel_rfl) (by kernel_rfl) (HW.mk' trivial) (fun d v c a w h => by cases d <;> exact h) ?_
      simp only [opsAt, List.getD_cons_succ, List.getD_cons_zero]
      repeat ((first | refine wpE_read (fun K hK => ?_) | refine wpE_pure (fun K hK => ?_)); go_simp; (refine hK _ ?_; clear hK K))
      refine wpE_nil ?_
      refine anyB_one 7 _ (by kernel_rfl) (by rfl) (fun K hK => ?_)
      refine step_copy_splice (by rfl) (.tmp 41) (.tmp 44) 22 22 (by rfl) 3 Try.underlying22 hsz (some ⟨w.heap.size, k, none⟩) (some ⟨w.heap.size, 0, none⟩) (n - k) (n - k) k n (by rfl) (by rfl) w.heap.size k (onesTo k n) 3 HWr.out (List.replicate c (.int .i64 1)) (by rw [List.length_replicate]; exact HC.out) (fun _ => ⟨rfl, _, rfl, HS2.out⟩) (by rw [onesTo_len hk]; simpa using hc2) (by intro v hv; rw [List.eq_of_mem_replicate hv]; rfl) w.heap.size w hb.drew (Nat.le_refl _) ?_
      intro w4 hg4 hb4
      refine hK _ _ (fun _ _ => HW.mk' trivial) ?_
      clear hK K
      rw [List.length_replicate]
      have hg5 : Hid (w4.heap[w.heap.size]? = some (.cells (onesTo (k + c) n).toArray 3 (0, 0))) := by
        have := hg4.out
        rw [onesTo_splice hc2] at this
        exact this
      clear hg4
      refine anyB_tail 8 (by rfl) (by kernel_rfl) (by decide) ?_
      simp only [List.drop_succ_cons, List.drop_zero]
      go_wp2
      go_roundw
      case rel => exact ⟨k + c, by omega, by omega, by go_num, hg5, hb4⟩
      case measure => simp [intOf]; omega
    · obtain rfl : k = n := by omega
      go_wp2
      go_ret
      refine ⟨_, rfl, .inr ⟨_, 0, rfl, fun j hj => ?_⟩, Ext.of_below hb, fun a ha => by cases ha; exact Nat.le_refl _⟩
      simp only [World.cell?, hg.out]
      simp only [List.length_replicate] at hj
      simp [onesTo, hj]
end Go.Proofs.Ytgdnkgfgakhpeaa
