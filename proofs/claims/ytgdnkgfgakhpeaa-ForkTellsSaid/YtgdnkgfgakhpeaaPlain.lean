/-
  Plain law: what a run of the crew comes to, whatever the picks; that the reference's run comes to the same.
-/
import Derived.Test.YtgdnkgfgakhpeaaRPure
namespace Go.Proofs.Ytgdnkgfgakhpeaa
open Go.RowKit
set_option linter.unusedVariables false
set_option linter.unusedSimpArgs false

/-- a sum of so many -/
def sumTo (f : Nat → Int) : Nat → Int
  | 0 => 0
  | k + 1 => sumTo f k + f k
theorem sumTo_congr {f g : Nat → Int} : ∀ {n : Nat}, (∀ i, i < n → f i = g i) → sumTo f n = sumTo g n
  | 0, _ => rfl
  | n + 1, h => by rw [sumTo, sumTo, sumTo_congr (n := n) (fun i hi => h i (by omega)), h n (by omega)]
theorem sumTo_upd (f : Nat → Int) (p : Nat) (x : Int) : ∀ (n : Nat), p < n → sumTo (upd f p x) n = sumTo f n + x - f p
  | 0, h => by omega
  | n + 1, h => by
    rw [sumTo, sumTo]
    by_cases hp : p = n
    · subst hp
      rw [upd_same, sumTo_congr (g := f) (fun i hi => upd_other _ _ (by omega))]; omega
    · rw [sumTo_upd f p x n (by omega), upd_other _ _ (by omega)]; omega
theorem sumTo_zero {f : Nat → Int} : ∀ {n : Nat}, (∀ i, i < n → f i = 0) → sumTo f n = 0
  | 0, _ => rfl
  | n + 1, h => by rw [sumTo, sumTo_zero (n := n) (fun i hi => h i (by omega)), h n (by omega)]; rfl
theorem sumTo_one {f : Nat → Int} {p : Nat} : ∀ {n : Nat}, p < n → (∀ i, i < n → i ≠ p → f i = 0) → sumTo f n = f p := by
  intro n hp h
  have := sumTo_upd f p 0 n hp
  rw [sumTo_zero (f := upd f p 0) (n := n) (fun i hi => by
    by_cases e : i = p
    · rw [e, upd_same]
    · rw [upd_other _ _ e, h i hi e])] at this
  omega
theorem sumTo_le {f g : Nat → Int} : ∀ {n : Nat}, (∀ i, i < n → f i ≤ g i) → sumTo f n ≤ sumTo g n
  | 0, _ => Int.le_refl _
  | n + 1, h => by have := sumTo_le (n := n) (fun i hi => h i (by omega)); have := h n (by omega); rw [sumTo, sumTo]; omega
theorem sumTo_const (c : Int) : ∀ (n : Nat), sumTo (fun _ => c) n = c * n
  | 0 => by simp [sumTo]
  | n + 1 => by rw [sumTo, sumTo_const c n, show ((n + 1 : Nat) : Int) = n + 1 by omega, Int.mul_add]; omega
theorem sumTo_add (f g : Nat → Int) : ∀ (n : Nat), sumTo (fun i => f i + g i) n = sumTo f n + sumTo g n
  | 0 => rfl
  | n + 1 => by rw [sumTo, sumTo, sumTo, sumTo_add f g n]; omega
theorem sumTo_nonneg {f : Nat → Int} {n : Nat} (h : ∀ i, i < n → 0 ≤ f i) : 0 ≤ sumTo f n := by
  have := sumTo_le (f := fun _ => 0) (g := f) h; rw [sumTo_const] at this; simpa using this
theorem sumTo_pos {f : Nat → Int} {p : Nat} {n : Nat} (hp : p < n) (h : ∀ i, i < n → 0 ≤ f i) (h0 : sumTo f n = 0) : f p = 0 := by
  have := sumTo_upd f p 0 n hp
  have h2 := sumTo_nonneg (f := upd f p 0) (n := n) (fun i hi => by
    by_cases e : i = p
    · rw [e, upd_same]; omega
    · rw [upd_other _ _ e]; exact h i hi)
  have := h p hp; omega

/-- how often -/
def cnt (l : List Int) (y : Int) : Int := (l.count y : Int)
def one (x y : Int) : Int := if x = y then 1 else 0
theorem cnt_append (a b : List Int) (y : Int) : cnt (a ++ b) y = cnt a y + cnt b y := by unfold cnt; rw [List.count_append]; omega
theorem cnt_single (x y : Int) : cnt [x] y = one (x) (y) := by unfold cnt one; rw [List.count_singleton]; by_cases h : x = y <;> simp [h]
theorem cnt_nonneg (l : List Int) (y : Int) : 0 ≤ cnt l y := by unfold cnt; omega
theorem cnt_mem {l : List Int} {y : Int} : 0 < cnt l y ↔ y ∈ l := by unfold cnt; rw [← List.count_pos_iff]; omega
theorem cnt_zero {l : List Int} {y : Int} : cnt l y = 0 ↔ y ∉ l := by have := cnt_nonneg l y; rw [← cnt_mem]; omega
theorem cnt_dropLast (l : List Int) (h : l ≠ []) (y : Int) : cnt l.dropLast y = cnt l y - one (l.getLastD 0) (y) := by
  have e : l = l.dropLast ++ [l.getLastD 0] := by
    rw [List.getLastD_eq_getLast?, List.getLast?_eq_some_getLast h]; exact (List.dropLast_concat_getLast h).symm
  have := congrArg (fun l => cnt l y) e
  simp only [cnt_append, cnt_single] at this
  omega
theorem cnt_tail (l : List Int) (h : l ≠ []) (y : Int) : cnt l.tail y = cnt l y - one (l.headD 0) (y) := by
  cases l with
  | nil => exact absurd rfl h
  | cons a l =>
    have : cnt (a :: l) y = cnt [a] y + cnt l y := by rw [← cnt_append]; rfl
    rw [cnt_single] at this
    simp only [List.tail_cons, List.headD_cons]; rw [this]; omega
theorem cnt_len : ∀ (l : List Int) (n : Nat), (∀ x ∈ l, 0 ≤ x ∧ x < n) → sumTo (fun i => cnt l i) n = l.length
  | [], n, _ => sumTo_zero (fun i _ => rfl)
  | a :: l, n, h => by
    have h1 := cnt_len l n (fun x hx => h x (List.mem_cons_of_mem _ hx))
    have ha := h a (List.mem_cons_self)
    have : sumTo (fun i => cnt (a :: l) i) n = sumTo (fun i => one (a) ((i : Int)) + cnt l i) n := sumTo_congr fun i _ => by
      rw [← cnt_single, ← cnt_append]; rfl
    rw [this, sumTo_add, h1, sumTo_one (p := a.toNat) (by omega) (fun i _ hi => by unfold one; rw [if_neg (by omega)])]
    unfold one
    rw [if_pos (by omega)]; simp; omega

theorem stealAt_none {dq : Nat → List Int} {m w : Nat} : ∀ {f i : Nat}, stealAt dq m w f i = none → ∀ j, j < f → dq ((w + (i + j)) % m) = []
  | 0, _, _, j, hj => by omega
  | f + 1, i, h, j, hj => by
    unfold stealAt at h
    by_cases h0 : dq ((w + i) % m) = []
    · rw [if_pos h0] at h
      rcases j with _ | j
      · exact h0
      · have := stealAt_none h j (by omega)
        rw [show i + (j + 1) = i + 1 + j by omega]; exact this
    · rw [if_neg h0] at h; cases h
theorem stealAt_some {dq : Nat → List Int} {m w k : Nat} (hm : 0 < m) : ∀ (f i : Nat), stealAt dq m w f i = some k → k < m ∧ dq k ≠ []
  | 0, _, h => by simp [stealAt] at h
  | f + 1, i, h => by
    unfold stealAt at h
    by_cases h0 : dq ((w + i) % m) = []
    · rw [if_pos h0] at h; exact stealAt_some hm f _ h
    · rw [if_neg h0] at h; cases h; exact ⟨Nat.mod_lt _ hm, h0⟩
/-- taking: none, and nothing is there; or one, which is gone then -/
theorem takeS_spec {dq : Nat → List Int} {m w : Nat} (hw : w < m) (hq : ∀ i, i < m → ∀ x ∈ dq i, 0 ≤ x) :
    ((takeS dq m w).1 < 0 ∧ (takeS dq m w).2 = dq ∧ ∀ i, i < m → dq i = []) ∨
    (0 ≤ (takeS dq m w).1 ∧ (∃ i, i < m ∧ (takeS dq m w).1 ∈ dq i) ∧ ∀ y, sumTo (fun i => cnt ((takeS dq m w).2 i) y) m = sumTo (fun i => cnt (dq i) y) m - one ((takeS dq m w).1) (y)) := by
  have key : ∀ (k : Nat) (x : Int) (l : List Int), k < m → x ∈ dq k → (∀ y, cnt l y = cnt (dq k) y - one (x) (y)) →
      (0 ≤ x ∧ (∃ i, i < m ∧ x ∈ dq i) ∧ ∀ y, sumTo (fun i => cnt (upd dq k l i) y) m = sumTo (fun i => cnt (dq i) y) m - one (x) (y)) := by
    intro k x l hk hx hl
    refine ⟨hq k hk x hx, ⟨k, hk, hx⟩, fun y => ?_⟩
    have : (fun i => cnt (upd dq k l i) y) = upd (fun i => cnt (dq i) y) k (cnt l y) := by
      funext i
      by_cases e : i = k
      · rw [e, upd_same, upd_same]
      · rw [upd_other _ _ e, upd_other _ _ e]
    rw [this, sumTo_upd _ _ _ _ hk, hl y]; omega
  unfold takeS
  by_cases h0 : dq w = []
  · rw [if_pos h0]
    cases hs : stealAt dq m w m 0 with
    | none =>
      left
      refine ⟨by show (-1 : Int) < 0; omega, rfl, fun i hi => ?_⟩
      have := stealAt_none hs ((i + m - w) % m) (Nat.mod_lt _ (by omega))
      rw [Nat.zero_add, Nat.add_mod_mod, show w + (i + m - w) = i + m by omega, Nat.add_mod_right, Nat.mod_eq_of_lt hi] at this
      exact this
    | some k =>
      right
      obtain ⟨hk, hne⟩ := stealAt_some (by omega) _ _ hs
      refine key k _ _ hk ?_ (fun y => cnt_tail _ hne y)
      show (dq k).headD 0 ∈ dq k
      cases hd : dq k with
      | nil => exact absurd hd hne
      | cons a l => simp
  · rw [if_neg h0]
    right
    refine key w _ _ hw ?_ (fun y => cnt_dropLast _ h0 y)
    show (dq w).getLastD 0 ∈ dq w
    rw [List.getLastD_eq_getLast?, List.getLast?_eq_some_getLast h0]
    exact List.getLast_mem h0
theorem joinS_succ (par : Nat → Int) (f : Nat) (s l : Nat → Int) (t : Nat) : joinS par (f + 1) s l t = if par t < 0 then (s, l, true) else if upd l (par t).toNat (wrap64 (l (par t).toNat - 1)) (par t).toNat = 0 then joinS par f (upd s (par t).toNat (wrap64 (s (par t).toNat + s t))) (upd l (par t).toNat (wrap64 (l (par t).toNat - 1))) (par t).toNat else (upd s (par t).toNat (wrap64 (s (par t).toNat + s t)), upd l (par t).toNat (wrap64 (l (par t).toNat - 1)), false) := rfl
theorem doneR_succ (par : Nat → Int) (f : Nat) (s l : Nat → Int) (t : Nat) : doneR par (f + 1) s l t = if t = 0 then (s, l, true) else if 0 < upd l (par t).toNat (wrap64 (l (par t).toNat - 1)) (par t).toNat then (upd s (par t).toNat (wrap64 (s (par t).toNat + s t)), upd l (par t).toNat (wrap64 (l (par t).toNat - 1)), false) else doneR par f (upd s (par t).toNat (wrap64 (s (par t).toNat + s t))) (upd l (par t).toNat (wrap64 (l (par t).toNat - 1))) (par t).toNat := rfl
/-- a tree: parents, and kids in order -/
structure TreeOk (par : Nat → Int) (kids : Nat → List Int) (n : Nat) : Prop where
  n1 : 1 ≤ n
  n2 : n ≤ 300
  root : par 0 = -1
  parb : ∀ i, 0 < i → i < n → 0 ≤ par i ∧ par i < i
  kidc : ∀ (i : Nat) (x : Int), cnt (kids i) x = if 0 < x ∧ x < n ∧ par x.toNat = i then 1 else 0

def leftS (kids : Nat → List Int) (n : Nat) (D : Nat → Bool) (u : Nat) : Int := sumTo (fun i => if D i then 0 else cnt (kids u) i) n
def remS (n : Nat) (D : Nat → Bool) (s : Nat → Int) : Int := sumTo (fun i => if D i then 0 else s i) n

section
variable {par : Nat → Int} {kids : Nat → List Int} {n : Nat} (T : TreeOk par kids n)
include T

theorem TreeOk.kid {u : Nat} (h0 : 0 < u) (hu : u < n) : cnt (kids (par u).toNat) u = 1 := by
  rw [T.kidc, if_pos]; have := T.parb u h0 hu; refine ⟨by omega, by omega, ?_⟩; simp; omega
theorem TreeOk.mem {i : Nat} {x : Int} : x ∈ kids i ↔ 0 < x ∧ x < n ∧ par x.toNat = i := by
  rw [← cnt_mem, T.kidc]; split <;> simp_all
theorem TreeOk.cnt01 (i : Nat) (x : Int) : 0 ≤ cnt (kids i) x ∧ cnt (kids i) x ≤ 1 := by rw [T.kidc]; split <;> omega
theorem TreeOk.left_bd (D : Nat → Bool) (u : Nat) : 0 ≤ leftS kids n D u ∧ leftS kids n D u ≤ n := by
  constructor
  · refine sumTo_nonneg fun i _ => ?_
    split
    · omega
    · exact (T.cnt01 u i).1
  · have := sumTo_le (n := n) (f := fun i => if D i then 0 else cnt (kids u) i) (g := fun _ => 1) (fun i _ => by
      have := T.cnt01 u i
      split <;> omega)
    rw [sumTo_const] at this; unfold leftS; omega
theorem TreeOk.left_zero {D : Nat → Bool} {u : Nat} (h0 : 0 < u) (hu : u < n) (h : leftS kids n D (par u).toNat = 0) : D u = true := by
  have := sumTo_pos (p := u) (f := fun i => if D i then 0 else cnt (kids (par u).toNat) i) hu (fun i _ => by
    have := T.cnt01 (par u).toNat i
    split <;> omega) h
  by_cases hd : D u = true
  · exact hd
  · rw [if_neg hd, T.kid h0 hu] at this; omega
omit T in
theorem TreeOk.left_upd {D : Nat → Bool} {t : Nat} (ht : t < n) (hd : D t = false) (u : Nat) : leftS kids n (upd D t true) u = leftS kids n D u - cnt (kids u) t := by
  unfold leftS
  have : (fun i => if upd D t true i = true then 0 else cnt (kids u) i) = upd (fun i => if D i = true then 0 else cnt (kids u) i) t 0 := by
    funext i
    by_cases e : i = t
    · rw [e, upd_same, upd_same]; rfl
    · rw [upd_other _ _ e, upd_other _ _ e]
  rw [this, sumTo_upd _ _ _ _ ht, hd]; simp
theorem TreeOk.left_all {D : Nat → Bool} {u : Nat} (h : ∀ i, i < n → D i = true → cnt (kids u) i = 0) : leftS kids n D u = (kids u).length := by
  rw [← cnt_len (kids u) n (fun x hx => by have := T.mem.1 hx; omega)]
  unfold leftS
  refine sumTo_congr fun i hi => ?_
  by_cases hd : D i = true
  · rw [if_pos hd, h i hi hd]
  · rw [if_neg hd]

structure JInv (par : Nat → Int) (kids : Nat → List Int) (n : Nat) (ord : List Int) (vals : Nat → Int) (tot : Int) (s l : Nat → Int) (D : Nat → Bool) : Prop where
  lf : ∀ u, u < n → l u = leftS kids n D u
  ino : ∀ u, u < n → D u = true → (u : Int) ∈ ord
  z : ∀ u, u < n → D u = true → l u = 0
  rem : D 0 = false → ∃ k : Int, remS n D s = tot + k * 18446744073709551616
  fin : D 0 = true → (∃ k : Int, s 0 = tot + k * 18446744073709551616) ∧ ∀ u, u < n → D u = true
  rng : ∀ u, -9223372036854775808 ≤ s u ∧ s u ≤ 9223372036854775807
  out : ∀ u, u < n → (u : Int) ∉ ord → s u = vals u

def Closed (par : Nat → Int) (n : Nat) (ord : List Int) : Prop := ∀ u, 0 < u → u < n → (u : Int) ∈ ord → par u ∈ ord
def Settled (n : Nat) (ord : List Int) (l : Nat → Int) (D : Nat → Bool) : Prop := ∀ u, u < n → (u : Int) ∈ ord → l u = 0 → D u = true

theorem join_spec {ord : List Int} {vals : Nat → Int} {tot : Int} (hcl : Closed par n ord) : ∀ (f t : Nat) (s l : Nat → Int) (D : Nat → Bool) (sr lr : Nat → Int),
    t < f → t < n → JInv par kids n ord vals tot s l D → D 0 = false → D t = false → l t = 0 → (t : Int) ∈ ord → (∀ u, u < n → (u : Int) ∈ ord → u ≠ t → l u = 0 → D u = true) →
    (∀ u, u < n → (u : Int) ∈ ord → sr u = s u ∧ lr u = l u) →
    ∃ D', JInv par kids n ord vals tot (joinS par f s l t).1 (joinS par f s l t).2.1 D' ∧ Settled n ord (joinS par f s l t).2.1 D' ∧ (joinS par f s l t).2.2 = D' 0 ∧
      (doneR par f sr lr t).2.2 = (joinS par f s l t).2.2 ∧ (∀ u, u < n → (u : Int) ∈ ord → (doneR par f sr lr t).1 u = (joinS par f s l t).1 u ∧ (doneR par f sr lr t).2.1 u = (joinS par f s l t).2.1 u) ∧
      (∀ u, u < n → (u : Int) ∉ ord → (doneR par f sr lr t).2.1 u = lr u)
  | 0, t, _, _, _, _, _, h, _, _, _, _, _, _, _, _ => by omega
  | f + 1, t, s, l, D, sr, lr, htf, htn, hJ, hD0, hDt, hlt, hto, hset, hag => by
    by_cases ht0 : t = 0
    · subst ht0
      have e1 : joinS par (f + 1) s l 0 = (s, l, true) := by rw [joinS_succ, if_pos (by rw [T.root]; omega)]
      have e2 : doneR par (f + 1) sr lr 0 = (sr, lr, true) := by rw [doneR_succ, if_pos rfl]
      rw [e1, e2]
      have hall : ∀ u, u < n → upd D 0 true u = true := by
        intro u
        induction u using Nat.strongRecOn with
        | ind u ih =>
          intro hu
          by_cases h0 : u = 0
          · rw [h0, upd_same]
          · rw [upd_other _ _ h0]
            have hp := T.parb u (by omega) hu
            refine T.left_zero (by omega) hu ?_
            rw [← hJ.lf _ (by omega)]
            have := ih (par u).toNat (by omega) (by omega)
            by_cases hq : (par u).toNat = 0
            · rw [hq]; exact hlt
            · rw [upd_other _ _ hq] at this; exact hJ.z _ (by omega) this
      have hs0 : ∀ u, u < n → u ≠ 0 → D u = true := fun u hu h0 => by have := hall u hu; rwa [upd_other _ _ h0] at this
      refine ⟨upd D 0 true, ⟨fun u hu => ?_, fun u hu hd => ?_, fun u hu hd => ?_, fun h => ?_, fun _ => ⟨?_, hall⟩, hJ.rng, hJ.out⟩, fun u hu _ _ => hall u hu, by rw [upd_same], rfl, hag, fun _ _ _ => rfl⟩
      · show l u = _
        rw [TreeOk.left_upd (kids := kids) htn hDt, T.kidc, if_neg (by omega), hJ.lf u hu]; omega
      · by_cases h0 : u = 0
        · rw [h0]; exact hto
        · exact hJ.ino u hu (hs0 u hu h0)
      · by_cases h0 : u = 0
        · rw [h0]; exact hlt
        · exact hJ.z u hu (hs0 u hu h0)
      · rw [upd_same] at h; cases h
      · obtain ⟨k, hk⟩ := hJ.rem hD0
        refine ⟨k, ?_⟩
        rw [← hk]
        unfold remS
        rw [sumTo_one (p := 0) htn (fun i hi h0 => by rw [if_pos (hs0 i hi h0)])]
        simp [hD0]
    · have hp := T.parb t (by omega) htn
      obtain ⟨p, hpp⟩ : ∃ p : Nat, p = (par t).toNat := ⟨_, rfl⟩
      have hpn : p < n := by omega
      have hpi : par t = (p : Int) := by omega
      have hpo : (p : Int) ∈ ord := by rw [← hpi]; exact hcl t (by omega) htn hto
      have hlp := hJ.lf p hpn
      have hbd := T.left_bd D p
      have h2 := T.n2
      have hnz : l p ≠ 0 := by
        intro h0
        rw [hlp, hpp] at h0
        have := T.left_zero (by omega) htn h0
        rw [hDt] at this; cases this
      have hw : wrap64 (l p - 1) = l p - 1 := by unfold wrap64; omega
      have hDp : D p = false := by
        rw [Bool.eq_false_iff]; intro h; exact hnz (hJ.z p hpn h)
      have hne : p ≠ t := by omega
      have hcntp : cnt (kids p) t = 1 := by rw [hpp]; exact T.kid (by omega) htn
      obtain ⟨s', hs'⟩ : ∃ s', s' = upd s p (wrap64 (s p + s t)) := ⟨_, rfl⟩
      obtain ⟨l', hl'⟩ : ∃ l', l' = upd l p (l p - 1) := ⟨_, rfl⟩
      have hD1t : upd D t true t = true := upd_same _ _ _
      have hJ1 : JInv par kids n ord vals tot s' l' (upd D t true) := by
        refine ⟨fun u hu => ?_, fun u hu hd => ?_, fun u hu hd => ?_, fun h => ?_, fun h => ?_, fun u => ?_, fun u hu ho => ?_⟩
        · rw [TreeOk.left_upd (kids := kids) htn hDt, hl']
          by_cases e : u = p
          · rw [e, upd_same, hcntp, hlp]
          · rw [upd_other _ _ e, T.kidc, if_neg (by rw [Int.toNat_natCast, hpi]; omega), hJ.lf u hu]; omega
        · by_cases e : u = t
          · rw [e]; exact hto
          · rw [upd_other _ _ e] at hd; exact hJ.ino u hu hd
        · rw [hl']
          by_cases e : u = t
          · rw [e, upd_other _ _ (by omega)]; exact hlt
          · rw [upd_other _ _ e] at hd
            rw [upd_other _ _ (by rintro rfl; rw [hDp] at hd; cases hd)]; exact hJ.z u hu hd
        · obtain ⟨k, hk⟩ := hJ.rem hD0
          have e : remS n (upd D t true) s' = remS n D s - s t + wrap64 (s p + s t) - s p := by
            unfold remS
            have : (fun i => if upd D t true i = true then 0 else s' i) = upd (upd (fun i => if D i = true then 0 else s i) t 0) p (wrap64 (s p + s t)) := by
              funext i
              by_cases e1 : i = p
              · rw [e1, upd_same, upd_other _ _ hne, hDp, hs', upd_same]; rfl
              · rw [upd_other _ _ e1, hs', upd_other _ _ e1]
                by_cases e2 : i = t
                · rw [e2, upd_same, upd_same]; rfl
                · rw [upd_other _ _ e2, upd_other _ _ e2]
            rw [this, sumTo_upd _ _ _ _ hpn, sumTo_upd _ _ _ _ htn, upd_other _ _ hne, hDp, hDt]; simp
          have hwr : ∃ j : Int, wrap64 (s p + s t) = s p + s t + j * 18446744073709551616 := ⟨-((s p + s t + 9223372036854775808) / 18446744073709551616), by unfold wrap64; omega⟩
          obtain ⟨j, hj⟩ := hwr
          exact ⟨k + j, by rw [e, hj, hk]; omega⟩
        · rw [upd_other _ _ (by omega), hD0] at h; cases h
        · rw [hs']
          by_cases e : u = p
          · rw [e, upd_same]; unfold wrap64; omega
          · rw [upd_other _ _ e]; exact hJ.rng u
        · rw [hs', upd_other _ _ (by rintro rfl; exact ho hpo)]; exact hJ.out u hu ho
      have hag1 : ∀ u, u < n → (u : Int) ∈ ord → upd sr p (wrap64 (sr p + sr t)) u = s' u ∧ upd lr p (l p - 1) u = l' u := by
        intro u hu ho
        rw [hs', hl']
        by_cases e : u = p
        · rw [e, upd_same, upd_same, upd_same, upd_same, (hag p hpn hpo).1, (hag t htn hto).1]; exact ⟨rfl, rfl⟩
        · rw [upd_other _ _ e, upd_other _ _ e, upd_other _ _ e, upd_other _ _ e]; exact hag u hu ho
      have hout1 : ∀ u, u < n → (u : Int) ∉ ord → upd lr p (l p - 1) u = lr u := fun u hu ho => upd_other _ _ (by rintro rfl; exact ho hpo)
      have e1 : joinS par (f + 1) s l t = if l p - 1 = 0 then joinS par f s' l' p else (s', l', false) := by
        rw [joinS_succ, if_neg (by omega)]
        simp only [← hpp, hw, ← hs', ← hl']
        rw [show l' p = l p - 1 by rw [hl', upd_same]]
      have e2 : doneR par (f + 1) sr lr t = if l p - 1 = 0 then doneR par f (upd sr p (wrap64 (sr p + sr t))) (upd lr p (l p - 1)) p else (upd sr p (wrap64 (sr p + sr t)), upd lr p (l p - 1), false) := by
        rw [doneR_succ, if_neg ht0]
        simp only [← hpp, (hag p hpn hpo).2, hw, upd_same]
        by_cases e : l p - 1 = 0
        · rw [if_neg (by omega), if_pos e]
        · rw [if_pos (by omega), if_neg e]
      rw [e1, e2]
      by_cases e : l p - 1 = 0
      · rw [if_pos e, if_pos e]
        obtain ⟨D', h1, h2, h3, h4, h5, h6⟩ := join_spec hcl f p s' l' (upd D t true) _ _ (by omega) hpn hJ1 (by rw [upd_other _ _ (by omega)]; exact hD0) (by rw [upd_other _ _ hne]; exact hDp)
          (by rw [hl', upd_same]; exact e) hpo (fun u hu ho hup h0 => by
            by_cases eu : u = t
            · rw [eu, upd_same]
            · rw [upd_other _ _ eu]; rw [hl', upd_other _ _ hup] at h0; exact hset u hu ho eu h0) hag1
        exact ⟨D', h1, h2, h3, h4, h5, fun u hu ho => by rw [h6 u hu ho]; exact hout1 u hu ho⟩
      · rw [if_neg e, if_neg e]
        refine ⟨upd D t true, hJ1, fun u hu ho h0 => ?_, by rw [upd_other _ _ (by omega)]; exact hD0.symm, rfl, hag1, hout1⟩
        by_cases eu : u = t
        · rw [eu, upd_same]
        · rw [upd_other _ _ eu]
          have hup : u ≠ p := by rintro rfl; simp only [hl', upd_same] at h0; exact e h0
          simp only [hl', upd_other _ _ hup] at h0; exact hset u hu ho eu h0
end
def Avail (par : Nat → Int) (n : Nat) (ord : List Int) (y : Int) : Prop := y = 0 ∨ 0 < y ∧ y < n ∧ par y.toNat ∈ ord
instance (par : Nat → Int) (n : Nat) (ord : List Int) (y : Int) : Decidable (Avail par n ord y) := by unfold Avail; infer_instance

/-- what holds behind each step -/
structure SInv (par : Nat → Int) (kids : Nat → List Int) (n m : Nat) (vals : Nat → Int) (tot : Int) (st : St) (D : Nat → Bool) : Prop where
  cn : ∀ y, cnt st.ord y + sumTo (fun i => cnt (st.dq i) y) m = if Avail par n st.ord y then 1 else 0
  J : JInv par kids n st.ord vals tot st.sm st.lf D
  set : Settled n st.ord st.lf D
  ends : st.ends = D 0
  steps : st.steps = st.ord.length
  wl : st.who.length = st.ord.length
  wb : ∀ x ∈ st.who, 0 ≤ x ∧ x < m
  pre : ∀ a x b, st.ord = a ++ x :: b → x = 0 ∨ par x.toNat ∈ a

structure Sim (n : Nat) (st : St) (rt : Rt) : Prop where
  dq : rt.dq = st.dq
  ord : rt.ord = st.ord
  who : rt.who = st.who
  done : rt.done = st.ends
  ag : ∀ u, u < n → (u : Int) ∈ st.ord → rt.sm u = st.sm u ∧ rt.lf u = st.lf u
  out : ∀ u, u < n → (u : Int) ∉ st.ord → rt.lf u = 0

section
variable {par : Nat → Int} {kids : Nat → List Int} {n m : Nat} {vals : Nat → Int} {tot : Int} {st : St} {D : Nat → Bool}

theorem SInv.cnt_ord (h : SInv par kids n m vals tot st D) (y : Int) : cnt st.ord y ≤ 1 ∧ (0 < cnt st.ord y → Avail par n st.ord y) := by
  have h1 := h.cn y
  have h2 : 0 ≤ sumTo (fun i => cnt (st.dq i) y) m := sumTo_nonneg fun i _ => cnt_nonneg _ _
  split at h1
  · rename_i ha; exact ⟨by omega, fun _ => ha⟩
  · have := cnt_nonneg st.ord y; exact ⟨by omega, fun h => by omega⟩
theorem SInv.ord_bd (T : TreeOk par kids n) (h : SInv par kids n m vals tot st D) {x : Int} (hx : x ∈ st.ord) : 0 ≤ x ∧ x < n := by
  have := (h.cnt_ord x).2 (cnt_mem.2 hx)
  have := T.n1
  rcases ‹Avail par n st.ord x› with h | ⟨h1, h2, _⟩ <;> omega
theorem SInv.closed (h : SInv par kids n m vals tot st D) : Closed par n st.ord := by
  intro u h0 hu ho
  rcases (h.cnt_ord u).2 (cnt_mem.2 ho) with h | ⟨_, _, h⟩
  · omega
  · simpa using h
theorem SInv.in_dq (h : SInv par kids n m vals tot st D) {i : Nat} (hi : i < m) {x : Int} (hx : x ∈ st.dq i) : Avail par n st.ord x ∧ x ∉ st.ord := by
  have h1 := h.cn x
  have h2 := cnt_nonneg st.ord x
  have h3 := cnt_mem.2 hx
  have h4 : cnt (st.dq i) x ≤ sumTo (fun i => cnt (st.dq i) x) m := by
    have := sumTo_upd (fun i => cnt (st.dq i) x) i 0 m hi
    have h5 : 0 ≤ sumTo (upd (fun i => cnt (st.dq i) x) i 0) m := sumTo_nonneg fun j _ => by
      by_cases e : j = i
      · rw [e, upd_same]; omega
      · rw [upd_other _ _ e]; exact cnt_nonneg _ _
    omega
  split at h1
  · rename_i ha; exact ⟨ha, cnt_zero.1 (by omega)⟩
  · omega

/-- where nothing is left, all is done -/
theorem SInv.all_done (T : TreeOk par kids n) (h : SInv par kids n m vals tot st D) (he : ∀ i, i < m → st.dq i = []) : D 0 = true := by
  have hin : ∀ u, u < n → (u : Int) ∈ st.ord := by
    intro u
    induction u using Nat.strongRecOn with
    | ind u ih =>
      intro hu
      have h1 := h.cn u
      rw [sumTo_zero (fun i hi => by rw [he i hi]; rfl), if_pos] at h1
      · exact cnt_mem.1 (by omega)
      · by_cases h0 : u = 0
        · left; omega
        · right
          have hp := T.parb u (by omega) hu
          have := ih (par u).toNat (by omega) (by omega)
          rw [Int.toNat_of_nonneg hp.1] at this
          exact ⟨by omega, by omega, by simpa using this⟩
  have : ∀ k u, u < n → n - u ≤ k → D u = true := by
    intro k
    induction k with
    | zero => intro u hu hk; omega
    | succ k ih =>
      intro u hu hk
      refine h.set u hu (hin u hu) ?_
      rw [h.J.lf u hu]
      unfold leftS
      refine sumTo_zero fun i hi => ?_
      by_cases hd : D i = true
      · rw [if_pos hd]
      · rw [if_neg hd, T.kidc, if_neg]
        rintro ⟨h0, _, h2⟩
        have hp := T.parb i (by omega) hi
        rw [Int.toNat_natCast] at h2
        exact hd (ih i hi (by omega))
  exact this n 0 T.n1 (by omega)

theorem SInv.lf_new (T : TreeOk par kids n) (h : SInv par kids n m vals tot st D) {t : Nat} (ht : t < n) (ho : (t : Int) ∉ st.ord) : st.lf t = (kids t).length := by
  rw [h.J.lf t ht]
  refine T.left_all fun i hi hd => ?_
  rw [T.kidc, if_neg]
  rintro ⟨h0, _, h2⟩
  have := h.closed i (by omega) hi (h.J.ino i hi hd)
  rw [Int.toNat_natCast] at h2
  rw [h2] at this
  exact ho this

theorem mem_snoc {l : List Int} {x y : Int} : y ∈ l ++ [x] ↔ y ∈ l ∨ y = x := by simp

/-- ONE STEP -/
theorem SInv.step (T : TreeOk par kids n) (h : SInv par kids n m vals tot st D) {wk : Nat} (hw : wk < m) (hne : st.ends = false) {v : List Int} (hv : ∀ u, u < n → v.getD u 0 = vals u) {rt : Rt} (hs : Sim n st rt) :
    ∃ (t : Int) (D' : Nat → Bool), 0 ≤ t ∧ t < n ∧ (takeS st.dq m wk).1 = t ∧ (stepS par kids n m st wk).ord = st.ord ++ [t] ∧ (stepS par kids n m st wk).who = st.who ++ [(wk : Int)] ∧
      (stepS par kids n m st wk).dq = upd (takeS st.dq m wk).2 wk ((takeS st.dq m wk).2 wk ++ kids t.toNat) ∧
      SInv par kids n m vals tot (stepS par kids n m st wk) D' ∧ Sim n (stepS par kids n m st wk) (stepR par kids n m v rt wk) := by
  rcases takeS_spec (dq := st.dq) (m := m) (w := wk) hw (fun i hi x hx => by
      rcases (h.in_dq hi hx).1 with h | ⟨h, _⟩ <;> omega) with ⟨_, _, h0⟩ | ⟨h0, ⟨i, hi, hx⟩, hsum⟩
  · have := h.all_done T h0
    rw [← h.ends, hne] at this; cases this
  · have hav := h.in_dq hi hx
    unfold stepR
    rw [hs.dq]
    have hst : stepS par kids n m st wk = { sm := (if st.lf (takeS st.dq m wk).1.toNat = 0 then joinS par n st.sm st.lf (takeS st.dq m wk).1.toNat else (st.sm, st.lf, st.ends)).1, lf := (if st.lf (takeS st.dq m wk).1.toNat = 0 then joinS par n st.sm st.lf (takeS st.dq m wk).1.toNat else (st.sm, st.lf, st.ends)).2.1, dq := upd (takeS st.dq m wk).2 wk ((takeS st.dq m wk).2 wk ++ kids (takeS st.dq m wk).1.toNat), ord := st.ord ++ [(takeS st.dq m wk).1], who := st.who ++ [(wk : Int)], steps := st.steps + 1, ends := (if st.lf (takeS st.dq m wk).1.toNat = 0 then joinS par n st.sm st.lf (takeS st.dq m wk).1.toNat else (st.sm, st.lf, st.ends)).2.2 } := by
      unfold stepS; simp only [if_neg (show ¬ (takeS st.dq m wk).1 < 0 by omega)]
    rw [if_neg (show ¬ (takeS st.dq m wk).1 < 0 by omega), hst]
    clear hst
    generalize (takeS st.dq m wk).2 = q at *
    generalize (takeS st.dq m wk).1 = x at *
    have hn1 := T.n1
    have hxn : x < n := by rcases hav.1 with h | ⟨_, h, _⟩ <;> omega
    obtain ⟨t, rfl⟩ : ∃ t : Nat, x = t := ⟨x.toNat, by omega⟩
    rw [Int.toNat_natCast]
    have htn : t < n := by omega
    have hcl : Closed par n (st.ord ++ [(t : Int)]) := by
      intro u h1 h2 h3
      rcases mem_snoc.1 h3 with h3 | h3
      · exact mem_snoc.2 (.inl (h.closed u h1 h2 h3))
      · rcases hav.1 with h | ⟨_, _, h⟩
        · omega
        · rw [← h3, Int.toNat_natCast] at h; exact mem_snoc.2 (.inl h)
    have hDt : D t = false := by
      rw [Bool.eq_false_iff]; intro hd; exact hav.2 (h.J.ino t htn hd)
    have hD0 : D 0 = false := by rw [← h.ends]; exact hne
    have hJ' : JInv par kids n (st.ord ++ [(t : Int)]) vals tot st.sm st.lf D :=
      ⟨h.J.lf, fun u hu hd => mem_snoc.2 (.inl (h.J.ino u hu hd)), h.J.z, h.J.rem, h.J.fin, h.J.rng, fun u hu ho => h.J.out u hu (fun hm => ho (mem_snoc.2 (.inl hm)))⟩
    have hlf := h.lf_new T htn hav.2
    have hsm := h.J.out t htn hav.2
    have hag : ∀ u, u < n → (u : Int) ∈ st.ord ++ [(t : Int)] → upd rt.sm t (v.getD t 0) u = st.sm u ∧ upd rt.lf t (rt.lf t + (kids t).length) u = st.lf u := by
      intro u hu ho
      by_cases e : u = t
      · rw [e, upd_same, upd_same, hs.out t htn hav.2, hv t htn, hsm, hlf]; exact ⟨rfl, by omega⟩
      · rw [upd_other _ _ e, upd_other _ _ e]
        rcases mem_snoc.1 ho with ho | ho
        · exact hs.ag u hu ho
        · omega
    have hso : ∀ u, u < n → (u : Int) ∉ st.ord ++ [(t : Int)] → upd rt.lf t (rt.lf t + (kids t).length) u = 0 := by
      intro u hu ho
      rw [upd_other _ _ (by rintro rfl; exact ho (mem_snoc.2 (.inr rfl)))]
      exact hs.out u hu (fun hm => ho (mem_snoc.2 (.inl hm)))
    -- what the end of a task does
    have key : ∃ D', JInv par kids n (st.ord ++ [(t : Int)]) vals tot (if st.lf t = 0 then joinS par n st.sm st.lf t else (st.sm, st.lf, st.ends)).1 (if st.lf t = 0 then joinS par n st.sm st.lf t else (st.sm, st.lf, st.ends)).2.1 D' ∧
        Settled n (st.ord ++ [(t : Int)]) (if st.lf t = 0 then joinS par n st.sm st.lf t else (st.sm, st.lf, st.ends)).2.1 D' ∧ (if st.lf t = 0 then joinS par n st.sm st.lf t else (st.sm, st.lf, st.ends)).2.2 = D' 0 ∧
        (if rt.lf t + (kids t).length = 0 then doneR par n (upd rt.sm t (v.getD t 0)) (upd rt.lf t (rt.lf t + (kids t).length)) t else (upd rt.sm t (v.getD t 0), upd rt.lf t (rt.lf t + (kids t).length), rt.done)).2.2 = (if st.lf t = 0 then joinS par n st.sm st.lf t else (st.sm, st.lf, st.ends)).2.2 ∧
        (∀ u, u < n → (u : Int) ∈ st.ord ++ [(t : Int)] → (if rt.lf t + (kids t).length = 0 then doneR par n (upd rt.sm t (v.getD t 0)) (upd rt.lf t (rt.lf t + (kids t).length)) t else (upd rt.sm t (v.getD t 0), upd rt.lf t (rt.lf t + (kids t).length), rt.done)).1 u = (if st.lf t = 0 then joinS par n st.sm st.lf t else (st.sm, st.lf, st.ends)).1 u ∧ (if rt.lf t + (kids t).length = 0 then doneR par n (upd rt.sm t (v.getD t 0)) (upd rt.lf t (rt.lf t + (kids t).length)) t else (upd rt.sm t (v.getD t 0), upd rt.lf t (rt.lf t + (kids t).length), rt.done)).2.1 u = (if st.lf t = 0 then joinS par n st.sm st.lf t else (st.sm, st.lf, st.ends)).2.1 u) ∧
        (∀ u, u < n → (u : Int) ∉ st.ord ++ [(t : Int)] → (if rt.lf t + (kids t).length = 0 then doneR par n (upd rt.sm t (v.getD t 0)) (upd rt.lf t (rt.lf t + (kids t).length)) t else (upd rt.sm t (v.getD t 0), upd rt.lf t (rt.lf t + (kids t).length), rt.done)).2.1 u = 0) := by
      have hrl : rt.lf t + (kids t).length = st.lf t := by rw [hs.out t htn hav.2, hlf]; omega
      by_cases hz : st.lf t = 0
      · rw [if_pos hz, if_pos (by omega)]
        obtain ⟨D', h1, h2, h3, h4, h5, h6⟩ := join_spec T hcl n t st.sm st.lf D _ _ htn htn hJ' hD0 hDt hz (mem_snoc.2 (.inr rfl)) (fun u hu ho hut h0 => by
          rcases mem_snoc.1 ho with ho | ho
          · exact h.set u hu ho h0
          · omega) hag
        exact ⟨D', h1, h2, h3, h4, h5, fun u hu ho => by rw [h6 u hu ho]; exact hso u hu ho⟩
      · rw [if_neg hz, if_neg (by omega)]
        refine ⟨D, hJ', fun u hu ho h0 => ?_, h.ends, hs.done, hag, hso⟩
        rcases mem_snoc.1 ho with ho | ho
        · exact h.set u hu ho h0
        · have : u = t := by omega
          rw [this] at h0; exact absurd h0 hz
    obtain ⟨D', k1, k2, k3, k4, k5, k6⟩ := key
    refine ⟨t, D', by omega, hxn, rfl, rfl, rfl, rfl, ⟨fun y => ?_, k1, k2, k3, ?_, ?_, ?_, ?_⟩, ⟨?_, ?_, ?_, k4, k5, k6⟩⟩
    · show cnt (st.ord ++ [(t : Int)]) y + sumTo (fun i => cnt (upd q wk (q wk ++ kids t) i) y) m = if Avail par n (st.ord ++ [(t : Int)]) y then 1 else 0
      have e : (fun i => cnt (upd q wk (q wk ++ kids t) i) y) = upd (fun i => cnt (q i) y) wk (cnt (q wk) y + cnt (kids t) y) := by
        funext i
        by_cases e : i = wk
        · rw [e, upd_same, upd_same, cnt_append]
        · rw [upd_other _ _ e, upd_other _ _ e]
      rw [e, sumTo_upd _ _ _ _ hw, hsum y, cnt_append, cnt_single]
      have h1 := h.cn y
      rw [T.kidc]
      by_cases hk : 0 < y ∧ y < n ∧ par y.toNat = (t : Int)
      · rw [if_pos hk, if_pos (.inr ⟨hk.1, hk.2.1, mem_snoc.2 (.inr hk.2.2)⟩)]
        rw [if_neg] at h1
        · omega
        · rintro (h | ⟨_, _, h⟩)
          · omega
          · rw [hk.2.2] at h; exact hav.2 h
      · rw [if_neg hk]
        have : Avail par n (st.ord ++ [(t : Int)]) y ↔ Avail par n st.ord y := by
          unfold Avail
          rw [mem_snoc]
          constructor
          · rintro (h | ⟨a, b, h | h⟩)
            · exact .inl h
            · exact .inr ⟨a, b, h⟩
            · exact absurd ⟨a, b, h⟩ hk
          · rintro (h | ⟨a, b, h⟩)
            · exact .inl h
            · exact .inr ⟨a, b, .inl h⟩
        by_cases ha : Avail par n st.ord y
        · rw [if_pos ha] at h1; rw [if_pos (this.2 ha)]; omega
        · rw [if_neg ha] at h1; rw [if_neg (fun h => ha (this.1 h))]; omega
    · show st.steps + 1 = _
      rw [h.steps]; simp
    · show (st.who ++ [(wk : Int)]).length = (st.ord ++ [(t : Int)]).length
      simp [h.wl]
    · intro x hx
      rcases mem_snoc.1 hx with hx | hx
      · exact h.wb x hx
      · omega
    · intro a x b he
      rcases List.eq_nil_or_concat b with rfl | ⟨b', y, rfl⟩
      · have he' : st.ord ++ [(t : Int)] = a ++ [x] := he
        have h1 := List.append_inj' he' rfl
        have h2 : (t : Int) = x := by simpa using h1.2
        rcases hav.1 with h | ⟨_, _, h⟩
        · left; omega
        · right; rw [← h2, ← h1.1]; exact h
      · have he' : st.ord ++ [(t : Int)] = (a ++ x :: b') ++ [y] := by have : st.ord ++ [(t : Int)] = a ++ x :: b'.concat y := he; rw [this]; simp
        exact h.pre a x b' (List.append_inj' he' rfl).1
    · show (runT par kids n { rt with dq := q } t wk (v.getD t 0)).dq = _
      rfl
    · show rt.ord ++ [(t : Int)] = _
      rw [hs.ord]
    · show rt.who ++ [(wk : Int)] = _
      rw [hs.who]
end
section
variable {par : Nat → Int} {kids : Nat → List Int} {n m : Nat} {vals : Nat → Int} {tot : Int}

theorem SInv.len (T : TreeOk par kids n) {st : St} {D : Nat → Bool} (h : SInv par kids n m vals tot st D) : st.ord.length ≤ n := by
  have h1 := cnt_len st.ord n (fun x hx => h.ord_bd T hx)
  have h2 := sumTo_le (n := n) (f := fun i => cnt st.ord i) (g := fun _ => 1) (fun i _ => (h.cnt_ord i).1)
  rw [sumTo_const] at h2; omega

theorem runS_succ (par : Nat → Int) (kids : Nat → List Int) (n m : Nat) (picks : List Int) (f : Nat) (st : St) (last : Int) : runS par kids n m picks (f + 1) st last = if st.ends = true then some st else if st.steps = 100000 then none else runS par kids n m picks f (stepS par kids n m st (nextW picks st.steps.toNat m last).toNat) (nextW picks st.steps.toNat m last) := rfl
theorem runRR_succ (par : Nat → Int) (kids : Nat → List Int) (n m : Nat) (picks vals : List Int) (f i : Nat) (st : Rt) (last : Int) : runRR par kids n m picks vals (f + 1) i st last = if (stepR par kids n m vals st (nextW picks i m last).toNat).done = true then some (stepR par kids n m vals st (nextW picks i m last).toNat, i + 1) else runRR par kids n m picks vals f (i + 1) (stepR par kids n m vals st (nextW picks i m last).toNat) (nextW picks i m last) := rfl

theorem run_spec (T : TreeOk par kids n) (hm : 0 < m) {v picks : List Int} (hv : ∀ u, u < n → v.getD u 0 = vals u) (P : St → Int → Prop)
    (hP : ∀ st D last t, SInv par kids n m vals tot st D → P st last → st.ends = false → (takeS st.dq m (nextW picks st.ord.length m last).toNat).1 = t → 0 ≤ t → P (stepS par kids n m st (nextW picks st.ord.length m last).toNat) (nextW picks st.ord.length m last)) :
    ∀ (k f : Nat) (st : St) (D : Nat → Bool) (rt : Rt) (last : Int), SInv par kids n m vals tot st D → Sim n st rt → P st last → n - st.ord.length ≤ k → k < f → f + st.ord.length = 100001 → st.ends = false →
      ∃ st' D' last' rt', runS par kids n m picks f st last = some st' ∧ SInv par kids n m vals tot st' D' ∧ st'.ends = true ∧ P st' last' ∧ runRR par kids n m picks v (f - 1) st.ord.length rt last = some (rt', st'.ord.length) ∧ Sim n st' rt'
  | 0, f, st, D, rt, last, h, hs, hp, hk, hf, hfo, he => by
    have hw := nextW_bd picks st.ord.length m last hm
    obtain ⟨t, D', _, _, _, ho, _, _, h', _⟩ := h.step T (wk := (nextW picks st.ord.length m last).toNat) (by omega) he hv hs
    have := h'.len T
    rw [ho] at this; simp at this; omega
  | k + 1, f, st, D, rt, last, h, hs, hp, hk, hf, hfo, he => by
    have hw := nextW_bd picks st.ord.length m last hm
    obtain ⟨t, D', ht0, htn, htk, ho, _, _, h', hs'⟩ := h.step T (wk := (nextW picks st.ord.length m last).toNat) (by omega) he hv hs
    have hp' := hP st D last t h hp he htk ht0
    have hl := h.len T
    have hl' := h'.len T
    have h2 := T.n2
    rw [ho] at hl'; simp at hl'
    obtain ⟨f, rfl⟩ : ∃ g, f = g + 2 := ⟨f - 2, by omega⟩
    have hst : st.steps.toNat = st.ord.length := by rw [h.steps]; simp
    rw [runS_succ, if_neg (by rw [he]; simp), if_neg (by rw [h.steps]; omega), hst, show f + 2 - 1 = f + 1 by omega, runRR_succ]
    have ho' : (stepS par kids n m st (nextW picks st.ord.length m last).toNat).ord.length = st.ord.length + 1 := by rw [ho]; simp
    generalize stepS par kids n m st (nextW picks st.ord.length m last).toNat = st1 at *
    generalize stepR par kids n m v rt (nextW picks st.ord.length m last).toNat = rt1 at *
    by_cases he1 : st1.ends = true
    · refine ⟨st1, D', _, rt1, by rw [runS_succ, if_pos he1], h', he1, hp', ?_, hs'⟩
      rw [if_pos (by rw [hs'.done]; exact he1), ho']
    · have he2 : st1.ends = false := by simpa using he1
      rw [if_neg (by rw [hs'.done]; exact he1)]
      obtain ⟨st', D2, last', rt', r1, r2, r3, r4, r5, r6⟩ := run_spec T hm hv P hP k (f + 1) st1 D' rt1 _ h' hs' hp' (by omega) (by omega) (by omega) he2
      refine ⟨st', D2, last', rt', r1, r2, r3, r4, ?_, r6⟩
      rw [← r5, ho']; rfl

/-- what comes in the end -/
theorem SInv.fin (T : TreeOk par kids n) {st : St} {D : Nat → Bool} (h : SInv par kids n m vals tot st D) (he : st.ends = true) :
    st.ord.length = n ∧ (∀ u, u < n → (u : Int) ∈ st.ord) ∧ ∃ k : Int, st.sm 0 = tot + k * 18446744073709551616 := by
  rw [h.ends] at he
  obtain ⟨h1, h2⟩ := h.J.fin he
  have hin : ∀ u, u < n → (u : Int) ∈ st.ord := fun u hu => h.J.ino u hu (h2 u hu)
  refine ⟨?_, hin, h1⟩
  have h3 := cnt_len st.ord n (fun x hx => h.ord_bd T hx)
  have h4 : sumTo (fun i => cnt st.ord i) n = sumTo (fun _ => 1) n := sumTo_congr fun i hi => by
    have := (h.cnt_ord i).1
    have := cnt_mem.2 (hin i hi)
    omega
  rw [sumTo_const] at h4; omega
end

theorem kidsTo_cnt (l : List Int) (i : Nat) (x : Int) : ∀ k, cnt (kidsTo l k i) x = if 0 ≤ x ∧ x < k ∧ l.getD x.toNat 0 = i then 1 else 0
  | 0 => by rw [kidsTo_zero, if_neg (by omega)]; rfl
  | k + 1 => by
    rw [kidsTo_succ]
    have ih := kidsTo_cnt l i x k
    by_cases h : l.getD k 0 = (i : Int)
    · rw [if_pos h, cnt_append, cnt_single, ih]
      unfold one
      by_cases hx : (k : Int) = x
      · rw [if_pos hx, if_neg (by omega), if_pos]
        · rfl
        · subst hx; rw [Int.toNat_natCast]; exact ⟨by omega, by omega, h⟩
      · rw [if_neg hx]
        by_cases h2 : 0 ≤ x ∧ x < k ∧ l.getD x.toNat 0 = i
        · rw [if_pos h2, if_pos ⟨h2.1, by omega, h2.2.2⟩]; rfl
        · rw [if_neg h2, if_neg]
          · rfl
          · rintro ⟨a, b, c⟩; exact h2 ⟨a, by omega, c⟩
    · rw [if_neg h, ih]
      by_cases h2 : 0 ≤ x ∧ x < k ∧ l.getD x.toNat 0 = i
      · rw [if_pos h2, if_pos ⟨h2.1, by omega, h2.2.2⟩]
      · rw [if_neg h2, if_neg]
        rintro ⟨a, b, c⟩
        by_cases hx : (k : Int) = x
        · subst hx; rw [Int.toNat_natCast] at c; exact h c
        · exact h2 ⟨a, by omega, c⟩

theorem tree_ok {l : List Int} (h1 : 1 ≤ l.length) (h2 : l.length ≤ 300) (hr : ∀ i (h : i < l.length), if i = 0 then l[i] = -1 else 0 ≤ l[i] ∧ l[i] < i) : TreeOk (parOf l) (kidsTo l l.length) l.length := by
  have hg : ∀ i, i < l.length → parOf l i = l.getD i 0 := fun i hi => by unfold parOf; rw [if_pos hi]
  have hr0 : l.getD 0 0 = -1 := by
    have := hr 0 (by omega)
    rw [if_pos rfl] at this
    rw [List.getD_eq_getElem?_getD, List.getElem?_eq_getElem (by omega)]; exact this
  refine ⟨h1, h2, ?_, fun i h0 hi => ?_, fun i x => ?_⟩
  · rw [hg 0 (by omega)]; exact hr0
  · have := hr i hi
    rw [if_neg (by omega)] at this
    rw [hg i hi, List.getD_eq_getElem?_getD, List.getElem?_eq_getElem hi]; exact this
  · rw [kidsTo_cnt]
    by_cases h : 0 < x ∧ x < l.length ∧ parOf l x.toNat = i
    · rw [if_pos h, if_pos ⟨by omega, h.2.1, by rw [← hg x.toNat (by omega)]; exact h.2.2⟩]
    · rw [if_neg h, if_neg]
      rintro ⟨a, b, c⟩
      by_cases hx : x = 0
      · subst hx; rw [show (0 : Int).toNat = 0 from rfl, hr0] at c; omega
      · exact h ⟨by omega, b, by rw [hg x.toNat (by omega)]; exact c⟩

theorem init_inv {l vals : List Int} {m : Nat} (T : TreeOk (parOf l) (kidsTo l l.length) l.length) (hm : 0 < m) (hv : ∀ x ∈ vals, -9223372036854775808 ≤ x ∧ x ≤ 9223372036854775807) :
    SInv (parOf l) (kidsTo l l.length) l.length m (fun u => vals.getD u 0) (sumTo (fun u => vals.getD u 0) l.length) (initS l vals) (fun _ => false) := by
  have hg : ∀ i, i < l.length → (initS l vals).sm i = vals.getD i 0 := fun i hi => by simp only [initS]; rw [if_pos hi]
  refine ⟨fun y => ?_, ⟨fun u hu => ?_, fun u hu h => (by cases h), fun u hu h => (by cases h), fun _ => ⟨0, ?_⟩, fun h => (by cases h), fun u => ?_, fun u hu _ => hg u hu⟩, fun u hu ho => (by cases ho), rfl, rfl, rfl, fun x hx => (by cases hx), fun a x b h => ?_⟩
  · show cnt [] y + sumTo (fun i => cnt (if i = 0 then [0] else []) y) m = if Avail (parOf l) l.length [] y then 1 else 0
    rw [sumTo_one (p := 0) hm (fun i hi h0 => by rw [if_neg h0]; rfl), if_pos rfl, cnt_single]
    unfold one
    by_cases h : (0 : Int) = y
    · rw [if_pos h, if_pos (.inl h.symm)]; rfl
    · rw [if_neg h, if_neg]
      · rfl
      · rintro (h' | ⟨_, _, h'⟩)
        · omega
        · cases h'
  · show ((kidsTo l l.length u).length : Int) = _
    rw [T.left_all (fun i _ h => by cases h)]
  · unfold remS
    rw [sumTo_congr (g := fun u => vals.getD u 0) (fun i hi => by simp; rw [hg i hi]; simp)]; omega
  · simp only [initS]
    split
    · rw [List.getD_eq_getElem?_getD]
      rcases Nat.lt_or_ge u vals.length with h | h
      · rw [List.getElem?_eq_getElem h]; exact hv _ (List.getElem_mem h)
      · rw [List.getElem?_eq_none h]; simp
    · omega
  · have : ([] : List Int) = a ++ x :: b := h
    simp at this

theorem init_sim (l vals : List Int) : Sim l.length (initS l vals) initR := ⟨rfl, rfl, rfl, rfl, fun u hu h => (by cases h), fun u hu _ => rfl⟩
/-- the same but for the sums -/
structure SameShape (a b : St) : Prop where
  lf : a.lf = b.lf
  dq : a.dq = b.dq
  ord : a.ord = b.ord
  who : a.who = b.who
  steps : a.steps = b.steps
  ends : a.ends = b.ends
theorem joinS_shape (par : Nat → Int) : ∀ (f : Nat) (s s' l : Nat → Int) (t : Nat), (joinS par f s l t).2 = (joinS par f s' l t).2
  | 0, _, _, _, _ => rfl
  | f + 1, s, s', l, t => by
    rw [joinS_succ, joinS_succ]
    split
    · rfl
    · split
      · exact joinS_shape par f _ _ _ _
      · rfl
theorem SameShape.step {a b : St} (h : SameShape a b) (par : Nat → Int) (kids : Nat → List Int) (n m wk : Nat) : SameShape (stepS par kids n m a wk) (stepS par kids n m b wk) := by
  obtain ⟨sa, la, da, oa, wa, ta, ea⟩ := a
  obtain ⟨sb, lb, db, ob, wb, tb, eb⟩ := b
  obtain ⟨h1, h2, h3, h4, h5, h6⟩ := h
  simp only at h1 h2 h3 h4 h5 h6
  subst h1 h2 h3 h4 h5 h6
  unfold stepS
  by_cases ht : (takeS da m wk).1 < 0
  · simp only [ht, if_true]; exact ⟨rfl, rfl, rfl, rfl, rfl, rfl⟩
  · simp only [ht, if_false]
    by_cases hz : la (takeS da m wk).1.toNat = 0
    · simp only [hz, if_true]
      have := joinS_shape par n sa sb la (takeS da m wk).1.toNat
      exact ⟨by rw [this], rfl, rfl, rfl, rfl, by rw [this]⟩
    · simp only [hz, if_false]; exact ⟨rfl, rfl, rfl, rfl, rfl, rfl⟩
theorem SameShape.run {par : Nat → Int} {kids : Nat → List Int} {n m : Nat} {picks : List Int} : ∀ (f : Nat) (a b : St) (last : Int), SameShape a b → ∀ a', runS par kids n m picks f a last = some a' → ∃ b', runS par kids n m picks f b last = some b' ∧ SameShape a' b'
  | 0, _, _, _, _, _, h => by cases h
  | f + 1, a, b, last, hs, a', h => by
    rw [runS_succ] at h ⊢
    rw [← hs.ends, ← hs.steps]
    by_cases he : a.ends = true
    · rw [if_pos he] at h ⊢
      cases h
      exact ⟨b, rfl, hs⟩
    · rw [if_neg he] at h ⊢
      by_cases h1 : a.steps = 100000
      · rw [if_pos h1] at h; cases h
      · rw [if_neg h1] at h ⊢
        exact SameShape.run f _ _ _ (hs.step par kids n m _) a' h

/-- one worker alone: the picks make no difference -/
theorem runS_one {par : Nat → Int} {kids : Nat → List Int} {n : Nat} {picks picks' : List Int} : ∀ (f : Nat) (a : St) (last last' : Int), runS par kids n 1 picks f a last = runS par kids n 1 picks' f a last'
  | 0, _, _, _ => rfl
  | f + 1, a, last, last' => by
    have h1 := nextW_bd picks a.steps.toNat 1 last (by omega)
    have h2 := nextW_bd picks' a.steps.toNat 1 last' (by omega)
    rw [runS_succ, runS_succ, show nextW picks a.steps.toNat 1 last = 0 by omega, show nextW picks' a.steps.toNat 1 last' = 0 by omega, runS_one (picks := picks) (picks' := picks') f _ 0 0]

/-- down the tree -/
structure Down (kids : Nat → List Int) (st : St) : Prop where
  pairs : ∀ a x y b, st.ord = a ++ x :: y :: b → kids x.toNat ≠ [] → y = (kids x.toNat).getLastD 0
  next : ∀ a x, st.ord = a ++ [x] → kids x.toNat ≠ [] → st.dq 0 ≠ [] ∧ (st.dq 0).getLastD 0 = (kids x.toNat).getLastD 0

theorem getLastD_app (a b : List Int) (h : b ≠ []) (d : Int) : (a ++ b).getLastD d = b.getLastD d := by
  rw [List.getLastD_eq_getLast?, List.getLastD_eq_getLast?, List.getLast?_append, List.getLast?_eq_some_getLast h]; rfl

theorem stepS_ord {par : Nat → Int} {kids : Nat → List Int} {n m : Nat} {st : St} {wk : Nat} {t : Int} (h : (takeS st.dq m wk).1 = t) (h0 : 0 ≤ t) :
    (stepS par kids n m st wk).ord = st.ord ++ [t] ∧ (stepS par kids n m st wk).who = st.who ++ [(wk : Int)] ∧ (stepS par kids n m st wk).dq = upd (takeS st.dq m wk).2 wk ((takeS st.dq m wk).2 wk ++ kids t.toNat) := by
  subst h
  unfold stepS
  simp only [if_neg (show ¬ (takeS st.dq m wk).1 < 0 by omega)]
  exact ⟨trivial, trivial, trivial⟩

theorem Down.step {par : Nat → Int} {kids : Nat → List Int} {n : Nat} {st : St} (h : Down kids st) {t : Int} (ht : (takeS st.dq 1 0).1 = t) (h0 : 0 ≤ t) : Down kids (stepS par kids n 1 st 0) := by
  obtain ⟨h1, _, h3⟩ := stepS_ord (par := par) (kids := kids) (n := n) ht h0
  refine ⟨fun a x y b he hk => ?_, fun a x he hk => ?_⟩
  · rw [h1] at he
    rcases List.eq_nil_or_concat b with rfl | ⟨b', z, rfl⟩
    · have e : st.ord ++ [t] = (a ++ [x]) ++ [y] := by rw [he]; simp
      have e2 := List.append_inj' e rfl
      have hy : t = y := by simpa using e2.2
      obtain ⟨n1, n2⟩ := h.next a x e2.1 hk
      rw [← hy, ← ht, ← n2]
      unfold takeS
      rw [if_neg n1]
    · have e : st.ord ++ [t] = (a ++ x :: y :: b') ++ [z] := by rw [he]; simp
      exact h.pairs a x y b' (List.append_inj' e rfl).1 hk
  · rw [h1] at he
    have e2 := List.append_inj' he rfl
    have hx : t = x := by simpa using e2.2
    subst hx
    rw [h3, upd_same]
    exact ⟨by simp [hk], getLastD_app _ _ hk _⟩

/-- the numbers from f up to, and without, e -/
def seg (f : Int) : Nat → List Int
  | 0 => []
  | k + 1 => f :: seg (f + 1) k
theorem seg_snoc : ∀ (k : Nat) (f : Int), seg f (k + 1) = seg f k ++ [f + k]
  | 0, f => by simp [seg]
  | k + 1, f => by rw [seg, seg_snoc k (f + 1)]; rw [seg]; simp; omega

/-- the owner takes from the end on, the others from the beginning on -/
def wideF (fe : Int × Int × Bool) (ow : Int × Int) : Int × Int × Bool :=
  if ow.2 = 0 then (fe.1, fe.2.1 - 1, fe.2.2 && decide (ow.1 = fe.2.1)) else (fe.1 + 1, fe.2.1, fe.2.2 && decide (ow.1 = fe.1))

/-- what holds of a wide tree with n kids -/
def Wide (n m : Nat) (st : St) : Prop :=
  (st.ord = [] ∧ st.who = [] ∧ st.dq = fun i => if i = 0 then [0] else []) ∨
  ∃ (f : Int) (k : Nat) (ot wt : List Int), 1 ≤ f ∧ f + k - 1 ≤ n ∧ st.ord = 0 :: ot ∧ st.who = 0 :: wt ∧ (f - 1) + (n - (f + k - 1)) = ot.length ∧ ot.length = wt.length ∧
    st.dq 0 = seg f k ∧ (∀ i, 0 < i → i < m → st.dq i = []) ∧ (ot.zip wt).foldl wideF (1, (n : Int), true) = (f, f + k - 1, true)

theorem stealAt_zero {dq : Nat → List Int} {m w : Nat} (hm : 0 < m) (h0 : dq 0 ≠ []) (hd : ∀ i, 0 < i → i < m → dq i = []) : ∀ (f i j : Nat), i ≤ j → j < i + f → (w + j) % m = 0 → stealAt dq m w f i = some 0
  | 0, i, j, h1, h2, _ => by omega
  | f + 1, i, j, h1, h2, h3 => by
    unfold stealAt
    by_cases hz : (w + i) % m = 0
    · rw [hz, if_neg h0]
    · rw [if_pos (hd _ (by omega) (Nat.mod_lt _ hm))]
      refine stealAt_zero hm h0 hd f (i + 1) j ?_ (by omega) h3
      rcases Nat.lt_or_ge i j with h | h
      · omega
      · have : i = j := by omega
        subst this; exact absurd h3 hz

theorem Wide.step {par : Nat → Int} {kids : Nat → List Int} {n m : Nat} {N : Nat} {st : St} (hN : N = n + 1) (h : Wide n m st) {wk : Nat} (hw : wk < m) (hw0 : st.ord = [] → wk = 0) {t : Int} (ht : (takeS st.dq m wk).1 = t) (h0 : 0 ≤ t)
    (hk0 : kids 0 = seg 1 n) (hk : ∀ i, 0 < i → kids i = []) : Wide n m (stepS par kids N m st wk) := by
  obtain ⟨h1, h2, h3⟩ := stepS_ord (par := par) (kids := kids) (n := N) ht h0
  rcases h with ⟨e1, e2, e3⟩ | ⟨f, k, ot, wt, hf, hfn, e1, e2, ec, ecl, e3, e4, e5⟩
  · have := hw0 e1
    subst this
    have eT : takeS st.dq m 0 = (0, upd st.dq 0 []) := by
      unfold takeS
      rw [e3, if_neg (by simp)]; rfl
    rw [eT] at ht h3
    simp only at ht h3
    subst ht
    refine .inr ⟨1, n, [], [], by omega, by omega, by rw [h1, e1]; rfl, by rw [h2, e2]; rfl, by simp; omega, rfl, ?_, ?_, ?_⟩
    · rw [h3, upd_same, upd_same, show (0 : Int).toNat = 0 from rfl, hk0]; rfl
    · intro i h0 hi; rw [h3, upd_other _ _ (by omega), upd_other _ _ (by omega), e3]; simp; omega
    · simp; omega
  · right
    by_cases hz : k = 0
    · subst hz
      exfalso
      have hall : ∀ i, i < m → st.dq i = [] := fun i hi => by
        by_cases h : i = 0
        · rw [h, e3]; rfl
        · exact e4 i (by omega) hi
      have hs : ∀ (f i : Nat), stealAt st.dq m wk f i = none := by
        intro f
        induction f with
        | zero => intro i; rfl
        | succ f ih => intro i; unfold stealAt; rw [if_pos (hall _ (Nat.mod_lt _ (by omega)))]; exact ih _
      have : takeS st.dq m wk = (-1, st.dq) := by
        unfold takeS; rw [if_pos (hall wk hw), hs m 0]
      rw [this] at ht; simp only at ht; omega
    · obtain ⟨k, rfl⟩ : ∃ j, k = j + 1 := ⟨k - 1, by omega⟩
      have hzip : ∀ (y z : Int), ((ot ++ [y]).zip (wt ++ [z])).foldl wideF (1, (n : Int), true) = wideF (f, f + ((k + 1 : Nat) : Int) - 1, true) (y, z) := by
        intro y z
        rw [List.zip_append ecl, List.foldl_append, e5]; rfl
      by_cases hwk : wk = 0
      · subst hwk
        have eT : takeS st.dq m 0 = (f + k, upd st.dq 0 (seg f k)) := by
          unfold takeS
          rw [e3, if_neg (by simp [seg]), seg_snoc, getLastD_app _ _ (by simp), List.dropLast_concat]; rfl
        rw [eT] at ht h3
        simp only at ht h3
        subst ht
        refine ⟨f, k, ot ++ [f + k], wt ++ [0], hf, by omega, by rw [h1, e1]; rfl, by rw [h2, e2]; rfl, by simp; omega, by simp [ecl], ?_, ?_, ?_⟩
        · rw [h3, upd_same, upd_same, hk _ (by omega), List.append_nil]
        · intro i h0 hi; rw [h3, upd_other _ _ (by omega), upd_other _ _ (by omega)]; exact e4 i h0 hi
        · rw [hzip]; unfold wideF; rw [if_pos rfl]; refine Prod.ext rfl (Prod.ext ?_ ?_)
          · show f + ((k + 1 : Nat) : Int) - 1 - 1 = f + (k : Int) - 1; omega
          · show (true && decide (f + (k : Int) = f + ((k + 1 : Nat) : Int) - 1)) = true
            rw [decide_eq_true (by omega)]; rfl
      · have hs := stealAt_zero (dq := st.dq) (m := m) (w := wk) (by omega) (by rw [e3]; simp [seg]) e4 m 0 (m - wk) (by omega) (by omega) (by rw [show wk + (m - wk) = m by omega, Nat.mod_self])
        have eT : takeS st.dq m wk = (f, upd st.dq 0 (seg (f + 1) k)) := by
          unfold takeS
          rw [if_pos (e4 wk (by omega) hw), hs]
          show ((st.dq 0).headD 0, upd st.dq 0 (st.dq 0).tail) = _
          rw [e3]; rfl
        rw [eT] at ht h3
        simp only at ht h3
        subst ht
        refine ⟨f + 1, k, ot ++ [f], wt ++ [(wk : Int)], by omega, by omega, by rw [h1, e1]; rfl, by rw [h2, e2]; rfl, by simp; omega, by simp [ecl], ?_, ?_, ?_⟩
        · rw [h3, upd_other _ _ (by omega), upd_same]
        · intro i h0 hi
          rw [h3]
          by_cases e : i = wk
          · rw [e, upd_same, upd_other _ _ hwk, hk _ (by omega), e4 wk (by omega) hw]; rfl
          · rw [upd_other _ _ e, upd_other _ _ (by omega)]; exact e4 i h0 hi
        · rw [hzip]; unfold wideF; rw [if_neg (by show ¬ ((wk : Int) = 0); omega)]; refine Prod.ext rfl (Prod.ext ?_ ?_)
          · show f + ((k + 1 : Nat) : Int) - 1 = f + 1 + (k : Int) - 1; omega
          · show (true && decide (f = f)) = true
            rw [decide_eq_true rfl]; rfl
end Go.Proofs.Ytgdnkgfgakhpeaa
