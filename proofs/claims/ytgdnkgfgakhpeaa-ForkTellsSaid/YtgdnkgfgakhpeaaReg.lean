/-
  A region that draws its order: what reads is taken first; what writes or makes memory is then looked at in each order that is left.
  C: what holds of the world as long as something is still to be read. B: the operations that wait for all that reads: behind them C need not hold.
-/
import Derived.Test.YtgdnkgfgakhpeaaMem
import Derived.Deep.Quiet
import Derived.StillTail
namespace Go.Proofs.Ytgdnkgfgakhpeaa
open Go.RowKit Go

section
variable {P : Program} {ops : Array Oper} {md : Region.Mode} {C : World → Prop} {Q : Exit → Act → World → Prop}

/-- one value in every world of the class, which is left as it is -/
def quietE (P : Program) (o : Oper) (a : Act) (C : World → Prop) (next : Act → Prop) : Prop :=
  ∃ v, (∀ w, C w → Oper.quietUpon P (fun w'' => w'' = w) w v ((execOp a.eval o).run P w)) ∧ next (a.put o.dst v)

/-- operations in their order; the flag: does it ask for the class? -/
def wpE (P : Program) (ops : Array Oper) (C : World → Prop) (Q : Act → Prop) : List (Bool × Oper) → Act → Prop
  | [], a => Q a
  | o :: rest, a => if Region.wanted o.2 (yielded ops a.tmps) then quietE P o.2 a (fun w => o.1 = true → C w) (wpE P ops C Q rest) else wpE P ops C Q rest (a.put o.2.dst undef)

theorem wpE_nil {Q : Act → Prop} {a : Act} (h : Q a) : wpE P ops C Q [] a := h
theorem wpE_read {Q : Act → Prop} {a : Act} {o : Oper} {rest : List (Bool × Oper)}
    (h : ∀ K : Act → Prop, (∀ a, wpE P ops C Q rest a → K a) → if Region.wanted o (yielded ops a.tmps) then quietE P o a C K else K (a.put o.dst undef)) : wpE P ops C Q ((true, o) :: rest) a := by
  have := h (wpE P ops C Q rest) (fun _ h => h)
  simp only [wpE, true_implies]
  exact this
theorem wpE_pure {Q : Act → Prop} {a : Act} {o : Oper} {rest : List (Bool × Oper)}
    (h : ∀ K : Act → Prop, (∀ a, wpE P ops C Q rest a → K a) → if Region.wanted o (yielded ops a.tmps) then quietE P o a (fun _ => True) K else K (a.put o.dst undef)) : wpE P ops C Q ((false, o) :: rest) a := by
  have := h (wpE P ops C Q rest) (fun _ h => h)
  simp only [wpE, Bool.false_eq_true, false_implies]
  exact this

def YieldsE (P : Program) (ops : Array Oper) (C : World → Prop) (o : Oper) (v : Value) (a : Act) : Prop :=
  (Region.wanted o (yielded ops a.tmps) = true ∧ ∀ w, C w → Oper.quietUpon P (fun w'' => w'' = w) w v ((execOp a.eval o).run P w)) ∨
  (Region.wanted o (yielded ops a.tmps) = false ∧ v = undef)

theorem YieldsE.of_same {o : Oper} {v : Value} {a a' : Act} (hy : YieldsE P ops C o v a) (he : execOp a'.eval o = execOp a.eval o)
    (hw : Region.wanted o (yielded ops a'.tmps) = Region.wanted o (yielded ops a.tmps)) : YieldsE P ops C o v a' := by
  unfold YieldsE at *
  rw [he, hw]
  exact hy

theorem wp_of_upon {o : Oper} {a : Act} {K : Act → World → Prop} {w : World} {v : Value}
    (hu : Oper.quietUpon P (fun w'' => w'' = w) w v ((execOp a.eval o).run P w)) (h : K (a.put o.dst v) w) : o.wp P a w K Q := by
  unfold Oper.wp
  generalize (execOp a.eval o).run P w = r at *
  cases r with
  | ok x w' =>
    cases x <;> simp only [Oper.quietUpon] at hu <;> simp only [Oper.upon]
    case value u =>
      obtain ⟨e1, e2⟩ := hu
      rw [e1, e2]
      exact h
    case skip =>
      obtain ⟨e1, e2⟩ := hu
      rw [e1, ← e2]
      exact h
    case enter f args =>
      obtain ⟨e1, hc⟩ := hu
      rw [e1]
      exact hc.mono fun e w'' ⟨he, hw''⟩ => by subst he; subst hw''; exact h
  | halt x w' => simp only [Oper.quietUpon] at hu

theorem YieldsE.wpOp {i : Nat} {o : Oper} {v : Value} {a : Act} (hi : ops[i]? = some o) (hy : YieldsE P ops C o v a) {K : Act → World → Prop} {w : World} (hw : C w) (h : K (a.put o.dst v) w) : wpOp P ops Q i K a w := by
  unfold Go.wpOp
  simp only [hi]
  rcases hy with ⟨hx, hv⟩ | ⟨hx, rfl⟩
  · simp only [hx, if_true]; exact .inl (wp_of_upon (hv w hw) h)
  · simp only [hx, Bool.false_eq_true, if_false]; exact h

/-- whether oi's value lies there already makes no difference to oj -/
theorem wpOp_putE {j : Nat} {oi oj : Oper} {v : Value} (hj : ops[j]? = some oj) (hap : oi.apart ops oj = true)
    (hsi : ∀ cs b, oi.op ≠ .select cs b) (hsj : ∀ cs b, oj.op ≠ .select cs b)
    (hQ : ∀ c a w, Q (.panic c) (a.put oi.dst v) w → Q (.panic c) a w) {K : Act → World → Prop} {a : Act} {w : World}
    (hy : YieldsE P ops C oi v a) (h : wpOp P ops Q j K (a.put oi.dst v) w) :
    wpOp P ops Q j (fun a' w' => YieldsE P ops C oi v a' ∧ K (a'.put oi.dst v) w') a w := by
  obtain ⟨h1, h2, h3⟩ := Oper.apart_spec hap
  have keep : ∀ (a : Act), YieldsE P ops C oi v a → ∀ u, YieldsE P ops C oi v (a.put oj.dst u) := fun a hy u =>
    hy.of_same (execOp_put oi hsi a oj.dst u h3) (wanted_put oi a oj.dst u h3)
  have keepD : ∀ d, YieldsE P ops C oi v { a with defers := d :: a.defers } := fun d => hy.of_same rfl rfl
  unfold wpOp at *
  simp only [hj] at *
  rw [wanted_put oj a oi.dst v h1] at h
  have hex := execOp_put oj hsj a oi.dst v h1
  by_cases hw : Region.wanted oj (yielded ops a.tmps) = true
  · simp only [hw, if_true] at h ⊢
    rcases h with h | ⟨hasks, hlets⟩
    · left
      unfold Oper.wp at *
      rw [hex] at h
      generalize (execOp a.eval oj).run P w = r at *
      cases r with
      | halt x w' =>
        cases x <;> simp only [Oper.upon] at h ⊢
        case panic u => exact hQ _ _ _ h
      | ok n w' =>
        cases n <;> simp only [Oper.upon] at h ⊢
        case value u => rw [← Act.put_comm a v u h2]; exact ⟨keep a hy u, h⟩
        case skip => rw [← Act.put_comm a v undef h2]; exact ⟨keep a hy _, h⟩
        case defer d =>
          refine ⟨keep _ (keepD d) _, ?_⟩
          rw [← Act.put_comm _ v undef h2, ← Act.put_defers]
          exact h
        case row row args => exact Rows.mono h fun u w'' he => by rw [← Act.put_comm a v u h2]; exact ⟨keep a hy u, he⟩
        case enter f args =>
          refine Calls.mono h fun e w'' he => ?_
          cases e with
          | returned u => exact ⟨keep a hy u, by rw [← Act.put_comm a v u h2]; exact he⟩
          | panicked c => exact hQ _ _ _ he
          | outgrown => exact he
    · right
      refine ⟨?_, hlets⟩
      unfold Oper.asks at *
      rw [hex] at hasks
      exact hasks
  · simp only [hw] at h ⊢
    rw [← Act.put_comm a v undef h2]
    exact ⟨keep a hy _, h⟩

/-- whatever order is picked from here on; C holds behind each operation that is not one of B -/
def anyB (P : Program) (md : Region.Mode) (ops : Array Oper) (Q : Exit → Act → World → Prop) (C : World → Prop) (B : Nat → Bool) : Nat → Array Bool → Act → World → Prop
  | 0, listed, a, w => Region.ready md ops listed = [] ∧ Q .normal a w
  | f + 1, listed, a, w => (Region.ready md ops listed = [] → Q .normal a w) ∧
    ∀ i ∈ Region.ready md ops listed, wpOp P ops Q i (fun a' w' => (B i = false → C w → C w') ∧ anyB P md ops Q C B f (listed.setIfInBounds i true) a' w') a w

theorem wpAny_of_anyB {B : Nat → Bool} : ∀ (f : Nat) (listed : Array Bool) (a : Act) (w : World), anyB P md ops Q C B f listed a w → wpAny P md ops Q f listed a w
  | 0, _, _, _, h => h
  | f + 1, _, _, _, h => ⟨h.1, fun i hi => wpOp_mono (fun _ _ h' => wpAny_of_anyB f _ _ _ h'.2) (h.2 i hi)⟩

theorem anyB_first {B : Nat → Bool} {i : Nat} {oi : Oper} {v : Value} (hi : ops[i]? = some oi) (hsel : ∀ (j : Nat) (o : Oper) cs b, ops[j]? = some o → o.op ≠ .select cs b)
    (hQ : ∀ c a w, Q (.panic c) (a.put oi.dst v) w → Q (.panic c) a w)
    {C' : World → Prop} 
    (hB : (∀ w, C' w) ∨ (∀ w, C w ↔ C' w) ∧ ∀ j oj, ops[j]? = some oj → B j = true → ∃ e ∈ oj.after, Region.binds md e = true ∧ e.on = i) (hBi : B i = false) :
    ∀ (f : Nat) (listed : Array Bool) (a : Act) (w : World),
      (∀ j oj, ops[j]? = some oj → j ≠ i → listed.getD j true = false → (∀ e ∈ oj.after, Region.binds md e = true → e.on ≠ i) → oi.apart ops oj = true) →
      i ∈ Region.ready md ops listed → YieldsE P ops C' oi v a → C' w →
      anyB P md ops Q C B f (listed.setIfInBounds i true) (a.put oi.dst v) w → anyB P md ops Q C B (f + 1) listed a w := by
  intro f
  induction f with
  | zero =>
    intro listed a w _ hr hy hw H
    refine ⟨fun h => (by rw [h] at hr; cases hr), fun j hj => ?_⟩
    by_cases hji : j = i
    · subst hji; exact hy.wpOp hi hw ⟨fun _ h => h, H⟩
    · have := ready_mono hj hji
      rw [H.1] at this
      cases this
  | succ f ih =>
    intro listed a w hfree hr hy hw H
    refine ⟨fun h => (by rw [h] at hr; cases hr), fun j hj => ?_⟩
    by_cases hji : j = i
    · subst hji; exact hy.wpOp hi hw ⟨fun _ h => h, H⟩
    · have h1 := H.2 j (ready_mono hj hji)
      obtain ⟨hjun, oj, hoj, hall⟩ := mem_ready.1 hj
      have hun := (mem_ready.1 hr).1
      have hnot : ∀ e ∈ oj.after, Region.binds md e = true → e.on ≠ i := fun e he hb heq => by
        have h1 := hall e he hb
        rw [heq, getD_both hun] at h1
        cases h1
      have hC' : ∀ w', (B j = false → C w → C w') → C' w' := fun w' h => by
        rcases hB with hB | ⟨hI, hB⟩
        · exact hB w'
        · refine (hI w').1 (h ?_ ((hI w).2 hw))
          rw [Bool.eq_false_iff]
          intro h
          obtain ⟨e, he, hb, hon⟩ := hB j oj hoj h
          exact hnot e he hb hon
      have h2 := wpOp_putE hoj (hfree j oj hoj hji hjun hnot) (fun cs b => hsel i oi cs b hi) (fun cs b => hsel j oj cs b hoj) hQ hy h1
      have hfree' : ∀ k ok, ops[k]? = some ok → k ≠ i → (listed.setIfInBounds j true).getD k true = false →
          (∀ e ∈ ok.after, Region.binds md e = true → e.on ≠ i) → oi.apart ops ok = true := fun k ok hk hki hunk hno => by
        refine hfree k ok hk hki ?_ hno
        by_cases hjk : j = k
        · subst hjk; exact hjun
        · rw [getD_set_ne true hjk] at hunk; exact hunk
      refine wpOp_mono (fun a' w' h3 => ⟨h3.2.1, ih (listed.setIfInBounds j true) a' w' hfree' (ready_mono hr (Ne.symm hji)) h3.1 (hC' w' h3.2.1) ?_⟩) h2
      rw [Array.setIfInBounds_comm _ _ hji]
      exact h3.2.2

/-- the operations ks may be taken first, one behind the other; those with the flag read -/
def okE (md : Region.Mode) (ops : Array Oper) (B : List Nat) : List (Nat × Bool) → Array Bool → Bool
  | [], _ => true
  | (k, r) :: ks, listed => (Region.ready md ops listed).contains k && Region.free md ops listed k && !B.contains k && (!r || B.all fun j => Region.waitsFor md ops j k) && okE md ops B ks (listed.setIfInBounds k true)
def listE : List (Nat × Bool) → Array Bool → Array Bool
  | [], listed => listed
  | (k, _) :: ks, listed => listE ks (listed.setIfInBounds k true)

theorem anyB_lex {B : List Nat} {g : Nat} {Lq : Act → Prop} {w : World} (hw : C w) (hsel : Region.noSelect ops = true) (hQ : ∀ d v c a w, Q (.panic c) (Act.put a d v) w → Q (.panic c) a w) :
    ∀ (ks : List (Nat × Bool)) (l : List (Bool × Oper)) (listed : Array Bool) (a : Act), ks.map (fun p => (ops[p.1]?).map fun o => (p.2, o)) = l.map some → okE md ops B ks listed = true →
    (∀ a', Lq a' → anyB P md ops Q C (fun j => B.contains j) g (listE ks listed) a' w) → wpE P ops C Lq l a → anyB P md ops Q C (fun j => B.contains j) (ks.length + g) listed a w
  | [], l, listed, a, hl, _, hL, h => by
    have : l = [] := by cases l with | nil => rfl | cons x y => simp at hl
    subst this
    rw [List.length_nil, Nat.zero_add]
    exact hL a h
  | (k, r) :: ks, l, listed, a, hl, hB, hL, h => by
    cases l with
    | nil => simp at hl
    | cons bo l =>
      obtain ⟨b, o⟩ := bo
      simp only [List.map_cons, List.cons.injEq] at hl
      simp only [okE, Bool.and_eq_true] at hB
      obtain ⟨⟨⟨⟨hr', hf⟩, hBk⟩, hBw⟩, hB'⟩ := hB
      obtain ⟨o', h0, he⟩ := Option.map_eq_some_iff.1 hl.1
      cases he
      rw [show ((k, r) :: ks).length + g = (ks.length + g) + 1 by simp; omega]
      have key : ∃ v, YieldsE P ops (fun w => r = true → C w) o v a ∧ wpE P ops C Lq l (a.put o.dst v) := by
        simp only [wpE] at h
        by_cases hx : Region.wanted o (yielded ops a.tmps) = true
        · rw [if_pos hx] at h
          obtain ⟨v, h1, h2⟩ := h
          exact ⟨v, .inl ⟨hx, h1⟩, h2⟩
        · rw [if_neg hx] at h
          exact ⟨undef, .inr ⟨by simpa using hx, rfl⟩, h⟩
      obtain ⟨v, hy, hK⟩ := key
      refine anyB_first h0 (Region.noSelect_spec hsel) (hQ o.dst v) ?_ (by simpa using hBk) _ _ _ _ (Region.free_spec h0 hf) (by simpa using hr') hy (fun _ => hw)
        (anyB_lex hw hsel hQ ks l _ _ hl.2 hB' hL hK)
      by_cases hLk : r = true
      · right
        refine ⟨fun w => ⟨fun h _ => h, fun h => h hLk⟩, fun j oj hj hBj => ?_⟩
        rw [hLk] at hBw
        have := List.all_eq_true.1 (by simpa using hBw : B.all (fun j => Region.waitsFor md ops j k) = true) j (by simpa using hBj)
        obtain ⟨oj', hoj', e, he, hb, hon⟩ := Region.waitsFor_spec this
        rw [hj] at hoj'
        cases hoj'
        exact ⟨e, he, hb, hon⟩
      · exact .inl fun w h => absurd h hLk

/-- the operations at some places, and whether they read -/
def opsAt (l : List Oper) : List (Nat × Bool) → List (Bool × Oper)
  | [] => []
  | (k, r) :: ks => (r, l.getD k default) :: opsAt l ks

/-- THE RULE. ks: what makes and writes nothing, in an order that may be, and whether it reads; B: what waits for all that read. -/
theorem wp_region_F {id : Nat} {a : Act} {w : World} {l : List Oper} (ks : List (Nat × Bool)) (B : List Nat) (C : World → Prop) (hm : P.follows .mixedOrders = true)
    (hB : (Region.noSelect l.toArray && okE .any l.toArray B ks (Array.replicate l.length false) && decide (ks.length ≤ l.length)) = true)
    (hk : ks.map (fun p => (l.toArray[p.1]?).map fun o => (p.2, o)) = (opsAt l ks).map some) (hC : C w.drew)
    (hQ : ∀ d v c a w, Q (.panic c) (Act.put a d v) w → Q (.panic c) a w)
    (h : wpE P l.toArray C (fun a' => anyB P .any l.toArray Q C (fun j => B.contains j) (l.length - ks.length) (listE ks (Array.replicate l.length false)) a' w.drew) (opsAt l ks) a) : (Code.region id l.toArray true).wp P Q a w := by
  simp only [Bool.and_eq_true, decide_eq_true_eq] at hB
  refine wp_region_any hm (wpAny_of_anyB (C := C) (B := fun j => B.contains j) _ _ _ _ ?_)
  have := anyB_lex (md := .any) (g := l.length - ks.length) (B := B) hC hB.1.1 hQ ks _ (Array.replicate l.length false) a hk hB.1.2 (fun a' h => h) h
  rw [show ks.length + (l.length - ks.length) = l.length by omega] at this
  simpa using this

/-- what may come up next is i alone -/
theorem anyB_one {B : Nat → Bool} {f : Nat} {listed : Array Bool} {a : Act} {w : World} (i : Nat) (o : Oper) (hr : Region.ready md ops listed = [i]) (ho : ops[i]? = some o)
    (h : ∀ K : Act → World → Prop, (∀ a' w', (B i = false → C w → C w') → anyB P md ops Q C B f (listed.setIfInBounds i true) a' w' → K a' w') → if Region.wanted o (yielded ops a.tmps) = true then o.wp P a w K Q else K (a.put o.dst undef) w) :
    anyB P md ops Q C B (f + 1) listed a w := by
  refine ⟨fun h0 => (by rw [hr] at h0; cases h0), fun j hj => ?_⟩
  rw [hr] at hj
  obtain rfl : j = i := by simpa using hj
  have := h (fun a' w' => (B j = false → C w → C w') ∧ anyB P md ops Q C B f (listed.setIfInBounds j true) a' w') (fun a' w' h1 h2 => ⟨h1, h2⟩)
  unfold wpOp
  simp only [ho]
  split
  · rename_i hx; rw [if_pos hx] at this; exact .inl this
  · rename_i hx; rw [if_neg hx] at this; exact this

theorem anyB_two {B : Nat → Bool} {f : Nat} {listed : Array Bool} {a : Act} {w : World} (i j : Nat) (oi oj : Oper) (hr : Region.ready md ops listed = [i, j]) (hoi : ops[i]? = some oi) (hoj : ops[j]? = some oj)
    (h1 : ∀ K : Act → World → Prop, (∀ a' w', (B i = false → C w → C w') → anyB P md ops Q C B f (listed.setIfInBounds i true) a' w' → K a' w') → if Region.wanted oi (yielded ops a.tmps) = true then oi.wp P a w K Q else K (a.put oi.dst undef) w)
    (h2 : ∀ K : Act → World → Prop, (∀ a' w', (B j = false → C w → C w') → anyB P md ops Q C B f (listed.setIfInBounds j true) a' w' → K a' w') → if Region.wanted oj (yielded ops a.tmps) = true then oj.wp P a w K Q else K (a.put oj.dst undef) w) :
    anyB P md ops Q C B (f + 1) listed a w := by
  refine ⟨fun h0 => (by rw [hr] at h0; cases h0), fun k hk => ?_⟩
  rw [hr] at hk
  rcases (by simpa using hk : k = i ∨ k = j) with rfl | rfl
  · have := h1 (fun a' w' => (B k = false → C w → C w') ∧ anyB P md ops Q C B f (listed.setIfInBounds k true) a' w') (fun a' w' h1 h2 => ⟨h1, h2⟩)
    unfold wpOp
    simp only [hoi]
    split
    · rename_i hx; rw [if_pos hx] at this; exact .inl this
    · rename_i hx; rw [if_neg hx] at this; exact this
  · have := h2 (fun a' w' => (B k = false → C w → C w') ∧ anyB P md ops Q C B f (listed.setIfInBounds k true) a' w') (fun a' w' h1 h2 => ⟨h1, h2⟩)
    unfold wpOp
    simp only [hoj]
    split
    · rename_i hx; rw [if_pos hx] at this; exact .inl this
    · rename_i hx; rw [if_neg hx] at this; exact this

theorem anyB_end {B : Nat → Bool} {listed : Array Bool} {a : Act} {w : World} (hr : Region.ready md ops listed = []) (h : Q .normal a w) : ∀ f, anyB P md ops Q C B f listed a w
  | 0 => ⟨hr, h⟩
  | _ + 1 => ⟨fun _ => h, by rw [hr]; simp⟩

/-- the rest stands in one order, nothing is to be read any more -/
theorem anyB_seq {B : Nat → Bool} : ∀ (l : List Oper) (k : Nat) (listed : Array Bool) (a : Act) (w : World), (∀ j, l[j]? = ops[k + j]?) →
    Region.seqB md ops l.length k listed = true → (∀ j, j < l.length → B (k + j) = true) → wpList P ops Q l a w → anyB P md ops Q C B l.length listed a w
  | [], _, _, _, _, _, hB, _, h => ⟨by simpa [Region.seqB] using hB, h⟩
  | o :: l, k, listed, a, w, hl, hB, hb, h => by
    have h0 : ops[k]? = some o := by simpa using (hl 0).symm
    simp only [List.length_cons, Region.seqB, Bool.and_eq_true, decide_eq_true_eq] at hB
    refine ⟨fun h1 => (by rw [hB.1] at h1; cases h1), fun i hi => ?_⟩
    rw [hB.1] at hi
    obtain rfl : i = k := by simpa using hi
    have hbi : B i = true := hb 0 (by simp)
    have hw : wpOp P ops Q i (wpList P ops Q l) a w := by unfold wpOp; simp only [h0]; exact h
    exact wpOp_mono (fun a' w' h' => ⟨fun hf => (by rw [hbi] at hf; cases hf), anyB_seq l (i + 1) _ a' w' (fun j => by have := hl (j + 1); simpa [Nat.add_assoc, Nat.add_comm 1 j] using this) hB.2 (fun j hj => by have := hb (j + 1) (by simp; omega); simpa [Nat.add_assoc, Nat.add_comm 1 j] using this) h'⟩) hw

theorem anyB_tail {l : List Oper} {B : Nat → Bool} (k : Nat) {g : Nat} {listed : Array Bool} {a : Act} {w : World} (hg : g = l.length - k)
    (hB : Region.seqB md l.toArray g k listed = true) (hb : ∀ j, j < g → B (k + j) = true) (h : wpList P l.toArray Q (l.drop k) a w) : anyB P md l.toArray Q C B g listed a w := by
  have hl : (l.drop k).length = g := by simp [hg]
  have := anyB_seq (P := P) (md := md) (Q := Q) (C := C) (B := B) (ops := l.toArray) (l.drop k) k listed a w (fun j => by simp [List.getElem?_drop]) (by rw [hl]; exact hB) (by rw [hl]; exact hb) h
  rwa [hl] at this

/-- worlds of which something holds -/
structure HW (Φ : World → Prop) where
  w : World
  h : Φ w
theorem HW.mk' {Φ : World → Prop} {w : World} (h : Φ w) : ∃ x : HW Φ, w = x.w := ⟨⟨w, h⟩, rfl⟩
theorem HW.all {Φ : World → Prop} {w : World} (h : ∃ x : HW Φ, w = x.w) : Φ w := by obtain ⟨x, rfl⟩ := h; exact x.h
end
end Go.Proofs.Ytgdnkgfgakhpeaa
