/- Parts of a proof, merged: Both sides have the same answer: rounding, day counts, grains. · Both sides have the same answer: grains, days, periods. · CbLives3 · Both sides have the same answer: days, series, periods, the law. · The table rounding.steps, as the row lays it. Conditions: none. -/
import Derived.Test.YtkiolflkkbfaiaaGreatDoorPk5
import Derived.Test.YtkiolflkkbfaiaaGreatDoorPk2
import Derived.KernelRfl
import Derived.Test.YtkiolflkkbfaiaaGreatDoorPk1
import Derived.Test.YtkiolflkkbfaiaaGreatDoorRows
import Derived.OpenShut
import Derived.MakeChecks
import Derived.FnData
set_option linter.unusedSimpArgs false
set_option linter.unusedVariables false
namespace Go.Cb
open Go.Eng Go.RowKit
theorem glist_mono {τ : Type} {G H : Nat → τ → Prop} {n : Nat} {l : List τ} (h : ∀ x, G n x → H n x) (hl : gList G n l) : gList H n l := ⟨hl.1, fun y hy => h y (hl.2 y hy)⟩
theorem gsz_ApiCurrency {n : Nat} {x : ApiCurrency} (h : ApiCurrency.good n x) : ApiCurrency.sz n x := h.1
theorem gsz_ApiCalendar {n : Nat} {x : ApiCalendar} (h : ApiCalendar.good n x) : ApiCalendar.sz n x := ⟨h.1, (good_any h.2.1), (good_any h.2.2)⟩
theorem gsz_ApiGl {n : Nat} {x : ApiGl} (h : ApiGl.good n x) : ApiGl.sz n x := h.2.2.2
theorem gsz_ApiInterest {n : Nat} {x : ApiInterest} (h : ApiInterest.good n x) : ApiInterest.sz n x := (good_any h.1)
theorem gsz_ApiExpr {n : Nat} {x : ApiExpr} (h : ApiExpr.good n x) : ApiExpr.sz n x := by
  induction h with
  | mk a_Op a_N a_S a_Args b_Args ih => exact .mk a_S a_Args ih
theorem gsz_ApiFee {n : Nat} {x : ApiFee} (h : ApiFee.good n x) : ApiFee.sz n x := ⟨h.1, (gsz_ApiExpr h.2.2.1), (gsz_ApiExpr h.2.2.2)⟩
theorem gsz_ApiRule {n : Nat} {x : ApiRule} (h : ApiRule.good n x) : ApiRule.sz n x := ⟨h.1, (gsz_ApiExpr h.2.2)⟩
theorem gsz_ApiProduct {n : Nat} {x : ApiProduct} (h : ApiProduct.good n x) : ApiProduct.sz n x := ⟨h.1, h.2.1, h.2.2.1, (gsz_ApiInterest h.2.2.2.2.2.2.2.1), (gsz_ApiInterest h.2.2.2.2.2.2.2.2.1), (glist_mono (fun _ h => gsz_ApiFee h) h.2.2.2.2.2.2.2.2.2.1), (glist_mono (fun _ h => gsz_ApiRule h) h.2.2.2.2.2.2.2.2.2.2)⟩
theorem gsz_ApiAccount {n : Nat} {x : ApiAccount} (h : ApiAccount.good n x) : ApiAccount.sz n x := ⟨h.2.2.2.2.1, h.2.2.2.2.2.1, h.2.2.2.2.2.2⟩
theorem gsz_ApiLeg {n : Nat} {x : ApiLeg} (h : ApiLeg.good n x) : ApiLeg.sz n x := h.2.2
theorem gsz_ApiEntry {n : Nat} {x : ApiEntry} (h : ApiEntry.good n x) : ApiEntry.sz n x := ⟨h.2.2.2.2.2.2.1, h.2.2.2.2.2.2.2.1, (glist_mono (fun _ h => gsz_ApiLeg h) h.2.2.2.2.2.2.2.2.1)⟩
theorem gsz_ApiHold {n : Nat} {x : ApiHold} (h : ApiHold.good n x) : ApiHold.sz n x := h.2.2.2.2.2
theorem gsz_ApiBlock {n : Nat} {x : ApiBlock} (h : ApiBlock.good n x) : ApiBlock.sz n x := h.2.2.2.2.2.2
theorem gsz_ApiBooks {n : Nat} {x : ApiBooks} (h : ApiBooks.good n x) : ApiBooks.sz n x := ⟨(glist_mono (fun _ h => gsz_ApiCurrency h) h.1), (glist_mono (fun _ h => gsz_ApiCalendar h) h.2.1), (glist_mono (fun _ h => gsz_ApiGl h) h.2.2.1), (glist_mono (fun _ h => gsz_ApiProduct h) h.2.2.2.2.1), (glist_mono (fun _ h => gsz_ApiAccount h) h.2.2.2.2.2.1), (glist_mono (fun _ h => gsz_ApiEntry h) h.2.2.2.2.2.2.1), (glist_mono (fun _ h => gsz_ApiHold h) h.2.2.2.2.2.2.2.1), (glist_mono (fun _ h => gsz_ApiBlock h) h.2.2.2.2.2.2.2.2)⟩
theorem gsz_ApiVar {n : Nat} {x : ApiVar} (h : ApiVar.good n x) : ApiVar.sz n x := h.1
theorem gsz_ApiMoney {n : Nat} {x : ApiMoney} (h : ApiMoney.good n x) : ApiMoney.sz n x := h.1
theorem i64_of {n : Nat} {x : Int} (h : gInt .i64 n x) : -9223372036854775808 ≤ x ∧ x ≤ 9223372036854775807 := by
  unfold gInt Lit.wf at h
  simp only [Bool.and_eq_true, decide_eq_true_eq] at h
  exact h
theorem u64_of {n : Nat} {x : Int} (h : gInt .u64 n x) : 0 ≤ x ∧ x ≤ 18446744073709551615 := by
  unfold gInt Lit.wf at h
  simp only [Bool.and_eq_true, decide_eq_true_eq] at h
  exact h
def i64 (x : Int) : Prop := -9223372036854775808 ≤ x ∧ x ≤ 9223372036854775807
theorem wok_of {n : Nat} {x : ApiWide} (h : ApiWide.good n x) : wok x := ⟨i64_of h.1, u64_of h.2⟩
theorem i64_wrap (n : Int) : i64 (IntKind.wrap .i64 n) := by rw [wi]; unfold i64; omega
def B2 {α : Type} (p q : Option α) (Q : α → Prop) : Prop := ∃ r, p = some r ∧ q = some r ∧ Q r
section
variable {α β σ ρ : Type}
theorem B2.some {a : α} {Q : α → Prop} (h : Q a) : B2 (some a) (some a) Q := ⟨a, rfl, rfl, h⟩
theorem B2.bind {p q : Option α} {f g : α → Option β} {Q : α → Prop} {R : β → Prop} (h : B2 p q Q) (k : ∀ r, Q r → B2 (f r) (g r) R) : B2 (p.bind f) (q.bind g) R := by
  obtain ⟨r, rfl, rfl, hr⟩ := h
  exact k r hr
theorem B2.eq {p q : Option α} {Q : α → Prop} (h : B2 p q Q) : p = q := by
  obtain ⟨r, rfl, rfl, _⟩ := h; rfl
theorem B2.w {p q : Option α} {Q : α → Prop} (h : B2 p q Q) : W p Q := by
  obtain ⟨r, h1, _, h3⟩ := h; exact ⟨r, h1, h3⟩
theorem B2.w2 {p q : Option α} {Q : α → Prop} (h : B2 p q Q) : W q Q := by
  obtain ⟨r, _, h1, h3⟩ := h; exact ⟨r, h1, h3⟩
theorem B2.of {p q : Option α} {Q : α → Prop} (h : p = q) (w : W q Q) : B2 p q Q := by
  obtain ⟨r, h1, h2⟩ := w; exact ⟨r, h.trans h1, h1, h2⟩
theorem B2.ite {c : Prop} [Decidable c] {a b a' b' : Option α} {Q : α → Prop} (ha : c → B2 a a' Q) (hb : ¬ c → B2 b b' Q) : B2 (if c then a else b) (if c then a' else b') Q := by
  split
  · exact ha ‹_›
  · exact hb ‹_›
theorem B2.mono {p q : Option α} {Q R : α → Prop} (h : B2 p q Q) (k : ∀ r, Q r → R r) : B2 p q R := by
  obtain ⟨r, h1, h2, h3⟩ := h; exact ⟨r, h1, h2, k r h3⟩
theorem iterN_b2 {a b : σ → Option (σ ⊕ ρ)} (Inv : σ → Prop) (μ : σ → Nat) {Q : ρ → Prop} (h : ∀ s, Inv s → B2 (a s) (b s) (fun x => match x with | .inl s' => Inv s' ∧ μ s' < μ s | .inr r => Q r)) :
    ∀ (n : Nat) (s : σ), Inv s → μ s < n → B2 (iterN a n s) (iterN b n s) Q
  | 0, s, _, hm => by omega
  | n + 1, s, hs, hm => by
    obtain ⟨r, h1, h2, h3⟩ := h s hs
    unfold iterN
    rw [h1, h2]
    cases r with
    | inl s' => exact iterN_b2 Inv μ h n s' h3.1 (Nat.lt_of_lt_of_le h3.2 (Nat.le_of_lt_succ hm))
    | inr r => exact ⟨r, rfl, rfl, h3⟩
theorem B2.iter {a b : σ → Option (σ ⊕ ρ)} (Inv : σ → Prop) (μ : σ → Nat) {s : σ} {Q : ρ → Prop} (h0 : Inv s) (hm : μ s < 18446744073709551616) (h : ∀ s, Inv s → B2 (a s) (b s) (fun x => match x with | .inl s' => Inv s' ∧ μ s' < μ s | .inr r => Q r)) : B2 (Iter a s) (Iter b s) Q :=
  iterN_b2 Inv μ h FUEL s h0 hm
theorem iterN_post {a : σ → Option (σ ⊕ ρ)} (Inv : σ → Prop) {Q : ρ → Prop} (h : ∀ s x, Inv s → a s = Option.some x → match x with | .inl s' => Inv s' | .inr r => Q r) : ∀ (n : Nat) (s : σ) (r : ρ), Inv s → iterN a n s = Option.some r → Q r
  | 0, s, r, _, he => by cases he
  | n + 1, s, r, hs, he => by
    unfold iterN at he
    cases hx : a s with
    | none => rw [hx] at he; cases he
    | some x =>
      have := h s x hs hx
      rw [hx] at he
      cases x with
      | inl s' => exact iterN_post Inv h n s' r this he
      | inr r' =>
        have e : r' = r := Option.some.inj he
        subst e; exact this
theorem iter_post {a : σ → Option (σ ⊕ ρ)} (Inv : σ → Prop) {Q : ρ → Prop} {s : σ} {r : ρ} (h0 : Inv s) (h : ∀ s x, Inv s → a s = Option.some x → match x with | .inl s' => Inv s' | .inr r => Q r) (he : Iter a s = Option.some r) : Q r := iterN_post Inv h FUEL s r h0 he
end
theorem w_months {y : Int} (h0 : 2000 ≤ y) (hy : y ≤ 2199) {d : Int} (hd : 0 ≤ d) (hd2 : d < ylv y) : W (Iter (date_Civil_l2 y) (d, 1)) (fun r => r.1 = y ∧ (1 ≤ r.2.1 ∧ r.2.1 ≤ 12) ∧ 1 ≤ r.2.2 ∧ r.2.2 ≤ mlen y r.2.1) := by
  have hyl : ylv y = 365 ∨ ylv y = 366 := by unfold ylv; split <;> simp
  refine W.iter (fun s => 1 ≤ s.2 ∧ s.2 ≤ 12 ∧ 0 ≤ s.1 ∧ s.1 < mrest y s.2) (fun s => 12 - s.2.toNat) ⟨by simp, by simp, hd, by simpa [mrest] using hd2⟩ (by simp) (fun s hi => ?_)
  obtain ⟨a1, a2, a3, a4⟩ := hi
  unfold date_Civil_l2
  rw [e_mlen h0 a1 a2]
  refine W.bind (W.some ?_)
  have h : s.2 = 1 ∨ s.2 = 2 ∨ s.2 = 3 ∨ s.2 = 4 ∨ s.2 = 5 ∨ s.2 = 6 ∨ s.2 = 7 ∨ s.2 = 8 ∨ s.2 = 9 ∨ s.2 = 10 ∨ s.2 = 11 ∨ s.2 = 12 := by omega
  refine W.ite (fun hc => ?_) (fun hc => ?_)
  · simp only [decide_eq_true_eq] at hc
    have w2 : IntKind.wrap .i64 (s.2 + 1) = s.2 + 1 := w64_in (by omega) (by omega)
    have hm : 0 ≤ mlen y s.2 ∧ s.1 < 400 ∧ s.2 < 12 ∧ mrest y (s.2 + 1) = mrest y s.2 - mlen y s.2 := by
      rcases h with h | h | h | h | h | h | h | h | h | h | h | h <;> rw [h] at a4 hc ⊢ <;> simp [mlen, mrest] at a4 hc ⊢ <;> omega
    have w1 : IntKind.wrap .i64 (s.1 - mlen y s.2) = s.1 - mlen y s.2 := w64_in (by omega) (by omega)
    simp only [Option.bind_some]
    rw [w1]
    exact W.some ⟨⟨show 1 ≤ IntKind.wrap .i64 (s.2 + 1) by rw [w2]; omega, show IntKind.wrap .i64 (s.2 + 1) ≤ 12 by rw [w2]; omega, show 0 ≤ s.1 - mlen y s.2 by omega, show s.1 - mlen y s.2 < mrest y (IntKind.wrap .i64 (s.2 + 1)) by rw [w2]; omega⟩, show 12 - (IntKind.wrap .i64 (s.2 + 1)).toNat < 12 - s.2.toNat by rw [w2]; omega⟩
  · simp only [decide_eq_true_eq] at hc
    have hm : mlen y s.2 ≤ 31 := by
      rcases h with h | h | h | h | h | h | h | h | h | h | h | h <;> rw [h] <;> simp [mlen] <;> omega
    rw [w64_in (by omega) (by omega)]
    exact W.some ⟨rfl, ⟨a1, a2⟩, show 1 ≤ s.1 + 1 by omega, show s.1 + 1 ≤ mlen y s.2 by omega⟩
theorem w_Civil (d : Int) : W (q04_Civil d) (fun r => (0 ≤ d ∧ d ≤ 73048 → (2000 ≤ r.1 ∧ r.1 ≤ 2199) ∧ (1 ≤ r.2.1 ∧ r.2.1 ≤ 12) ∧ 1 ≤ r.2.2 ∧ r.2.2 ≤ mlen r.1 r.2.1) ∧ i64 r.1) := by
  rw [← e_Civil]
  by_cases hv' : 0 ≤ d ∧ d ≤ 73048
  · unfold date_Civil date_Valid
    have hc : (bif decide (d ≥ 0) then decide (d ≤ 73048) else false) = true := by rw [decide_eq_true hv'.1, decide_eq_true hv'.2]; rfl
    refine W.bind (W.some ?_)
    rw [hc, if_neg (by decide)]
    obtain ⟨j, hj, h1, h2⟩ := year_of hv'.1 200 (by
      have : bgv (2000 + ((200 : Nat) : Int)) = 73049 := by simp [bgv]
      omega)
    have t : d.tdiv 366 = d / 366 := Int.tdiv_eq_ediv_of_nonneg hv'.1
    have w1 : IntKind.wrap .i64 (d / 366) = d / 366 := w64_in (by omega) (by omega)
    have w2 : IntKind.wrap .i64 (2000 + d / 366) = 2000 + d / 366 := w64_in (by omega) (by omega)
    rw [t, w1, w2, e_Civil_prog (by omega) h1 h2 hv'.1 hv'.2]
    have hs := bg_succ (y := 2000 + (j : Int)) (by omega) (by omega)
    refine (w_months (y := 2000 + (j : Int)) (by omega) (by omega) (by omega) (by omega)).mono (fun r _ hr => ?_)
    obtain ⟨r1, r2, r3⟩ := hr
    rw [r1]
    exact ⟨fun _ => ⟨⟨by omega, by omega⟩, r2, r3⟩, by unfold i64; omega⟩
  · unfold date_Civil date_Valid
    have hc : (bif decide (d ≥ 0) then decide (d ≤ 73048) else false) = false := by
      by_cases h1 : 0 ≤ d
      · have h2 : ¬ d ≤ 73048 := fun h => hv' ⟨h1, h⟩
        rw [decide_eq_true h1, decide_eq_false h2]; rfl
      · rw [decide_eq_false h1]; rfl
    refine W.bind (W.some ?_)
    rw [hc, if_pos (by decide)]
    exact W.some ⟨fun h => absurd h hv', by unfold i64; simp⟩
theorem e_Thirty : daycount_Thirty = q06_Thirty := by
  funext a b
  unfold daycount_Thirty q06_Thirty
  rw [e_Valid]
  simp only [e_Civil]
theorem w_Thirty (a b : Int) : W (q06_Thirty a b) i64 := by
  unfold q06_Thirty q04_Valid
  refine W.bind (W.some ?_)
  refine W.bind (W.guard (fun _ => W.some trivial) (fun r1 => ?_))
  refine W.ite (fun _ => W.some (by unfold i64; simp)) (fun _ => ?_)
  refine W.bind ((w_Civil a).mono (fun r2 _ _ => ?_))
  refine W.bind ((w_Civil b).mono (fun r3 _ _ => ?_))
  exact W.some (i64_wrap _)
theorem b_Weight (basis day : Int) : B2 (daycount_Weight basis day) (q06_Weight basis day) i64 := by
  unfold daycount_Weight q06_Weight daycount_Weight_j0 daycount_Weight_j1
  rw [e_Valid, e_Thirty, e_Leap, e_Civil]
  have h1 : W (q04_Valid day) (fun _ => True) := W.some trivial
  refine B2.bind (B2.of rfl h1) (fun r _ => B2.ite (fun _ => B2.some (by unfold i64; simp)) (fun _ => ?_))
  obtain ⟨rc, hc, _⟩ := w_Civil day
  rw [hc]
  simp only [Option.bind_some]
  by_cases b1 : basis = 1
  · subst b1
    rw [if_neg (by decide), if_neg (by decide), if_neg (by decide), if_pos (by decide), if_pos (by decide)]
    exact B2.some (i64_wrap _)
  · by_cases b2 : basis = 2
    · subst b2
      rw [if_neg (by decide), if_pos (by decide), if_neg (by decide), if_pos (by decide)]
      exact B2.some (by unfold i64; simp)
    · by_cases b3 : basis = 3
      · subst b3
        rw [if_pos (by decide), if_neg (by decide), if_neg (by decide), if_pos (by decide)]
        have hl : W (q04_Leap rc.1) (fun _ => True) := W.some trivial
        exact B2.bind (B2.of rfl hl) (fun r2 _ => B2.ite (fun _ => B2.some (by unfold i64; simp)) (fun _ => B2.some (by unfold i64; simp)))
      · by_cases b4 : basis = 4
        · subst b4
          rw [if_neg (by decide), if_neg (by decide), if_pos (by decide), if_neg (by decide), if_neg (by decide), if_neg (by decide), if_pos (by decide)]
          refine B2.bind (B2.of rfl (w_Thirty _ _)) (fun r3 _ => ?_)
          rw [Int.mul_comm r3]
          exact B2.some (i64_wrap _)
        · have c1 : ¬ (basis == 1) = true := by simpa using b1
          have c2 : ¬ (basis == 2) = true := by simpa using b2
          have c3 : ¬ (basis == 3) = true := by simpa using b3
          have c4 : ¬ (basis == 4) = true := by simpa using b4
          rw [if_neg c3, if_neg c2, if_neg c4, if_neg c1, if_neg c1, if_neg c2, if_neg c3, if_neg c4]
          exact B2.some (by unfold i64; simp)
theorem b_Int {a : ApiWide} (h : wok a) : B2 (wide_Int a) (q01_Int a) (fun r => i64 r.1 ∧ (r.2 = false → r.1 = 0)) := by
  have hw := i64_wrap a.Lo
  unfold wide_Int q01_Int
  rw [e_Of hw.1 hw.2, r_Of hw.1 hw.2]
  simp only [Option.bind_some]
  cases ((mk128 (IntKind.wrap .i64 a.Lo)).Hi == a.Hi && ((mk128 (IntKind.wrap .i64 a.Lo)).Lo == a.Lo && true)) with
  | true => exact B2.some ⟨hw, fun h => by cases h⟩
  | false => exact B2.some ⟨by unfold i64; simp, fun _ => rfl⟩
theorem b_Divide_j0 {x : ApiWide} (h : wok x) : B2 (rounding_Divide_j0 (x.Hi, x.Lo)) (q02_Divide_j0 (x.Hi, x.Lo)) (fun r => i64 r.1 ∧ (r.2 ≠ 0 → r.1 = 0)) := by
  unfold rounding_Divide_j0 q02_Divide_j0
  refine B2.bind (b_Int h) (fun r hr => B2.ite (fun _ => B2.some ⟨by unfold i64; simp, fun _ => rfl⟩) (fun _ => B2.some ⟨hr.1, fun h => absurd rfl h⟩))
theorem s_more {q : ApiWide} {rest n mode : Int} (hq : wok q) (hm : 1 ≤ mode) (hm1 : mode ≤ 6) (hr : 0 < rest) (hr1 : rest < n) (hn : n ≤ 9223372036854775807) :
    ∃ b, q02_up (decide (q.Hi < 0)) ((q.Lo.tmod 2) == 1) rest n mode = some b ∧ rounding_more q rest n mode = some (if b then 1 else 0) := by
  have wn : IntKind.wrap .i64 (n - rest) = n - rest := w64_in (by omega) (by omega)
  unfold q02_up rounding_more
  rw [wn, and_1 hq.2.1 (by have := hq.2.2; omega), Int.tmod_eq_emod_of_nonneg hq.2.1]
  have w2 : IntKind.wrap .i64 (q.Lo % 2) = q.Lo % 2 := w64_in (by omega) (by omega)
  rw [w2]
  have hc : mode = 1 ∨ mode = 2 ∨ mode = 3 ∨ mode = 4 ∨ mode = 5 ∨ mode = 6 := by omega
  by_cases hneg : q.Hi < 0
  · rw [decide_eq_true hneg]
    rcases hc with rfl | rfl | rfl | rfl | rfl | rfl
    · exact ⟨true, rfl, rfl⟩
    · exact ⟨false, rfl, rfl⟩
    · exact ⟨false, rfl, rfl⟩
    · exact ⟨true, rfl, rfl⟩
    · by_cases c1 : rest > n - rest
      · have e : (rest != n - rest) = true := by simp; omega
        rw [e, decide_eq_true c1]; exact ⟨true, rfl, rfl⟩
      · by_cases c2 : rest < n - rest
        · have e : (rest != n - rest) = true := by simp; omega
          rw [e, decide_eq_true c2, decide_eq_false c1]; exact ⟨false, rfl, rfl⟩
        · have e : (rest != n - rest) = false := by simp; omega
          rw [e, decide_eq_false c2, decide_eq_false c1]; exact ⟨false, rfl, rfl⟩
    · by_cases c1 : rest > n - rest
      · have e : (rest != n - rest) = true := by simp; omega
        rw [e, decide_eq_true c1]; exact ⟨true, rfl, rfl⟩
      · by_cases c2 : rest < n - rest
        · have e : (rest != n - rest) = true := by simp; omega
          rw [e, decide_eq_true c2, decide_eq_false c1]; exact ⟨false, rfl, rfl⟩
        · have e : (rest != n - rest) = false := by simp; omega
          rw [e, decide_eq_false c2, decide_eq_false c1]
          by_cases h2 : q.Lo % 2 = 1
          · rw [h2]; exact ⟨true, rfl, rfl⟩
          · have : q.Lo % 2 = 0 := by omega
            rw [this]; exact ⟨false, rfl, rfl⟩
  · rw [decide_eq_false hneg]
    rcases hc with rfl | rfl | rfl | rfl | rfl | rfl
    · exact ⟨false, rfl, rfl⟩
    · exact ⟨true, rfl, rfl⟩
    · exact ⟨false, rfl, rfl⟩
    · exact ⟨true, rfl, rfl⟩
    · by_cases c1 : rest > n - rest
      · have e : (rest != n - rest) = true := by simp; omega
        rw [e, decide_eq_true c1]; exact ⟨true, rfl, rfl⟩
      · by_cases c2 : rest < n - rest
        · have e : (rest != n - rest) = true := by simp; omega
          rw [e, decide_eq_true c2, decide_eq_false c1]; exact ⟨false, rfl, rfl⟩
        · have e : (rest != n - rest) = false := by simp; omega
          rw [e, decide_eq_false c2, decide_eq_false c1]; exact ⟨true, rfl, rfl⟩
    · by_cases c1 : rest > n - rest
      · have e : (rest != n - rest) = true := by simp; omega
        rw [e, decide_eq_true c1]; exact ⟨true, rfl, rfl⟩
      · by_cases c2 : rest < n - rest
        · have e : (rest != n - rest) = true := by simp; omega
          rw [e, decide_eq_true c2, decide_eq_false c1]; exact ⟨false, rfl, rfl⟩
        · have e : (rest != n - rest) = false := by simp; omega
          rw [e, decide_eq_false c2, decide_eq_false c1]
          by_cases h2 : q.Lo % 2 = 1
          · rw [h2]; exact ⟨true, rfl, rfl⟩
          · have : q.Lo % 2 = 0 := by omega
            rw [this]; exact ⟨false, rfl, rfl⟩
theorem b_Divide {a : ApiWide} {n mode : Int} (h : wok a) (hn : 1 ≤ n) (hn1 : n ≤ 9223372036854775807) : B2 (rounding_Divide a n mode) (q02_Divide a n mode) (fun r => i64 r.1 ∧ (r.2 ≠ 0 → r.1 = 0)) := by
  have hw := wok_in h
  unfold rounding_Divide q02_Divide
  have n1 : decide (n < 1) = false := decide_eq_false (by omega)
  rw [n1, e_RValid]
  unfold q02_Valid
  simp only [beq_self_eq_true, Bool.and_true, if_true, Option.bind_some, cond_false]
  by_cases hm : 1 ≤ mode ∧ mode ≤ 6
  · have e1 : (bif decide (mode ≥ 1) then decide (mode ≤ 6) else false) = true := by rw [decide_eq_true hm.1, decide_eq_true hm.2]; rfl
    rw [e1, if_neg (by decide), if_neg (by decide), s_Div h hn hn1, r_Div h hn hn1]
    simp only [Option.bind_some]
    have hr0 : 0 ≤ wv a % n := Int.emod_nonneg _ (by omega)
    have hr1 : wv a % n < n := Int.emod_lt_of_pos _ (by omega)
    have hed := Int.mul_ediv_add_emod (wv a) n
    unfold in128 at hw
    have hq : in128 (wv a / n) ∧ (0 < wv a % n → in128 (wv a / n + 1)) := by
      unfold in128
      by_cases hv : 0 ≤ wv a
      · have c1 : 0 ≤ wv a / n := Int.ediv_nonneg hv (by omega)
        have c2 : wv a / n ≤ wv a := Int.ediv_le_self _ hv
        refine ⟨by omega, fun hp => ?_⟩
        by_cases hc : wv a / n = wv a
        · rw [hc] at hed
          have : 1 * wv a ≤ n * wv a := Int.mul_le_mul_of_nonneg_right hn hv
          omega
        · omega
      · have c1 : wv a / n < 0 := Int.ediv_neg_of_neg_of_pos (by omega) (by omega)
        have c2 : wv a ≤ wv a / n := by
          have : n * (wv a / n) ≤ 1 * (wv a / n) := by
            have := Int.mul_le_mul_of_nonpos_right hn (Int.le_of_lt c1)
            exact this
          have h3 : wv a / n + 1 ≤ 0 := by omega
          rcases Int.lt_or_le (wv a) (wv a / n) with h4 | h4
          · omega
          · rcases Int.lt_or_le (wv a / n) (wv a) with h5 | h5
            · exfalso
              have e5 : (wv a / n) * n ≤ wv a := Int.ediv_mul_le _ (by omega)
              have h6 : wv a < (wv a / n + 1) * n := Int.lt_ediv_add_one_mul_self _ (by omega)
              have h7 : (wv a / n + 1) * n ≤ (wv a / n + 1) * 1 := Int.mul_le_mul_of_nonpos_left h3 hn
              omega
            · omega
        exact ⟨by omega, fun _ => by omega⟩
    have hs : decide (a.Hi < 0) = decide ((mk128 (wv a / n)).Hi < 0) := by
      apply decide_eq_decide.2
      have h1 : (a.Hi < 0) ↔ (wv a < 0) := by unfold wok at h; unfold wv; omega
      have h2 : ((mk128 (wv a / n)).Hi < 0) ↔ (wv a / n < 0) := by unfold mk128; simp only; omega
      rw [h1, h2]
      constructor
      · intro hv; exact Int.ediv_neg_of_neg_of_pos hv (by omega)
      · intro hv
        refine Int.not_le.1 (fun hz => ?_)
        have := Int.ediv_nonneg hz (show 0 ≤ n by omega)
        omega
    rw [hs]
    have hqo := wok_mk hq.1
    by_cases hp : wv a % n > 0
    · rw [decide_eq_true hp, if_pos rfl]
      obtain ⟨b, hb1, hb2⟩ := s_more (mode := mode) hqo hm.1 hm.2 hp hr1 hn1
      rw [hb2]
      simp only [beq_self_eq_true, Bool.and_true, if_true]
      rw [hb1]
      simp only [Option.bind_some, cond_true]
      have i1 : in128 1 := by unfold in128; omega
      have i0 : in128 0 := by unfold in128; omega
      cases b with
      | true =>
        simp only [if_true]
        rw [s_Of (by decide) (by decide), r_Of (by decide) (by decide)]
        simp only [Option.bind_some]
        rw [s_Add hqo (wok_mk i1), r_Add hqo (wok_mk i1)]
        simp only [Option.bind_some]
        exact b_Divide_j0 (wok_res _)
      | false =>
        simp only [Bool.false_eq_true, if_false]
        rw [s_Of (by decide) (by decide)]
        simp only [Option.bind_some]
        rw [s_Add hqo (wok_mk i0), wv_mk, wv_mk, Int.add_zero]
        unfold wres
        rw [if_pos hq.1]
        simp only [Option.bind_some]
        exact b_Divide_j0 hqo
    · rw [decide_eq_false hp, if_neg (by decide)]
      have e0 : ((if ((false : Bool) == true) = true then q02_up (decide ((mk128 (wv a / n)).Hi < 0)) ((mk128 (wv a / n)).Lo.tmod 2 == 1) (wv a % n) n mode else some default)) = some default := rfl
      rw [e0]
      simp only [Option.bind_some, cond_false]
      rw [if_neg (by decide)]
      exact b_Divide_j0 hqo
  · have e1 : (bif decide (mode ≥ 1) then decide (mode ≤ 6) else false) = false := by
      by_cases h1 : 1 ≤ mode
      · have h2 : ¬ mode ≤ 6 := fun h => hm ⟨h1, h⟩
        rw [decide_eq_true h1, decide_eq_false h2]; rfl
      · rw [decide_eq_false h1]; rfl
    rw [e1, if_pos (by decide), if_pos (by decide)]
    exact B2.some ⟨by unfold i64; simp, fun _ => rfl⟩
theorem b_Amount {g : ApiWide} {mode : Int} (h : wok g) : B2 (rounding_Amount g mode) (q02_Amount g mode) (fun r => i64 r.1 ∧ wok r.2.1 ∧ (r.2.2 ≠ 0 → r.1 = 0)) := by
  unfold rounding_Amount q02_Amount
  refine B2.bind (b_Divide h (by decide) (by decide)) (fun r hr => B2.ite (fun _ => B2.some ⟨by unfold i64; simp, wok_zero, fun _ => rfl⟩) (fun _ => ?_))
  rw [e_Good]
  have hv : W (q02_Good r.1) (fun _ => True) := W.some trivial
  refine B2.bind (B2.of rfl hv) (fun r1 _ => B2.ite (fun _ => B2.some ⟨by unfold i64; simp, wok_zero, fun _ => rfl⟩) (fun _ => ?_))
  obtain ⟨m1, m2⟩ := s_Mul (b := 1603080000000) hr.1.1 hr.1.2 (by decide) (by decide)
  rw [m1, r_Mul hr.1.1 hr.1.2 (by decide) (by decide)]
  simp only [Option.bind_some]
  rw [s_Sub h (wok_mk m2), r_Sub h (wok_mk m2)]
  simp only [Option.bind_some]
  exact B2.some ⟨hr.1, wok_res _, fun h => absurd rfl h⟩
theorem b_Percent {a ppm : Int} (ha : i64 a) (hp : i64 ppm) : B2 (rounding_Percent a ppm 1) (q02_Percent a ppm 1) (fun r => i64 r.1) := by
  unfold rounding_Percent q02_Percent
  rw [e_Good, e_RValid]
  have hv : W (q02_Good a) (fun _ => True) := W.some trivial
  refine B2.bind (B2.of rfl hv) (fun r _ => ?_)
  unfold q02_Valid
  have h1 : (bif decide ((1 : Int) ≥ 1) then decide ((1 : Int) ≤ 6) else false) = true := by decide
  rw [h1]
  generalize hc : (bif (bif (!r) then true else (decide (ppm < 0))) then true else (decide (ppm > 1000000))) = c
  cases c with
  | true => exact B2.some (by unfold i64; simp)
  | false =>
    simp only [beq_self_eq_true, Bool.and_true, if_true, Option.bind_some, cond_false, Bool.not_true, Bool.false_eq_true, if_false]
    obtain ⟨m1, m2⟩ := s_Mul ha.1 ha.2 hp.1 hp.2
    rw [m1, r_Mul ha.1 ha.2 hp.1 hp.2]
    simp only [Option.bind_some]
    exact B2.bind (b_Divide (wok_mk m2) (by decide) (by decide)) (fun r3 h3 => B2.some h3.1)
end Go.Cb
set_option linter.unusedSimpArgs false
set_option linter.unusedVariables false
namespace Go.Cb
open Go.Eng Go.RowKit
theorem i64_zero : i64 0 := by unfold i64; simp
def badS (x : ApiSlice) : Bool := bif (bif decide (x.Amount < 0) then true else decide (x.Ppm < 0)) then true else decide (x.Ppm > 1000000)
def sadd (w : Int) (a : ApiWide) (x : ApiSlice) : ApiWide := (wres (wv a + wv (wres (x.Amount * x.Ppm * w)).1)).1
def srun (w : Int) (l : List ApiSlice) : ApiWide := l.foldl (sadd w) ⟨0, 0⟩
theorem srun_ok (w : Int) (l : List ApiSlice) : wok (srun w l) := by
  unfold srun
  suffices h : ∀ (l : List ApiSlice) (a : ApiWide), wok a → wok (l.foldl (sadd w) a) from h l _ wok_zero
  intro l
  induction l with
  | nil => intro a h; exact h
  | cons x r ih => intro a h; exact ih _ (wok_res _)
theorem srun_succ (w : Int) (l : List ApiSlice) (i : Nat) (h : i < l.length) : srun w (l.take (i + 1)) = sadd w (srun w (l.take i)) l[i] := by
  unfold srun
  rw [take_succ_of l i h, List.foldl_append]; rfl
theorem b_Grains {l : List ApiSlice} {w : Int} (hl : ∀ x ∈ l, i64 x.Amount ∧ i64 x.Ppm) (hw : i64 w) : B2 (tier_Grains l w) (q14_Grains l w) (fun r => wok r.1 ∧ (r.2 ≠ 0 → r.1 = ⟨0, 0⟩)) := by
  unfold tier_Grains q14_Grains
  rw [List.length_map]
  refine B2.ite (fun _ => B2.some ⟨wok_zero, fun _ => rfl⟩) (fun h6 => ?_)
  have h6 : l.length ≤ 6 := by simp at h6; omega
  have hi64 : ∀ i (h : i < l.length), i64 l[i].Amount ∧ i64 l[i].Ppm := fun i h => hl _ (List.getElem_mem h)
  have hsum : ∀ i (h : i < l.length), (wide_Mul l[i].Amount l[i].Ppm).bind (fun r => (wide_Scale r w).bind fun r1 => (wide_Add (srun w (l.take i)) r1.1).bind fun r2 => some r2.1) = some (srun w (l.take (i + 1))) ∧ (q01_Mul l[i].Amount l[i].Ppm).bind (fun r => (q01_Scale r w).bind fun r1 => (q01_Add (srun w (l.take i)) r1.1).bind fun r2 => some r2.1) = some (srun w (l.take (i + 1))) := by
    intro i h
    obtain ⟨a, p⟩ := hi64 i h
    obtain ⟨m1, m2⟩ := s_Mul a.1 a.2 p.1 p.2
    have k := srun_ok w (l.take i)
    rw [m1, r_Mul a.1 a.2 p.1 p.2, srun_succ w l i h]
    simp only [Option.bind_some]
    rw [s_Scale (wok_mk m2) hw.1 hw.2, r_Scale (wok_mk m2) hw.1 hw.2, wv_mk]
    simp only [Option.bind_some]
    rw [s_Add k (wok_res _), r_Add k (wok_res _)]
    exact ⟨rfl, rfl⟩
  have w1 : ∀ i : Nat, i < l.length → IntKind.wrap .i64 ((i : Int) + 1) = ((i + 1 : Nat) : Int) := fun i h => by rw [wi]; omega
  have step1 : ∀ i (h : i < l.length), badS l[i] = false → tier_Grains_l1 l w ((i : Int), (srun w (l.take i)).Hi, (srun w (l.take i)).Lo) = some (.inl (((i + 1 : Nat) : Int), (srun w (l.take (i + 1))).Hi, (srun w (l.take (i + 1))).Lo)) := by
    intro i h hb
    unfold tier_Grains_l1
    have hlt : (i : Int) < (l.length : Int) := by omega
    simp only [List.length_map]
    rw [if_pos (decide_eq_true hlt), getI_lt l i h]
    simp only [Option.bind_some]
    have hb' : (bif (bif decide (l[i].Amount < 0) then true else decide (l[i].Ppm < 0)) then true else decide (l[i].Ppm > 1000000)) = false := hb
    rw [hb', if_neg (by decide), w1 i h]
    have := (hsum i h).1
    cases h1 : wide_Mul l[i].Amount l[i].Ppm with
    | none => rw [h1] at this; cases this
    | some r =>
      rw [h1] at this
      simp only [Option.bind_some] at this ⊢
      cases h2 : wide_Scale r w with
      | none => rw [h2] at this; cases this
      | some r1 =>
        rw [h2] at this
        simp only [Option.bind_some] at this ⊢
        show ((wide_Add (srun w (l.take i)) r1.1).bind _) = _
        cases h3 : wide_Add (srun w (l.take i)) r1.1 with
        | none => rw [h3] at this; cases this
        | some r2 =>
          rw [h3] at this
          simp only [Option.bind_some] at this ⊢
          rw [Option.some.inj this]
  have step2 : ∀ i (h : i < l.length), q14_Grains_l2 l w ((i : Int), (srun w (l.take i)).Hi, (srun w (l.take i)).Lo) = some (.inl (((i + 1 : Nat) : Int), (srun w (l.take (i + 1))).Hi, (srun w (l.take (i + 1))).Lo)) := by
    intro i h
    unfold q14_Grains_l2
    have hlt : (i : Int) < (l.length : Int) := by omega
    simp only [List.length_map]
    rw [if_pos (decide_eq_true hlt), getI_lt l i h]
    simp only [Option.bind_some]
    rw [w1 i h]
    have := (hsum i h).2
    cases h1 : q01_Mul l[i].Amount l[i].Ppm with
    | none => rw [h1] at this; cases this
    | some r =>
      rw [h1] at this
      simp only [Option.bind_some] at this ⊢
      cases h2 : q01_Scale r w with
      | none => rw [h2] at this; cases this
      | some r1 =>
        rw [h2] at this
        simp only [Option.bind_some] at this ⊢
        show ((q01_Add (srun w (l.take i)) r1.1).bind _) = _
        cases h3 : q01_Add (srun w (l.take i)) r1.1 with
        | none => rw [h3] at this; cases this
        | some r2 =>
          rw [h3] at this
          simp only [Option.bind_some] at this ⊢
          rw [Option.some.inj this]
  have end1 : tier_Grains_l1 l w (((l.length : Nat) : Int), (srun w (l.take l.length)).Hi, (srun w (l.take l.length)).Lo) = (some (srun w l, (0 : Int))).map .inr := by
    unfold tier_Grains_l1
    rw [if_neg (by simp), List.take_length]; rfl
  have end2 : q14_Grains_l2 l w (((l.length : Nat) : Int), (srun w (l.take l.length)).Hi, (srun w (l.take l.length)).Lo) = (some (srun w l, (0 : Int))).map .inr := by
    unfold q14_Grains_l2
    rw [if_neg (by simp), List.take_length]; rfl
  have bad1 : ∀ i (h : i < l.length), badS l[i] = true → tier_Grains_l1 l w ((i : Int), (srun w (l.take i)).Hi, (srun w (l.take i)).Lo) = (some ((⟨0, 0⟩ : ApiWide), (1 : Int))).map .inr := by
    intro i h hb
    unfold tier_Grains_l1
    have hlt : (i : Int) < (l.length : Int) := by omega
    simp only [List.length_map]
    rw [if_pos (decide_eq_true hlt), getI_lt l i h]
    simp only [Option.bind_some]
    have hb' : (bif (bif decide (l[i].Amount < 0) then true else decide (l[i].Ppm < 0)) then true else decide (l[i].Ppm > 1000000)) = true := hb
    rw [hb', if_pos rfl]; rfl
  have chk : ∀ i (h : i < l.length), q14_Grains_l1 l w (i : Int) = if badS l[i] then some (.inr (⟨0, 0⟩, 1)) else some (.inl ((i + 1 : Nat) : Int)) := by
    intro i h
    unfold q14_Grains_l1
    have hlt : (i : Int) < (l.length : Int) := by omega
    simp only [List.length_map]
    rw [if_pos (decide_eq_true hlt), getI_lt l i h, w1 i h]
    simp only [Option.bind_some]
    unfold badS
    cases decide (l[i].Amount < 0) with
    | true => rfl
    | false =>
      simp only [beq_self_eq_true, Bool.and_true, if_true, Option.bind_some, cond_false]
      cases decide (l[i].Ppm < 0) with
      | true => rfl
      | false =>
        simp only [beq_self_eq_true, Bool.and_true, if_true, Option.bind_some, cond_false]
  have nz : ∀ i (h : i < l.length), ((match l[i]? with | some x => badS x | none => false) = badS l[i]) := fun i h => by rw [List.getElem?_eq_getElem h]
  rcases first_or l.length (fun i => match l[i]? with | some x => badS x | none => false) with ⟨i, h1, h2, h3⟩ | hall
  · rw [nz i h1] at h2
    have ref : Iter (q14_Grains_l1 l w) 0 = some (⟨0, 0⟩, 1) := by
      refine iter_run i (fun k : Nat => (k : Int)) rfl (by omega) (fun k hk => ?_) ?_
      · have := h3 k hk
        rw [nz k (by omega)] at this
        rw [chk k (by omega), this]; rfl
      · rw [chk i h1, h2]; rfl
    rw [ref]
    refine ⟨(⟨0, 0⟩, 1), ?_, rfl, wok_zero, fun _ => rfl⟩
    split
    · rfl
    · refine iter_run i (fun k : Nat => ((k : Int), (srun w (l.take k)).Hi, (srun w (l.take k)).Lo)) rfl (by omega) (fun k hk => ?_) (bad1 i h1 h2)
      have := h3 k hk
      rw [nz k (by omega)] at this
      exact step1 k (by omega) this
  · have ref : Iter (q14_Grains_l1 l w) 0 = (if (bif (decide (w < 0)) then true else (decide (w > 6412320000))) = true then (some ((⟨0, 0⟩ : ApiWide), 1)) else (Iter (q14_Grains_l2 l w) (0, 0, 0))) := by
      refine iter_run l.length (fun k : Nat => (k : Int)) rfl (by omega) (fun k hk => ?_) ?_
      · have := hall k hk
        rw [nz k hk] at this
        rw [chk k hk, this]; rfl
      · unfold q14_Grains_l1
        rw [if_neg (by simp)]
    rw [ref]
    refine B2.ite (fun _ => B2.some ⟨wok_zero, fun _ => rfl⟩) (fun _ => ?_)
    refine ⟨(srun w l, 0), ?_, ?_, srun_ok w l, fun h => absurd rfl h⟩
    · refine iter_run l.length (fun k : Nat => ((k : Int), (srun w (l.take k)).Hi, (srun w (l.take k)).Lo)) rfl (by omega) (fun k hk => ?_) end1
      have := hall k hk
      rw [nz k hk] at this
      exact step1 k hk this
    · exact iter_run l.length (fun k : Nat => ((k : Int), (srun w (l.take k)).Hi, (srun w (l.take k)).Lo)) rfl (by omega) (fun k hk => step2 k hk) end2
theorem w_Size {b : Int} (h : i64 b) : W (q14_Size b) (fun r => 0 ≤ r ∧ r ≤ 9223372036854775807) := by
  unfold q14_Size i64 at *
  refine W.ite (fun _ => W.some ⟨by omega, by omega⟩) (fun h1 => W.ite (fun h2 => W.some ?_) (fun h2 => W.some ?_))
  · simp at h1 h2
    rw [w64_in (by omega) (by omega)]
    omega
  · simp at h1 h2
    omega
theorem w_TCheck (l : List ApiTier) (hl : l.length ≤ 4398046511104) : W (q14_Check l) (fun _ => True) := w_q14_Check (N := 4398046511104) ⟨by omega, by omega⟩ ⟨hl, fun _ _ => trivial⟩
theorem w_Rate {l : List ApiTier} {b : Int} (hl : l.length ≤ 4398046511104) (ht : ∀ t ∈ l, i64 t.Ppm) (hb : i64 b) : W (q14_Rate l b) i64 := by
  unfold q14_Rate
  refine W.bind ((w_TCheck l hl).mono (fun r _ _ => W.ite (fun _ => W.some i64_zero) (fun _ => ?_)))
  refine W.iter (fun s => 0 ≤ s.2 ∧ s.2 ≤ (l.length : Int) ∧ i64 s.1) (fun s => l.length - s.2.toNat) ⟨by simp, by simp, i64_zero⟩ (by simp; omega) (fun s hs => ?_)
  obtain ⟨i0, i1, i2⟩ := hs
  unfold q14_Rate_l1 q14_Rate_j0
  refine W.ite (fun h => ?_) (fun _ => W.some i2)
  simp at h
  have w : IntKind.wrap .i64 (s.2 + 1) = s.2 + 1 := w64_in (by omega) (by omega)
  rw [w]
  refine W.bind (W.row0 i0 h (fun x hx => ?_))
  have hm := ht x (List.mem_of_getElem? hx)
  refine W.bind ((w_Size hb).mono (fun r _ _ => ?_))
  refine W.ite (fun _ => W.bind (W.row0 i0 h (fun y hy => W.some ⟨⟨show 0 ≤ s.2 + 1 by omega, show s.2 + 1 ≤ _ by omega, ht y (List.mem_of_getElem? hy)⟩, show l.length - (s.2 + 1).toNat < l.length - s.2.toNat by omega⟩))) (fun _ => W.some ⟨⟨show 0 ≤ s.2 + 1 by omega, show s.2 + 1 ≤ _ by omega, i2⟩, show l.length - (s.2 + 1).toNat < l.length - s.2.toNat by omega⟩)
theorem w_Slices {l : List ApiTier} {m : Bool} {b : Int} (hl : l.length ≤ 4398046511104) (ht : ∀ t ∈ l, i64 t.Ppm) (hb : i64 b) : W (q14_Slices l m b) (fun r => ∀ x ∈ r, i64 x.Amount ∧ i64 x.Ppm) := by
  unfold q14_Slices
  refine W.bind ((w_Size hb).mono (fun z _ hz => ?_))
  refine W.bind ((w_TCheck l hl).mono (fun c _ _ => ?_))
  refine W.ite (fun _ => W.some (fun x hx => by cases hx)) (fun _ => W.ite (fun _ => ?_) (fun _ => ?_))
  · refine W.bind ((w_Rate hl ht hb).mono (fun r _ hr => W.some (fun x hx => ?_)))
    simp at hx
    subst hx
    exact ⟨show i64 z by unfold i64; omega, hr⟩
  · refine W.iter (fun s => 0 ≤ s.1 ∧ s.1 ≤ (l.length : Int) ∧ s.2.length ≤ s.1.toNat ∧ ∀ x ∈ s.2, i64 x.Amount ∧ i64 x.Ppm) (fun s => l.length - s.1.toNat) ⟨by simp, by simp, by simp, fun x hx => by cases hx⟩ (by simp; omega) (fun s hs => ?_)
    obtain ⟨i0, i1, i2, i3⟩ := hs
    unfold q14_Slices_l1
    refine W.ite (fun h => ?_) (fun _ => W.some i3)
    simp at h
    have w : IntKind.wrap .i64 (s.1 + 1) = s.1 + 1 := w64_in (by omega) (by omega)
    have fin : ∀ v, W (q14_Slices_j1 l s v) (fun x => match x with
        | .inl s' => (0 ≤ s'.1 ∧ s'.1 ≤ (l.length : Int) ∧ s'.2.length ≤ s'.1.toNat ∧ ∀ x ∈ s'.2, i64 x.Amount ∧ i64 x.Ppm) ∧ l.length - s'.1.toNat < l.length - s.1.toNat
        | .inr r => ∀ x ∈ r, i64 x.Amount ∧ i64 x.Ppm) := by
      intro v
      unfold q14_Slices_j1 q14_Slices_j0
      simp only [w]
      refine W.bind (W.row0 i0 h (fun x hx => ?_))
      refine W.ite (fun _ => ?_) (fun _ => W.some ⟨⟨show 0 ≤ s.1 + 1 by omega, show s.1 + 1 ≤ _ by omega, show s.2.length ≤ (s.1 + 1).toNat by omega, i3⟩, show l.length - (s.1 + 1).toNat < l.length - s.1.toNat by omega⟩)
      refine W.bind (W.row0 i0 h (fun y hy => ?_))
      refine W.bind (W.row0 i0 h (fun y2 hy2 => ?_))
      rw [if_pos (by simp; omega)]
      refine W.some ⟨⟨show 0 ≤ s.1 + 1 by omega, show s.1 + 1 ≤ _ by omega, show (s.2 ++ [_]).length ≤ (s.1 + 1).toNat by simp; omega, fun z hz => ?_⟩, show l.length - (s.1 + 1).toNat < l.length - s.1.toNat by omega⟩
      rcases List.mem_append.1 hz with hz | hz
      · exact i3 z hz
      · simp at hz
        subst hz
        exact ⟨i64_wrap _, ht _ (List.mem_of_getElem? hy2)⟩
    refine W.bind (W.guard (fun h2 => ?_) (fun y => ?_))
    · simp at h2
      exact W.row0 (by rw [w]; omega) (by rw [w] at h2 ⊢; omega) (fun _ _ => trivial)
    · refine W.ite (fun h2 => ?_) (fun _ => (fin _).mono (fun r _ hr => by cases r <;> exact hr))
      simp only [List.length_map, Bool.cond_false_right, Bool.and_eq_true, decide_eq_true_eq] at h2
      exact W.bind (W.row0 (by rw [w]; omega) (by rw [w] at h2 ⊢; omega) (fun _ _ => (fin _).mono (fun r _ hr => by cases r <;> exact hr)))
end Go.Cb
namespace Go.Cb
open Go.Eng Go.RowKit
theorem lives : l30_Lives = some true := by kernel_rfl
end Go.Cb
set_option linter.unusedSimpArgs false
set_option linter.unusedVariables false
namespace Go.Cb
open Go.Eng Go.RowKit
def legSum (acc : Int) (l : List ApiLeg) : Int := (l.map (fun x => if x.Account = acc then x.Amount else 0)).sum
theorem legSum_succ (acc : Int) (l : List ApiLeg) (i : Nat) (h : i < l.length) : legSum acc (l.take (i + 1)) = legSum acc (l.take i) + (if l[i].Account = acc then l[i].Amount else 0) := by
  unfold legSum
  rw [take_succ_of l i h, List.map_append, List.sum_append]; simp
theorem foldl_legs (acc bk v : Int) (e : ApiEntry) (l : List ApiLeg) : ∀ n, i64 n → l.foldl (balStep acc bk v e) n = if e.Booked ≤ bk ∧ e.Value ≤ v then wrap64 (n - legSum acc l) else n := by
  induction l with
  | nil =>
    intro n hn
    unfold i64 at hn
    unfold legSum wrap64
    simp
    intro _ _
    omega
  | cons x r ih =>
    intro n hn
    have hs : legSum acc (x :: r) = (if x.Account = acc then x.Amount else 0) + legSum acc r := by unfold legSum; simp
    rw [List.foldl_cons, hs]
    unfold balStep
    by_cases hx : x.Account = acc
    · rw [if_pos hx, if_pos hx]
      by_cases hc : e.Booked ≤ bk ∧ e.Value ≤ v
      · rw [if_pos hc, if_pos hc]
        have := ih (wrap64 (n - x.Amount)) (by unfold i64 wrap64; omega)
        unfold balStep at this
        rw [this, if_pos hc]
        unfold wrap64
        omega
      · rw [if_neg hc, if_neg hc]
        have := ih n hn
        unfold balStep at this
        rw [this, if_neg hc]
    · rw [if_neg hx, if_neg hx, Int.zero_add]
      have := ih n hn
      unfold balStep at this
      exact this
theorem s_moved {e : ApiEntry} {acc : Int} (hl : e.Legs.length ≤ 4398046511104) : q21_moved e acc = some (wrap64 (- legSum acc e.Legs)) := by
  unfold q21_moved
  refine iter_run e.Legs.length (fun i : Nat => (wrap64 (- legSum acc (e.Legs.take i)), (i : Int))) ?_ (by omega) (fun i hi => ?_) ?_
  · simp [legSum, wrap64]
  · unfold q21_moved_l1 q21_moved_j0
    have hlt : (i : Int) < (e.Legs.length : Int) := by omega
    simp only [List.length_map]
    rw [if_pos (decide_eq_true hlt), getI_lt e.Legs i hi, legSum_succ acc e.Legs i hi]
    simp only [Option.bind_some]
    have w : IntKind.wrap .i64 ((i : Int) + 1) = ((i + 1 : Nat) : Int) := by rw [wi]; omega
    rw [w]
    by_cases hx : e.Legs[i].Account = acc
    · rw [if_pos (by simpa using hx), if_pos hx, wi]
      have : ((wrap64 (- legSum acc (e.Legs.take i)) - e.Legs[i].Amount + 9223372036854775808) % 18446744073709551616 - 9223372036854775808) = wrap64 (-(legSum acc (e.Legs.take i) + e.Legs[i].Amount)) := by
        unfold wrap64; omega
      rw [this]
    · rw [if_neg (by simpa using hx), if_neg hx, Int.add_zero]
  · unfold q21_moved_l1
    rw [if_neg (by simp), List.take_length]; rfl
theorem b_At {j : List ApiEntry} {acc bk v : Int} (hj : j.length ≤ 4398046511104) (hl : ∀ e ∈ j, e.Legs.length ≤ 4398046511104) : B2 (balAt j acc bk v) (q21_At j acc bk v) i64 := by
  have ok : ∀ i, i64 (balSum (j.take i) acc bk v) := by
    intro i
    induction i with
    | zero => simp [balSum]; exact i64_zero
    | succ i ih =>
      by_cases h : i < j.length
      · unfold balSum at ih ⊢
        rw [take_succ_of j i h, List.foldl_append, List.foldl_cons, List.foldl_nil, foldl_legs _ _ _ _ _ _ ih]
        split
        · unfold i64 wrap64; omega
        · exact ih
      · rw [List.take_of_length_le (by omega)] at ih ⊢
        exact ih
  refine ⟨balSum j acc bk v, rfl, ?_, by have := ok j.length; rwa [List.take_length] at this⟩
  unfold q21_At
  refine iter_run j.length (fun i : Nat => (balSum (j.take i) acc bk v, (i : Int))) (by simp [balSum]) (by omega) (fun i hi => ?_) ?_
  · unfold q21_At_l1 q21_At_j0
    have hlt : (i : Int) < (j.length : Int) := by omega
    simp only [List.length_map]
    rw [if_pos (decide_eq_true hlt), getI_lt j i hi]
    simp only [Option.bind_some]
    rw [s_moved (hl _ (List.getElem_mem hi))]
    simp only [Option.bind_some]
    have w : IntKind.wrap .i64 ((i : Int) + 1) = ((i + 1 : Nat) : Int) := by rw [wi]; omega
    rw [w]
    have e : balSum (j.take (i + 1)) acc bk v = if j[i].Booked ≤ bk ∧ j[i].Value ≤ v then wrap64 (balSum (j.take i) acc bk v - legSum acc j[i].Legs) else balSum (j.take i) acc bk v := by
      have hok := ok i
      unfold balSum at hok ⊢
      rw [take_succ_of j i hi, List.foldl_append, List.foldl_cons, List.foldl_nil, foldl_legs _ _ _ _ _ _ hok]
    rw [e]
    by_cases h1 : j[i].Booked ≤ bk
    · rw [decide_eq_true h1]
      simp only [beq_self_eq_true, Bool.and_true, if_true, Option.bind_some, cond_true]
      by_cases h2 : j[i].Value ≤ v
      · rw [if_pos (decide_eq_true h2), if_pos ⟨h1, h2⟩, wi]
        have : ((balSum (j.take i) acc bk v + wrap64 (- legSum acc j[i].Legs) + 9223372036854775808) % 18446744073709551616 - 9223372036854775808) = wrap64 (balSum (j.take i) acc bk v - legSum acc j[i].Legs) := by
          unfold wrap64; omega
        rw [this]
      · rw [if_neg (by rw [decide_eq_false h2]; decide), if_neg (fun h => h2 h.2)]
    · have hc : ¬ (j[i].Booked ≤ bk ∧ j[i].Value ≤ v) := fun h => h1 h.1
      rw [decide_eq_false h1, if_neg hc]
      rfl
  · unfold q21_At_l1
    rw [if_neg (by simp), List.take_length]; rfl
theorem getI_mem {τ : Type} {l : List τ} {i : Int} {x : τ} (h : getI l i = some x) : x ∈ l := by
  unfold getI at h
  split at h
  · exact List.mem_of_getElem? h
  · cases h
theorem find_post {b : ApiBooks} {id : Int} {r : ApiAccount × Bool} (h : q24_Find b id = some r) : r.2 = true → r.1 ∈ b.Accounts ∧ r.1.Id = id := by
  unfold q24_Find at h
  refine iter_post (Q := fun r => r.2 = true → r.1 ∈ b.Accounts ∧ r.1.Id = id) (fun _ => True) trivial (fun s x _ hx => ?_) h
  unfold q24_Find_l1 at hx
  split at hx
  · cases hg : getI b.Accounts s with
    | none => rw [hg] at hx; cases hx
    | some a =>
      rw [hg] at hx
      simp only [Option.bind_some] at hx
      split at hx
      · have := Option.some.inj hx
        subst this
        rename_i hi
        exact fun _ => ⟨getI_mem hg, by simpa using hi⟩
      · have := Option.some.inj hx
        subst this
        trivial
  · have := Option.some.inj hx
    subst this
    intro h; cases h
theorem last_post {l : List ApiPeriod} {id : Int} {r : ApiPeriod × Bool} (h : q29_Last l id = some r) : (r.2 = true ∧ r.1 ∈ l) ∨ (r.2 = false ∧ r.1 = ⟨0, 0, 0, 0, 0, 0, 0, (⟨0, 0⟩ : ApiWide), (⟨0, 0⟩ : ApiWide)⟩) := by
  unfold q29_Last at h
  refine iter_post (Q := fun r => (r.2 = true ∧ r.1 ∈ l) ∨ (r.2 = false ∧ r.1 = ⟨0, 0, 0, 0, 0, 0, 0, (⟨0, 0⟩ : ApiWide), (⟨0, 0⟩ : ApiWide)⟩)) (fun _ => True) trivial (fun s x _ hx => ?_) h
  unfold q29_Last_l1 at hx
  split at hx
  · cases hg : getI l s with
    | none => rw [hg] at hx; cases hx
    | some a =>
      rw [hg] at hx
      simp only [Option.bind_some] at hx
      split at hx
      · have := Option.some.inj hx
        subst this
        exact .inl ⟨rfl, getI_mem hg⟩
      · have := Option.some.inj hx
        subst this
        trivial
  · have := Option.some.inj hx
    subst this
    exact .inr ⟨rfl, rfl⟩
theorem at_post {l : List ApiProduct} {n : ByteArray} {d : Int} {r : ApiProduct × Bool} (h : q17_At l n d = some r) : r.2 = true → r.1 ∈ l := by
  unfold q17_At at h
  refine iter_post (Q := fun r => r.2 = true → r.1 ∈ l) (fun _ => True) trivial (fun s x _ hx => ?_) h
  unfold q17_At_l1 at hx
  split at hx
  · cases x with
    | inl s' => trivial
    | inr r =>
      exfalso
      have inl : ∀ v, q17_At_j0 s v = some (.inr r) → False := fun v h => by
        unfold q17_At_j0 at h
        cases Option.some.inj h
      rw [Option.bind_eq_some_iff] at hx
      obtain ⟨a1, -, hx⟩ := hx
      rw [Option.bind_eq_some_iff] at hx
      obtain ⟨a2, -, hx⟩ := hx
      rw [Option.bind_eq_some_iff] at hx
      obtain ⟨a3, -, hx⟩ := hx
      rw [Option.bind_eq_some_iff] at hx
      obtain ⟨a4, -, hx⟩ := hx
      split at hx <;> exact inl _ hx
  · rw [Option.map_eq_some_iff] at hx
    obtain ⟨r', h1, rfl⟩ := hx
    show r'.2 = true → r'.1 ∈ l
    split at h1
    · have := Option.some.inj h1
      subst this
      intro h; cases h
    · cases hg : getI l s.1 with
      | none => rw [hg] at h1; cases h1
      | some a =>
        rw [hg] at h1
        simp only [Option.bind_some] at h1
        have := Option.some.inj h1
        subst this
        exact fun _ => getI_mem hg
variable {N : Nat}
theorem getB {b : ApiBooks} (h : ApiBooks.good N b) : (gList ApiProduct.good) N b.Products ∧ (gList ApiAccount.good) N b.Accounts ∧ (gList ApiEntry.good) N b.Journal := ⟨h.2.2.2.2.1, h.2.2.2.2.2.1, h.2.2.2.2.2.2.1⟩
theorem b_grains {p : ApiProduct} {bal day : Int} (hN : N ≤ 4398046511104) (hp : ApiProduct.good N p) (hb : i64 bal) (hN2 : N ≤ 1099511627776) :
    ∃ r r5 r6 r7, accrue_grains p bal day = some r.1 ∧ q15_Side p bal = some r5 ∧ q14_Slices r5.Tiers r5.Marginal bal = some r6 ∧ q06_Weight r5.Basis day = some r7 ∧ q14_Grains r6 r7 = some r ∧ wok r.1 := by
  have t1 := hp.2.2.2.2.2.2.2.1.1
  have t2 := hp.2.2.2.2.2.2.2.2.1.1
  have side : ∃ r5, q15_Side p bal = some r5 ∧ (gList ApiTier.good) N r5.Tiers := by
    unfold q15_Side
    split
    · exact ⟨_, rfl, t2⟩
    · exact ⟨_, rfl, t1⟩
  obtain ⟨r5, e5, g5⟩ := side
  obtain ⟨r6, e6, g6⟩ := w_Slices (l := r5.Tiers) (m := r5.Marginal) (Nat.le_trans g5.1 hN) (fun t ht => i64_of (g5.2 t ht).2) hb
  obtain ⟨r7, f7, e7, g7⟩ := b_Weight r5.Basis day
  obtain ⟨r, f8, e8, g8, z8⟩ := b_Grains g6 g7
  refine ⟨r, r5, r6, r7, ?_, e5, e6, e7, e8, g8⟩
  unfold accrue_grains
  rw [e_Side bal (Nat.le_trans t2.1 hN2) (Nat.le_trans t1.1 hN2), e5]
  simp only [Option.bind_some]
  rw [e_Slices hb.1 hb.2, e6]
  simp only [Option.bind_some]
  rw [f7]
  simp only [Option.bind_some]
  rw [f8]
  simp only [Option.bind_some]
  split
  · rename_i h
    rw [z8 (by simpa using h)]
  · rfl
theorem b_day {b : ApiBooks} {id day : Int} {a : ApiAccount} (hN : 1024 ≤ N ∧ N ≤ 1048576) (hb : ApiBooks.good N b) (hf : q24_Find b id = some (a, true)) (hd : 0 ≤ day ∧ day ≤ 73048) :
    ∃ r, accrue_daily_c1 day id b = some r ∧ q27_Day b id day = some (r, 0) ∧ wok r.Credit ∧ wok r.Debit := by
  obtain ⟨gp, ga, gj⟩ := getB hb
  have hN4 : 1024 ≤ N ∧ N ≤ 4398046511104 := ⟨hN.1, by omega⟩
  unfold accrue_daily_c1 q27_Day q04_Valid
  rw [hf]
  simp only [Option.bind_some, Bool.not_true, Bool.false_eq_true, if_false]
  rw [decide_eq_true hd.1, decide_eq_true hd.2]
  simp only [cond_true, Bool.not_true, Bool.false_eq_true, if_false]
  have hact : ∃ c, q24_Active b id day = some c := by
    unfold q24_Active
    rw [hf]
    exact ⟨_, rfl⟩
  obtain ⟨c, hc⟩ := hact
  rw [e_Active, hc]
  simp only [Option.bind_some]
  cases c with
  | false => exact ⟨_, rfl, rfl, wok_zero, wok_zero⟩
  | true =>
    simp only [Bool.not_true, Bool.false_eq_true, if_false]
    obtain ⟨bal, x1, x2, x3⟩ := b_At (j := b.Journal) (acc := id) (bk := 73048) (v := day) (by have := gj.1; omega) (fun e he => by have := (gj.2 e he).2.2.2.2.2.2.2.2.1.1; omega)
    rw [x1, x2]
    simp only [Option.bind_some]
    obtain ⟨pr, y1, y2⟩ := w_q24_Product hN4 (gsz_ApiBooks hb) (id := id) (day := day)
    rw [e_Product, y1]
    simp only [Option.bind_some]
    have hgp : pr.2 = true → ApiProduct.good N pr.1 := by
      intro ht
      unfold q24_Product at y1
      rw [hf] at y1
      simp only [Option.bind_some, Bool.not_true, Bool.false_eq_true, if_false] at y1
      rw [Option.bind_eq_some_iff] at y1
      obtain ⟨q, q1, q2⟩ := y1
      have := Option.some.inj q2
      subst this
      exact gp.2 _ (at_post q1 ht)
    obtain ⟨prod, ok⟩ := pr
    cases ok with
    | false =>
      unfold accrue_daily_c1_j0
      exact ⟨_, rfl, rfl, wok_zero, wok_zero⟩
    | true =>
      simp only [Bool.not_true, Bool.false_eq_true, if_false]
      obtain ⟨r, r5, r6, r7, z1, z2, z3, z4, z5, z6⟩ := b_grains (day := day) hN4.2 (hgp rfl) x3 (by omega)
      have z6' : wok ⟨r.1.Hi, r.1.Lo⟩ := z6
      rw [z1, z2]
      simp only [Option.bind_some]
      rw [z3]
      simp only [Option.bind_some]
      rw [z4]
      simp only [Option.bind_some]
      rw [z5]
      simp only [Option.bind_some]
      unfold accrue_daily_c1_j0 q27_Day_j1 q27_Day_j0
      by_cases h1 : bal > 0
      · have h2 : ¬ bal < 0 := by omega
        rw [decide_eq_true h1, decide_eq_false h2]
        exact ⟨_, rfl, rfl, z6', wok_zero⟩
      · by_cases h2 : bal < 0
        · rw [decide_eq_false h1, decide_eq_true h2]
          exact ⟨_, rfl, rfl, wok_zero, z6'⟩
        · rw [decide_eq_false h1, decide_eq_false h2]
          exact ⟨_, rfl, rfl, wok_zero, wok_zero⟩
theorem b_Series {b : ApiBooks} {id from' to' : Int} (hN : 1024 ≤ N ∧ N ≤ 1048576) (hb : ApiBooks.good N b) : B2 (accrue_Series b id from' to') (q27_Series b id from' to') (fun r => r.1.length ≤ 4398046511104 ∧ ∀ x ∈ r.1, wok x.Credit ∧ wok x.Debit) := by
  have hN4 : 1024 ≤ N ∧ N ≤ 4398046511104 := ⟨hN.1, by omega⟩
  unfold accrue_Series q27_Series
  rw [e_Find, e_Valid]
  obtain ⟨fa, hf, _⟩ := w_q24_Find hN4 (id := id) (gsz_ApiBooks hb)
  rw [hf]
  simp only [Option.bind_some]
  obtain ⟨a, ok⟩ := fa
  cases ok with
  | false => exact B2.some ⟨by simp, fun x hx => by cases hx⟩
  | true =>
    simp only [Bool.not_true, Bool.false_eq_true, if_false]
    unfold q04_Valid
    simp only [Option.bind_some]
    by_cases hv : (0 ≤ from' ∧ from' ≤ 73048) ∧ (0 ≤ to' ∧ to' ≤ 73048) ∧ from' ≤ to' ∧ to' - from' < 4000
    · obtain ⟨⟨a1, a2⟩, ⟨a3, a4⟩, a5, a6⟩ := hv
      have w : IntKind.wrap .i64 (to' - from') = to' - from' := w64_in (by omega) (by omega)
      have w' : IntKind.wrap .i64 (to' - from' + 1) = to' - from' + 1 := w64_in (by omega) (by omega)
      have c1 : decide (from' > to') = false := decide_eq_false (by omega)
      have c2 : decide (to' - from' ≥ 4000) = false := decide_eq_false (by omega)
      rw [decide_eq_true a1, decide_eq_true a2]
      simp only [cond_true, Bool.not_true, beq_self_eq_true, Bool.and_true, if_true]
      rw [decide_eq_true a3, decide_eq_true a4, w, w', c1, c2]
      simp only [Option.bind_some, cond_true, cond_false, Bool.not_true, Bool.false_eq_true, if_false]
      unfold accrue_daily
      simp only [Option.bind_some]
      rw [if_pos (by omega)]
      refine B2.iter (fun s => from' ≤ s.1 ∧ s.1 ≤ to' + 1 ∧ s.2.length ≤ (s.1 - from').toNat ∧ ∀ x ∈ s.2, wok x.Credit ∧ wok x.Debit) (fun s => (to' + 1 - s.1).toNat) ⟨by simp, by simp; omega, by simp, fun x hx => by simp at hx⟩ (by simp; omega) (fun s hs => ?_)
      obtain ⟨i0, i1, i2, i3⟩ := hs
      unfold accrue_Series_l1 q27_Series_l1
      refine B2.ite (fun h => ?_) (fun _ => B2.some ⟨show s.2.length ≤ _ by omega, i3⟩)
      have h := of_decide_eq_true h
      obtain ⟨r, k1, k2, k3, k4⟩ := b_day (day := s.1) hN hb hf ⟨by omega, by omega⟩
      rw [k1, k2]
      simp only [Option.bind_some]
      have w3 : IntKind.wrap .i64 (s.1 + 1) = s.1 + 1 := w64_in (by omega) (by omega)
      rw [if_pos (by simp; omega), w3]
      refine B2.some ⟨⟨show from' ≤ s.1 + 1 by omega, show s.1 + 1 ≤ to' + 1 by omega, show (s.2 ++ [r]).length ≤ (s.1 + 1 - from').toNat by simp; omega, fun x hx => ?_⟩, show (to' + 1 - (s.1 + 1)).toNat < (to' + 1 - s.1).toNat by omega⟩
      rcases List.mem_append.1 hx with hx | hx
      · exact i3 x hx
      · simp at hx
        subst hx
        exact ⟨k3, k4⟩
    · have key : ∀ (x : Bool) (hx : x = (bif decide (to' ≥ 0) then decide (to' ≤ 73048) else false)), (bif (bif (bif (!(bif decide (from' ≥ 0) then decide (from' ≤ 73048) else false)) then true else (!x)) then true else (decide (from' > to'))) then true else (decide ((IntKind.wrap .i64 (to' - from')) ≥ 4000))) = true := by
        intro x hx
        subst hx
        by_cases b1 : from' ≥ 0 <;> by_cases b2 : from' ≤ 73048 <;> by_cases b3 : to' ≥ 0 <;> by_cases b4 : to' ≤ 73048 <;> simp only [b1, b2, b3, b4, decide_true, decide_false, cond_true, cond_false, Bool.not_true, Bool.not_false]
        by_cases b5 : from' > to'
        · rw [decide_eq_true b5]; rfl
        · rw [decide_eq_false b5]
          have b6 : IntKind.wrap .i64 (to' - from') ≥ 4000 := by
            rw [w64_in (by omega) (by omega)]
            refine Int.not_lt.1 (fun h => hv ⟨⟨b1, b2⟩, ⟨b3, b4⟩, by omega, h⟩)
          rw [decide_eq_true b6]; rfl
      cases hfr : (bif decide (from' ≥ 0) then decide (from' ≤ 73048) else false) with
      | true =>
        have k := key _ rfl
        rw [hfr] at k
        simp only [Bool.not_true, beq_self_eq_true, Bool.and_true, if_true, Option.bind_some, cond_false] at k ⊢
        rw [if_pos k, if_pos k]
        exact B2.some ⟨by simp, fun x hx => by cases hx⟩
      | false => exact B2.some ⟨by simp, fun x hx => by cases hx⟩
theorem b_Total {l : List ApiAccrual} (hl : l.length ≤ 4398046511104) (h : ∀ x ∈ l, wok x.Credit ∧ wok x.Debit) : B2 (accrue_Total l) (q27_Total l) (fun r => wok r.1 ∧ wok r.2.1) := by
  unfold accrue_Total q27_Total
  refine B2.iter (fun s => 0 ≤ s.1 ∧ s.1 ≤ (l.length : Int) ∧ wok ⟨s.2.1, s.2.2.1⟩ ∧ wok ⟨s.2.2.2.1, s.2.2.2.2⟩) (fun s => l.length - s.1.toNat) ⟨by simp, by simp, wok_zero, wok_zero⟩ (by simp; omega) (fun s hs => ?_)
  obtain ⟨i0, i1, i2, i3⟩ := hs
  unfold accrue_Total_l1 q27_Total_l1
  refine B2.ite (fun hc => ?_) (fun _ => B2.some ⟨i2, i3⟩)
  simp at hc
  obtain ⟨x, hx, _⟩ := W.row0 (xs := l) (Q := fun _ => True) i0 hc (fun _ _ => trivial)
  have hm := h x (getI_mem hx)
  rw [hx]
  simp only [Option.bind_some]
  rw [s_Add i2 hm.1, r_Add i2 hm.1, s_Add i3 hm.2, r_Add i3 hm.2]
  simp only [Option.bind_some]
  refine B2.ite (fun _ => B2.some ⟨wok_zero, wok_zero⟩) (fun _ => ?_)
  have w : IntKind.wrap .i64 (s.1 + 1) = s.1 + 1 := w64_in (by omega) (by omega)
  rw [w]
  exact B2.some ⟨⟨show 0 ≤ s.1 + 1 by omega, show s.1 + 1 ≤ _ by omega, wok_res _, wok_res _⟩, show l.length - (s.1 + 1).toNat < l.length - s.1.toNat by omega⟩
theorem b_settled_j {x : ApiInterest} {g : ApiWide} (hg : wok g) : B2 (settle_settled_j2 x (g.Hi, g.Lo)) (q29_settled_j0 x (g.Hi, g.Lo)) (fun r => i64 r.1 ∧ wok r.2.1) := by
  have hg' : wok ⟨g.Hi, g.Lo⟩ := hg
  unfold settle_settled_j2 q29_settled_j0 settle_settled_j1 settle_settled_j0 wide_Cmp
  simp only
  have hlo : ¬ g.Lo < 0 := by have := hg.2.1; omega
  by_cases hn : g.Hi < 0
  · have h0 : (g.Hi == 0) = false := by simp; omega
    rw [h0, decide_eq_true hn]
    simp only [Bool.false_and, Bool.false_eq_true, if_false, cond_true, if_true, Option.bind_some]
    rw [if_neg (by decide)]
    cases x.Keep with
    | true => exact B2.some ⟨i64_zero, hg'⟩
    | false => exact B2.some ⟨i64_zero, wok_zero⟩
  · have hc : ∀ k : Int → Option (Int × ApiWide × Int), ((if ((g.Hi == 0) && ((g.Lo == 0) && true)) = true then (some (0 : Int)) else (if (bif (decide (g.Hi < 0)) then true else (bif (g.Hi == 0) then (decide (g.Lo < 0)) else false)) = true then (some (-1)) else (some 1))).bind k) = (if ((g.Hi == 0) && ((g.Lo == 0) && true)) = true then k 0 else k 1) := by
      intro k
      rw [decide_eq_false hn, decide_eq_false hlo]
      cases ((g.Hi == 0) && ((g.Lo == 0) && true)) <;> cases (g.Hi == 0) <;> rfl
    rw [hc, if_pos (show decide ((0 : Int) ≥ 0) = true from rfl), if_pos (show decide ((1 : Int) ≥ 0) = true from rfl), ite_self, if_neg (by rw [decide_eq_false hn]; decide)]
    refine B2.bind (b_Amount hg') (fun r hr => ?_)
    by_cases he : r.2.2 = 0
    · have e1 : (r.2.2 != 0) = false := by simpa using he
      rw [e1]
      cases x.Keep with
      | true => exact B2.some ⟨hr.1, hr.2.1⟩
      | false =>
        simp only [Bool.false_eq_true, if_false, cond_false, Bool.not_false, if_true]
        rw [he]
        exact B2.some ⟨hr.1, wok_zero⟩
    · have e1 : (r.2.2 != 0) = true := by simpa using he
      rw [e1]
      simp only [if_true, cond_true]
      rw [hr.2.2 he]
      exact B2.some ⟨i64_zero, wok_zero⟩
theorem b_settled {x : ApiInterest} {g r : ApiWide} (hg : wok g) (hr : wok r) : B2 (settle_settled x g r) (q29_settled g r x) (fun r => i64 r.1 ∧ wok r.2.1) := by
  unfold settle_settled q29_settled
  refine B2.ite (fun _ => ?_) (fun _ => b_settled_j hg)
  rw [s_Add hg hr, r_Add hg hr]
  simp only [Option.bind_some]
  exact B2.ite (fun _ => B2.some ⟨i64_zero, wok_zero⟩) (fun _ => b_settled_j (wok_res _))
theorem b_Period {b : ApiBooks} {l : List ApiPeriod} {id to' : Int} (hN : 1024 ≤ N ∧ N ≤ 1048576) (hb : ApiBooks.good N b) (hl : (gList ApiPeriod.good) N l) :
    B2 (settle_Period b l id to') (q29_Period b l id to') (fun r => r.2 = 0 → r.1.Account = id ∧ r.1.To = to' ∧ r.1.Count = 0) := by
  have hN4 : 1024 ≤ N ∧ N ≤ 4398046511104 := ⟨hN.1, by omega⟩
  obtain ⟨gp, ga, gj⟩ := getB hb
  unfold settle_Period q29_Period settle_first q29_First
  rw [e_Find, e_Valid, e_Product, e_Last]
  obtain ⟨fa, hf, _⟩ := w_q24_Find hN4 (id := id) (gsz_ApiBooks hb)
  rw [hf]
  simp only [Option.bind_some]
  have hpost := find_post hf
  obtain ⟨a, ok⟩ := fa
  cases ok with
  | false => exact B2.some (fun h => by cases h)
  | true =>
    obtain ⟨ha, hid⟩ := hpost rfl
    have hid : a.Id = id := hid
    have hga := ga.2 a ha
    simp only [Bool.not_true, Bool.false_eq_true, if_false]
    rw [hid]
    obtain ⟨la, hla, _⟩ := w_q29_Last hN4 (l := l) (id := id) (good_any hl)
    rw [hla]
    simp only [Option.bind_some]
    have hlp := last_post hla
    have hwl : wok la.1.CreditRest ∧ wok la.1.DebitRest := by
      rcases hlp with ⟨_, hm⟩ | ⟨_, hm⟩
      · have := hl.2 _ hm
        exact ⟨wok_of this.2.2.2.2.2.2.2.1, wok_of this.2.2.2.2.2.2.2.2⟩
      · rw [hm]; exact ⟨wok_zero, wok_zero⟩
    have first : ∃ f1 f2, (if la.2 = true then (some (IntKind.wrap .i64 (la.1.To + 1))) else (some a.Opened)) = some f1 ∧ (if (!la.2) = true then (some a.Opened) else (if (decide (la.1.To > 73048)) = true then (some 73050) else (some (IntKind.wrap .i64 (la.1.To + 1))))) = some f2 ∧ (f1 = f2 ∨ (¬ (0 ≤ f1 ∧ f1 ≤ 73048) ∧ ¬ (0 ≤ f2 ∧ f2 ≤ 73048))) := by
      cases hl2 : la.2 with
      | false => exact ⟨_, _, rfl, rfl, .inl rfl⟩
      | true =>
        have hto : i64 la.1.To := by
          rcases hlp with ⟨_, hm⟩ | ⟨hm, _⟩
          · exact i64_of (hl.2 _ hm).2.2.1
          · rw [hl2] at hm; cases hm
        by_cases hgt : la.1.To > 73048
        · refine ⟨IntKind.wrap .i64 (la.1.To + 1), 73050, rfl, by rw [if_neg (by decide), if_pos (decide_eq_true hgt)], .inr ⟨?_, by omega⟩⟩
          rw [wi]
          unfold i64 at hto
          omega
        · exact ⟨_, _, rfl, by rw [if_neg (by decide), if_neg (by rw [decide_eq_false hgt]; decide)], .inl rfl⟩
    obtain ⟨f1, f2, e1, e2, e3⟩ := first
    rw [e1, e2]
    unfold q04_Valid
    simp only [Option.bind_some]
    have same : ∀ (K1 K2 : Option (ApiPeriod × Int)), (f1 = f2 → B2 K1 K2 (fun r => r.2 = 0 → r.1.Account = id ∧ r.1.To = to' ∧ r.1.Count = 0)) →
        B2 ((if (((!(bif decide (to' ≥ 0) then decide (to' ≤ 73048) else false)) == false) && true) = true then some (bif decide (f1 ≥ 0) then decide (f1 ≤ 73048) else false) else some default).bind fun r3 => if (bif (bif (!(bif decide (to' ≥ 0) then decide (to' ≤ 73048) else false)) then true else (!r3)) then true else (decide (f1 > to'))) = true then (some ((⟨0, 0, 0, 0, 0, 0, 0, (⟨0, 0⟩ : ApiWide), (⟨0, 0⟩ : ApiWide)⟩ : ApiPeriod), 1)) else K1)
          ((if (((!(bif decide (to' ≥ 0) then decide (to' ≤ 73048) else false)) == false) && true) = true then some (bif decide (f2 ≥ 0) then decide (f2 ≤ 73048) else false) else some default).bind fun r3 => if (bif (bif (!(bif decide (to' ≥ 0) then decide (to' ≤ 73048) else false)) then true else (!r3)) then true else (decide (f2 > to'))) = true then (some ((⟨0, 0, 0, 0, 0, 0, 0, (⟨0, 0⟩ : ApiWide), (⟨0, 0⟩ : ApiWide)⟩ : ApiPeriod), 1)) else K2) (fun r => r.2 = 0 → r.1.Account = id ∧ r.1.To = to' ∧ r.1.Count = 0) := by
      intro K1 K2 hK
      cases (bif decide (to' ≥ 0) then decide (to' ≤ 73048) else false) with
      | false => exact B2.some (fun h => by cases h)
      | true =>
        simp only [Bool.not_true, beq_self_eq_true, Bool.and_true, if_true, Option.bind_some, cond_false]
        rcases e3 with e3 | ⟨n1, n2⟩
        · subst e3
          exact B2.ite (fun _ => B2.some (fun h => by cases h)) (fun _ => hK rfl)
        · have q : ∀ f : Int, ¬ (0 ≤ f ∧ f ≤ 73048) → (bif decide (f ≥ 0) then decide (f ≤ 73048) else false) = false := by
            intro f hf
            by_cases h1 : f ≥ 0
            · have h2 : ¬ f ≤ 73048 := fun h => hf ⟨h1, h⟩
              rw [decide_eq_true h1, decide_eq_false h2]; rfl
            · rw [decide_eq_false h1]; rfl
          rw [q f1 n1, q f2 n2]
          exact B2.some (fun h => by cases h)
    refine same _ _ (fun hff => ?_)
    subst hff
    refine B2.bind (b_Series hN hb) (fun r4 h4 => B2.ite (fun he => B2.some (fun h => by simp at he; exact absurd h he)) (fun _ => ?_))
    obtain ⟨pr, y1, _⟩ := w_q24_Product hN4 (gsz_ApiBooks hb) (id := id) (day := to')
    rw [y1]
    simp only [Option.bind_some]
    have hgp : pr.2 = true → ApiProduct.good N pr.1 := by
      intro ht
      unfold q24_Product at y1
      rw [hf] at y1
      simp only [Option.bind_some, Bool.not_true, Bool.false_eq_true, if_false] at y1
      rw [Option.bind_eq_some_iff] at y1
      obtain ⟨q, q1, q2⟩ := y1
      have := Option.some.inj q2
      subst this
      exact gp.2 _ (at_post q1 ht)
    obtain ⟨prod, ok⟩ := pr
    cases ok with
    | false => exact B2.some (fun h => by cases h)
    | true =>
      have hp := hgp rfl
      have htax : i64 prod.TaxPpm := i64_of hp.2.2.2.2.2.2.1
      simp only [Bool.not_true, Bool.false_eq_true, if_false]
      refine B2.bind (b_Total h4.1 h4.2) (fun r6 h6 => B2.ite (fun he => B2.some (fun h => by simp at he; exact absurd h he)) (fun _ => ?_))
      refine B2.bind (b_settled h6.1 hwl.1) (fun r8 h8 => B2.ite (fun he => B2.some (fun h => by simp at he; exact absurd h he)) (fun _ => ?_))
      refine B2.bind (b_settled h6.2 hwl.2) (fun r9 h9 => B2.ite (fun he => B2.some (fun h => by simp at he; exact absurd h he)) (fun _ => ?_))
      exact B2.bind (b_Percent h8.1 htax) (fun r10 h10 => B2.ite (fun he => B2.some (fun h => by simp at he; exact absurd h he)) (fun _ => B2.some (fun _ => ⟨rfl, rfl, rfl⟩)))
theorem subl_good {τ : Type} {G : Nat → τ → Prop} {xs : List τ} {i j : Int} (h : gList G N xs) : gList G N (subl xs i j) := good_subl h
theorem b_fits {b : ApiBooks} {l : List ApiPeriod} {i : Int} {x : ApiPeriod} (hN : 1024 ≤ N ∧ N ≤ 1048576) (hb : ApiBooks.good N b) (hl : (gList ApiPeriod.good) N l) (hx : getI l i = some x) (h0 : 0 ≤ i) (h1 : i < (l.length : Int)) :
    B2 (backdate_fits b l i) (q30_Fits b (subl l 0 i) x) (fun _ => True) := by
  unfold backdate_fits backdate_computed q30_Fits q30_amounts
  rw [if_pos ⟨by omega, h0, by omega, by omega⟩, hx]
  simp only [Option.bind_some]
  obtain ⟨r, e1, e2, e3⟩ := b_Period (id := x.Account) (to' := x.To) hN hb (subl_good (i := 0) (j := i) hl)
  rw [e1, e2]
  simp only [Option.bind_some]
  by_cases hr : r.2 = 0
  · obtain ⟨p1, p2, p3⟩ := e3 hr
    rw [hr, p1, p2]
    simp only [beq_self_eq_true, Bool.and_true, if_true, Option.bind_some, cond_true, Bool.true_and]
    cases (r.1.From == x.From) <;> cases (r.1.Credit == x.Credit) <;> cases (r.1.Debit == x.Debit) <;> cases (r.1.Tax == x.Tax) <;> cases (r.1.CreditRest.Hi == x.CreditRest.Hi && r.1.CreditRest.Lo == x.CreditRest.Lo) <;> cases (r.1.DebitRest.Hi == x.DebitRest.Hi && r.1.DebitRest.Lo == x.DebitRest.Lo) <;> exact B2.some trivial
  · have hf : (r.2 == 0) = false := by simpa using hr
    rw [hf]
    exact B2.some trivial
theorem b_Clean {b : ApiBooks} {l : List ApiPeriod} {id : Int} (hN : 1024 ≤ N ∧ N ≤ 1048576) (hb : ApiBooks.good N b) (hl : (gList ApiPeriod.good) N l) :
    B2 (backdate_Clean b l id) (q30_Clean b l id) (fun _ => True) := by
  have hN4 : 1024 ≤ N ∧ N ≤ 4398046511104 := ⟨hN.1, by omega⟩
  have hlen := hl.1
  unfold backdate_Clean q30_Clean
  rw [e_Find]
  refine B2.bind (B2.of rfl (w_q24_Find hN4 (id := id) (gsz_ApiBooks hb))) (fun r _ => B2.ite (fun _ => B2.some trivial) (fun _ => ?_))
  refine B2.iter (fun s => 0 ≤ s ∧ s ≤ (l.length : Int)) (fun s => l.length - s.toNat) ⟨by omega, by omega⟩ (by omega) (fun s hs => ?_)
  unfold backdate_Clean_l1 q30_Clean_l1
  refine B2.ite (fun hc => ?_) (fun _ => B2.some trivial)
  simp at hc
  obtain ⟨x, hx, _⟩ := W.row0 (xs := l) (Q := fun _ => True) hs.1 hc (fun _ _ => trivial)
  have w : IntKind.wrap .i64 (s + 1) = s + 1 := w64_in (by omega) (by omega)
  rw [hx, w]
  simp only [Option.bind_some]
  rw [if_pos (fun _ => ⟨by omega, hs.1, hs.2⟩)]
  have nxt : (0 ≤ s + 1 ∧ s + 1 ≤ (l.length : Int)) ∧ l.length - (s + 1).toNat < l.length - s.toNat := by omega
  cases (x.Account == id) with
  | false => exact B2.some nxt
  | true =>
    simp only [beq_self_eq_true, Bool.and_true, if_true, Option.bind_some, cond_true]
    refine B2.bind (b_fits hN hb hl hx hs.1 hc) (fun r _ => ?_)
    exact B2.ite (fun _ => B2.some trivial) (fun _ => B2.some nxt)
theorem backdateCleans_true (b : ApiBooks) (l : List ApiPeriod) (id : Int) (hb : ApiBooks.good 1048576 b) (hl : (gList ApiPeriod.good) 1048576 l) (hid : gInt .i64 1048576 id) : l30_BackdateCleans b l id = some true := by
  have hN : 1024 ≤ 1048576 ∧ 1048576 ≤ 1048576 := by omega
  have hN4 : 1024 ≤ 1048576 ∧ 1048576 ≤ 4398046511104 := by omega
  have hS : (1048576 : Nat) ≤ 1048576 := Nat.le_refl _
  unfold l30_BackdateCleans
  rw [lives]
  obtain ⟨r, e1, _⟩ := w_l30_Few hN4 (gsz_ApiBooks hb) (good_any hl)
  obtain ⟨r1, e2, _⟩ := w_l30_near hN4 (id := id) (gsz_ApiBooks hb) (good_any hl)
  obtain ⟨r2, e3, _⟩ := w_q26_Check hN4 hS (gsz_ApiBooks hb)
  obtain ⟨c, f1, f2, _⟩ := b_Clean (id := id) hN hb hl
  rw [e1, e2, e3, f1, f2]
  simp only [Option.bind_some]
  have ex : ∀ x : Option Int, (∃ v, x = some v) → (x.bind fun r2 => if (bif (bif (!r) then true else (!r1)) then true else (r2 != 0)) = true then some true else (if (((c == c) == true) && true) = true then some true else some default).bind fun r6 => some (bif (c == c) then r6 else false)) = some true := by
    rintro x ⟨v, rfl⟩
    simp only [Option.bind_some, beq_self_eq_true, Bool.and_true, if_true, cond_true]
    split <;> rfl
  cases r with
  | false => rfl
  | true =>
    cases r1 with
    | false => rfl
    | true =>
      simp only [Bool.not_true, beq_self_eq_true, Bool.and_true, if_true, Option.bind_some, cond_false, cond_true]
      split <;> rfl
end Go.Cb
set_option linter.unusedVariables false
namespace Go.Cb
open Go.Eng Go.RowKit Go.Proofs
open Go.ChangeShapes Go.WideShapes Go.Proofs.YtkiolflkkbfaiaaGreatDoor
noncomputable def stepFields : Array Field := match Tryz.prog.underlying 244 with
  | some (.struct fs) => fs
  | _ => #[]
theorem u245 : Tryz.prog.underlying 245 = some (.array 5 244) := by kernel_rfl
theorem u244 : Tryz.prog.underlying 244 = some (.struct stepFields) := by kernel_rfl
theorem u3 : Tryz.prog.underlying 3 = some (.int .i64) := by kernel_rfl
theorem f0 : (stepFields[0]?).map (fun f => (f.type, f.offset)) = some (3, 0) := by kernel_rfl
theorem f1 : (stepFields[1]?).map (fun f => (f.type, f.offset)) = some (3, 1) := by kernel_rfl
theorem fsz : stepFields.size = 2 := by kernel_rfl
theorem c244 : Tryz.prog.cellsOf 244 = 2 := by kernel_rfl
theorem c245 : Tryz.prog.cellsOf 245 = 10 := by kernel_rfl
theorem c3 : Tryz.prog.cellsOf 3 = 1 := by kernel_rfl
set_option maxRecDepth 100000 in
theorem step_pair {H : Type} {enc : TypeId × Value → H} {w : World} {base : Nat} {spare : Nat → Bool} {held : Bool} {fuel : Nat} {cs : List Value} {x : DataW H × List MemPlace}
    (h : DataW.trod enc Tryz.prog w base spare held fuel 244 cs = some x) : ∃ a b, cs = [.int .i64 a, .int .i64 b] ∧ x.1 = .agg [.lit (.int .i64 a), .lit (.int .i64 b)] := by
  obtain ⟨xs, n, _, ex, hlen, hl, hel⟩ := DataW.trod_struct u244 h
  rw [c244] at hlen
  rw [fsz] at hl
  match cs, hlen with
  | [p, q], _ =>
    match xs, hl with
    | [x0, x1], _ =>
      have k0 : ∃ f, stepFields[0]? = some f ∧ f.type = 3 ∧ f.offset = 0 := by
        have h := f0
        cases hf : stepFields[0]? with
        | none => rw [hf] at h; cases h
        | some f => rw [hf] at h; simp at h; exact ⟨f, rfl, h.1, h.2⟩
      have k1 : ∃ f, stepFields[1]? = some f ∧ f.type = 3 ∧ f.offset = 1 := by
        have h := f1
        cases hf : stepFields[1]? with
        | none => rw [hf] at h; cases h
        | some f => rw [hf] at h; simp at h; exact ⟨f, rfl, h.1, h.2⟩
      obtain ⟨g0, a0, b0, d0⟩ := k0
      obtain ⟨g1, a1, b1, d1⟩ := k1
      have e0 := hel 0 g0 a0
      have e1 := hel 1 g1 a1
      rw [b0, d0, c3] at e0
      rw [b1, d1, c3] at e1
      obtain ⟨z0, i0, j0, _⟩ := DataW.trod_int u3 e0
      obtain ⟨z1, i1, j1, _⟩ := DataW.trod_int u3 e1
      simp at i0 i1
      subst i0 i1 j0 j1
      exact ⟨z0, z1, rfl, by rw [ex]; rfl⟩
set_option maxRecDepth 100000 in
theorem steps {W : World} (h : laidMetH Tryz.prog [("corebank/rounding.steps", Rows.laid_corebank_rounding_steps)] W) :
    W.var? Tryz.prog "corebank/rounding.steps" = some #[.int .i64 0, .int .i64 0, .int .i64 1, .int .i64 0, .int .i64 0, .int .i64 1, .int .i64 0, .int .i64 0, .int .i64 1, .int .i64 1] := by
  rw [MakeChecks.laidMetH_plain _ _ _ (by kernel_rfl)] at h
  obtain ⟨ps, ⟨g, t, cs, fuel, p, q, hg, ht, hv, hd, _, _⟩, _, _⟩ := h
  obtain rfl := Option.some.inj ((show Tryz.prog.globalNamed "corebank/rounding.steps" = some 0 by kernel_rfl).symm.trans hg)
  obtain rfl := Option.some.inj ((show (Tryz.prog.globals[0]?).map (·.type) = some 245 by kernel_rfl).symm.trans ht)
  obtain ⟨xs, m, _, ex, hlen, hl, hel⟩ := DataW.trod_array u245 hd
  rw [c245] at hlen
  obtain ⟨l⟩ := cs
  match l, hlen with
  | [a0, a1, a2, a3, a4, a5, a6, a7, a8, a9], _ =>
    match xs, hl with
    | [x0, x1, x2, x3, x4], _ =>
      have k0 := hel 0 (by omega)
      have k1 := hel 1 (by omega)
      have k2 := hel 2 (by omega)
      have k3 := hel 3 (by omega)
      have k4 := hel 4 (by omega)
      rw [c244] at k0 k1 k2 k3 k4
      obtain ⟨p0, q0, i0, j0⟩ := step_pair k0
      obtain ⟨p1, q1, i1, j1⟩ := step_pair k1
      obtain ⟨p2, q2, i2, j2⟩ := step_pair k2
      obtain ⟨p3, q3, i3, j3⟩ := step_pair k3
      obtain ⟨p4, q4, i4, j4⟩ := step_pair k4
      have e3 := (DataW.agg.inj (Prod.mk.inj ex).1)
      simp only [List.map_cons, List.map_nil, List.cons.injEq, and_true, j0, j1, j2, j3, j4] at e3
      simp at e3 i0 i1 i2 i3 i4
      obtain ⟨⟨rfl, rfl⟩, ⟨rfl, rfl⟩, ⟨rfl, rfl⟩, ⟨rfl, rfl⟩, rfl, rfl⟩ := e3
      obtain ⟨rfl, rfl⟩ := i0
      obtain ⟨rfl, rfl⟩ := i1
      obtain ⟨rfl, rfl⟩ := i2
      obtain ⟨rfl, rfl⟩ := i3
      obtain ⟨rfl, rfl⟩ := i4
      exact hv
set_option maxRecDepth 100000 in
theorem globOK {W : World} (hL : laidMetH Tryz.prog [("corebank/rounding.steps", Rows.laid_corebank_rounding_steps)] W) : GlobOK gt W (fun b => b < W.heap.size) := by
  have hc := fun j => World.var?_cell (show Tryz.prog.globalNamed "corebank/rounding.steps" = some 0 by kernel_rfl) (steps hL) j
  intro g cs hg
  have hg0 : g = 0 ∧ cs = gtab := by
    unfold gt at hg
    cases g with
    | zero => exact ⟨rfl, (Option.some.inj hg).symm⟩
    | succ g => cases hg
  obtain ⟨rfl, rfl⟩ := hg0
  refine ⟨?_, ?_, fun j d hd => ?_⟩
  · have := hc 0
    unfold World.cell? at this
    cases hb : W.heap[0]? with
    | none => rw [hb] at this; cases this
    | some o => exact (Array.getElem?_eq_some_iff.1 hb).1
  · intro d hd
    simp only [gtab, List.mem_cons, List.not_mem_nil, or_false] at hd
    rcases hd with rfl | rfl | rfl | rfl | rfl | rfl | rfl | rfl | rfl | rfl <;> rfl
  · rw [hc]
    match j, hd with
    | 0, hd => cases hd; exact ⟨_, rfl, Rep.int _ _⟩
    | 1, hd => cases hd; exact ⟨_, rfl, Rep.int _ _⟩
    | 2, hd => cases hd; exact ⟨_, rfl, Rep.int _ _⟩
    | 3, hd => cases hd; exact ⟨_, rfl, Rep.int _ _⟩
    | 4, hd => cases hd; exact ⟨_, rfl, Rep.int _ _⟩
    | 5, hd => cases hd; exact ⟨_, rfl, Rep.int _ _⟩
    | 6, hd => cases hd; exact ⟨_, rfl, Rep.int _ _⟩
    | 7, hd => cases hd; exact ⟨_, rfl, Rep.int _ _⟩
    | 8, hd => cases hd; exact ⟨_, rfl, Rep.int _ _⟩
    | 9, hd => cases hd; exact ⟨_, rfl, Rep.int _ _⟩
    | k + 10, hd => simp [gtab] at hd
end Go.Cb
