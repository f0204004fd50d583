/- The engine, part 26: a state brought to a plain form: live temporaries, names in order. Conditions: none. -/
import Derived.Test.YtkiolflkkbfaiaaDoorEngY
set_option linter.unusedVariables false
set_option linter.unusedSimpArgs false
namespace Go.Eng
open Go.RowKit

def idxIn (m : Nat) : List Nat → Nat → Option Nat
  | [], _ => none
  | n :: r, i => match Nat.beq n m with
    | true => some i
    | false => idxIn m r (i + 1)
def renR (bl : Blks) (ns : List Nat) : RV → RV
  | .val d => .val d
  | .nils => .nils
  | .any => .any
  | .own m => match bl m with
    | some (.fro rows) => .val (.slice rows)
    | some (.vec _ _) => match idxIn m ns 0 with
      | some i => .own i
      | none => .any
    | _ => .any
def renS (bl : Blks) (ns : List Nat) : Slot → Slot
  | .rv r => .rv (renR bl ns r)
  | .row cs o => .row cs o
  | .box m o => match bl m with
    | some (.frob cs) => .row cs o
    | some (.box _) => match idxIn m ns 0 with
      | some i => .box i o
      | none => .unit
    | _ => .unit
  | _ => .unit
def renB (bl : Blks) (ns : List Nat) : Option Blk → Option Blk
  | some (.box cs) => some (.box (cs.map (renR bl ns)))
  | some (.vec e rows) => some (.vec e rows)
  | _ => none
def ownsR (bl : Blks) : RV → List Nat
  | .own m => match bl m with
    | some (.vec _ _) => [m]
    | _ => []
  | _ => []
def froR (bl : Blks) : RV → Pch
  | .own m => match bl m with
    | some (.vec _ rows) => [(m, some (.fro rows))]
    | _ => []
  | _ => []
def cat {α β : Type} (f : α → List β) : List α → List β
  | [] => []
  | a :: r => f a ++ cat f r
theorem mem_cat {α β : Type} {f : α → List β} {b : β} : ∀ {l : List α}, b ∈ cat f l → ∃ a ∈ l, b ∈ f a
  | [], h => by cases h
  | a :: r, h => by
    rcases List.mem_append.1 h with h | h
    · exact ⟨a, by simp, h⟩
    · obtain ⟨x, x1, x2⟩ := mem_cat h; exact ⟨x, List.mem_cons_of_mem _ x1, x2⟩
/-- What is frozen at temporary i. -/
def frzAt (sl : Nat → Slot) (bl : Blks) : Nat × Bool → Pch
  | (_, false) => []
  | (i, true) => match sl i with
    | .rv r => froR bl r
    | .box m _ => match bl m with
      | some (.box cs) => cat (froR bl) cs
      | _ => []
    | _ => []
def namesAt (sl : Nat → Slot) (bl : Blks) (x : Nat × Bool) : List Nat := match sl x.1 with
  | .rv r => ownsR bl r
  | .box m _ => match bl m with
    | some (.box cs) => m :: cat (ownsR bl) cs
    | _ => []
  | _ => []
def nub : List Nat → List Nat → List Nat
  | [], _ => []
  | n :: r, seen => match natIn n seen with
    | true => nub r seen
    | false => n :: nub r (n :: seen)
def numB (bl : Blks) (ns : List Nat) : List Nat → Nat → List (Nat × Option Blk)
  | [], _ => []
  | n :: r, i => (i, renB bl ns (bl n)) :: numB bl ns r (i + 1)
def canon1 (live : List (Nat × Bool)) (sl : Nat → Slot) (bl : Blks) : St :=
  let ns := nub (cat (namesAt sl bl) live) []
  match distinct ns with
  | true => { slots := live.map fun x => (x.1, renS bl ns (sl x.1)), blks := numB bl ns ns 0, next := ns.length }
  | false => { slots := [], blks := [], next := 0 }
/-- THE PLAIN FORM. -/
def canon (live : List (Nat × Bool)) (st : St) : St :=
  canon1 live (lookS st.slots) (lookB (cat (frzAt (lookS st.slots) (lookB st.blks)) live ++ st.blks))

section
variable {E : Env} {ψ : Nat → Value} {sl : Nat → Slot} {bl : Blks} {U : Nat → Prop} {a : Act} {w : World}
theorem froR_frz {r : RV} : Frz bl (froR bl r) := by
  intro x hx
  unfold froR at hx
  split at hx
  · split at hx
    · rename_i m e rows hb
      simp at hx
      subst hx
      exact .inl ⟨e, rows, hb, rfl⟩
    · cases hx
  · cases hx
theorem frzAt_frz {live : List (Nat × Bool)} : Frz bl (cat (frzAt sl bl) live) := by
  intro x hx
  obtain ⟨y, _, hy⟩ := mem_cat hx
  have h1 : ∃ r, x ∈ froR bl r := by
    unfold frzAt at hy
    split at hy
    · cases hy
    · split at hy
      · exact ⟨_, hy⟩
      · split at hy
        · obtain ⟨r, _, hr⟩ := mem_cat hy; exact ⟨r, hr⟩
        · cases hy
      · cases hy
  obtain ⟨r, hr⟩ := h1
  rcases froR_frz x hr with h | ⟨cs, ds, q, g1, g2, g3, g4⟩
  · exact .inl h
  · unfold froR at hr
    split at hr
    · split at hr
      · simp at hr; subst hr; cases g2
      · cases hr
    · cases hr
theorem idxIn_spec {m : Nat} : ∀ {l : List Nat} {i k : Nat}, idxIn m l i = some k → i ≤ k ∧ l[k - i]? = some m
  | [], _, _, h => by cases h
  | n :: r, i, k, h => by
    unfold idxIn at h
    split at h
    · rename_i hb
      injection h with h
      subst h
      exact ⟨Nat.le_refl _, by simp [Nat.eq_of_beq_eq_true hb]⟩
    · obtain ⟨h1, h2⟩ := idxIn_spec h
      refine ⟨by omega, ?_⟩
      rw [show k - i = (k - (i + 1)) + 1 by omega, List.getElem?_cons_succ]
      exact h2
theorem natIn_spec {n : Nat} : ∀ {l : List Nat}, natIn n l = false → n ∉ l
  | [], _ => by simp
  | m :: r, h => by
    unfold natIn at h
    split at h
    · cases h
    · rename_i hb
      intro hm
      rcases List.mem_cons.1 hm with rfl | hm
      · simp at hb
      · exact natIn_spec h hm
theorem distinct_nth : ∀ {l : List Nat}, distinct l = true → ∀ (i j n : Nat), l[i]? = some n → l[j]? = some n → i = j
  | [], _, i, j, n, h, _ => by simp at h
  | m :: r, hd, i, j, n, hi, hj => by
    unfold distinct at hd
    split at hd
    · cases hd
    · rename_i hn
      have hn := natIn_spec hn
      cases i with
      | zero =>
        cases j with
        | zero => rfl
        | succ j =>
          simp at hi hj
          subst hi
          exact (hn (List.mem_of_getElem? hj)).elim
      | succ i =>
        cases j with
        | zero =>
          simp at hi hj
          subst hj
          exact (hn (List.mem_of_getElem? hi)).elim
        | succ j =>
          simp at hi hj
          rw [distinct_nth hd i j n hi hj]
theorem numB_look {ns : List Nat} : ∀ (l : List Nat) (i nm : Nat), lookB (numB bl ns l i) nm = if i ≤ nm then match l[nm - i]? with
    | some n => renB bl ns (bl n)
    | none => none
    else none
  | [], i, nm => by simp [numB, lookB]
  | n :: r, i, nm => by
    show lookB ((i, renB bl ns (bl n)) :: numB bl ns r (i + 1)) nm = _
    unfold lookB
    split
    · rename_i hb
      have := Nat.eq_of_beq_eq_true hb
      subst this
      simp
    · rename_i hb
      rw [numB_look r (i + 1) nm]
      have hne : nm ≠ i := fun e => by subst e; simp at hb
      by_cases h2 : i + 1 ≤ nm
      · rw [if_pos h2, if_pos (by omega), show nm - i = (nm - (i + 1)) + 1 by omega, List.getElem?_cons_succ]
      · rw [if_neg h2, if_neg (by omega)]
theorem map_look {f : Nat → Slot} : ∀ (l : List (Nat × Bool)) (i : Nat), lookS (l.map fun x => (x.1, f x.1)) i = .unit ∨ lookS (l.map fun x => (x.1, f x.1)) i = f i
  | [], i => .inl rfl
  | x :: r, i => by
    show lookS ((x.1, f x.1) :: r.map fun x => (x.1, f x.1)) i = _ ∨ lookS ((x.1, f x.1) :: r.map fun x => (x.1, f x.1)) i = _
    unfold lookS
    split
    · rename_i hb
      rw [Nat.eq_of_beq_eq_true hb]
      exact .inr rfl
    · exact map_look r i
theorem canon1_ok (live : List (Nat × Bool)) (h : SimP E ψ sl bl U a w) : ∃ ψ', SimP E ψ' (lookS (canon1 live sl bl).slots) (lookB (canon1 live sl bl).blks) (fun m => m < (canon1 live sl bl).next) a w := by
  unfold canon1
  generalize nub (cat (namesAt sl bl) live) [] = ns
  dsimp only
  split
  · rename_i hd
    have hds := distinct_nth hd
    let ψ' : Nat → Value := fun j => ψ (ns.getD j 0)
    let bl' : Blks := lookB (numB bl ns ns 0)
    have hbl : ∀ nm, bl' nm = match ns[nm]? with
        | some n => renB bl ns (bl n)
        | none => none := fun nm => by
      show lookB (numB bl ns ns 0) nm = _
      rw [numB_look, if_pos (Nat.zero_le _), Nat.sub_zero]
    have hb1 : ∀ nm k, bl' nm = some k → ∃ n k0, ns[nm]? = some n ∧ ψ' nm = ψ n ∧ bl n = some k0 ∧ renB bl ns (some k0) = some k ∧ k0.live = true ∧ k.live = true := by
      intro nm k hk
      rw [hbl] at hk
      cases hn : ns[nm]? with
      | none => rw [hn] at hk; cases hk
      | some n =>
        rw [hn] at hk
        dsimp only at hk
        have hψ : ψ' nm = ψ n := by show ψ (ns.getD nm 0) = _; simp [List.getD_eq_getElem?_getD, hn]
        cases hb : bl n with
        | none => rw [hb] at hk; cases hk
        | some k0 =>
          rw [hb] at hk
          cases k0 with
          | box cs => simp only [renB] at hk; injection hk with hk; subst hk; exact ⟨n, _, rfl, hψ, hb, rfl, rfl, rfl⟩
          | vec e rows => simp only [renB] at hk; injection hk with hk; subst hk; exact ⟨n, _, rfl, hψ, hb, rfl, rfl, rfl⟩
          | fro rows => cases hk
          | frob cs => cases hk
    have hok : ∀ b, okS E bl ψ w b → okS E bl' ψ' w b := by
      rintro b ⟨o1, o2, o3⟩
      refine ⟨o1, o2, fun nm k hk hl => ?_⟩
      obtain ⟨n, k0, _, hψ, hb, _, hl0, _⟩ := hb1 nm k hk
      rw [hψ]
      exact o3 n k0 hb hl0
    have hidx : ∀ m i, idxIn m ns 0 = some i → ψ' i = ψ m ∧ i < ns.length := by
      intro m i hi
      obtain ⟨_, h2⟩ := idxIn_spec hi
      simp at h2
      refine ⟨by show ψ (ns.getD i 0) = _; simp [List.getD_eq_getElem?_getD, h2], (List.getElem?_eq_some_iff.1 h2).1⟩
    have hrv : ∀ r v, RVRep w (okS E bl ψ w) ψ bl r v → RVRep w (okS E bl' ψ' w) ψ' bl' (renR bl ns r) v := by
      intro r v hr
      cases r with
      | val d => exact Rep.mono (fun _ _ => rfl) hok hr
      | nils => exact hr
      | any => trivial
      | own m =>
        unfold renR
        dsimp only
        split
        · rename_i rows hb
          have hv := hr (by rw [hb]; rfl)
          subst hv
          exact Rep.mono (fun _ _ => rfl) hok (h.blks m _ hb)
        · rename_i e rows hb
          split
          · rename_i i hi
            intro _
            rw [(hidx m i hi).1]
            exact hr (by rw [hb]; rfl)
          · trivial
        · trivial
    have hrefR : ∀ r, ∀ m ∈ refsR (renR bl ns r), m < ns.length := by
      intro r m hm
      cases r with
      | val d => cases hm
      | nils => cases hm
      | any => cases hm
      | own n =>
        unfold renR at hm
        dsimp only at hm
        split at hm
        · cases hm
        · split at hm
          · rename_i i hi
            simp [refsR] at hm
            subst hm
            exact (hidx n _ hi).2
          · cases hm
        · cases hm
    have hslot : ∀ s v, SlotRep w (okS E bl ψ w) ψ bl a.tmps s v → SlotRep w (okS E bl' ψ' w) ψ' bl' a.tmps (renS bl ns s) v := by
      intro s v hs
      cases s with
      | rv r => exact hrv r v hs
      | row cs o =>
        obtain ⟨ad, h1, h2, h3, h4⟩ := hs
        refine ⟨ad, h1, hok _ h2, h3, fun j d hj => ?_⟩
        obtain ⟨u, h5, h6⟩ := h4 j d hj
        exact ⟨u, h5, Rep.mono (fun _ _ => rfl) hok h6⟩
      | box m o =>
        unfold renS
        dsimp only
        split
        · rename_i cs hb
          obtain ⟨b, e1, e2⟩ := hs (by rw [hb]; rfl)
          obtain ⟨b', g1, g2, g3, g4⟩ := h.blks m _ hb
          rw [e1] at g1
          injection g1 with g1; injection g1 with g1; injection g1 with g1
          subst g1
          refine ⟨⟨b, 0, none⟩, by rw [add_plain, Nat.zero_add]; exact e2, hok _ g2, g3, fun j d hj => ?_⟩
          obtain ⟨u, u1, u2⟩ := g4 j d hj
          exact ⟨u, by rw [add_plain, Nat.zero_add]; exact u1, Rep.mono (fun _ _ => rfl) hok u2⟩
        · rename_i cs hb
          split
          · rename_i i hi
            intro _
            rw [(hidx m i hi).1]
            exact hs (by rw [hb]; rfl)
          · trivial
        · trivial
      | unit => trivial
      | gval l s => trivial
      | tup l => trivial
      | vel n i sz off => trivial
    have hrefS : ∀ s, ∀ m ∈ refsS (renS bl ns s), m < ns.length := by
      intro s m hm
      cases s with
      | rv r => exact hrefR r m hm
      | box n o =>
        unfold renS at hm
        dsimp only at hm
        split at hm
        · cases hm
        · split at hm
          · rename_i i hi
            simp [refsS] at hm
            subst hm
            exact (hidx n _ hi).2
          · cases hm
        · cases hm
      | _ => cases hm
    have hgg : ∀ s l s', renS bl ns s ≠ .gval l s' := by
      intro s l s' e
      cases s with
      | box n o =>
        unfold renS at e
        dsimp only at e
        split at e
        · cases e
        · split at e <;> cases e
        · cases e
      | _ => cases e
    refine ⟨ψ', h.size, h.defers, h.below, fun i => ?_, fun nm k hk => ?_, fun nm nm' k k' hk hk' hl hl' hne => ?_, fun nm hn => ?_, fun i m hm => ?_, fun nm cs hk r hr m hm => ?_, fun i l l' s' => ?_⟩
    · rcases map_look (f := fun i => renS bl ns (sl i)) live i with e | e
      · show SlotRep w (okS E bl' ψ' w) ψ' bl' a.tmps (lookS (live.map fun x => (x.1, renS bl ns (sl x.1))) i) _
        rw [e]; trivial
      · show SlotRep w (okS E bl' ψ' w) ψ' bl' a.tmps (lookS (live.map fun x => (x.1, renS bl ns (sl x.1))) i) _
        rw [e]; exact hslot _ _ (h.slots i)
    · obtain ⟨n, k0, hn, hψ, hb, hren, _, _⟩ := hb1 nm k hk
      have hrep := h.blks n k0 hb
      cases k0 with
      | box cs =>
        simp only [renB] at hren
        injection hren with hren
        subst hren
        obtain ⟨b, vs, t, g1, g2, g3, g4, g5⟩ := hrep
        refine ⟨b, vs, t, hψ.trans g1, g2, g3, by simp [g4], fun j r hj => ?_⟩
        rw [List.getElem?_map] at hj
        obtain ⟨r0, hr0, rfl⟩ := Option.map_eq_some_iff.1 hj
        refine ⟨hrv r0 _ (g5 j r0 hr0).1, fun d hd => ?_⟩
        cases r0 with
        | val d' => exact (g5 j _ hr0).2 d hd
        | nils => cases hd
        | any => cases hd
        | own m =>
          unfold renR at hd
          dsimp only at hd
          split at hd
          · injection hd with hd; subst hd; rfl
          · split at hd <;> cases hd
          · cases hd
      | vec e rows =>
        simp only [renB] at hren
        injection hren with hren
        subst hren
        obtain ⟨xs, g1, g2, g3, g4, g5⟩ := hrep
        refine ⟨xs, g1, by show World.ownsRow _ _ _ _ (ψ' nm) _ _; rw [hψ]; exact g2, g3, g4, fun i r j d hi hj => ?_⟩
        obtain ⟨u, u1, u2⟩ := g5 i r j d hi hj
        exact ⟨u, u1, Rep.mono (fun _ _ => rfl) hok u2⟩
      | fro rows => cases hren
      | frob cs => cases hren
    · obtain ⟨n, k0, hn, hψ, hb, _, hl0, _⟩ := hb1 nm k hk
      obtain ⟨n', k0', hn', hψ', hb', _, hl0', _⟩ := hb1 nm' k' hk'
      rw [hψ, hψ']
      exact h.apart n n' k0 k0' hb hb' hl0 hl0' (fun e => hne (hds nm nm' n hn (by rw [e]; exact hn')))
    · show bl' nm = none
      rw [hbl]
      have : ns[nm]? = none := by simp; exact Nat.le_of_not_lt hn
      rw [this]
    · rcases map_look (f := fun i => renS bl ns (sl i)) live i with e | e
      · change m ∈ refsS (lookS (live.map fun x => (x.1, renS bl ns (sl x.1))) i) at hm
        rw [e] at hm; cases hm
      · change m ∈ refsS (lookS (live.map fun x => (x.1, renS bl ns (sl x.1))) i) at hm
        rw [e] at hm; exact hrefS _ m hm
    · obtain ⟨n, k0, hn, hψ, hb, hren, _, _⟩ := hb1 nm _ hk
      cases k0 with
      | box cs0 =>
        simp only [renB] at hren
        injection hren with hren
        injection hren with hren
        subst hren
        obtain ⟨r0, _, rfl⟩ := List.mem_map.1 hr
        exact hrefR r0 m hm
      | vec e rows => cases hren
      | fro rows => cases hren
      | frob cs => cases hren
    · rcases map_look (f := fun i => renS bl ns (sl i)) live i with e | e
      · show lookS (live.map fun x => (x.1, renS bl ns (sl x.1))) i ≠ _
        rw [e]; simp
      · show lookS (live.map fun x => (x.1, renS bl ns (sl x.1))) i ≠ _
        rw [e]; exact hgg _ _ _
  · refine ⟨ψ, h.size, h.defers, h.below, fun i => trivial, ?_, ?_, fun nm _ => rfl, ?_, ?_, ?_⟩
    · intro nm k hk; cases hk
    · intro nm nm' k k' hk; cases hk
    · intro i m hm; cases hm
    · intro nm cs hk; cases hk
    · intro i l l' s' e; cases e
theorem canon_ok (live : List (Nat × Bool)) {st : St} (h : St.OK E st a w) : St.OK E (canon live st) a w := by
  obtain ⟨ψ, h⟩ := h
  have h2 := (h.frz (p := cat (frzAt (lookS st.slots) (lookB st.blks)) live) frzAt_frz).2
  rw [← lookB_append] at h2
  exact canon1_ok live h2
end
end Go.Eng
