/- The engine, part 3: one step of a state; freezing. Conditions: none. -/
import Derived.Test.YtkiolflkkbfaiaaDoorEngB
set_option linter.unusedVariables false
namespace Go.Eng
open Go.RowKit
section
variable {E : Env} {ψ ψ' : Nat → Value} {sl : Nat → Slot} {bl bl' : Blks} {U U' : Nat → Prop} {a : Act} {w w' : World} {dst : Option Nat} {v : Value} {s : Slot}

theorem ownsRow_same {w w' : World} {base : Nat} {e : TypeId} {size n : Nat} {v : Value} {xs : List Value} (h : w.ownsRow base e size v n xs) (hh : ∀ b, ptrBlock v = some b → w'.heap[b]? = w.heap[b]?) : w'.ownsRow base e size v n xs := by
  refine ⟨h.1, ?_⟩
  rcases h.2 with h | ⟨g, cap, cur, rfl, hb, hg, hr⟩
  · exact .inl h
  · exact .inr ⟨g, cap, cur, rfl, hb, (hh g rfl).trans hg, hr⟩
/-- A block that stays. -/
theorem BlkRep.keep (hk : Keeps E ψ ψ' bl bl' U w w') {nm : Nat} {k : Blk} (hn : U nm) (hb : (bl' nm).isSome = true)
    (hbr : ∀ cs, k = .box cs → ∀ r ∈ cs, ∀ m ∈ refsR r, U m) (hs : ∀ b, k.live = true → ptrBlock (ψ nm) = some b → w'.heap[b]? = w.heap[b]?)
    (h : BlkRep E w (okS E bl ψ w) ψ bl nm k) : BlkRep E w' (okS E bl' ψ' w') ψ' bl' nm k := by
  have hψ : ψ' nm = ψ nm := (hk.own nm hn hb).2
  cases k with
  | box cs =>
    obtain ⟨b, vs, t, h1, h2, h3, h4, h5⟩ := h
    refine ⟨b, vs, t, hψ.trans h1, h2, (hs b rfl (by rw [h1]; rfl)).trans h3, h4, fun j r hj => ⟨hk.rv (hbr cs rfl r (List.mem_of_getElem? hj)) (h5 j r hj).1, (h5 j r hj).2⟩⟩
  | vec e rows =>
    obtain ⟨xs, h1, h2, h3, h4, h5⟩ := h
    refine ⟨xs, h1, ?_, h3, h4, fun i r j d hi hj => ?_⟩
    · rw [hψ]; exact ownsRow_same h2 (fun b e => hs b rfl e)
    · obtain ⟨u, h6, h7⟩ := h5 i r j d hi hj
      exact ⟨u, h6, hk.rep h7⟩
  | fro rows =>
    show Rep w' _ (ψ' nm) _
    rw [hψ]; exact hk.rep h
  | frob cs =>
    obtain ⟨b, h1, h2, h3, h4⟩ := h
    refine ⟨b, hψ.trans h1, hk.ok b h2, h3, fun j d hj => ?_⟩
    obtain ⟨u, h5, h6⟩ := h4 j d hj
    exact ⟨u, (cell?_heap (a := ⟨b, j, none⟩) (hk.heap b h2)).trans h5, hk.rep h6⟩

theorem SimP.next (h : SimP E ψ sl bl U a w) (hU : ∀ m, U m → U' m) (hk : Keeps E ψ ψ' bl bl' U w w') (hb : Below E.w0.heap.size w w')
    (hblk : ∀ nm k, bl' nm = some k → (U nm ∧ bl nm = some k ∧ ∀ b, k.live = true → ptrBlock (ψ nm) = some b → w'.heap[b]? = w.heap[b]?) ∨ BlkRep E w' (okS E bl' ψ' w') ψ' bl' nm k)
    (hap : ∀ nm nm' k k', bl' nm = some k → bl' nm' = some k' → k.live = true → k'.live = true → nm ≠ nm' → ptrBlock (ψ' nm) = none ∨ ptrBlock (ψ' nm) ≠ ptrBlock (ψ' nm'))
    (hnm : ∀ nm, ¬ U' nm → bl' nm = none) (hrefs : ∀ m ∈ refsS s, U' m)
    (hbr : ∀ nm cs, bl' nm = some (.box cs) → ∀ r ∈ cs, ∀ m ∈ refsR r, U' m) (hgg : ∀ l l' s', s ≠ .gval l (.gval l' s'))
    (hmen : ∀ d, dst = some d → ∀ i l s', sl i = .gval l s' → ∀ x ∈ l, x.1 ≠ d) (hds : ∀ d, dst = some d → d < E.n)
    (hs : SlotRep w' (okS E bl' ψ' w') ψ' bl' (a.put dst v).tmps s v) : SimP E ψ' (setS sl dst s) bl' U' (a.put dst v) w' := by
  have hlit : ∀ i l s', sl i = .gval l s' → (litsHold (a.put dst v).tmps l ↔ litsHold a.tmps l) := by
    intro i l s' he
    have hx : ∀ x ∈ l, (a.put dst v).tmps.getD x.1 undef = a.tmps.getD x.1 undef := by
      intro x hx
      rw [put_getD]
      cases dst with
      | none => rfl
      | some d =>
        have := hmen d rfl i l s' he x hx
        simp [this]
    constructor
    · intro hh x hm; rw [← hx x hm]; exact hh x hm
    · intro hh x hm; rw [hx x hm]; exact hh x hm
  refine ⟨?_, ?_, h.below.trans hb, ?_, ?_, hap, hnm, ?_, hbr, ?_⟩
  · cases dst with
    | none => exact h.size
    | some d => simpa [Act.put] using h.size
  · cases dst with
    | none => exact h.defers
    | some d => exact h.defers
  · intro i
    rw [put_getD]
    have old : SlotRep w' (okS E bl' ψ' w') ψ' bl' (a.put dst v).tmps (sl i) (a.tmps.getD i undef) :=
      hk.slot (tm := a.tmps) (fun l s' e => hlit i l s' e) (h.refs i) (fun l l' s' => h.gg i l l' s') (h.slots i)
    cases dst with
    | none => exact old
    | some d =>
      have hd := hds d rfl
      by_cases e : i = d
      · subst e
        rw [show setS sl (some i) s i = s from by simp [setS]]
        show SlotRep _ _ _ _ _ s (if i = i ∧ i < a.tmps.size then v else a.tmps.getD i undef)
        rw [if_pos ⟨rfl, by rw [h.size]; exact hd⟩]
        exact hs
      · rw [show setS sl (some d) s i = sl i from by simp [setS, e]]
        show SlotRep _ _ _ _ _ _ (if i = d ∧ d < a.tmps.size then v else a.tmps.getD i undef)
        rw [if_neg (fun h => e h.1)]
        exact old
  · intro nm k hk'
    rcases hblk nm k hk' with ⟨h1, h2, h3⟩ | h4
    · exact BlkRep.keep hk h1 (by rw [hk']; rfl) (fun cs e => by subst e; exact h.brefs nm cs h2) h3 (h.blks nm k h2)
    · exact h4
  · intro i m hm
    cases dst with
    | none => exact hU _ (h.refs i m hm)
    | some d =>
      simp only [setS] at hm
      split at hm
      · exact hrefs m hm
      · exact hU _ (h.refs i m hm)
  · intro i l l' s'
    cases dst with
    | none => exact h.gg i l l' s'
    | some d =>
      simp only [setS]
      split
      · exact hgg l l' s'
      · exact h.gg i l l' s'

theorem SimP.name_lt (h : SimP E ψ sl bl U a w) {nm : Nat} {k : Blk} (hk : bl nm = some k) : U nm := by
  refine Classical.byContradiction fun h1 => ?_
  rw [h.names nm h1] at hk; cases hk
theorem Keeps.refl : Keeps E ψ ψ bl bl U w w := ⟨fun _ _ => rfl, fun _ h => h, fun _ _ h => ⟨h, rfl⟩⟩
/-- Nothing but a slot turns. -/
theorem SimP.pure (h : SimP E ψ sl bl U a w) (hU : ∀ m, U m → U' m) (hrefs : ∀ m ∈ refsS s, U' m) (hgg : ∀ l l' s', s ≠ .gval l (.gval l' s'))
    (hmen : ∀ d, dst = some d → ∀ i l s', sl i = .gval l s' → ∀ x ∈ l, x.1 ≠ d) (hds : ∀ d, dst = some d → d < E.n)
    (hs : SlotRep w (okS E bl ψ w) ψ bl (a.put dst v).tmps s v) : SimP E ψ (setS sl dst s) bl U' (a.put dst v) w :=
  h.next hU Keeps.refl (Below.refl _ _) (fun nm k hk => .inl ⟨h.name_lt hk, hk, fun _ _ _ => rfl⟩) h.apart (fun nm hn => h.names nm (fun e => hn (hU _ e))) hrefs
    (fun nm cs hb r hr m hm => hU _ (h.brefs nm cs hb r hr m hm)) hgg hmen hds hs

/-! ### Freezing -/
/-- p freezes rows, and boxes all of whose cells are data once the rows are frozen. -/
def Frz (bl : Blks) (p : Pch) : Prop := ∀ x ∈ p, (∃ e rows, bl x.1 = some (.vec e rows) ∧ x.2 = some (.fro rows)) ∨ (∃ cs ds q, bl x.1 = some (.box cs) ∧ x.2 = some (.frob ds) ∧ cellsD bl cs = some (ds, q) ∧ ∀ y ∈ q, y ∈ p)
theorem Frz.nil : Frz bl [] := fun _ h => by cases h
theorem Frz.append {p q : Pch} (h : Frz bl p) (k : Frz bl q) : Frz bl (p ++ q) := by
  intro x hx
  rcases List.mem_append.1 hx with hx | hx
  · rcases h x hx with h1 | ⟨cs, ds, q', h1, h2, h3, h4⟩
    · exact .inl h1
    · exact .inr ⟨cs, ds, q', h1, h2, h3, fun y hy => List.mem_append_left _ (h4 y hy)⟩
  · rcases k x hx with h1 | ⟨cs, ds, q', h1, h2, h3, h4⟩
    · exact .inl h1
    · exact .inr ⟨cs, ds, q', h1, h2, h3, fun y hy => List.mem_append_right _ (h4 y hy)⟩
theorem toD_frz {r : RV} {d : D} {p : Pch} (h : toD bl r = some (d, p)) : Frz bl p := by
  cases r with
  | val d' => simp [toD] at h; obtain ⟨_, rfl⟩ := h; exact Frz.nil
  | nils => simp [toD] at h; obtain ⟨_, rfl⟩ := h; exact Frz.nil
  | any => simp [toD] at h
  | own n =>
    simp only [toD] at h
    split at h
    · rename_i e rows hb
      simp at h
      obtain ⟨_, rfl⟩ := h
      intro x hx
      simp at hx
      subst hx
      exact .inl ⟨e, rows, hb, rfl⟩
    · simp at h; obtain ⟨_, rfl⟩ := h; exact Frz.nil
    · cases h
theorem cellsD_frz : ∀ {rs : List RV} {ds : List D} {p : Pch}, cellsD bl rs = some (ds, p) → Frz bl p
  | [], _, _, h => by simp [cellsD] at h; obtain ⟨_, rfl⟩ := h; exact Frz.nil
  | r :: rs, ds, p, h => by
    unfold cellsD at h
    split at h
    · rename_i d p1 h1
      split at h
      · split at h
        · rename_i ds' q h2
          simp at h
          obtain ⟨_, rfl⟩ := h
          exact (toD_frz h1).append (cellsD_frz h2)
        · cases h
      · cases h
    · cases h
theorem setB_frz {p : Pch} (h : Frz bl p) (n : Nat) : setB bl p n = bl n ∨ (∃ e rows, bl n = some (.vec e rows) ∧ setB bl p n = some (.fro rows)) ∨ (∃ cs ds q, bl n = some (.box cs) ∧ setB bl p n = some (.frob ds) ∧ cellsD bl cs = some (ds, q) ∧ ∀ y ∈ q, y ∈ p) := by
  unfold setB
  split
  · rename_i x hx
    have hm := List.mem_of_find?_eq_some hx
    have he : n = x.1 := Nat.eq_of_beq_eq_true (by have := List.find?_some hx; exact this)
    subst he
    exact .inr (h x hm)
  · exact .inl rfl
theorem setB_frz_some {p : Pch} (h : Frz bl p) (n : Nat) : (setB bl p n).isSome = (bl n).isSome := by
  rcases setB_frz h n with e | ⟨_, _, e1, e2⟩ | ⟨_, _, _, e1, e2, _⟩
  · rw [e]
  · rw [e1, e2]; rfl
  · rw [e1, e2]; rfl
/-- What is live behind a freezing lived before, the same. -/
theorem setB_frz_live {p : Pch} (h : Frz bl p) {n : Nat} {k : Blk} (hk : setB bl p n = some k) (hl : k.live = true) : bl n = some k := by
  rcases setB_frz h n with e | ⟨_, _, e1, e2⟩ | ⟨_, _, _, e1, e2, _⟩
  · rw [← e]; exact hk
  · rw [e2] at hk; injection hk with hk; subst hk; simp [Blk.live] at hl
  · rw [e2] at hk; injection hk with hk; subst hk; simp [Blk.live] at hl
theorem setB_mem {p : Pch} {n : Nat} {k : Option Blk} (h : (n, k) ∈ p) (hu : ∀ x ∈ p, x.1 = n → x.2 = k) : setB bl p n = k := by
  unfold setB
  cases hf : p.find? (fun x => Nat.beq n x.1) with
  | none => have := List.find?_eq_none.1 hf _ h; simp at this
  | some x =>
    have he : n = x.1 := Nat.eq_of_beq_eq_true (by have := List.find?_some hf; exact this)
    exact hu x (List.mem_of_find?_eq_some hf) he.symm
theorem frz_own {p : Pch} (h : Frz bl p) {n : Nat} {e : TypeId} {rows : List (List D)} (hb : bl n = some (.vec e rows)) (hm : (n, some (.fro rows)) ∈ p) : setB bl p n = some (.fro rows) := by
  refine setB_mem hm (fun x hx e => ?_)
  rcases h x hx with ⟨e', rows', h1, h2⟩ | ⟨cs, ds, q, h1, _⟩
  · rw [e, hb] at h1; injection h1 with h1; injection h1 with _ h1; rw [h2, h1]
  · rw [e, hb] at h1; cases h1
/-- The block behind an owned row, read as frozen. -/
theorem rep_of_row {ok : Nat → Prop} {base sz : Nat} {e : TypeId} {v : Value} {xs : List Value} {rows : List (List D)} (hsz : 0 < sz) (h : w.ownsRow base e sz v rows.length xs) (hr : ∀ r ∈ rows, r.length = sz) (hc : ∀ r ∈ rows, ∀ d ∈ r, D.isCell d = true)
    (hx : ∀ (i : Nat) (r : List D) (j : Nat) (d : D), rows[i]? = some r → r[j]? = some d → ∃ u, xs[i * sz + j]? = some u ∧ Rep w ok u d) (hok : ∀ b, ptrBlock v = some b → ok b) : Rep w ok v (.slice rows) := by
  rcases h.2 with ⟨rfl, hn⟩ | ⟨g, cap, cur, rfl, hb, hg, h1, h2, h3, h4⟩
  · have hnil : rows = [] := List.eq_nil_of_length_eq_zero hn
    subst hnil
    exact .slice none 0 0 [] sz ⟨0, 0, none⟩ (fun _ _ => undef) rfl (Nat.le_refl _) (by omega) (by simp) (by simp) (fun h => by omega) (fun i r j d hi => by simp at hi) (fun i r j d hi => by simp at hi)
  · have hcell : ∀ (i : Nat) (r : List D) (j : Nat) (d : D), rows[i]? = some r → r[j]? = some d → xs[i * sz + j]? = some (xs.getD (i * sz + j) undef) ∧ Rep w ok (xs.getD (i * sz + j) undef) d ∧ w.cell? ((⟨g, 0, none⟩ : Addr).add (i * sz + j)) = some (xs.getD (i * sz + j) undef) := by
      intro i r j d hi hj
      obtain ⟨u, hu, hrep⟩ := hx i r j d hi hj
      have hgd : xs.getD (i * sz + j) undef = u := by simp [List.getD_eq_getElem?_getD, hu]
      refine ⟨by rw [hgd]; exact hu, by rw [hgd]; exact hrep, ?_⟩
      rw [hgd, add_plain, Nat.zero_add]
      have hcur : cur[i * sz + j]? = some u := by
        rw [← h4] at hu
        rw [List.getElem?_take] at hu
        split at hu
        · simpa using hu
        · cases hu
      simp [World.cell?, hg, hcur]
    exact .slice _ _ cap rows sz ⟨g, 0, none⟩ (fun i j => xs.getD (i * sz + j) undef) rfl h1 (by simpa [maxLen] using h2) hr hc (fun _ => ⟨rfl, hok g rfl⟩) (fun i r j d hi hj => (hcell i r j d hi hj).2.2) (fun i r j d hi hj => (hcell i r j d hi hj).2.1)

/-- A state, frozen: the machine stands where it stood. -/
theorem SimP.frz (h : SimP E ψ sl bl U a w) {p : Pch} (hp : Frz bl p) : Keeps E ψ ψ bl (setB bl p) U w w ∧ SimP E ψ sl (setB bl p) U a w := by
  have hok : ∀ b, okS E bl ψ w b → okS E (setB bl p) ψ w b := fun b hb => ⟨hb.1, hb.2.1, fun nm k hk hl => hb.2.2 nm k (setB_frz_live hp hk hl) hl⟩
  have hk : Keeps E ψ ψ bl (setB bl p) U w w := ⟨fun _ _ => rfl, hok, fun nm _ hs => ⟨by rw [← setB_frz_some hp]; exact hs, rfl⟩⟩
  have hblk : ∀ nm k, setB bl p nm = some k → (U nm ∧ bl nm = some k ∧ ∀ b, k.live = true → ptrBlock (ψ nm) = some b → w.heap[b]? = w.heap[b]?) ∨ BlkRep E w (okS E (setB bl p) ψ w) ψ (setB bl p) nm k := by
    -- the block of a frozen name is free to be read
    have free : ∀ nm k0, bl nm = some k0 → k0.live = true → (∀ k, setB bl p nm = some k → k.live = false) → ∀ b, ptrBlock (ψ nm) = some b → E.w0.heap.size ≤ b → b < w.heap.size → okS E (setB bl p) ψ w b := by
      intro nm k0 hb0 hl0 hdead b hpb hge hlt
      refine ⟨fun h' => by omega, hlt, fun nm' k' hk' hl' e => ?_⟩
      have hb' := setB_frz_live hp hk' hl'
      by_cases hne : nm = nm'
      · subst hne
        rw [hdead k' hk'] at hl'; cases hl'
      · rcases h.apart nm nm' k0 k' hb0 hb' hl0 hl' hne with h1 | h1
        · rw [hpb] at h1; cases h1
        · exact h1 (hpb.trans e.symm)
    have heap_lt : ∀ b o, w.heap[b]? = some o → b < w.heap.size := fun b o ho => (Array.getElem?_eq_some_iff.1 ho).1
    intro nm k hk'
    rcases setB_frz hp nm with e | ⟨e, rows, e1, e2⟩ | ⟨cs, ds, q, e1, e2, e3, e4⟩
    · exact .inl ⟨h.name_lt (e ▸ hk'), e ▸ hk', fun _ _ _ => rfl⟩
    · right
      rw [e2] at hk'
      injection hk' with hk'
      subst hk'
      obtain ⟨xs, h1, h2, h3, h4, h5⟩ := h.blks nm _ e1
      refine rep_of_row (base := E.w0.heap.size) (e := e) h1 h2 h3 h4 (fun i r j d hi hj => ?_) (fun b hb => ?_)
      · obtain ⟨u, hu, hr⟩ := h5 i r j d hi hj
        exact ⟨u, hu, hr.mono (fun _ _ => rfl) hok⟩
      · refine free nm _ e1 rfl (fun k hk => by rw [e2] at hk; injection hk with hk; subst hk; rfl) b hb ?_ ?_
        · rcases h2.2 with ⟨hv, _⟩ | ⟨g, cap, cur, hv, hge, _⟩
          · rw [hv] at hb; cases hb
          · rw [hv] at hb; injection hb with hb; subst hb; exact hge
        · rcases h2.2 with ⟨hv, _⟩ | ⟨g, cap, cur, hv, hge, hg, _⟩
          · rw [hv] at hb; cases hb
          · rw [hv] at hb; injection hb with hb; subst hb; exact heap_lt _ _ hg
    · right
      rw [e2] at hk'
      injection hk' with hk'
      subst hk'
      obtain ⟨b, vs, t, h1, h2, h3, h4, h5⟩ := h.blks nm _ e1
      have hfree : okS E (setB bl p) ψ w b := free nm _ e1 rfl (fun k hk => by rw [e2] at hk; injection hk with hk; subst hk; rfl) b (by rw [h1]; rfl) h2 (heap_lt _ _ h3)
      -- each cell, read as data
      have cell : ∀ (cs : List RV) (ds : List D) (q : Pch), cellsD bl cs = some (ds, q) → (∀ y ∈ q, y ∈ p) → ∀ (vf : Nat → Value), (∀ (j : Nat) (r : RV), cs[j]? = some r → RVRep w (okS E bl ψ w) ψ bl r (vf j)) →
          (∀ d ∈ ds, D.isCell d = true) ∧ ds.length = cs.length ∧ ∀ (j : Nat) (d : D), ds[j]? = some d → ∃ r, cs[j]? = some r ∧ (∃ q', toD bl r = some (d, q') ∧ ∀ y ∈ q', y ∈ p) := by
        intro cs
        induction cs with
        | nil =>
          intro ds q hc _ _ _
          simp [cellsD] at hc
          obtain ⟨rfl, rfl⟩ := hc
          exact ⟨by simp, rfl, fun j d hj => by simp at hj⟩
        | cons r rs ih =>
          intro ds q hc hq vf hv
          unfold cellsD at hc
          split at hc
          · rename_i d1 p1 h1
            split at hc
            · rename_i hcl
              split at hc
              · rename_i ds' q' h2
                simp at hc
                obtain ⟨rfl, rfl⟩ := hc
                obtain ⟨i1, i2, i3⟩ := ih ds' q' h2 (fun y hy => hq y (List.mem_append_right _ hy)) (fun j => vf (j + 1)) (fun j r hj => hv (j + 1) r (by simpa using hj))
                refine ⟨fun d hd => ?_, by simp [i2], fun j d hj => ?_⟩
                · rcases List.mem_cons.1 hd with rfl | hd
                  · exact hcl
                  · exact i1 d hd
                · cases j with
                  | zero =>
                    simp at hj
                    subst hj
                    exact ⟨r, rfl, p1, h1, fun y hy => hq y (List.mem_append_left _ hy)⟩
                  | succ j =>
                    obtain ⟨r', hr', hx⟩ := i3 j d (by simpa using hj)
                    exact ⟨r', by simpa using hr', hx⟩
              · cases hc
            · cases hc
          · cases hc
      obtain ⟨c1, c2, c3⟩ := cell cs ds q e3 e4 (fun j => vs.getD j undef) (fun j r hj => (h5 j r hj).1)
      refine ⟨b, h1, hfree, c1, fun j d hj => ?_⟩
      obtain ⟨r, hr, q', hq', hy⟩ := c3 j d hj
      have hjl : j < vs.size := by rw [h4]; exact (List.getElem?_eq_some_iff.1 hr).1
      refine ⟨vs.getD j undef, by simp [World.cell?, h3, Array.getD_eq_getD_getElem?, hjl], ?_⟩
      have hrv := (h5 j r hr).1
      cases r with
      | val d' => simp [toD] at hq'; obtain ⟨rfl, _⟩ := hq'; exact hrv.mono (fun _ _ => rfl) hok
      | nils =>
        simp [toD] at hq'
        obtain ⟨rfl, _⟩ := hq'
        have hv : vs.getD j undef = .slice none 0 0 := hrv
        rw [hv]
        exact .slice none 0 0 [] 0 ⟨0, 0, none⟩ (fun _ _ => undef) rfl (Nat.le_refl _) (by omega) (by simp) (by simp) (fun h => by omega) (fun i r j d hi => by simp at hi) (fun i r j d hi => by simp at hi)
      | any => simp [toD] at hq'
      | own n =>
        simp only [toD] at hq'
        split at hq'
        · rename_i e rows hb
          simp at hq'
          obtain ⟨rfl, rfl⟩ := hq'
          have hfz := frz_own hp hb (hy _ (by simp))
          have hv : vs.getD j undef = ψ n := hrv (by rw [hb]; rfl)
          rw [hv]
          obtain ⟨xs, g1, g2, g3, g4, g5⟩ := h.blks n _ hb
          refine rep_of_row (base := E.w0.heap.size) (e := e) g1 g2 g3 g4 (fun i r j d hi hj => ?_) (fun b' hb' => ?_)
          · obtain ⟨u, hu, hr'⟩ := g5 i r j d hi hj
            exact ⟨u, hu, hr'.mono (fun _ _ => rfl) hok⟩
          · refine free n _ hb rfl (fun k hk => by rw [hfz] at hk; injection hk with hk; subst hk; rfl) b' hb' ?_ ?_
            · rcases g2.2 with ⟨hv', _⟩ | ⟨g, cap, cur, hv', hge, _⟩
              · rw [hv'] at hb'; cases hb'
              · rw [hv'] at hb'; injection hb' with hb'; subst hb'; exact hge
            · rcases g2.2 with ⟨hv', _⟩ | ⟨g, cap, cur, hv', hge, hg, _⟩
              · rw [hv'] at hb'; cases hb'
              · rw [hv'] at hb'; injection hb' with hb'; subst hb'; exact heap_lt _ _ hg
        · rename_i rows hb
          simp at hq'
          obtain ⟨rfl, rfl⟩ := hq'
          have hv : vs.getD j undef = ψ n := hrv (by rw [hb]; rfl)
          rw [hv]
          exact Rep.mono (fun _ _ => rfl) hok (h.blks n _ hb)
        · cases hq'
  refine ⟨hk, ⟨h.size, h.defers, h.below, fun i => ?_, fun nm k hk' => ?_, fun nm nm' k k' h1 h2 h3 h4 h5 => ?_, fun nm hn => ?_, h.refs, fun nm cs hb => ?_, h.gg⟩⟩
  · exact hk.slot (tm := a.tmps) (fun _ _ _ => Iff.rfl) (h.refs i) (fun l l' s' => h.gg i l l' s') (h.slots i)
  · rcases hblk nm k hk' with ⟨h1, h2, h3⟩ | h4
    · exact BlkRep.keep hk h1 (by rw [hk']; rfl) (fun cs e => by subst e; exact h.brefs nm cs h2) h3 (h.blks nm k h2)
    · exact h4
  · exact h.apart nm nm' k k' (setB_frz_live hp h1 h3) (setB_frz_live hp h2 h4) h3 h4 h5
  · have := setB_frz_some hp nm
    rw [h.names nm hn] at this
    simpa using this
  · exact h.brefs nm cs (setB_frz_live hp hb rfl)
/-- What is read as data reads so behind its freezing. -/
theorem SimP.toD (h : SimP E ψ sl bl U a w) {p : Pch} (hp : Frz bl p) {r : RV} {d : D} {q : Pch} (hd : toD bl r = some (d, q)) (hq : ∀ y ∈ q, y ∈ p) {v : Value} (hr : RVRep w (okS E bl ψ w) ψ bl r v) : Rep w (okS E (setB bl p) ψ w) v d := by
  obtain ⟨hk, hs⟩ := h.frz hp
  cases r with
  | val d' => simp [Eng.toD] at hd; obtain ⟨rfl, _⟩ := hd; exact hk.rep hr
  | nils =>
    simp [Eng.toD] at hd
    obtain ⟨rfl, _⟩ := hd
    have hv : v = .slice none 0 0 := hr
    rw [hv]
    exact .slice none 0 0 [] 0 ⟨0, 0, none⟩ (fun _ _ => undef) rfl (Nat.le_refl _) (by omega) (by simp) (by simp) (fun h => by omega) (fun i r j d hi => by simp at hi) (fun i r j d hi => by simp at hi)
  | any => simp [Eng.toD] at hd
  | own n =>
    simp only [Eng.toD] at hd
    split at hd
    · rename_i e rows hb
      simp at hd
      obtain ⟨rfl, rfl⟩ := hd
      have hfz := frz_own hp hb (hq _ (by simp))
      have hv : v = ψ n := hr (by rw [hb]; rfl)
      rw [hv]
      exact hs.blks n _ hfz
    · rename_i rows hb
      simp at hd
      obtain ⟨rfl, rfl⟩ := hd
      have hv : v = ψ n := hr (by rw [hb]; rfl)
      rw [hv]
      exact hk.rep (h.blks n _ hb)
    · cases hd
end
end Go.Eng
