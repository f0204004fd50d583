/- The engine, part 22: code and functions. Conditions: none. -/
import Derived.Test.YtkiolflkkbfaiaaDoorEngU
set_option linter.unusedVariables false
set_option linter.unusedSimpArgs false
namespace Go.Eng
open Go.RowKit
section
variable {E : Env} {ti : TypeId → Option TI} {ψ : Nat → Value} {sl : Nat → Slot} {bl bl0 : Blks} {U : Nat → Prop} {a : Act} {w : World} {R : Patch → Prop} {Q : Exit → Act → World → Prop}
variable {rvs : Array ResultVar} {QR : List RR → Prop} {QD : Ex → St → Prop}

theorem load_run (hE : ∀ t i, ti t = some i → tiOf E.P t = some i) (hsub : Sub bl0 bl) {t : TypeId} {X : Slot} {V : Value} {tm : Array Value} (hs : SimP E ψ sl bl U a w) (hX : SlotRep w (okS E bl ψ w) ψ bl tm X V) (h : (ptLoad ti bl0 t X).All E.P E.gt R) :
    ∃ ad v r p, V = .pointer (some ad) ∧ (loadVar t ad).run E.P w = .ok v w ∧ R ⟨.rv r, p⟩ ∧ Frz bl p ∧ RVRep w (okS E (setB bl p) ψ w) ψ (setB bl p) r v ∧ ∀ m ∈ refsR r, U m := by
  unfold ptLoad at h
  split at h
  · exact h.elim
  · rename_i i hi
    obtain ⟨info, z, d0, g1, g2, g3, g4, g5, g6, g7, g8⟩ := ti_info hE hi
    split at h
    · -- a box
      rename_i n off
      split at h
      · rename_i cs hb
        have hb := hsub _ _ hb
        obtain ⟨b, vs, tt, k1, k2, k3, k4, k5⟩ := hs.blks n _ hb
        obtain ⟨b', e1, e2⟩ := hX (name_some hb)
        rw [k1] at e1
        injection e1 with e1; injection e1 with e1; injection e1 with e1
        subst e1
        have cellAt : ∀ j, j < vs.size → w.cell? ((⟨b, 0, none⟩ : Addr).add j) = some (vs.getD j undef) := by
          intro j hj
          rw [add_plain, Nat.zero_add]
          simp [World.cell?, k3, Array.getD_eq_getD_getElem?, hj]
        split at h
        · rename_i ha
          split at h
          · rename_i rs hp
            split at h
            · rename_i ds p hc
              have hc := cellsD_sub hsub hc
              have hfz := cellsD_frz hc
              obtain ⟨f1, f2, f3⟩ := cellsD_spec hc
              obtain ⟨q1, q2, q3, q4⟩ := partAt_spec hp
              obtain ⟨vs', hr', hrep⟩ := load_cells (P := E.P) (w := w) (ok := okS E (setB bl p) ψ w) (ds := ds) (ad := ⟨b, off, none⟩) f1 (fun j d hj => by
                obtain ⟨r, q', h1, h2, h3⟩ := f3 j d hj
                have hjl := (List.getElem?_eq_some_iff.1 h1).1
                rw [q3 j (by omega)] at h1
                have hv := (k5 (off + j) r h1).1
                refine ⟨vs.getD (off + j) undef, ?_, hs.toD hfz h2 h3 hv⟩
                have := cellAt (off + j) (by omega)
                rw [add_plain] at this ⊢
                rw [Nat.zero_add] at this
                exact this)
              refine ⟨_, .agg vs', _, _, e2, ?_, h, hfz, hrep, fun m hm => by cases hm⟩
              simp only [loadVar, Sem.run_bind, run_isAgg g2, ← g4, ha, Result.andThen_ok, if_true, run_size g1]
              rw [f2, q1, g5] at hr'
              simp [hr']
            · exact h.elim
          · exact h.elim
        · rename_i ha
          split at h
          · exact h.elim
          · rename_i r hne hp
            obtain ⟨q1, q2, q3, q4⟩ := partAt_spec hp
            have hr : cs[off]? = some r := by have := q3 0 (by omega); simpa using this.symm
            have hv := (k5 off r hr).1
            refine ⟨_, vs.getD off undef, _, [], e2, ?_, h, Frz.nil, hv, fun m hm => hs.brefs n cs hb r (List.mem_of_getElem? hr) m hm⟩
            have := cellAt off (by rw [k4]; omega)
            rw [add_plain, Nat.zero_add] at this
            simp only [loadVar, Sem.run_bind, run_isAgg g2, ← g4, ha, Result.andThen_ok, Bool.false_eq_true, if_false]
            simp [this]
          · exact h.elim
      · rename_i cs hb
        have hb := hsub _ _ hb
        obtain ⟨b, k1, k2, k3, k4⟩ := hs.blks n _ hb
        obtain ⟨b', e1, e2⟩ := hX (name_some hb)
        rw [k1] at e1
        injection e1 with e1; injection e1 with e1; injection e1 with e1
        subst e1
        obtain ⟨l1, l2⟩ := load_row (w := w) (ok := okS E bl ψ w) g1 g2 (cs := cs) (ad := ⟨b, 0, none⟩) (off := off) k3 (fun j d hj => by
          rw [add_plain, Nat.zero_add]; exact k4 j d hj)
        rw [add_plain, Nat.zero_add] at l1 l2
        split at h
        · rename_i ha
          split at h
          · rename_i ds hp
            obtain ⟨v, hv1, hv2⟩ := l1 ds (by rw [← g4]; exact ha) (by rw [← g5]; exact hp)
            exact ⟨_, _, .val _, [], e2, hv1, h, Frz.nil, hv2, fun m hm => by cases hm⟩
          · exact h.elim
        · rename_i ha
          split at h
          · rename_i d hp
            obtain ⟨v, hv1, hv2⟩ := l2 d (by rw [← g4]; exact ha) hp
            exact ⟨_, _, .val _, [], e2, hv1, h, Frz.nil, hv2, fun m hm => by cases hm⟩
          · exact h.elim
      · exact h.elim
    · -- a frozen row
      rename_i cs off
      obtain ⟨ad, e1, e2, e3, e4⟩ := hX
      obtain ⟨l1, l2⟩ := load_row (w := w) (ok := okS E bl ψ w) g1 g2 (cs := cs) (ad := ad) (off := off) e3 e4
      split at h
      · rename_i ha
        split at h
        · rename_i ds hp
          obtain ⟨v, hv1, hv2⟩ := l1 ds (by rw [← g4]; exact ha) (by rw [← g5]; exact hp)
          exact ⟨_, _, .val _, [], e1, hv1, h, Frz.nil, hv2, fun m hm => by cases hm⟩
        · exact h.elim
      · rename_i ha
        split at h
        · rename_i d hp
          obtain ⟨v, hv1, hv2⟩ := l2 d (by rw [← g4]; exact ha) hp
          exact ⟨_, _, .val _, [], e1, hv1, h, Frz.nil, hv2, fun m hm => by cases hm⟩
        · exact h.elim
    · -- an element of a row of the call's own
      rename_i n j sz off
      split at h
      · rename_i e rows hb
        have hb := hsub _ _ hb
        obtain ⟨cs, hj, h⟩ := h
        dsimp only at h
        obtain ⟨xs, k1, k2, k3, k4, k5⟩ := hs.blks n _ hb
        obtain ⟨b, m, cc, e1, e2⟩ := hX (name_some hb)
        have hsz : cs.length = szOf E.P e := k3 cs (List.mem_of_getElem? hj)
        have hcur : ∃ cur, w.heap[b]? = some (.cells cur e (0, 0)) ∧ cur.toList.take (rows.length * szOf E.P e) = xs := by
          rcases k2.2 with ⟨hv, hn⟩ | ⟨g, cap, cur, hv, _, hg, _, _, _, ht⟩
          · rw [hv] at e1; cases e1
          · rw [hv] at e1
            injection e1 with e1; injection e1 with e1; injection e1 with e1
            subst e1
            exact ⟨cur, hg, ht⟩
        obtain ⟨cur, hg, ht⟩ := hcur
        have lr := fun off' => load_row (w := w) (ok := okS E bl ψ w) g1 g2 (cs := cs) (ad := ⟨b, j * szOf E.P e, none⟩) (off := off') (k4 cs (List.mem_of_getElem? hj)) (fun i d hi => by
          obtain ⟨u, hu, hr⟩ := k5 j cs i d hj hi
          refine ⟨u, ?_, hr⟩
          rw [add_plain]
          rw [← ht, List.getElem?_take] at hu
          split at hu
          · simp only [World.cell?, hg]
            simpa using hu
          · cases hu)
        split at h
        · rename_i hz ha
          have hz : cs.length = sz := Nat.eq_of_beq_eq_true hz
          split at h
          · rename_i ds hp
            obtain ⟨v, hv1, hv2⟩ := (lr off).1 ds (by rw [← g4]; exact ha) (by rw [← g5]; exact hp)
            rw [add_plain, ← hsz, hz] at hv1
            exact ⟨_, _, .val _, [], e2, hv1, h, Frz.nil, hv2, fun m hm => by cases hm⟩
          · exact h.elim
        · rename_i hz ha
          have hz : cs.length = sz := Nat.eq_of_beq_eq_true hz
          split at h
          · rename_i d hp
            obtain ⟨v, hv1, hv2⟩ := (lr off).2 d (by rw [← g4]; exact ha) hp
            rw [add_plain, ← hsz, hz] at hv1
            exact ⟨_, _, .val _, [], e2, hv1, h, Frz.nil, hv2, fun m hm => by cases hm⟩
          · exact h.elim
        · exact h.elim
      · exact h.elim
    · exact h.elim

/-! ### Results -/
theorem setB_in {p : Pch} {n : Nat} {k : Blk} (h : setB bl p n = some k) (hne : bl n ≠ some k) : (n, some k) ∈ p := by
  unfold setB at h
  split at h
  · rename_i x hx
    have h1 := List.find?_some hx
    have h2 := List.mem_of_find?_eq_some hx
    have : n = x.1 := Nat.eq_of_beq_eq_true h1
    rw [this, ← h]
    exact h2
  · exact absurd h hne
theorem okS_more {p q : Pch} (hp : Frz bl p) (hq : Frz bl q) (hpq : ∀ y ∈ p, y ∈ q) {b : Nat} (h : okS E (setB bl p) ψ w b) : okS E (setB bl q) ψ w b := by
  refine ⟨h.1, h.2.1, fun nm k hk hl => h.2.2 nm k ?_ hl⟩
  have hb := setB_frz_live hq hk hl
  rcases setB_frz hp nm with h1 | ⟨e, rows, h1, h2⟩ | ⟨cs, ds, q', h1, h2, h3, h4⟩
  · rw [h1]; exact hb
  · exfalso
    have hm := setB_in h2 (by rw [h1]; simp)
    have := frz_own hq h1 (hpq _ hm)
    rw [this] at hk
    injection hk with hk
    subst hk
    cases hl
  · exfalso
    have hm := setB_in h2 (by rw [h1]; simp)
    have := frz_box hq h1 h3 (hpq _ hm)
    rw [this] at hk
    injection hk with hk
    subst hk
    cases hl
theorem rv_more {p q : Pch} (hp : Frz bl p) (hq : Frz bl q) (hpq : ∀ y ∈ p, y ∈ q) {r : RV} {v : Value} (h : RVRep w (okS E (setB bl p) ψ w) ψ (setB bl p) r v) : RVRep w (okS E (setB bl q) ψ w) ψ (setB bl q) r v := by
  cases r with
  | val d => exact Rep.mono (fun _ _ => rfl) (fun b hb => okS_more hp hq hpq hb) h
  | own m => intro hs; exact h (by rw [setB_frz_some hp, ← setB_frz_some hq]; exact hs)
  | nils => exact h
  | any => trivial
/-- One result. -/
theorem res_run (g : Glob E ti) {st : St} (hs : SimP E ψ (lookS st.slots) (lookB st.blks) U a w) {x : ResultVar} {r : RV} {p : Pch} (h : resOf ti st x = some (r, p)) :
    ∃ v, (match x with
      | .tmp t => pure (a.tmps.getD t undef)
      | .cell c t => do loadVar t (← asAddr (a.tmps.getD c undef)) : Sem Value).run E.P w = .ok v w ∧ Frz (lookB st.blks) p ∧ RVRep w (okS E (setB (lookB st.blks) p) ψ w) ψ (setB (lookB st.blks) p) r v := by
  unfold resOf at h
  split at h
  · rename_i t
    split at h
    · rename_i r' hr
      injection h with h
      injection h with h1 h2
      subst h1 h2
      have := hs.slots t
      rw [hr] at this
      exact ⟨_, by simp, Frz.nil, this⟩
    · cases h
  · rename_i c t
    split at h
    · rename_i r' p' hl
      injection h with h
      injection h with h1 h2
      subst h1 h2
      obtain ⟨ad, v, r2, p2, e1, e2, e3, e4, e5, e6⟩ := load_run (R := fun q => q = ⟨.rv r', p'⟩) g.hti (fun _ _ h => h) hs (hs.slots c) (by rw [hl]; rfl)
      injection e3 with e31 e32
      injection e31 with e31
      subst e31 e32
      refine ⟨v, ?_, e4, e5⟩
      simp [e1, asAddr, e2]
    · cases h
def resSem (tmps : Array Value) : ResultVar → Sem Value
  | .tmp t => pure (tmps.getD t undef)
  | .cell c t => do loadVar t (← asAddr (tmps.getD c undef))
theorem run_mapM {P : Program} {α : Type} {f : α → Sem Value} : ∀ {l : List α} {vs : List Value}, l.length = vs.length → (∀ (i : Nat) (x : α) (v : Value), l[i]? = some x → vs[i]? = some v → (f x).run P w = .ok v w) → (l.mapM f).run P w = .ok vs w
  | [], [], _, _ => by simp
  | [], _ :: _, h, _ => by simp at h
  | _ :: _, [], h, _ => by simp at h
  | x :: l, v :: vs, hl, h => by
    have h0 := h 0 x v rfl rfl
    have ih := run_mapM (l := l) (vs := vs) (by simpa using hl) (fun i y u hy hu => h (i + 1) y u (by simpa using hy) (by simpa using hu))
    simp [List.mapM_cons, h0, ih]
theorem results_run {P : Program} {rs : List ResultVar} {tmps : Array Value} {vs : List Value} (h : (rs.mapM (resSem tmps)).run P w = .ok vs w) : (results { (default : Func) with results := rs.toArray } tmps).run P w = .ok (tupV vs) w := by
  have e : (results { (default : Func) with results := rs.toArray } tmps) = (do let vs ← rs.toArray.mapM (resSem tmps); pure (if h : vs.size = 1 then vs[0] else .tuple vs)) := by
    unfold results
    congr 1
  rw [e, List.mapM_toArray]
  simp only [Sem.run_bind, Sem.run_map, h]
  simp only [Result.andThen_ok, Sem.run_pure]
  match vs with
  | [] => rfl
  | [u] => rfl
  | _ :: _ :: _ => simp [tupV]
theorem mapO_spec {α β : Type} {f : α → Option β} : ∀ {l : List α} {m : List β}, mapO f l = some m → m.length = l.length ∧ ∀ (i : Nat) (x : α), l[i]? = some x → ∃ y, m[i]? = some y ∧ f x = some y
  | [], m, h => by simp [mapO] at h; subst h; exact ⟨rfl, fun i x hi => by simp at hi⟩
  | a :: r, m, h => by
    unfold mapO at h
    split at h
    · rename_i y ys h1 h2
      injection h with h
      subst h
      obtain ⟨i1, i2⟩ := mapO_spec h2
      refine ⟨by simp [i1], fun i x hi => ?_⟩
      cases i with
      | zero => simp at hi; subst hi; exact ⟨y, rfl, h1⟩
      | succ i => obtain ⟨z, z1, z2⟩ := i2 i x (by simpa using hi); exact ⟨z, by simpa using z1, z2⟩
    · cases h
theorem distinct_spec : ∀ {l : List RV}, distinct (ownNames l) = true → ∀ (i j m : Nat), l[i]? = some (.own m) → l[j]? = some (.own m) → i = j
  | [], _, i, j, m, h, _ => by simp at h
  | x :: r, hd, i, j, m, hi, hj => by
    have tail : distinct (ownNames r) = true := by
      cases x <;> simp only [ownNames] at hd <;> try exact hd
      unfold distinct at hd
      split at hd
      · cases hd
      · exact hd
    have mem : ∀ {l : List RV} {k : Nat}, l[k]? = some (.own m) → m ∈ ownNames l := by
      intro l
      induction l with
      | nil => intro k h; simp at h
      | cons y s ih =>
        intro k h
        cases k with
        | zero => simp at h; subst h; simp [ownNames]
        | succ k =>
          have := ih (k := k) (by simpa using h)
          cases y <;> simp [ownNames, this]
    have head : x = .own m → m ∈ ownNames r → False := by
      intro e hm
      subst e
      simp only [ownNames] at hd
      unfold distinct at hd
      rw [natIn_mem.2 hm] at hd
      cases hd
    cases i with
    | zero =>
      cases j with
      | zero => rfl
      | succ j => exact (head (by simpa using hi) (mem (k := j) (by simpa using hj))).elim
    | succ i =>
      cases j with
      | zero => exact (head (by simpa using hj) (mem (k := i) (by simpa using hi))).elim
      | succ j => rw [distinct_spec tail i j m (by simpa using hi) (by simpa using hj)]
theorem frz_flat {l : List (RV × Pch)} (h : ∀ x ∈ l, Frz bl x.2) : Frz bl (l.flatMap (·.2)) := by
  induction l with
  | nil => exact Frz.nil
  | cons x r ih =>
    rw [List.flatMap_cons]
    exact (h x (by simp)).append (ih (fun y hy => h y (List.mem_cons_of_mem _ hy)))
/-- A RETURN. -/
theorem ret_sound (g : Glob E ti) {rs : List ResultVar} {st : St} (hs : St.OK E st a w) (h : (retT ti st rs).Holds E rs.toArray QR QD) : RetOK E rs.toArray QR a w := by
  obtain ⟨ψ, hs⟩ := hs
  unfold retT at h
  split at h
  · exact h.elim
  · rename_i l hl
    split at h
    · rename_i rr hd hrr
      obtain ⟨l1, l2⟩ := mapO_spec hl
      obtain ⟨m1, m2⟩ := mapO_spec hrr
      rw [lookB_append] at m2
      have hres : ∀ i : Nat, ∃ v, ∀ (x : ResultVar) (y : RV × Pch), rs[i]? = some x → l[i]? = some y → (resSem a.tmps x).run E.P w = .ok v w ∧ Frz (lookB st.blks) y.2 ∧ RVRep w (okS E (setB (lookB st.blks) y.2) ψ w) ψ (setB (lookB st.blks) y.2) y.1 v := by
        intro i
        cases hx : rs[i]? with
        | none => exact ⟨undef, fun x y e => by cases e⟩
        | some x =>
          obtain ⟨y, hy, hr⟩ := l2 i x hx
          obtain ⟨v, v1, v2, v3⟩ := res_run g hs (r := y.1) (p := y.2) (by rw [hr])
          refine ⟨v, fun x' y' e e' => ?_⟩
          injection e with e
          subst e
          rw [hy] at e'
          injection e' with e'
          subst e'
          refine ⟨?_, v2, v3⟩
          cases x <;> exact v1
      have hfz : ∀ y ∈ l, Frz (lookB st.blks) y.2 := by
        intro y hy
        obtain ⟨i, hi⟩ := List.mem_iff_getElem?.1 hy
        obtain ⟨v, hv⟩ := hres i
        have hil := (List.getElem?_eq_some_iff.1 hi).1
        exact (hv rs[i] y (List.getElem?_eq_getElem (by omega)) hi).2.1
      have hp := frz_flat hfz
      have hs2 := (hs.frz hp).2
      let f : Nat → Value := fun i => Classical.choose (hres i)
      have hfs := fun i => Classical.choose_spec (hres i)
      have hvl : ((List.range rs.length).map f).length = rs.length := by simp
      have hat : ∀ i, i < rs.length → ((List.range rs.length).map f)[i]? = some (f i) := by intro i hi; simp [hi]
      have hgd : ∀ i, i < rs.length → ((List.range rs.length).map f).getD i undef = f i := by intro i hi; simp [List.getD_eq_getElem?_getD, hi]
      have hrun : (rs.mapM (resSem a.tmps)).run E.P w = .ok ((List.range rs.length).map f) w := by
        refine run_mapM (by simp) (fun i x v hx hv => ?_)
        have hil := (List.getElem?_eq_some_iff.1 hx).1
        rw [hat i hil] at hv
        injection hv with hv
        subst hv
        exact (hfs i x l[i] hx (List.getElem?_eq_getElem (by omega))).1
      have hrv : ∀ (i : Nat) (y : RV × Pch), l[i]? = some y → RVRep w (okS E (setB (lookB st.blks) (l.flatMap (·.2))) ψ w) ψ (setB (lookB st.blks) (l.flatMap (·.2))) y.1 (f i) := by
        intro i y hy
        have hil := (List.getElem?_eq_some_iff.1 hy).1
        have hx := hfs i rs[i] y (List.getElem?_eq_getElem (by omega)) hy
        exact rv_more hx.2.1 hp (fun z hz => List.mem_flatMap.2 ⟨y, List.mem_of_getElem? hy, hz⟩) hx.2.2
      have hlen : rr.length = rs.length := by rw [m1, List.length_map, l1]
      -- each result, as it is handed back
      have one : ∀ (i : Nat) (r : RR), rr[i]? = some r → ∃ y, l[i]? = some y ∧ retRR (setB (lookB st.blks) (l.flatMap (·.2))) y.1 = some r := by
        intro i r hi
        have hil := (List.getElem?_eq_some_iff.1 hi).1
        have hy : l[i]? = some l[i] := List.getElem?_eq_getElem (by omega)
        obtain ⟨z, z1, z2⟩ := m2 i l[i].1 (by rw [List.getElem?_map, hy]; rfl)
        rw [hi] at z1
        injection z1 with z1
        subst z1
        exact ⟨l[i], hy, z2⟩
      have own : ∀ (i : Nat) (e : TypeId) (rows : List (List D)), rr[i]? = some (.own e rows) → ∃ n, (∃ q, l[i]? = some (.own n, q)) ∧ setB (lookB st.blks) (l.flatMap (·.2)) n = some (.vec e rows) ∧ f i = ψ n := by
        intro i e rows hi
        obtain ⟨⟨y, q⟩, hy, hr⟩ := one i _ hi
        have hv := hrv i _ hy
        dsimp only at hr hv
        unfold retRR at hr
        split at hr
        · cases hr
        · rename_i n
          split at hr
          · rename_i e' rows' hb
            injection hr with hr
            injection hr with h1 h2
            subst h1 h2
            exact ⟨n, ⟨q, hy⟩, hb, hv (by rw [hb]; rfl)⟩
          · cases hr
          · cases hr
        · cases hr
        · cases hr
      refine ⟨hs.defers, hs.below, rr, _, h, results_run hrun, okS E (setB (lookB st.blks) (l.flatMap (·.2))) ψ w, fun b hb => ⟨?_, hb.2.1⟩, _, by rw [hvl, hlen], rfl, fun i r hi => ?_, fun i j r s hi hj ho1 ho2 hne => ?_⟩
      · by_cases hlt : b < E.w0.heap.size
        · exact .inl (hb.1 hlt)
        · exact .inr (by omega)
      · have hil := (List.getElem?_eq_some_iff.1 hi).1
        rw [hgd i (by omega)]
        obtain ⟨⟨y, q⟩, hy, hr⟩ := one i r hi
        have hv := hrv i _ hy
        dsimp only at hr hv
        unfold retRR at hr
        split at hr
        · injection hr with hr
          subst hr
          exact hv
        · rename_i n
          split at hr
          · rename_i e rows hb
            injection hr with hr
            subst hr
            have hψ : f i = ψ n := hv (by rw [hb]; rfl)
            obtain ⟨xs, x1, x2, x3, x4, x5⟩ := hs2.blks n _ hb
            refine ⟨xs, x1, by rw [hψ]; exact x2, x3, x4, x5, fun b hb' hok => ?_⟩
            exact hok.2.2 n _ hb rfl (by rw [← hψ]; exact hb')
          · rename_i rows hb
            injection hr with hr
            subst hr
            have hψ : f i = ψ n := hv (by rw [hb]; rfl)
            show Rep w _ (f i) _
            rw [hψ]
            exact hs2.blks n _ hb
          · cases hr
        · injection hr with hr
          subst hr
          have hψ : f i = .slice none 0 0 := hv
          show Rep w _ (f i) _
          rw [hψ]
          exact .slice none 0 0 [] 0 ⟨0, 0, none⟩ (fun _ _ => undef) rfl (Nat.le_refl _) (by omega) (by simp) (by simp) (fun h => by omega) (fun i r j d hi => by simp at hi) (fun i r j d hi => by simp at hi)
        · cases hr
      · have hil := (List.getElem?_eq_some_iff.1 hi).1
        have hjl := (List.getElem?_eq_some_iff.1 hj).1
        rw [hgd i (by omega), hgd j (by omega)]
        cases r with
        | val d => cases ho1
        | own e rows =>
          cases s with
          | val d => cases ho2
          | own e' rows' =>
            obtain ⟨n, ⟨q, n1⟩, n2, n3⟩ := own i e rows hi
            obtain ⟨n', ⟨q', n1'⟩, n2', n3'⟩ := own j e' rows' hj
            rw [n3, n3']
            refine hs2.apart n n' _ _ n2 n2' rfl rfl (fun e => hne ?_)
            subst e
            exact distinct_spec hd i j n (by rw [List.getElem?_map, n1]; rfl) (by rw [List.getElem?_map, n1']; rfl)
    · exact h.elim
end
end Go.Eng
