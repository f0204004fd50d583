/- The engine, part 29: what an argument reads as, as plain data. Conditions: none. -/
import Derived.Test.YtkiolflkkbfaiaaDoorEngA2
import Derived.OpenShut
import Derived.Carry
set_option linter.unusedVariables false
set_option linter.unusedSimpArgs false
namespace Go.Eng
open Go.RowKit

def RepL (W : World) (ok : Nat → Prop) (cs : List Value) (ds : List D) : Prop :=
  cs.length = ds.length ∧ (∀ d ∈ ds, D.isCell d = true) ∧ ∀ (j : Nat) (v : Value) (d : D), cs[j]? = some v → ds[j]? = some d → Rep W ok v d
theorem RepL.nil {W : World} {ok : Nat → Prop} : RepL W ok [] [] := ⟨rfl, by simp, fun j v d h => by simp at h⟩
theorem RepL.append {W : World} {ok : Nat → Prop} {cs cs' : List Value} {ds ds' : List D} (h : RepL W ok cs ds) (h' : RepL W ok cs' ds') : RepL W ok (cs ++ cs') (ds ++ ds') := by
  refine ⟨by simp [h.1, h'.1], fun d hd => ?_, fun j v d hv hd => ?_⟩
  · rcases List.mem_append.1 hd with hd | hd
    · exact h.2.1 d hd
    · exact h'.2.1 d hd
  · by_cases hj : j < cs.length
    · rw [List.getElem?_append_left hj] at hv
      rw [List.getElem?_append_left (by rw [← h.1]; exact hj)] at hd
      exact h.2.2 j v d hv hd
    · rw [List.getElem?_append_right (by omega)] at hv
      rw [List.getElem?_append_right (by rw [← h.1]; omega), ← h.1] at hd
      exact h'.2.2 _ v d hv hd
/-- A measure of what is read. -/
structure BulkOK {H : Type} (β : DataW H → Nat) : Prop where
  str : ∀ b, b.length ≤ β (.lit (.string b))
  len : ∀ es sp, es.length ≤ β (.slice es sp)
  el : ∀ es sp d, d ∈ es → β d ≤ β (.slice es sp)
  part : ∀ ps d, d ∈ ps → β d ≤ β (.agg ps)
structure OpensF (P : Program) (W : World) (fuel : Nat) (t : TypeId) {τ : Type} (enc : τ → List D) (good : Nat → τ → Prop) : Prop where
  run : ∀ {H : Type} (eH : TypeId × Value → H) (β : DataW H → Nat), BulkOK β → ∀ (cs : List Value) (x : DataW H × List MemPlace) (n : Nat),
    DataW.trod eH P W 0 (fun _ => true) true fuel t cs = some x → β x.1 ≤ n → ∃ y, good n y ∧ RepL W (fun b => b < W.heap.size) cs (enc y)
theorem exists_list {τ : Type} {p : Nat → τ → Prop} : ∀ {n : Nat}, (∀ i, i < n → ∃ y, p i y) → ∃ l : List τ, l.length = n ∧ ∀ (i : Nat) (y : τ), l[i]? = some y → p i y
  | 0, _ => ⟨[], rfl, fun i y h => by simp at h⟩
  | n + 1, h => by
    obtain ⟨l, h1, h2⟩ := exists_list (fun i hi => h i (Nat.lt_succ_of_lt hi))
    obtain ⟨y, hy⟩ := h n (Nat.lt_succ_self n)
    refine ⟨l ++ [y], by simp [h1], fun i z hz => ?_⟩
    by_cases hi : i < l.length
    · rw [List.getElem?_append_left hi] at hz
      exact h2 i z hz
    · rw [List.getElem?_append_right (by omega)] at hz
      have hi0 : i - l.length = 0 := by
        have := (List.getElem?_eq_some_iff.1 hz).1
        simp at this
        omega
      rw [hi0] at hz
      simp at hz
      subst hz
      have : i = n := by omega
      subst this
      exact hy
def gInt (k : IntKind) (n : Nat) (x : Int) : Prop := (Lit.int k x).wf = true
def gBool (n : Nat) (x : Bool) : Prop := True
def gStr (n : Nat) (x : ByteArray) : Prop := x.size ≤ n ∧ x.size ≤ maxLen
def gList {τ : Type} (g : Nat → τ → Prop) (n : Nat) (l : List τ) : Prop := l.length ≤ n ∧ ∀ y ∈ l, g n y
section
variable {P : Program} {W : World} {fuel : Nat} {t : TypeId}
theorem repL_one {ok : Nat → Prop} {v : Value} {d : D} (hc : d.isCell = true) (h : Rep W ok v d) : RepL W ok [v] [d] := by
  refine ⟨rfl, by simpa using hc, fun j v' d' hv hd => ?_⟩
  cases j with
  | zero => simp at hv hd; subst hv hd; exact h
  | succ j => simp at hv
theorem OpensF.int {k : IntKind} (hu : P.underlying t = some (.int k)) : OpensF P W fuel t (eInt k) (gInt k) := by
  refine ⟨fun {H} eH β hβ cs x n h hn => ?_⟩
  obtain ⟨m, rfl, rfl, hw⟩ := DataW.trod_int hu h
  exact ⟨m, hw, repL_one rfl (.int _ _)⟩
theorem OpensF.bool (hu : P.underlying t = some .bool) : OpensF P W fuel t eBool gBool := by
  refine ⟨fun {H} eH β hβ cs x n h hn => ?_⟩
  obtain ⟨m, rfl, rfl⟩ := DataW.trod_bool hu h
  exact ⟨m, trivial, repL_one rfl (.bool _)⟩
theorem OpensF.str (hu : P.underlying t = some .string) : OpensF P W fuel t eStr gStr := by
  refine ⟨fun {H} eH β hβ cs x n h hn => ?_⟩
  obtain ⟨s, rfl, rfl, hs⟩ := DataW.trod_string hu h
  have h1 := hβ.str s.data.toList
  have h2 : s.data.toList.length = s.size := by rw [Array.length_toList]; rfl
  exact ⟨s, ⟨by dsimp only at hn; omega, hs⟩, repL_one rfl (.str _ hs)⟩
theorem cells?_spec {a : Addr} {n : Nat} {cs : List Value} (h : W.cells? 0 a n = some cs) : cs.length = n ∧ ∀ j, j < n → W.cell? (a.add j) = cs[j]? := by
  unfold World.cells? at h
  rw [if_pos (Nat.zero_le _)] at h
  exact ⟨by simpa using mapM_some_length h, fun j hj => mapM_some_get h j j (by simp [hj])⟩
theorem cell?_lt {a : Addr} {v : Value} (h : W.cell? a = some v) : a.block < W.heap.size := by
  unfold World.cell? at h
  cases hb : W.heap[a.block]? with
  | none => rw [hb] at h; cases h
  | some o => exact (Array.getElem?_eq_some_iff.1 hb).1
theorem OpensF.slice {e : TypeId} {τ : Type} {enc : τ → List D} {good : Nat → τ → Prop} (sz : Nat) (hu : P.underlying t = some (.slice e)) (hz : P.cellsOf e = sz) (hpos : 0 < sz) (hlen : ∀ y, (enc y).length = sz)
    (he : ∀ m, m < fuel → OpensF P W m e enc good) : OpensF P W fuel t (eSl enc) (gList good) := by
  refine ⟨fun {H} eH β hβ cs x n h hn => ?_⟩
  rcases DataW.trod_slice hu h with ⟨rfl, rfl⟩ | ⟨a, len, cap, elems, rest, m, rfl, rfl, rfl, -, h1, h2, h3, h4, -, -⟩
  · refine ⟨[], ⟨by simp, by simp⟩, repL_one rfl ?_⟩
    exact .slice none 0 0 [] sz ⟨0, 0, none⟩ (fun _ _ => undef) rfl (Nat.le_refl _) (by omega) (by simp) (by simp) (fun h => by omega) (fun i r j d hi => by simp at hi) (fun i r j d hi => by simp at hi)
  · have hel : ∀ i, i < len → ∃ y ci, good n y ∧ W.cells? 0 (a.add (i * sz)) sz = some ci ∧ RepL W (fun b => b < W.heap.size) ci (enc y) := by
      intro i hi
      have h5 := h4 i hi
      have hil : i < elems.length := by omega
      rw [List.getElem?_eq_getElem hil, hz] at h5
      obtain ⟨ci, h6, h7⟩ := Option.bind_eq_some_iff.1 h5
      obtain ⟨y, hy1, hy2⟩ := (he m (Nat.lt_succ_self m)).run eH β hβ ci elems[i] n h7 (Nat.le_trans (hβ.el _ _ _ (List.mem_map.2 ⟨elems[i], List.getElem_mem hil, rfl⟩)) hn)
      exact ⟨y, ci, hy1, h6, hy2⟩
    obtain ⟨l, l1, l2⟩ := exists_list (p := fun i y => ∃ ci, good n y ∧ W.cells? 0 (a.add (i * sz)) sz = some ci ∧ RepL W (fun b => b < W.heap.size) ci (enc y)) hel
    have hrep : Rep W (fun b => b < W.heap.size) (.slice (some a) len cap) (.slice (List.map enc l)) := by
      have hrow : ∀ (i : Nat) (r : List D), (List.map enc l)[i]? = some r → i < len ∧ ∃ y ci, l[i]? = some y ∧ r = enc y ∧ W.cells? 0 (a.add (i * sz)) sz = some ci ∧ RepL W (fun b => b < W.heap.size) ci (enc y) := by
        intro i r hi
        rw [List.getElem?_map] at hi
        obtain ⟨y, hy, rfl⟩ := Option.map_eq_some_iff.1 hi
        have hlt := (List.getElem?_eq_some_iff.1 hy).1
        obtain ⟨ci, _, h6, h7⟩ := l2 i y hy
        exact ⟨by omega, y, ci, hy, rfl, h6, h7⟩
      refine .slice (some a) len cap (List.map enc l) sz a (fun i j => (W.cell? (a.add (i * sz + j))).getD undef) (by simp [l1]) h1 (by simpa [maxLen] using h2) (fun r hr => ?_) (fun r hr => ?_) (fun h0 => ⟨rfl, ?_⟩) (fun i r j d hi hj => ?_) (fun i r j d hi hj => ?_)
      · obtain ⟨y, _, rfl⟩ := List.mem_map.1 hr
        exact hlen y
      · obtain ⟨i, hi, hr⟩ := List.getElem_of_mem hr
        obtain ⟨_, y, ci, _, rfl, _, h7⟩ := hrow i r (by rw [List.getElem?_eq_getElem hi, hr])
        exact h7.2.1
      · have hl0 : 0 < l.length := by omega
        obtain ⟨_, y, ci, hy, _, h6, h7⟩ := hrow 0 (enc l[0]) (by rw [List.getElem?_map, List.getElem?_eq_getElem hl0]; rfl)
        obtain ⟨c1, c2⟩ := cells?_spec h6
        have h8 := c2 0 hpos
        rw [List.getElem?_eq_getElem (by omega)] at h8
        have := cell?_lt h8
        simpa [add_block] using this
      · obtain ⟨_, y, ci, hy, rfl, h6, h7⟩ := hrow i r hi
        obtain ⟨c1, c2⟩ := cells?_spec h6
        have hjl : j < sz := by rw [← hlen y]; exact (List.getElem?_eq_some_iff.1 hj).1
        have h8 := c2 j hjl
        rw [add_add, List.getElem?_eq_getElem (by omega)] at h8
        show W.cell? _ = some ((W.cell? (a.add (i * sz + j))).getD undef)
        rw [h8]
        rfl
      · obtain ⟨_, y, ci, hy, rfl, h6, h7⟩ := hrow i r hi
        obtain ⟨c1, c2⟩ := cells?_spec h6
        have hjl : j < sz := by rw [← hlen y]; exact (List.getElem?_eq_some_iff.1 hj).1
        have h8 := c2 j hjl
        rw [add_add, List.getElem?_eq_getElem (by omega)] at h8
        show Rep W _ ((W.cell? (a.add (i * sz + j))).getD undef) d
        rw [h8]
        exact h7.2.2 j _ d (List.getElem?_eq_getElem (by omega)) hj
    refine ⟨l, ⟨?_, fun y hy => ?_⟩, repL_one rfl hrep⟩
    · have := hβ.len (elems.map (·.1)) (rest.map (·.1))
      simp only [List.length_map] at this
      dsimp only at hn
      omega
    · obtain ⟨i, hi, rfl⟩ := List.getElem_of_mem hy
      obtain ⟨_, h8, _⟩ := l2 i l[i] (List.getElem?_eq_getElem hi)
      exact h8
/-- Fields, one behind the other. -/
structure OpensFs (P : Program) (W : World) (fuel : Nat) (fs : List (TypeId × Nat × Nat)) (off total : Nat) {τ : Type} (enc : τ → List D) (good : Nat → τ → Prop) : Prop where
  run : ∀ {H : Type} (eH : TypeId × Value → H) (β : DataW H → Nat), BulkOK β → ∀ (cs : List Value) (n : Nat),
    (∀ f ∈ fs, ∃ x, DataW.trod eH P W 0 (fun _ => true) true fuel f.1 ((cs.drop f.2.1).take f.2.2) = some x ∧ β x.1 ≤ n) → ∃ y, good n y ∧ RepL W (fun b => b < W.heap.size) ((cs.drop off).take total) (enc y)
theorem OpensFs.nil {off : Nat} : OpensFs P W fuel [] off 0 (fun _ : Unit => []) (fun _ _ => True) := by
  refine ⟨fun {H} eH β hβ cs n h => ?_⟩
  exact ⟨(), trivial, by simpa using RepL.nil⟩
theorem OpensFs.cons {f : TypeId} {off sz total : Nat} {fs : List (TypeId × Nat × Nat)} {τ υ : Type} {enc : τ → List D} {good : Nat → τ → Prop} {encs : υ → List D} {goods : Nat → υ → Prop}
    (h : OpensF P W fuel f enc good) (hs : OpensFs P W fuel fs (off + sz) total encs goods) :
    OpensFs P W fuel ((f, off, sz) :: fs) off (sz + total) (fun y : τ × υ => enc y.1 ++ encs y.2) (fun n y => good n y.1 ∧ goods n y.2) := by
  refine ⟨fun {H} eH β hβ cs n hf => ?_⟩
  obtain ⟨x, h1, h2⟩ := hf _ List.mem_cons_self
  obtain ⟨y, y1, y2⟩ := h.run eH β hβ _ _ n h1 h2
  obtain ⟨z, z1, z2⟩ := hs.run eH β hβ cs n (fun g hg => hf g (List.mem_cons_of_mem _ hg))
  refine ⟨(y, z), ⟨y1, z1⟩, ?_⟩
  have e : (cs.drop off).take (sz + total) = (cs.drop off).take sz ++ (cs.drop (off + sz)).take total := by
    rw [List.take_add, List.drop_drop]
  rw [e]
  exact y2.append z2
theorem OpensF.struct {fs : List (TypeId × Nat × Nat)} {total : Nat} {τ υ : Type} {encs : τ → List D} {goods : Nat → τ → Prop} {enc : υ → List D} {good : Nat → υ → Prop} (of : τ → υ) (hk : kindOf P t = .struct fs) (hsz : ∀ f ∈ fs, P.cellsOf f.1 = f.2.2) (hz : P.cellsOf t = total)
    (hs : ∀ m, m < fuel → OpensFs P W m fs 0 total encs goods) (hg : ∀ n y, goods n y → good n (of y)) (he : ∀ y, encs y = enc (of y)) : OpensF P W fuel t enc good := by
  refine ⟨fun {H} eH β hβ cs x n h hn => ?_⟩
  obtain ⟨fields, hu, rfl⟩ := kind_struct hk
  obtain ⟨xs, m, rfl, rfl, h1, h2, h3⟩ := DataW.trod_struct hu h
  obtain ⟨y, y1, y2⟩ := (hs m (Nat.lt_succ_self m)).run eH β hβ cs n (fun f hf => by
    obtain ⟨g, hg, rfl⟩ := List.mem_map.1 hf
    obtain ⟨i, hi, rfl⟩ := List.getElem_of_mem hg
    have hi' : i < fields.size := by simpa using hi
    have := h3 i fields[i] (by simp [hi'])
    have hs' := hsz _ hf
    dsimp only at hs' ⊢
    simp only [Array.getElem_toList] at hs' ⊢
    rw [← hs', this, List.getElem?_eq_getElem (by omega)]
    exact ⟨_, rfl, Nat.le_trans (hβ.part _ _ (List.mem_map.2 ⟨xs[i], List.getElem_mem _, rfl⟩)) hn⟩)
  refine ⟨of y, hg n y y1, ?_⟩
  rw [← he]
  rw [List.drop_zero, List.take_of_length_le (by omega)] at y2
  exact y2
theorem OpensF.array {k : Nat} {e : TypeId} {fs : List (TypeId × Nat × Nat)} {total : Nat} {τ υ : Type} {encs : τ → List D} {goods : Nat → τ → Prop} {enc : υ → List D} {good : Nat → υ → Prop} (of : τ → υ) (hu : P.underlying t = some (.array k e))
    (hsz : ∀ f ∈ fs, ∃ i, i < k ∧ f = (e, i * P.cellsOf e, P.cellsOf e)) (hz : P.cellsOf t = total)
    (hs : ∀ m, m < fuel → OpensFs P W m fs 0 total encs goods) (hg : ∀ n y, goods n y → good n (of y)) (he : ∀ y, encs y = enc (of y)) : OpensF P W fuel t enc good := by
  refine ⟨fun {H} eH β hβ cs x n h hn => ?_⟩
  obtain ⟨xs, m, rfl, rfl, h1, h2, h3⟩ := DataW.trod_array hu h
  obtain ⟨y, y1, y2⟩ := (hs m (Nat.lt_succ_self m)).run eH β hβ cs n (fun f hf => by
    obtain ⟨i, hi, rfl⟩ := hsz f hf
    have := h3 i hi
    dsimp only
    rw [this, List.getElem?_eq_getElem (by omega)]
    exact ⟨_, rfl, Nat.le_trans (hβ.part _ _ (List.mem_map.2 ⟨xs[i], List.getElem_mem _, rfl⟩)) hn⟩)
  refine ⟨of y, hg n y y1, ?_⟩
  rw [← he]
  rw [List.drop_zero, List.take_of_length_le (by omega)] at y2
  exact y2
/-- An argument. -/
theorem open_arg {τ : Type} {enc : τ → List D} {good : Nat → τ → Prop} (ho : ∀ m, OpensF P W m t enc good) {H : Type} {eH : TypeId × Value → H} {β : DataW H → Nat} (hβ : BulkOK β) {v : Value} {d : DataW H} {ps : List MemPlace} {n : Nat}
    (h : DataW.Trod eH P W 0 (fun _ => true) true t v d ps) (hn : β d ≤ n) : ∃ y, good n y ∧ RepL W (fun b => b < W.heap.size) v.cells.toList (enc y) := by
  obtain ⟨fuel, h⟩ := h
  exact (ho fuel).run eH β hβ _ _ n h hn
theorem rep_of_cells {ok : Nat → Prop} {v : Value} {d : D} (h : RepL W ok v.cells.toList [d]) (hv : ∀ cs, v ≠ .agg cs) : Rep W ok v d := by
  have : v.cells = #[v] := by
    cases v <;> first | rfl | exact absurd rfl (hv _)
  rw [this] at h
  exact h.2.2 0 v d rfl rfl
theorem rep_agg {ok : Nat → Prop} {cs : Array Value} {ds : List D} (h : RepL W ok cs.toList ds) : Rep W ok (.agg cs) (.agg ds) := by
  refine .agg cs ds (by have := h.1; simpa using this) h.2.1 (fun i d hi => ?_)
  have hl : i < cs.size := by have h1 := h.1; have h2 := (List.getElem?_eq_some_iff.1 hi).1; simp at h1; omega
  have : cs.toList[i]? = some (cs.getD i undef) := by simp [Array.getD_eq_getD_getElem?, hl]
  exact h.2.2 i _ d this hi
end
end Go.Eng
namespace Go.Eng
def allSz (P : Program) (fs : List (TypeId × Nat × Nat)) : Bool := fs.all fun f => Nat.beq (P.cellsOf f.1) f.2.2
theorem allSz_spec {P : Program} {fs : List (TypeId × Nat × Nat)} (h : allSz P fs = true) : ∀ f ∈ fs, P.cellsOf f.1 = f.2.2 := by
  intro f hf
  exact Nat.eq_of_beq_eq_true (List.all_eq_true.1 h f hf)
def arrFs (e sz : Nat) (k : Nat) : List (TypeId × Nat × Nat) := (List.range k).map fun i => (e, i * sz, sz)
theorem arrFs_spec {P : Program} {e k : Nat} {fs : List (TypeId × Nat × Nat)} (sz : Nat) (hz : P.cellsOf e = sz) (h : fs = arrFs e sz k) : ∀ f ∈ fs, ∃ i, i < k ∧ f = (e, i * P.cellsOf e, P.cellsOf e) := by
  subst h
  intro f hf
  obtain ⟨i, hi, rfl⟩ := List.mem_map.1 hf
  exact ⟨i, by simpa using hi, by rw [hz]⟩
end Go.Eng
