/- The engine, part 2: what a value in memory reads as; when a symbolic state fits the machine's; frames. Conditions: none. -/
import Derived.Test.YtkiolflkkbfaiaaDoorEngA
set_option linter.unusedVariables false
namespace Go.Eng
open Go.RowKit

inductive Rep (w : World) (ok : Nat → Prop) : Value → D → Prop where
  | int (k : IntKind) (n : Int) : Rep w ok (.int k n) (.int k n)
  | bool (b : Bool) : Rep w ok (.bool b) (.bool b)
  | str (s : ByteArray) (h : s.size ≤ 9223372036854775807) : Rep w ok (.string s) (.str s)
  | slice (A : Option Addr) (n c : Nat) (rows : List (List D)) (sz : Nat) (ad : Addr) (vs : Nat → Nat → Value)
      (hl : rows.length = n) (hc : n ≤ c) (hm : c ≤ 9223372036854775807) (hsz : ∀ r ∈ rows, r.length = sz) (hcell : ∀ r ∈ rows, ∀ d ∈ r, D.isCell d = true)
      (hA : 0 < n → A = some ad ∧ ok ad.block)
      (hv : ∀ (i : Nat) (r : List D) (j : Nat) (d : D), rows[i]? = some r → r[j]? = some d → w.cell? (ad.add (i * sz + j)) = some (vs i j))
      (hr : ∀ (i : Nat) (r : List D) (j : Nat) (d : D), rows[i]? = some r → r[j]? = some d → Rep w ok (vs i j) d) : Rep w ok (.slice A n c) (.slice rows)
  | agg (cs : Array Value) (ds : List D) (hl : cs.size = ds.length) (hcell : ∀ d ∈ ds, D.isCell d = true)
      (h : ∀ (i : Nat) (d : D), ds[i]? = some d → Rep w ok (cs.getD i undef) d) : Rep w ok (.agg cs) (.agg ds)
  | fn (f : FuncId) (caps : List (List D)) (cap : Array Value) (ads : Nat → Addr) (vs : Nat → Nat → Value) (hl : cap.size = caps.length)
      (hcell : ∀ r ∈ caps, ∀ d ∈ r, D.isCell d = true) (hp : ∀ i, i < caps.length → cap[i]? = some (.pointer (some (ads i))) ∧ ok (ads i).block)
      (hv : ∀ (i : Nat) (r : List D) (j : Nat) (d : D), caps[i]? = some r → r[j]? = some d → w.cell? ((ads i).add j) = some (vs i j))
      (hr : ∀ (i : Nat) (r : List D) (j : Nat) (d : D), caps[i]? = some r → r[j]? = some d → Rep w ok (vs i j) d) : Rep w ok (.func (.func f) #[] cap) (.fn f caps)

theorem cell?_heap {w w' : World} {a : Addr} (h : w'.heap[a.block]? = w.heap[a.block]?) : w'.cell? a = w.cell? a := World.cell?_of_block h
theorem add_block (a : Addr) (n : Nat) : (a.add n).block = a.block := by unfold Addr.add; split <;> rfl
theorem add_add (a : Addr) (n m : Nat) : (a.add n).add m = a.add (n + m) := by
  unfold Addr.add
  by_cases h1 : n = 0 <;> by_cases h2 : m = 0 <;> simp [h1, h2, Nat.add_assoc]
theorem add_plain (b o n : Nat) : (⟨b, o, none⟩ : Addr).add n = ⟨b, o + n, none⟩ := by
  unfold Addr.add
  by_cases h : n = 0 <;> simp [h]

theorem Rep.mono {w w' : World} {ok ok' : Nat → Prop} (hh : ∀ b, ok b → w'.heap[b]? = w.heap[b]?) (ho : ∀ b, ok b → ok' b) {v : Value} {d : D} (h : Rep w ok v d) : Rep w' ok' v d := by
  induction h with
  | int k n => exact .int k n
  | bool b => exact .bool b
  | str s h => exact .str s h
  | slice A n c rows sz ad vs hl hc hm hsz hcell hA hv _ ih =>
    refine .slice A n c rows sz ad vs hl hc hm hsz hcell (fun h => ⟨(hA h).1, ho _ (hA h).2⟩) (fun i r j d h1 h2 => ?_) ih
    have hn : 0 < n := by have := (List.getElem?_eq_some_iff.1 h1).1; omega
    exact (cell?_heap (a := ad.add (i * sz + j)) (by rw [add_block]; exact hh _ (hA hn).2)).trans (hv i r j d h1 h2)
  | agg cs ds hl hcell _ ih => exact .agg cs ds hl hcell ih
  | fn f caps cap ads vs hl hcell hp hv _ ih =>
    refine .fn f caps cap ads vs hl hcell (fun i hi => ⟨(hp i hi).1, ho _ (hp i hi).2⟩) (fun i r j d h1 h2 => ?_) ih
    exact (cell?_heap (a := (ads i).add j) (by rw [add_block]; exact hh _ (hp i (List.getElem?_eq_some_iff.1 h1).1).2)).trans (hv i r j d h1 h2)
theorem allB_mem {α : Type} {p : α → Bool} : ∀ {l : List α}, allB p l = true → ∀ a ∈ l, p a = true
  | [], _, _, h => by cases h
  | b :: r, h, a, ha => by
    unfold allB at h
    split at h
    · rename_i hb
      rcases List.mem_cons.1 ha with rfl | ha
      · exact hb
      · exact allB_mem h a ha
    · cases h
theorem Rep.flat1 {w w' : World} {ok ok' : Nat → Prop} {v : Value} {d : D} (hd : d.flat1 = true) (h : Rep w ok v d) : Rep w' ok' v d := by
  cases h with
  | int k n => exact .int k n
  | bool b => exact .bool b
  | str s h => exact .str s h
  | _ => simp [D.flat1] at hd
theorem Rep.flat {w w' : World} {ok ok' : Nat → Prop} {v : Value} {d : D} (hd : d.flat = true) (h : Rep w ok v d) : Rep w' ok' v d := by
  cases h with
  | int k n => exact .int k n
  | bool b => exact .bool b
  | str s h => exact .str s h
  | agg cs ds hl hcell hr =>
    refine .agg cs ds hl hcell (fun i d hi => (hr i d hi).flat1 ?_)
    exact allB_mem (p := D.flat1) (by simpa [D.flat] using hd) d (List.mem_of_getElem? hi)
  | slice => simp [D.flat, D.flat1] at hd
  | fn => simp [D.flat, D.flat1] at hd
/-- A cell's value is one cell. -/
theorem Rep.one {w : World} {ok : Nat → Prop} {v : Value} {d : D} (h : Rep w ok v d) (hd : d.isCell = true) : v.cells = #[v] ∧ v.oneCell' = true := by
  cases h with
  | agg => simp [D.isCell] at hd
  | _ => exact ⟨rfl, rfl⟩
theorem Rep.cells {w : World} {ok : Nat → Prop} {v : Value} {d : D} (h : Rep w ok v d) :
    v.cells.size = d.cells.length ∧ (∀ e ∈ d.cells, e.isCell = true) ∧ ∀ (i : Nat) (e : D), d.cells[i]? = some e → Rep w ok (v.cells.getD i undef) e := by
  cases h with
  | agg cs ds hl hcell hr => exact ⟨hl, hcell, hr⟩
  | int k n => exact ⟨rfl, by simp [D.cells, D.isCell], fun i e h => by cases i <;> simp [D.cells] at h; subst h; exact .int k n⟩
  | bool b => exact ⟨rfl, by simp [D.cells, D.isCell], fun i e h => by cases i <;> simp [D.cells] at h; subst h; exact .bool b⟩
  | str s hs => exact ⟨rfl, by simp [D.cells, D.isCell], fun i e h => by cases i <;> simp [D.cells] at h; subst h; exact .str s hs⟩
  | slice A n c rows sz ad vs hl hc hm hsz hcell hA hv hr => exact ⟨rfl, by simp [D.cells, D.isCell], fun i e h => by cases i <;> simp [D.cells] at h; subst h; exact .slice A n c rows sz ad vs hl hc hm hsz hcell hA hv hr⟩
  | fn f caps cap ads vs hl hcell hp hv hr => exact ⟨rfl, by simp [D.cells, D.isCell], fun i e h => by cases i <;> simp [D.cells] at h; subst h; exact .fn f caps cap ads vs hl hcell hp hv hr⟩

/-! ### States -/
structure Env where
  P : Program
  gt : Nat → Option (List D)
  w0 : World
  ok0 : Nat → Prop
  n : Nat
/-- What the package-level tables read as. -/
def GlobOK (gt : Nat → Option (List D)) (w : World) (ok : Nat → Prop) : Prop :=
  ∀ g cs, gt g = some cs → ok g ∧ (∀ d ∈ cs, D.isCell d = true) ∧ ∀ (j : Nat) (d : D), cs[j]? = some d → ∃ v, w.cell? ⟨g, j, none⟩ = some v ∧ Rep w ok v d
structure Env.Good (E : Env) : Prop where
  ok : ∀ b, E.ok0 b → b < E.w0.heap.size
  glob : GlobOK E.gt E.w0 E.ok0

def ptrBlock : Value → Option Nat
  | .pointer (some a) => some a.block
  | .slice (some a) _ _ => some a.block
  | _ => none
def Blk.live : Blk → Bool
  | .box _ => true
  | .vec _ _ => true
  | _ => false
def okS (E : Env) (bl : Blks) (ψ : Nat → Value) (w : World) (b : Nat) : Prop :=
  (b < E.w0.heap.size → E.ok0 b) ∧ b < w.heap.size ∧ ∀ nm k, bl nm = some k → k.live = true → ptrBlock (ψ nm) ≠ some b
def RVRep (w : World) (ok : Nat → Prop) (ψ : Nat → Value) (bl : Blks) : RV → Value → Prop
  | .val d, v => Rep w ok v d
  | .own nm, v => (bl nm).isSome = true → v = ψ nm
  | .nils, v => v = .slice none 0 0
  | .any, _ => True
def litsHold (tm : Array Value) (l : List (Nat × Bool)) : Prop := ∀ x ∈ l, tm.getD x.1 undef = .bool x.2
def SlotRep (w : World) (ok : Nat → Prop) (ψ : Nat → Value) (bl : Blks) (tm : Array Value) : Slot → Value → Prop
  | .unit, _ => True
  | .rv r, v => RVRep w ok ψ bl r v
  | .gval l s, v => (litsHold tm l → SlotRep w ok ψ bl tm s v) ∧ (¬ litsHold tm l → v = undef)
  | .tup rs, v => ∃ vs : Array Value, v = .tuple vs ∧ vs.size = rs.length ∧ ∀ (i : Nat) (r : RV), rs[i]? = some r → RVRep w ok ψ bl r (vs.getD i undef)
  | .box nm off, v => (bl nm).isSome = true → ∃ b, ψ nm = .pointer (some ⟨b, 0, none⟩) ∧ v = .pointer (some ⟨b, off, none⟩)
  | .row cs off, v => ∃ ad : Addr, v = .pointer (some (ad.add off)) ∧ ok ad.block ∧ (∀ d ∈ cs, D.isCell d = true) ∧ ∀ (j : Nat) (d : D), cs[j]? = some d → ∃ u, w.cell? (ad.add j) = some u ∧ Rep w ok u d
  | .vel nm i sz off, v => (bl nm).isSome = true → ∃ b n c, ψ nm = .slice (some ⟨b, 0, none⟩) n c ∧ v = .pointer (some ⟨b, i * sz + off, none⟩)
def BlkRep (E : Env) (w : World) (ok : Nat → Prop) (ψ : Nat → Value) (bl : Blks) (nm : Nat) : Blk → Prop
  | .box cs => ∃ b vs t, ψ nm = .pointer (some ⟨b, 0, none⟩) ∧ E.w0.heap.size ≤ b ∧ w.heap[b]? = some (.cells vs t (0, 0)) ∧ vs.size = cs.length ∧
      ∀ (j : Nat) (r : RV), cs[j]? = some r → RVRep w ok ψ bl r (vs.getD j undef) ∧ (∀ d, r = .val d → d.isCell = true)
  | .vec e rows => ∃ xs : List Value, 0 < szOf E.P e ∧ w.ownsRow E.w0.heap.size e (szOf E.P e) (ψ nm) rows.length xs ∧ (∀ r ∈ rows, r.length = szOf E.P e) ∧ (∀ r ∈ rows, ∀ d ∈ r, D.isCell d = true) ∧
      ∀ (i : Nat) (r : List D) (j : Nat) (d : D), rows[i]? = some r → r[j]? = some d → ∃ u, xs[i * szOf E.P e + j]? = some u ∧ Rep w ok u d
  | .fro rows => Rep w ok (ψ nm) (.slice rows)
  | .frob cs => ∃ b, ψ nm = .pointer (some ⟨b, 0, none⟩) ∧ ok b ∧ (∀ d ∈ cs, D.isCell d = true) ∧ ∀ (j : Nat) (d : D), cs[j]? = some d → ∃ u, w.cell? ⟨b, j, none⟩ = some u ∧ Rep w ok u d

structure SimP (E : Env) (ψ : Nat → Value) (sl : Nat → Slot) (bl : Blks) (U : Nat → Prop) (a : Act) (w : World) : Prop where
  size : a.tmps.size = E.n
  defers : a.defers = []
  below : Below E.w0.heap.size E.w0 w
  slots : ∀ i, SlotRep w (okS E bl ψ w) ψ bl a.tmps (sl i) (a.tmps.getD i undef)
  blks : ∀ nm k, bl nm = some k → BlkRep E w (okS E bl ψ w) ψ bl nm k
  apart : ∀ nm nm' k k', bl nm = some k → bl nm' = some k' → k.live = true → k'.live = true → nm ≠ nm' → ptrBlock (ψ nm) = none ∨ ptrBlock (ψ nm) ≠ ptrBlock (ψ nm')
  names : ∀ nm, ¬ U nm → bl nm = none
  refs : ∀ i nm, nm ∈ refsS (sl i) → U nm
  brefs : ∀ nm cs, bl nm = some (.box cs) → ∀ r ∈ cs, ∀ m ∈ refsR r, U m
  gg : ∀ i l l' s', sl i ≠ .gval l (.gval l' s')
def Sim (E : Env) (sl : Nat → Slot) (bl : Blks) (U : Nat → Prop) (a : Act) (w : World) : Prop := ∃ ψ, SimP E ψ sl bl U a w

/-- What is carried from one state to the next, of slots and blocks that stay. -/
structure Keeps (E : Env) (ψ ψ' : Nat → Value) (bl bl' : Blks) (U : Nat → Prop) (w w' : World) : Prop where
  heap : ∀ b, okS E bl ψ w b → w'.heap[b]? = w.heap[b]?
  ok : ∀ b, okS E bl ψ w b → okS E bl' ψ' w' b
  own : ∀ nm, U nm → (bl' nm).isSome = true → (bl nm).isSome = true ∧ ψ' nm = ψ nm
section
variable {E : Env} {ψ ψ' : Nat → Value} {bl bl' : Blks} {U : Nat → Prop} {w w' : World}
theorem Keeps.rep (h : Keeps E ψ ψ' bl bl' U w w') {v : Value} {d : D} (hr : Rep w (okS E bl ψ w) v d) : Rep w' (okS E bl' ψ' w') v d := hr.mono h.heap h.ok
theorem Keeps.rv (h : Keeps E ψ ψ' bl bl' U w w') {r : RV} {v : Value} (hn : ∀ m ∈ refsR r, U m) (hr : RVRep w (okS E bl ψ w) ψ bl r v) : RVRep w' (okS E bl' ψ' w') ψ' bl' r v := by
  cases r with
  | val d => exact h.rep hr
  | own m =>
    intro hs
    obtain ⟨h1, h2⟩ := h.own m (hn m (by simp [refsR])) hs
    rw [h2]
    exact hr h1
  | nils => exact hr
  | any => trivial
theorem Keeps.slot (h : Keeps E ψ ψ' bl bl' U w w') {tm tm' : Array Value} : ∀ {s : Slot} {v : Value}, (∀ l s', s = .gval l s' → (litsHold tm' l ↔ litsHold tm l)) → (∀ m ∈ refsS s, U m) → (∀ l l' s', s ≠ .gval l (.gval l' s')) →
    SlotRep w (okS E bl ψ w) ψ bl tm s v → SlotRep w' (okS E bl' ψ' w') ψ' bl' tm' s v := by
  have key : ∀ {s : Slot} {v : Value}, (∀ l s', s ≠ .gval l s') → (∀ m ∈ refsS s, U m) → SlotRep w (okS E bl ψ w) ψ bl tm s v → SlotRep w' (okS E bl' ψ' w') ψ' bl' tm' s v := by
    intro s v hg hn hr
    cases s with
    | unit => trivial
    | rv r => exact h.rv hn hr
    | gval l s => exact absurd rfl (hg l s)
    | tup rs =>
      obtain ⟨vs, h1, h2, h3⟩ := hr
      refine ⟨vs, h1, h2, fun i r hi => h.rv (fun m hm => hn m ?_) (h3 i r hi)⟩
      exact List.mem_flatMap.2 ⟨r, List.mem_of_getElem? hi, hm⟩
    | box nm off =>
      intro hs
      obtain ⟨h1, h2⟩ := h.own nm (hn nm (by simp [refsS])) hs
      rw [h2]
      exact hr h1
    | row cs off =>
      obtain ⟨ad, h1, h2, h3, h4⟩ := hr
      refine ⟨ad, h1, h.ok _ h2, h3, fun j d hj => ?_⟩
      obtain ⟨u, h5, h6⟩ := h4 j d hj
      exact ⟨u, (cell?_heap (a := ad.add j) (by rw [add_block]; exact h.heap _ h2)).trans h5, h.rep h6⟩
    | vel nm i sz off =>
      intro hs
      obtain ⟨h1, h2⟩ := h.own nm (hn nm (by simp [refsS])) hs
      rw [h2]
      exact hr h1
  intro s v hl hn hgg hr
  cases s with
  | gval l s =>
    have e := hl l s rfl
    refine ⟨fun hh => key (fun l' s' e' => hgg l l' s' (by rw [e'])) hn (hr.1 (e.1 hh)), fun hh => hr.2 (fun h' => hh (e.2 h'))⟩
  | _ => exact key (by simp) hn hr
end

/-- Slots and blocks behind a patch. -/
def setS (sl : Nat → Slot) (dst : Option Nat) (s : Slot) : Nat → Slot := fun i => match dst with
  | some d => if i = d then s else sl i
  | none => sl i
def setB (bl : Blks) (p : Pch) : Blks := fun n => match p.find? (fun x => Nat.beq n x.1) with
  | some x => x.2
  | none => bl n
theorem lookS_put (st : St) (dst : Option Nat) (p : Patch) : lookS (st.put dst p).slots = setS (lookS st.slots) dst p.slot := by
  funext i
  cases dst with
  | none => rfl
  | some d =>
    show lookS ((d, p.slot) :: st.slots) i = _
    unfold lookS setS
    by_cases h : i = d
    · subst h; simp
    · have : Nat.beq i d = false := by rw [Bool.eq_false_iff]; exact fun e => h (Nat.eq_of_beq_eq_true e)
      simp [this, h]
theorem lookB_append (p : Pch) (l : List (Nat × Option Blk)) : lookB (p ++ l) = setB (lookB l) p := by
  funext n
  induction p with
  | nil => rfl
  | cons x r ih =>
    obtain ⟨m, b⟩ := x
    show lookB ((m, b) :: (r ++ l)) n = _
    unfold lookB setB
    by_cases h : Nat.beq n m = true
    · simp [h, List.find?]
    · have h' : Nat.beq n m = false := by rw [Bool.eq_false_iff]; exact h
      simp only [h', List.find?]
      rw [ih]
      rfl
theorem put_getD (a : Act) (dst : Option Nat) (v : Value) (i : Nat) : (a.put dst v).tmps.getD i undef = match dst with
    | some d => if i = d ∧ d < a.tmps.size then v else a.tmps.getD i undef
    | none => a.tmps.getD i undef := by
  cases dst with
  | none => rfl
  | some d =>
    simp only [Act.put, Array.getD_eq_getD_getElem?]
    by_cases h : i = d
    · subst h
      by_cases hs : i < a.tmps.size
      · simp [hs]
      · simp [hs]
    · have : d ≠ i := fun e => h e.symm
      simp [h, Array.getElem?_setIfInBounds_ne this]
theorem litOn_spec {d : Nat} : ∀ {l : List (Nat × Bool)}, litOn d l = false → ∀ x ∈ l, x.1 ≠ d
  | [], _, _, h => by cases h
  | y :: r, h, x, hx => by
    unfold litOn at h
    split at h
    · cases h
    · rename_i hy
      rcases List.mem_cons.1 hx with rfl | hx
      · intro e
        rw [e] at hy
        simp at hy
      · exact litOn_spec h x hx
theorem mentions_spec {d : Nat} : ∀ {s : List (Nat × Slot)}, mentions d s = false → ∀ i l s', lookS s i = .gval l s' → ∀ x ∈ l, x.1 ≠ d
  | [], _, i, l, s', h => by simp [lookS] at h
  | (j, t) :: r, hm, i, l, s', h => by
    have hr : mentions d r = false ∧ ∀ l' s'', t = .gval l' s'' → litOn d l' = false := by
      unfold mentions at hm
      split at hm
      · rename_i e; cases e
      · rename_i e
        obtain ⟨e1, e2⟩ := List.cons.inj e
        obtain ⟨_, e3⟩ := Prod.mk.inj e1
        subst e3 e2
        split at hm
        · cases hm
        · rename_i hl
          refine ⟨hm, fun l' s'' e => ?_⟩
          obtain ⟨e1, _⟩ := Slot.gval.inj e
          subst e1
          simpa using hl
      · rename_i hne e
        obtain ⟨e1, e2⟩ := List.cons.inj e
        obtain ⟨_, e3⟩ := Prod.mk.inj e1
        subst e3 e2
        exact ⟨hm, fun l' s'' e => (hne j l' s'' (by rw [← e1, e])).elim⟩
    unfold lookS at h
    split at h
    · subst h
      exact litOn_spec (hr.2 _ _ rfl)
    · exact mentions_spec hr.1 i l s' h
end Go.Eng
