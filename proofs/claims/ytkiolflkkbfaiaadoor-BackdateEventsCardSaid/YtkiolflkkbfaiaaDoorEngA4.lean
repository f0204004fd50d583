/- The engine, part 30: from a contract to what a law's row asks. Conditions: none. -/
import Derived.Test.YtkiolflkkbfaiaaDoorEngA3
import Derived.ProofKit
import Derived.OpenShut
import Derived.Deep.DeepHandedRow
import Derived.Lib.LaidTab
set_option linter.unusedVariables false
set_option linter.unusedSimpArgs false
namespace Go.Eng
open Go.RowKit Go.ChangeShapes

theorem calls_of_does {P : Program} {f : FuncId} {fn : Func} {c : Code} (hf : P.funcs[f]? = some fn) (hb : fn.body = some c) (hname : (fn.name == "runtime.NumGoroutine") = false) {vs : Array Value} {w : World} {R : Value → World → Prop} (h : Does P f vs w R) :
    Calls P f vs w fun e w' => ∃ v, e = .returned v ∧ R v w' := by
  rcases h with ⟨_, h⟩ | ⟨v, h, _⟩
  · exact h
  · simp [callFunc, hf, hb] at h
    split at h <;> cases h
/-- A law that answers true: its call, at any values that read as the arguments. -/
theorem law_calls {P : Program} {gt : Nat → Option (List D)} {f : FuncId} {fn : Func} {c : Code} {args : List Arg} (hf : P.funcs[f]? = some fn) (hb : fn.body = some c) (hname : (fn.name == "runtime.NumGoroutine") = false)
    (hs : Spec P gt f args [.val (.bool true)]) {W : World} {vs : Array Value} (hg : GlobOK gt W (fun b => b < W.heap.size)) (hl : vs.size = args.length) (ha : ∀ (i : Nat) (a : Arg), args[i]? = some a → ArgRep W (fun b => b < W.heap.size) a (vs.getD i undef)) :
    Calls P f vs W fun e W' => e = .returned (.bool true) ∧ Below W.heap.size W W' := by
  refine (calls_of_does hf hb hname (hs W vs _ (fun b h => h) hg hl ha)).mono (fun e W' h => ?_)
  obtain ⟨v, rfl, h1, okr, h2, us, h3, h4, h5, h6⟩ := h
  match us, h3 with
  | [u], _ =>
    have h7 := h5 0 _ rfl
    have h8 := Rep.bool_inv (w := W') h7
    exact ⟨by rw [h4]; show Ending.returned u = _; rw [show u = Value.bool true from h8], h1⟩
theorem post_of_below {H : Type} {enc : TypeId × Value → H} {P : Program} {f : Func} {s : ChangeSpec} {apart fresh handsOn again : Bool} {W W' : World} {args : Array Value} {v : Value} {ds gs : List (DataW H)} {before pa pv : List MemPlace}
    (hW : DataW.Whole enc P f.params.toList s.vars apart W args.toList ds gs before)
    (hres : ∀ (b : Nat) (sp : Nat → Bool) (hd : Bool), DataW.TrodAll enc P W' b sp hd f.resultTypes.toList (v.resultList f.resultTypes.size) (s.fn H (ds ++ gs)).results [])
    (hargs : ∀ sp : Nat → Bool, (∀ p ∈ before, sp p.block = true) → DataW.TrodAll enc P W' 0 sp true f.params.toList args.toList (s.fn H (ds ++ gs)).args pa)
    (hvars : ∀ sp : Nat → Bool, (∀ p ∈ before, sp p.block = true) → DataW.TrodVars enc P W' sp s.vars (s.fn H (ds ++ gs)).vars pv)
    (hps : before = pa ++ pv) (hbl : Below W.heap.size W W')
    (hok : ∀ (j : Nat) (t : TypeId) (r : Value), f.resultTypes[j]? = some t → (v.resultList f.resultTypes.size)[j]? = some r → Value.okWide P W' .any 0 t r) :
    s.post enc P f apart fresh handsOn again W args v W' := by
  have hold : ∀ p ∈ before, (fun b => decide (b < W.heap.size)) p.block = true := fun p hp => by simpa using hW.lt p hp
  have hlt : ∀ p ∈ before, p.block < W.heap.size := fun p hp => hW.lt p hp
  refine ⟨ds, gs, before, [], pa, pv, hW, hres _ _ _, hargs _ hold, hvars _ hold, World.keptBut_mono (fun p hp => ⟨hp, ?_⟩) (hbl.frame (· ∈ before)), fun _ => ?_⟩
  · rw [hps, List.mem_append] at hp
    exact Or.inr hp
  · obtain ⟨_, _, _, _, _, hz, hn⟩ := hW
    refine ⟨hok, _, _, ([] ++ pa) ++ pv, ⟨[] ++ pa, pv, trodAll_append (hargs _ (fun _ _ => rfl)) (hres _ _ _), hvars _ (fun _ _ => rfl), rfl, ?_, ?_⟩, ?_⟩
    · intro b off hp
      have hp' : MemPlace.cell b off ∈ before := by rw [hps]; simpa using hp
      rw [hbl.frozen (p := ⟨b, off, none⟩) (hlt _ hp')]
      exact hz b off hp'
    · intro ha
      have := hn ha
      rw [hps] at this
      simpa using this
    · intro p hp _
      rw [hps]
      simpa using hp
/-- The arguments, read again behind the call. -/
theorem args_again {H : Type} {enc : TypeId × Value → H} {P : Program} (hl : laidOutB P = true) {W W' : World} (hb : Below W.heap.size W W') (sp : Nat → Bool) : ∀ {ts : List TypeId} {vs : List Value} {ds : List (DataW H)} {ps : List MemPlace},
    (∀ t ∈ ts, P.readableRec t = true ∧ t < P.types.size) → DataW.TrodAll enc P W 0 (fun _ => true) true ts vs ds ps → (∀ p ∈ ps, p.block < W.heap.size) → (∀ p ∈ ps, sp p.block = true) → DataW.TrodAll enc P W' 0 sp true ts vs ds ps := by
  intro ts
  induction ts with
  | nil => intro vs ds ps ht h hlt hsp; cases vs <;> cases ds <;> first | exact h | exact h.elim
  | cons t ts ih =>
    intro vs ds ps ht h hlt hsp
    match vs, ds, h with
    | v :: vs, d :: ds, ⟨p, q, h1, h2, h3⟩ =>
      subst h3
      refine ⟨p, q, ?_, ih (fun u hu => ht u (List.mem_cons_of_mem _ hu)) h2 (fun x hx => hlt x (List.mem_append_right _ hx)) (fun x hx => hsp x (List.mem_append_right _ hx)), rfl⟩
      exact WideElems.Trod_stays hl (ht t List.mem_cons_self).1 (ht t List.mem_cons_self).2 h1 (fun x hx => hb.same (hlt x (List.mem_append_left _ hx))) (fun x hx => hsp x (List.mem_append_left _ hx))
end Go.Eng
namespace Go.Eng
open Go.RowKit
theorem okWide_noagg {P : Program} {W : World} {r : Reach} {b0 : Nat} {t : TypeId} {v : Value} (hu : (kindOf P t).isAgg = false) (hk : ∃ d, P.underlying t = some d) (h : Value.okWide P W r b0 t v) : ∀ cs, v ≠ .agg cs := by
  rintro cs rfl
  obtain ⟨d, hd⟩ := hk
  unfold kindOf at hu
  rw [hd] at hu
  cases d <;> simp [Value.okWide, Cell.okWide, Cell.ok, hd, TK.isAgg] at h hu
theorem okWide_agg {P : Program} {W : World} {r : Reach} {b0 : Nat} {t : TypeId} {v : Value} (hu : (kindOf P t).isAgg = true) (h : Value.okWide P W r b0 t v) : ∃ cs, v = .agg cs := by
  unfold kindOf at hu
  unfold Value.okWide at h
  cases hd : P.underlying t with
  | none => rw [hd] at hu; cases hu
  | some d =>
    rw [hd] at hu h
    cases d <;> first | (cases hu; done) | exact ⟨_, h.choose_spec.1⟩
theorem arg_cell {P : Program} {W : World} {r : Reach} {b0 : Nat} {t : TypeId} {v : Value} {d : D} (hu : (kindOf P t).isAgg = false) (hk : ∃ d, P.underlying t = some d) (h : Value.okWide P W r b0 t v) (hr : RepL W (fun b => b < W.heap.size) v.cells.toList [d]) :
    ArgRep W (fun b => b < W.heap.size) (.val d) v := rep_of_cells hr (okWide_noagg hu hk h)
theorem arg_agg {P : Program} {W : World} {r : Reach} {b0 : Nat} {t : TypeId} {v : Value} {ds : List D} (hu : (kindOf P t).isAgg = true) (h : Value.okWide P W r b0 t v) (hr : RepL W (fun b => b < W.heap.size) v.cells.toList ds) :
    ArgRep W (fun b => b < W.heap.size) (.val (.agg ds)) v := by
  obtain ⟨cs, rfl⟩ := okWide_agg hu h
  exact rep_agg hr
end Go.Eng
namespace Go.Eng
def allRead (P : Program) (ts : List TypeId) : Bool := ts.all fun t => P.readableRec t && decide (t < P.types.size)
theorem allRead_spec {P : Program} {ts : List TypeId} (h : allRead P ts = true) : ∀ t ∈ ts, P.readableRec t = true ∧ t < P.types.size := by
  intro t ht
  have := List.all_eq_true.1 h t ht
  simpa using this
end Go.Eng
