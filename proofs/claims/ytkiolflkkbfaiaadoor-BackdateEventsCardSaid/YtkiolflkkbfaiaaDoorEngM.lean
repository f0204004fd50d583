/- The engine, part 13: calls. Conditions: none. -/
import Derived.Test.YtkiolflkkbfaiaaDoorEngL
set_option linter.unusedVariables false
set_option linter.unusedSimpArgs false
namespace Go.Eng
open Go.RowKit
section
variable {E : Env} {ti : TypeId → Option TI} {ψ ψ' : Nat → Value} {sl : Nat → Slot} {bl bl' bl0 : Blks} {U : Nat → Prop} {nx : Nat} {a : Act} {w w' : World} {dst : Option Nat} {o : Oper} {R : Patch → Prop} {Q : Exit → Act → World → Prop}

theorem args_frz (hsub : Sub bl0 bl) : ∀ {L : List Slot} {as : List Arg} {p : Pch}, argsOf bl0 L = some (as, p) → Frz bl p
  | [], as, p, h => by simp [argsOf] at h; rw [h.2]; exact Frz.nil
  | s :: L, as, p, h => by
    unfold argsOf at h
    split at h
    · rename_i d p1 rest q h1 h2
      simp at h
      obtain ⟨rfl, rfl⟩ := h
      obtain ⟨r, _, hd⟩ := valsOf_spec hsub h1
      exact (toD_frz hd).append (args_frz hsub h2)
    · cases h
theorem args_rep (hsub : Sub bl0 bl) (h : SimP E ψ sl bl U a w) {p : Pch} (hp : Frz bl p) : ∀ {L : List Slot} {vs : List Value} {as : List Arg} {q : Pch}, argsOf bl0 L = some (as, q) → (∀ y ∈ q, y ∈ p) → vs.length = L.length →
    (∀ (i : Nat) (s : Slot) (v : Value), L[i]? = some s → vs[i]? = some v → SlotRep w (okS E bl ψ w) ψ bl a.tmps s v) →
    as.length = vs.length ∧ ∀ (i : Nat) (r : Arg) (v : Value), as[i]? = some r → vs[i]? = some v → ArgRep w (okS E (setB bl p) ψ w) r v
  | [], [], as, q, hc, _, _, _ => by
    simp [argsOf] at hc
    obtain ⟨rfl, rfl⟩ := hc
    exact ⟨rfl, fun i r v hi => by simp at hi⟩
  | [], _ :: _, _, _, _, _, hl, _ => by simp at hl
  | _ :: _, [], _, _, _, _, hl, _ => by simp at hl
  | s :: L, v :: vs, as, q, hc, hq, hl, hv => by
    unfold argsOf at hc
    split at hc
    · rename_i d p1 rest q1 h1 h2
      simp at hc
      obtain ⟨rfl, rfl⟩ := hc
      obtain ⟨r0, rfl, hd⟩ := valsOf_spec hsub h1
      obtain ⟨i1, i2⟩ := args_rep hsub h hp h2 (fun y hy => hq y (List.mem_append_right _ hy)) (vs := vs) (by simpa using hl) (fun i s v h1 h2 => hv (i + 1) s v (by simpa using h1) (by simpa using h2))
      refine ⟨by simp [i1], fun i r v' hi hj => ?_⟩
      cases i with
      | zero =>
        simp at hi hj
        subst hi hj
        exact h.toD hp hd (fun y hy => hq y (List.mem_append_left _ hy)) (hv 0 _ v rfl rfl)
      | succ i => exact i2 i r v' (by simpa using hi) (by simpa using hj)
    · cases hc
theorem fn_inv {ok : Nat → Prop} {v : Value} {f : FuncId} {caps : List (List D)} (h : Rep w ok v (.fn f caps)) : ∃ cap : Array Value, v = .func (.func f) #[] cap ∧ cap.size = caps.length ∧ ∀ (i : Nat) (r : List D) (u : Value), caps[i]? = some r → cap[i]? = some u → ArgRep w ok (.row r) u := by
  cases h with
  | fn _ _ cap ads vs hl hcell hp hv hr =>
    refine ⟨cap, rfl, hl, fun i r u hi hj => ?_⟩
    have hil := (List.getElem?_eq_some_iff.1 hi).1
    obtain ⟨h1, h2⟩ := hp i hil
    rw [h1] at hj
    injection hj with hj
    exact ⟨ads i, hj.symm, h2, hcell r (List.mem_of_getElem? hi), fun j d hjd => ⟨_, hv i r j d hi hjd, hr i r j d hi hjd⟩⟩
theorem SimP.glob (h : SimP E ψ sl bl U a w) (hg : E.Good) : GlobOK E.gt w (okS E bl ψ w) := by
  have ok : ∀ b, E.ok0 b → okS E bl ψ w b := fun b hb => by
    have hlt := hg.ok b hb
    refine ⟨fun _ => hb, Nat.lt_of_lt_of_le hlt h.below.size, fun nm k hk hl e => ?_⟩
    have := (h.blk_lt hk hl e).1
    omega
  intro g cs hgt
  obtain ⟨h1, h2, h3⟩ := hg.glob g cs hgt
  refine ⟨ok g h1, h2, fun j d hj => ?_⟩
  obtain ⟨v, v1, v2⟩ := h3 j d hj
  exact ⟨v, (cell?_heap (a := ⟨g, j, none⟩) (h.below.block g (hg.ok g h1))).trans v1, v2.mono (fun b hb => h.below.block b (hg.ok b hb)) ok⟩
theorem resRV_len (n : Nat) : ∀ rs : List RR, (resRV n rs).1.length = rs.length
  | [] => rfl
  | .val d :: r => by simp [resRV, resRV_len (n + 1) r]
  | .own e rows :: r => by simp [resRV, resRV_len (n + 1) r]
theorem resRV_get : ∀ (rs : List RR) (n i : Nat), (resRV n rs).1[i]? = (rs[i]?).map fun r => match r with
    | .val d => .val d
    | .own _ _ => .own (n + i)
  | [], n, i => by simp [resRV]
  | .val d :: r, n, i => by
    cases i with
    | zero => simp [resRV]
    | succ i =>
      simp only [resRV, List.getElem?_cons_succ, resRV_get r (n + 1) i]
      rw [show n + 1 + i = n + (i + 1) by omega]
  | .own e rows :: r, n, i => by
    cases i with
    | zero => simp [resRV]
    | succ i =>
      simp only [resRV, List.getElem?_cons_succ, resRV_get r (n + 1) i]
      rw [show n + 1 + i = n + (i + 1) by omega]
theorem resRV_set (bl : Blks) : ∀ (rs : List RR) (n m : Nat), setB bl (resRV n rs).2 m = if n ≤ m then match rs[m - n]? with
    | some (.own e rows) => some (.vec e rows)
    | _ => bl m
    else bl m
  | [], n, m => by
    simp only [resRV, setB_nil, List.getElem?_nil]
    split <;> rfl
  | .val d :: r, n, m => by
    simp only [resRV]
    rw [resRV_set bl r (n + 1) m]
    by_cases h : n + 1 ≤ m
    · rw [if_pos h, if_pos (by omega), show m - n = (m - (n + 1)) + 1 by omega, List.getElem?_cons_succ]
    · rw [if_neg h]
      by_cases h2 : n ≤ m
      · rw [if_pos h2, show m - n = 0 by omega]; rfl
      · rw [if_neg h2]
  | .own e rows :: r, n, m => by
    simp only [resRV]
    rw [setB_cons, resRV_set bl r (n + 1) m]
    by_cases h : n + 1 ≤ m
    · rw [if_neg (by simp only; omega), if_pos h, if_pos (by omega), show m - n = (m - (n + 1)) + 1 by omega, List.getElem?_cons_succ]
    · by_cases h2 : n ≤ m
      · have : m = n := by omega
        subst this
        rw [if_pos rfl, if_pos h2, Nat.sub_self]; rfl
      · rw [if_neg (by simp only; omega), if_neg h, if_neg h2]
theorem flat_rr {rs : List RR} (h : allB RR.flat rs = true) {i : Nat} {r : RR} (hi : rs[i]? = some r) : ∃ d, r = .val d ∧ d.flat = true := by
  have := allB_mem h r (List.mem_of_getElem? hi)
  cases r with
  | val d => exact ⟨d, rfl, this⟩
  | own e rows => cases this
theorem rep_slot {ok : Nat → Prop} {tm : Array Value} {rs : List RR} {n : Nat} {vs : List Value} (hl : vs.length = rs.length) (h : ∀ (i : Nat) (r : RV), (resRV n rs).1[i]? = some r → RVRep w ok ψ bl r (vs.getD i undef)) :
    SlotRep w ok ψ bl tm (resSlot (resRV n rs).1) (tupV vs) := by
  have hlen := resRV_len n rs
  have tup : ∀ l : List RV, (resRV n rs).1 = l → SlotRep w ok ψ bl tm (.tup l) (.tuple vs.toArray) := by
    intro l e
    subst e
    refine ⟨vs.toArray, rfl, by simp [hl, hlen], fun i r hi => ?_⟩
    have := h i r hi
    simpa [Array.getD_eq_getD_getElem?, List.getD_eq_getElem?_getD] using this
  match vs, hl with
  | [], hl =>
    match hr : (resRV n rs).1 with
    | [] => exact tup [] hr
    | _ :: _ => rw [hr] at hlen; simp at hlen hl; omega
  | [u], hl =>
    match hr : (resRV n rs).1 with
    | [] => rw [hr] at hlen; simp at hlen hl; omega
    | [r] => exact h 0 r (by rw [hr]; rfl)
    | _ :: _ :: _ => rw [hr] at hlen; simp at hlen hl; omega
  | _ :: _ :: _, hl =>
    match hr : (resRV n rs).1 with
    | [] => rw [hr] at hlen; simp at hlen hl; omega
    | [r] => rw [hr] at hlen; simp at hlen hl; omega
    | x :: y :: z => exact tup (x :: y :: z) hr
theorem ownsRow_base {base base' : Nat} {e : TypeId} {size n : Nat} {v : Value} {xs : List Value} (hb : base' ≤ base) (h : w.ownsRow base e size v n xs) : w.ownsRow base' e size v n xs := by
  refine ⟨h.1, ?_⟩
  rcases h.2 with h | ⟨g, cap, cur, h1, h2, h3⟩
  · exact .inl h
  · exact .inr ⟨g, cap, cur, h1, Nat.le_trans hb h2, h3⟩
theorem Calls.mono {P : Program} {f : FuncId} {vs : Array Value} {R R' : Ending → World → Prop} (h : Calls P f vs w R) (hR : ∀ e w', R e w' → R' e w') : Calls P f vs w R' := by
  intro cs
  obtain ⟨e, w', fr, h1, h2⟩ := h cs
  exact ⟨e, w', fr, hR e w' h1, h2⟩
theorem op_call (hsub : Sub bl0 bl) {cl : Call} {f : Operand} {F : Slot} {L : List Slot} (ho : o.op = .call cl) (hc : cl.callee = .value f) (c : Ctx E ti ψ sl bl U nx a w o.dst) (hF : SlotRep w (okS E bl ψ w) ψ bl a.tmps F (a.eval f)) (hl : L.length = cl.args.size)
    (hX : ∀ (i : Nat) (s : Slot) (v : Value), L[i]? = some s → (cl.args.toList.map a.eval)[i]? = some v → SlotRep w (okS E bl ψ w) ψ bl a.tmps s v) (h : (ptCall bl0 nx F L).All E.P E.gt R) : o.wp E.P a w (Next E sl bl U nx o.dst R) Q := by
  unfold ptCall at h
  split at h
  · rename_i g caps
    split at h
    · rename_i as p hargs
      obtain ⟨rs, hspec, h⟩ := h
      have hp := args_frz hsub hargs
      obtain ⟨i1, i2⟩ := args_rep hsub c.sim hp hargs (fun y hy => hy) (vs := cl.args.toList.map a.eval) (by simp [hl]) hX
      have hk1 := (c.sim.frz hp).1
      have hs1 := (c.sim.frz hp).2
      obtain ⟨cap, hfv, hcl, hcap⟩ := fn_inv (w := w) (show Rep w (okS E bl ψ w) (a.eval f) (.fn g caps) from hF)
      have hargsz : (cl.args.map a.eval ++ cap).size = (as ++ caps.map Arg.row).length := by simp [i1, hcl]
      have hd := hspec w (cl.args.map a.eval ++ cap) (okS E (setB bl p) ψ w) (fun b hb => hb.2.1) (hs1.glob c.good) hargsz (fun i x hi => by
        by_cases hlt : i < as.length
        · rw [List.getElem?_append_left hlt] at hi
          have hv : ∃ v, (cl.args.toList.map a.eval)[i]? = some v := ⟨_, List.getElem?_eq_getElem (by omega)⟩
          obtain ⟨v, hv⟩ := hv
          have hlt2 : i < cl.args.size := by simp at i1; omega
          have e : (cl.args.map a.eval ++ cap).getD i undef = v := by
            rw [Array.getD_eq_getD_getElem?, Array.getElem?_append_left (by simp; omega)]
            simp at hv
            obtain ⟨x, hx, rfl⟩ := hv
            simp [hx]
          rw [e]
          exact i2 i x v hi hv
        · rw [List.getElem?_append_right (by omega), List.getElem?_map] at hi
          obtain ⟨r, hr, rfl⟩ := Option.map_eq_some_iff.1 hi
          have hil := (List.getElem?_eq_some_iff.1 hr).1
          have hv : ∃ v, cap[i - as.length]? = some v := ⟨_, Array.getElem?_eq_getElem (by omega)⟩
          obtain ⟨v, hv⟩ := hv
          have hsz : (cl.args.map a.eval).size = as.length := by simp at i1; simp; omega
          have e : (cl.args.map a.eval ++ cap).getD i undef = v := by
            rw [Array.getD_eq_getD_getElem?, Array.getElem?_append_right (by omega), hsz, hv]; rfl
          rw [e]
          obtain ⟨ad, x1, x2, x3, x4⟩ := hcap _ r v hr hv
          refine ⟨ad, x1, hk1.ok _ x2, x3, fun j d hj => ?_⟩
          obtain ⟨u, u1, u2⟩ := x4 j d hj
          exact ⟨u, u1, hk1.rep u2⟩)
      -- what a result leaves
      have fin : ∀ v w', Below w.heap.size w w' → (∃ okr : Nat → Prop, (∀ b, okr b → (okS E (setB bl p) ψ w b ∨ w.heap.size ≤ b) ∧ b < w'.heap.size) ∧ RetRep E.P w.heap.size w' okr rs v) → Next E sl bl U nx o.dst R (a.put o.dst v) w' := by
        intro v w' hb hret
        obtain ⟨okr, hokr, vs, v1, v2, v3, v4⟩ := hret
        unfold afterCall at h
        split at h
        · -- all flat
          rename_i h8 hfl
          have h8 := Nat.le_of_ble_eq_true h8
          have hset : setB bl (resRV nx rs).2 = bl := by
            funext m
            rw [resRV_set]
            split
            · split
              · rename_i e rows hi
                obtain ⟨d, hd, _⟩ := flat_rr hfl hi
                cases hd
              · rfl
            · rfl
          have hst : Step ψ ψ bl bl U nx none w w' := ⟨hb.os, hb.tape, hb.output, hb.size, fun b hb' _ => hb.block b hb', fun m e => (by cases e), fun _ _ => rfl, fun nm k hn hk => .inl ⟨hk, by simp⟩, fun nm k hn hk => (by rw [c.sim.names nm hn] at hk; cases hk), fun nm nm' k k' hn hn' hk => (by rw [c.sim.names nm hn] at hk; cases hk)⟩
          refine ⟨_, h, ⟨ψ, ?_⟩, fun l s e => ?_⟩
          · rw [show setB bl ({ slot := resSlot (resRV nx rs).1, blks := (resRV nx rs).2 } : Patch).blks = bl from hset]
            refine hst.sim c.sim (fun nm k hk hn => ?_) (fun m hm => ?_) (fun nm cs hn hk => ?_) ?_ c.hmen c.hds ?_
            · rcases hn with hn | hn
              · rw [c.sim.names nm hn] at hk; cases hk
              · cases hn
            · exfalso
              have hno : ∀ r ∈ (resRV nx rs).1, refsR r = [] := by
                intro r hr
                obtain ⟨i, hi⟩ := List.mem_iff_getElem?.1 hr
                rw [resRV_get] at hi
                obtain ⟨r', hr', rfl⟩ := Option.map_eq_some_iff.1 hi
                obtain ⟨d, rfl, _⟩ := flat_rr hfl hr'
                rfl
              unfold resSlot at hm
              split at hm
              · rename_i r e
                rw [refsS, hno r (by rw [e]; simp)] at hm; cases hm
              · rw [refsS] at hm
                obtain ⟨r, hr, hm⟩ := List.mem_flatMap.1 hm
                rw [hno r hr] at hm; cases hm
            · rcases hn with hn | hn
              · rw [c.sim.names nm hn] at hk; cases hk
              · cases hn
            · intro l s' e
              unfold resSlot at e
              split at e <;> cases e
            · rw [v2]
              refine rep_slot v1 (fun i r hi => ?_)
              rw [resRV_get] at hi
              obtain ⟨r', hr', rfl⟩ := Option.map_eq_some_iff.1 hi
              obtain ⟨d, rfl, hdf⟩ := flat_rr hfl hr'
              exact (show Rep w' okr _ d from v3 i _ hr').flat hdf
          · simp only [resSlot] at e
            split at e <;> cases e
        · rename_i h8 hfl
          have h8 := Nat.le_of_ble_eq_true h8
          have hbi : ∀ n, (nx ≤ n ∧ n < nx + 8) → ¬ U n := fun n h => c.fresh n h.1 h.2
          have hset : ∀ n, U n → setB (setB bl p) (resRV nx rs).2 n = setB bl p n := by
            intro n hn
            rw [resRV_set]
            split
            · rename_i h1
              split
              · rename_i e rows hi
                have hil := (List.getElem?_eq_some_iff.1 hi).1
                exact absurd hn (hbi n ⟨h1, by omega⟩)
              · rfl
            · rfl
          have hnew0 : ∀ nm k, ¬ U nm → setB (setB bl p) (resRV nx rs).2 nm = some k → (nx ≤ nm ∧ nm < nx + 8) ∧ ∃ e rows, rs[nm - nx]? = some (.own e rows) ∧ k = .vec e rows := by
            intro nm k hn hk
            rw [resRV_set] at hk
            split at hk
            · rename_i h1
              split at hk
              · rename_i e rows hi
                have hil := (List.getElem?_eq_some_iff.1 hi).1
                injection hk with hk
                exact ⟨⟨h1, by omega⟩, e, rows, hi, hk.symm⟩
              · rw [hs1.names nm hn] at hk; cases hk
            · rw [hs1.names nm hn] at hk; cases hk
          have hst : Step ψ (fun n => if nx ≤ n ∧ n < nx + 8 then vs.getD (n - nx) undef else ψ n) (setB bl p) (setB (setB bl p) (resRV nx rs).2) U nx none w w' := by
            have hnew := hnew0
            refine ⟨hb.os, hb.tape, hb.output, hb.size, fun b hb' _ => hb.block b hb', fun m e => (by cases e), fun n hn => if_neg (by intro e; exact hbi n e hn), fun nm k hn hk => .inl ⟨?_, by simp⟩, fun nm k hn hk => ?_, fun nm nm' k k' hn hn' hk hk' hne => ?_⟩
            · rw [hset nm hn] at hk; exact hk
            · obtain ⟨hin, e, rows, hi, rfl⟩ := hnew nm k hn hk
              refine ⟨rfl, hin, fun b hb' => .inl ?_⟩
              rw [if_pos hin] at hb'
              obtain ⟨xs, x1, x2, _⟩ := v3 _ _ hi
              exact owns_block x2 hb'
            · obtain ⟨hin, e, rows, hi, rfl⟩ := hnew nm k hn hk
              obtain ⟨hin', e', rows', hi', rfl⟩ := hnew nm' k' hn' hk'
              rw [if_pos hin, if_pos hin']
              exact v4 _ _ _ _ hi hi' rfl rfl (by omega)
          have hkp := hst.keeps hs1
          have hokr' : ∀ b, okr b → okS E (setB (setB bl p) (resRV nx rs).2) (fun n => if nx ≤ n ∧ n < nx + 8 then vs.getD (n - nx) undef else ψ n) w' b := by
            intro b hb'
            obtain ⟨h1, h2⟩ := hokr b hb'
            rcases h1 with h1 | h1
            · exact hkp.ok b h1
            · refine ⟨fun h => by have := hs1.below.size; omega, h2, fun nm k hk hl e => ?_⟩
              dsimp only at e
              rcases Classical.em (U nm) with hn | hn
              · rw [if_neg (by intro e; exact hbi nm e hn)] at e
                rw [hset nm hn] at hk
                have := (hs1.blk_lt hk hl e).2; omega
              · obtain ⟨hin, e', rows, hi, rfl⟩ := hnew0 nm k hn hk
                rw [if_pos hin] at e
                obtain ⟨xs, x1, x2, x3, x4, x5, x6⟩ := v3 _ _ hi
                exact x6 b e hb'
          refine ⟨_, h, ⟨fun n => if nx ≤ n ∧ n < nx + 8 then vs.getD (n - nx) undef else ψ n, ?_⟩, fun l s e => ?_⟩
          rotate_left
          · simp only [resSlot] at e
            split at e <;> cases e
          · rw [show setB bl ({ slot := resSlot (resRV nx rs).1, blks := (resRV nx rs).2 ++ p } : Patch).blks = setB (setB bl p) (resRV nx rs).2 from setB_append _ _ _]
            refine hst.sim hs1 (fun nm k hk hn => ?_) (fun m hm => ?_) (fun nm cs hn hk => ?_) ?_ c.hmen c.hds ?_
            · rcases hn with hn | hn
              · obtain ⟨hin, e, rows, hi, rfl⟩ := hnew0 nm k hn hk
                obtain ⟨xs, x1, x2, x3, x4, x5, x6⟩ := v3 _ _ hi
                refine ⟨xs, x1, ?_, x3, x4, fun i r j d hi hj => ?_⟩
                · dsimp only
                  rw [if_pos hin]
                  exact ownsRow_base hs1.below.size x2
                · obtain ⟨u, u1, u2⟩ := x5 i r j d hi hj
                  exact ⟨u, u1, u2.mono (fun _ _ => rfl) hokr'⟩
              · cases hn
            · have hno : ∀ r ∈ (resRV nx rs).1, ∀ m ∈ refsR r, Un U nx m := by
                intro r hr m hm
                obtain ⟨i, hi⟩ := List.mem_iff_getElem?.1 hr
                rw [resRV_get] at hi
                obtain ⟨r', hr', rfl⟩ := Option.map_eq_some_iff.1 hi
                have hil := (List.getElem?_eq_some_iff.1 hr').1
                cases r' with
                | val d => simp [refsR] at hm
                | own e rows => simp [refsR] at hm; exact .inr ⟨by omega, by omega⟩
              unfold resSlot at hm
              split at hm
              · rename_i r e
                exact hno r (by rw [e]; simp) m hm
              · rw [refsS] at hm
                obtain ⟨r, hr, hm⟩ := List.mem_flatMap.1 hm
                exact hno r hr m hm
            · rcases hn with hn | hn
              · obtain ⟨_, e, rows, _, hk'⟩ := hnew0 nm _ hn hk
                cases hk'
              · cases hn
            · intro l s' e
              unfold resSlot at e
              split at e <;> cases e
            · rw [v2]
              refine rep_slot v1 (fun i r hi => ?_)
              rw [resRV_get] at hi
              obtain ⟨r', hr', rfl⟩ := Option.map_eq_some_iff.1 hi
              cases r' with
              | val d => exact (show Rep w' okr _ d from v3 i _ hr').mono (fun _ _ => rfl) hokr'
              | own e rows =>
                intro _
                show vs.getD i undef = if nx ≤ nx + i ∧ nx + i < nx + 8 then vs.getD (nx + i - nx) undef else ψ (nx + i)
                have hil := (List.getElem?_eq_some_iff.1 hr').1
                rw [if_pos (by omega), show nx + i - nx = i by omega]
        · exact h.elim
      have hinv : (execOp a.eval o).run E.P w = (callFunc g (cl.args.map a.eval ++ cap)).run E.P w := by
        simp [execOp, ho, resolve, hc, hfv, Deferred.ofValue, invoke]
      rcases hd with ⟨⟨fn, f1, f2, f3⟩, hcalls⟩ | ⟨v, hrun, hb, hret⟩
      · unfold Oper.wp
        have hen : (callFunc g (cl.args.map a.eval ++ cap)).run E.P w = .ok (.enter g (cl.args.map a.eval ++ cap)) w := by
          have hbn : fn.body.isNone = false := by cases hb : fn.body <;> simp [hb] at f2 ⊢
          have f3' : ¬ (fn.name = "runtime.NumGoroutine") := by simpa using f3
          have hbn' : ¬ (fn.body = none) := by cases hb : fn.body <;> simp [hb] at f2 ⊢
          simp [callFunc, f1, f3', hbn']
        rw [hinv, hen, Oper.upon_enter]
        refine Calls.mono hcalls (fun e w' he => ?_)
        obtain ⟨v, rfl, hb, hret⟩ := he
        exact fin v w' hb hret
      · exact wp_val (hinv.trans hrun) (fin v w hb hret)
    · exact h.elim
  · exact h.elim
end
end Go.Eng
