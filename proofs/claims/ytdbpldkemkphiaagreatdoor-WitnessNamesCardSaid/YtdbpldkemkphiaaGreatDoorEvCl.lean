/- Functions, and calls. -/
import Derived.Test.YtdbpldkemkphiaaGreatDoorEvCo
namespace Go.Ev
variable [Glb]
open Go.RowKit Go.MapKept

def frD : Frame := { (default : Frame) with kind := .deferred, roundOf := none }

def CallDOk (P : Program) (call : CallH) : Prop :=
  ∀ pn f p c args H v H' pn', pn ≠ .normal → call pn (.fn (.func f) p c) args H = some (.ret v, H', pn') → ∀ (base : Nat → Prop) (n0 : Nat) (w : World) (S : Sig) (vc va : Array Value),
    HRel (okOf base S) w n0 S H → RelL (okOf base S) w S c vc → RelL (okOf base S) w S (p ++ args) va → BaseOk base w S → ∀ (c0 : Frame) (cs : List Frame), PnRel (okOf base S) w S frD pn (c0 :: cs) →
    ∃ w' S' fr y m, (invoke (.fn (.func f) vc) va).run P w = .ok (.enter f (va ++ vc)) w ∧ Go_ P (lone (Frame.enter P f (va ++ vc) .deferred) (c0 :: cs) w) (lone fr ({ c0 with mode := m } :: cs) w') ∧ fr.kind = .deferred ∧ fr.going P w' (.returned y) ∧
      StepR base (domS S) S w H S' w' H' ∧ pn' ≠ .normal ∧ PnRel (okOf base S') w' S' frD pn' ({ c0 with mode := m } :: cs)

def MdRel (ok : Nat → Prop) (w : World) (S : Sig) : Md → FrameMode → Prop
  | .ret, .returning => True
  | .pan v, .panicking ch => ∃ y, ch = [{ v := y, recovered := false }] ∧ Rel ok w S v y
  | _, _ => False

section
variable {P : Program} {E : Env} {call : CallH} {base : Nat → Prop} {n0 : Nat} {w w0 w' : World} {S S0 S' : Sig} {s s0 s' : St} {a : Act} {b : Frame} {cs cs0 : List Frame} {k : List Item} {H H0 : Heap}

omit [Glb] in
theorem MdRel.mono {ok ok' : Nat → Prop} (hk : Calm ok ok' w w') (hS : SigLe S S') {m : Md} {u : FrameMode} (h : MdRel ok w S m u) : MdRel ok' w' S' m u := by
  cases m with
  | ret => cases u <;> exact h
  | pan v =>
    cases u with
    | panicking ch => obtain ⟨y, rfl, hr⟩ := h; exact ⟨y, rfl, hr.mono hk hS⟩
    | _ => exact h

omit [Glb] in
theorem run_callFunc' {f : FuncId} {g : Func} (h1 : P.funcs[f]? = some g) (h2 : (g.name == "runtime.NumGoroutine") = false) (h3 : g.body.isSome = true) (args : Array Value) (w : World) : (callFunc f args).run P w = .ok (.enter f args) w := by
  unfold callFunc
  have hp : (program).run P w = .ok P w := rfl
  simp only [Sem.run_bind, hp, Result.andThen_ok, h1, h2]
  cases hb : g.body with
  | none => rw [hb] at h3; cases h3
  | some c => simp

omit [Glb] in
theorem step_coll {fr : Frame} {r : Nat} {ds : List Deferred} {t : TypeId} (hm : fr.mode ≠ .run) (hd : fr.defers = { target := .collected r, args := #[] } :: ds) (hr : (Instr.takeDeferred r).run P w = .ok [] w') :
    step P (lone fr cs w) = .next (lone { fr with defers := ds } cs w') := by
  refine step_lone_go ?_
  cases hmode : fr.mode with
  | run => exact absurd hmode hm
  | returning => simp [stepG, unwind, hmode, hd, Sem.runT_eq, hr, GStep.bare_after]
  | panicking chain => simp [stepG, unwind, hmode, hd, Sem.runT_eq, hr, GStep.bare_after]

theorem unw_ok (hCD : CallDOk P call) : ∀ (df : List Df) (m m' : Md) (H H' : Heap), unw call df m H = some (m', H') → ∀ (w : World) (S : Sig) (fr : Frame) (cs : List Frame), HRel (okOf base S) w n0 S H → BaseOk base w S → DfRel (okOf base S) w S df fr.defers → MdRel (okOf base S) w S m fr.mode →
    ∃ w' S' u, Go_ P (lone fr cs w) (lone { fr with mode := u, defers := [] } cs w') ∧ MdRel (okOf base S') w' S' m' u ∧ StepR base (domS S) S w H S' w' H'
  | [], m, m', H, H', h, w, S, fr, cs, hH, hb, hd, hm => by
    simp only [unw, Option.some.injEq, Prod.mk.injEq] at h
    obtain ⟨rfl, rfl⟩ := h
    cases hdd : fr.defers with
    | cons d r => rw [hdd] at hd; exact hd.elim
    | nil => exact ⟨w, S, fr.mode, by rw [← hdd]; exact .refl _, hm, .rfl' hH⟩
  | .coll q :: df, m, m', H, H', h, w, S, fr, cs, hH, hb, hd, hm => by
    cases hdd : fr.defers with
    | nil => rw [hdd] at hd; exact hd.elim
    | cons d ds =>
      rw [hdd] at hd
      obtain ⟨h1, h2⟩ := hd
      simp only [unw] at h
      split at h
      · rename_i heq
        cases h1 with
        | @coll _ e r he hfx hro hloc =>
          obtain ⟨kb, hk, hB⟩ := hH.blk q e he
          rw [heq] at hk; obtain rfl := Option.some.inj hk
          obtain ⟨_, _, r', hloc', hheap⟩ := hB
          rw [hloc] at hloc'
          simp only [Option.some.injEq, Prod.mk.injEq, and_true] at hloc'
          subst hloc'
          have hrun : (Instr.takeDeferred r).run P w = .ok [] { w with heap := w.heap.setIfInBounds r (.deferred none) } := by
            simp only [Instr.takeDeferred, Sem.run_bind, run_getObj' hheap, Result.andThen_ok, run_setObj' hheap, Sem.run_pure]
          have hstep : StepR base (fun x => x = q) S w H S { w with heap := w.heap.setIfInBounds r (.deferred none) } (H.set q .gone) :=
            turn_fix hH.loc he hfx hro hloc (List.getElem?_eq_some_iff.1 heq).1 _ _ (fun _ => ⟨hfx, hro, r, hloc⟩)
          have hstep' := hstep.all hH (fun x hx => by subst hx; simp [he])
          have hne : fr.mode ≠ .run := fun hmr => by rw [hmr] at hm; cases m <;> exact hm
          obtain ⟨w', S', u, q1, q2, q3⟩ := unw_ok hCD df m m' _ H' h _ S { fr with defers := ds } cs (hH.next hstep) (hb.next hstep) (h2.mono (hstep.ext.calm base) hstep.ext.sig) (hm.mono (hstep.ext.calm base) hstep.ext.sig)
          exact ⟨w', S', u, .head trivial (step_coll (t := 0) hne hdd hrun) q1, q2, StepR.seq hH.loc hH.dom_lt hstep' q3⟩
      · cases h
  | .call f args :: df, m, m', H, H', h, w, S, fr, cs, hH, hb, hd, hm => by
    cases hdd : fr.defers with
    | nil => rw [hdd] at hd; exact hd.elim
    | cons d ds =>
      rw [hdd] at hd
      obtain ⟨h1, h2⟩ := hd
      simp only [unw] at h
      split at h
      · rename_i v H1 pn1 hcall
        cases h1 with
        | @call g p c vc _ va hc ha =>
          have hne : fr.mode ≠ .run := fun hmr => by rw [hmr] at hm; cases m <;> exact hm
          have hpn : PnRel (okOf base S) w S frD (mdPn m) ({ fr with defers := ds } :: cs) := by
            cases m with
            | ret =>
              refine ⟨⟨rfl, rfl⟩, _, _, rfl, ?_⟩
              show fr.mode = _
              cases hmm : fr.mode with
              | run => exact absurd hmm hne
              | returning => rfl
              | panicking ch => rw [hmm] at hm; exact hm.elim
            | pan v =>
              cases hmm : fr.mode with
              | run => exact absurd hmm hne
              | returning => rw [hmm] at hm; exact hm.elim
              | panicking ch => rw [hmm] at hm; obtain ⟨y, rfl, hr⟩ := hm; exact ⟨⟨rfl, rfl⟩, _, _, y, rfl, by first | exact hmm | rfl, hr⟩
          obtain ⟨w1, S1, frX, y, mm, r1, r2, r3, r4, r5, r6, r7⟩ := hCD (mdPn m) g p c args H v H1 pn1 (by cases m <;> simp [mdPn]) hcall base n0 w S vc va hH hc ha hb { fr with defers := ds } cs hpn
          have s1 := step_defer (P := P) (cs := cs) hne hdd rfl r1
          have s2 := step_going_returned (P := P) (c := { { fr with defers := ds } with mode := mm }) (cs := cs) r3 r4
          have key : ∀ m1, unw call df m1 H1 = some (m', H') → MdRel (okOf base S1) w1 S1 m1 (settle mm) → ∃ w' S' u, Go_ P (lone fr cs w) (lone { fr with mode := u, defers := [] } cs w') ∧ MdRel (okOf base S') w' S' m' u ∧ StepR base (domS S) S w H S' w' H' := fun m1 hu hm1 => by
            obtain ⟨w', S', u, q1, q2, q3⟩ := unw_ok hCD df m1 m' H1 H' hu w1 S1 { fr with mode := settle mm, defers := ds } cs (hH.next r5) (hb.next r5) (h2.mono (r5.ext.calm base) r5.ext.sig) hm1
            exact ⟨w', S', u, .head trivial s1 (r2.trans (.head trivial s2 q1)), q2, StepR.seq hH.loc hH.dom_lt r5 q3⟩
          split at h
          · obtain ⟨_, c', r', y', e1, e2, e3⟩ := r7
            simp only [List.cons.injEq] at e1
            obtain ⟨rfl, rfl⟩ := e1
            have e2 : mm = _ := e2
            subst e2
            exact key _ h (by simp [settle, MdRel])
          · obtain ⟨_, c', r', y', e1, e2, e3⟩ := r7
            simp only [List.cons.injEq] at e1
            obtain ⟨rfl, rfl⟩ := e1
            have e2 : mm = _ := e2
            subst e2
            exact key _ h ⟨y', rfl, e3⟩
          · obtain ⟨_, c', r', e1, e2⟩ := r7
            simp only [List.cons.injEq] at e1
            obtain ⟨rfl, rfl⟩ := e1
            have e2 : mm = _ := e2
            subst e2
            exact key _ h (by simp [settle, MdRel])
          · cases h
      · cases h

/-- One result. -/
def resOf (tmps : Array Value) : ResultVar → Sem Value
  | .tmp t => pure (tmps.getD t undef)
  | .cell a t => do loadVar t (← asAddr (tmps.getD a undef))

/-- The result variables. -/
theorem resVs_rel (hE : EnvOk P E) (hH : HRel (okOf base S) w n0 S H) {tm : List V} {tmps : Array Value} (ht : RelL (okOf base S) w S tm tmps) : ∀ (rs : List ResultVar) (vs : List V), resVs E H tm rs = some vs →
    ∃ xs : List Value, (rs.mapM (resOf tmps)).run P w = .ok xs w ∧ xs.length = vs.length ∧ ∀ (j : Nat) (c : V), vs[j]? = some c → Rel (okOf base S) w S c (xs.getD j default)
  | [], vs, h => by
    simp only [resVs, Option.some.injEq] at h
    subst h
    exact ⟨[], rfl, rfl, fun j c hj => by simp at hj⟩
  | .tmp t :: rs, vs, h => by
    simp only [resVs] at h
    cases hr : resVs E H tm rs with
    | none => rw [hr] at h; cases h
    | some vs1 =>
      rw [hr] at h
      obtain rfl := Option.some.inj h
      obtain ⟨xs, h1, h2, h3⟩ := resVs_rel hE hH ht rs vs1 hr
      have h0 : Rel (okOf base S) w S (tm.getD t .undef) (tmps.getD t undef) := by
        cases htt : tm[t]? with
        | none => rw [List.getD_eq_getElem?_getD, htt]; exact .undef _
        | some c =>
          have hlt : t < tm.length := (List.getElem?_eq_some_iff.1 htt).1
          rw [List.getD_eq_getElem?_getD, htt, getD_undef (by rw [ht.1]; exact hlt)]
          exact ht.2 t c htt
      refine ⟨tmps.getD t undef :: xs, by simp only [List.mapM_cons, Sem.run_bind, resOf, Sem.run_pure, Result.andThen_ok]; rw [show (List.mapM (resOf tmps) rs).run P w = _ from h1]; rfl, by simp [h2], fun j c hj => ?_⟩
      cases j with
      | zero => simp at hj; subst hj; exact h0
      | succ j => simpa using h3 j c (by simpa using hj)
  | .cell q t :: rs, vs, h => by
    simp only [resVs] at h
    split at h
    · rename_i v vs1 hv hr
      obtain rfl := Option.some.inj h
      obtain ⟨xs, h1, h2, h3⟩ := resVs_rel hE hH ht rs vs1 hr
      have h0 : Rel (okOf base S) w S (tm.getD q .undef) (tmps.getD q undef) := by
        cases htt : tm[q]? with
        | none => rw [List.getD_eq_getElem?_getD, htt]; exact .undef _
        | some c =>
          have hlt : q < tm.length := (List.getElem?_eq_some_iff.1 htt).1
          rw [List.getD_eq_getElem?_getD, htt, getD_undef (by rw [ht.1]; exact hlt)]
          exact ht.2 q c htt
      obtain ⟨ad, y, e1, e2, e3⟩ := loadVar_rel hE hv h0 (fun b g off he => hH.known (h0.known b (by rw [he]; simp [V.refs])))
      have hc1 : (resOf tmps (.cell q t)).run P w = .ok y w := by simp only [resOf, e1, asAddr, Sem.run_bind, Sem.run_pure, Result.andThen_ok, e2]
      refine ⟨y :: xs, by simp only [List.mapM_cons, Sem.run_bind, hc1, Result.andThen_ok, h1, Sem.run_pure], by simp [h2], fun j c hj => ?_⟩
      cases j with
      | zero => simp at hj; subst hj; exact e3
      | succ j => simpa using h3 j c (by simpa using hj)
    · cases h

omit [Glb] in
theorem results_eq (fn : Func) (tmps : Array Value) : results fn tmps = (do let vs ← fn.results.mapM (resOf tmps); pure (if h : vs.size = 1 then vs[0] else .tuple vs)) := rfl

theorem results_rel (hE : EnvOk P E) (hH : HRel (okOf base S) w n0 S H) {tm : List V} {tmps : Array Value} (ht : RelL (okOf base S) w S tm tmps) {fn : Func} {vs : List V} (h : resVs E H tm fn.results.toList = some vs) :
    ∃ y, (results fn tmps).run P w = .ok y w ∧ Rel (okOf base S) w S (oneOf vs) y := by
  obtain ⟨xs, h1, h2, h3⟩ := resVs_rel (P := P) hE hH ht _ vs h
  have hm : (fn.results.mapM (resOf tmps)).run P w = .ok xs.toArray w := by
    rw [Array.mapM_eq_mapM_toList]
    simp only [map_eq_pure_bind, Sem.run_bind, h1, Result.andThen_ok, Sem.run_pure]
  match vs, xs, h2, h3 with
  | [v], [x], _, h3 =>
    refine ⟨x, ?_, by simpa [oneOf] using h3 0 v rfl⟩
    rw [results_eq, Sem.run_bind, hm]
    rfl
  | [], [], _, h3 =>
    refine ⟨.tuple #[], ?_, .tup rfl (fun j c hj => by simp at hj)⟩
    rw [results_eq, Sem.run_bind, hm]
    rfl
  | v1 :: v2 :: vs, x1 :: x2 :: xs, h2, h3 =>
    refine ⟨.tuple (x1 :: x2 :: xs).toArray, ?_, .tup (by simpa using h2) (fun j c hj => by rw [getD_toArr]; exact h3 j c hj)⟩
    rw [results_eq, Sem.run_bind, hm]
    simp [Result.andThen]

theorem fn_ok (hE : EnvOk P E) (hC : CallOk P call) (hCD : CallDOk P call) {N : Nat} {pn pn' : Pn} {f : FuncId} {args : List V} {cr : CR} {H' : Heap} (h : evFn E call N pn f args H = some (cr, H', pn')) {vals : Array Value} {kd : CallKind}
    (hH : HRel (okOf base S) w n0 S H) (ha : RelL (okOf base S) w S args vals) (hb : BaseOk base w S) (hpn : PnRel (okOf base S) w S { (default : Frame) with fn := f, kind := kd, roundOf := none } pn cs) :
    ∃ fr e w' S' cs', Go_ P (lone (Frame.enter P f vals kd) cs w) (lone fr cs' w') ∧ fr.fn = f ∧ fr.kind = kd ∧ fr.going P w' e ∧ CrRel (okOf base S') w' S' cr e ∧ StepR base (domS S) S w H S' w' H' ∧ CsTo pn pn' cs cs' ∧
      PnRel (okOf base S') w' S' { (default : Frame) with fn := f, kind := kd, roundOf := none } pn' cs' := by
  unfold evFn at h
  split at h
  · cases h
  · rename_i fn hfn
    obtain ⟨hPf, hng, hregs⟩ := hE.fn f fn hfn
    split at h
    · cases h
    · rename_i c hc
      split at h
      · cases h
      · rename_i x s hcode
        have henter : Frame.enter P f vals kd = Frame.atR { (default : Frame) with fn := f, kind := kd, roundOf := none } { tmps := vals ++ Array.replicate (fn.ntmps - vals.size) undef, defers := [] } [.code c] := by
          simp [Frame.enter, Frame.atR, hPf, hc]
        have htm : RelL (okOf base S) w S (args ++ List.replicate (fn.ntmps - args.length) (.tup [])) (vals ++ Array.replicate (fn.ntmps - vals.size) undef) := by
          refine ⟨by simp [ha.1], fun j c hj => ?_⟩
          rw [getD_arr, Array.toList_append]
          by_cases hlt : j < args.length
          · rw [getD_append_left (by simpa [ha.1] using hlt), ← getD_arr]
            rw [List.getElem?_append_left hlt] at hj
            exact ha.2 j c hj
          · rw [getD_append_right (by simpa [ha.1] using hlt)]
            rw [List.getElem?_append_right (by omega)] at hj
            have hlt2 := (List.getElem?_eq_some_iff.1 hj).1
            rw [List.getElem?_replicate] at hj
            split at hj
            · obtain rfl := Option.some.inj hj
              have : (Array.replicate (fn.ntmps - vals.size) undef).toList.getD (j - vals.toList.length) default = undef := by
                rw [List.getD_eq_getElem?_getD]
                simp only [Array.toList_replicate, List.getElem?_replicate, Array.length_toList, ha.1]
                rename_i hh
                rw [if_pos hh]; rfl
              rw [this]; exact rel_undef
            · cases hj
        have hs0 : SR base n0 { (default : Frame) with fn := f, kind := kd, roundOf := none } { tmps := vals ++ Array.replicate (fn.ntmps - vals.size) undef, defers := [] } cs w S { tm := args ++ List.replicate (fn.ntmps - args.length) (.tup []), df := [], H := H, pn := pn } :=
          ⟨hH, htm, trivial, hpn⟩
        obtain ⟨e, a', cs1, w1, S1, q1, q2, q3, q4, q5⟩ := code_ok hE hC N f none c _ x s (hregs c hc) hcode w S _ cs [] hs0 rfl rfl hb
        -- the frame on its way out
        have out : ∀ m, (match x with | .nrm | .ret => some Md.ret | .pan v => some (Md.pan v) | .exit _ => none) = some m → ∃ todo u, MdRel (okOf base S1) w1 S1 m u ∧ Go_ P (lone (Frame.enter P f vals kd) cs w) (lone { Frame.atR { (default : Frame) with fn := f, kind := kd, roundOf := none } a' todo with mode := u } cs1 w1) := fun m hm => by
          rw [henter]
          cases x with
          | nrm =>
            simp only [Option.some.injEq] at hm; subst hm
            cases e <;> first
              | exact q1.elim
              | exact ⟨[], .returning, trivial, StepsIn.trans q5 (.one trivial (stepR_end rfl))⟩
          | ret =>
            simp only [Option.some.injEq] at hm; subst hm
            cases e <;> first
              | exact q1.elim
              | (obtain ⟨todo, hst⟩ := q5.1 rfl; exact ⟨todo, .returning, trivial, hst⟩)
          | exit id => cases hm
          | pan v =>
            simp only [Option.some.injEq] at hm; subst hm
            cases e <;> first
              | exact q1.elim
              | (rename_i ch; obtain ⟨todo, hst⟩ := q5; exact ⟨todo, .panicking ch, q1, hst⟩)
        split at h
        · cases h
        · rename_i m hm
          obtain ⟨todo, u, hmd, hgo⟩ := out m hm
          split at h
          · rename_i H2 hunw
            split at h
            · rename_i vs hvs
              simp only [Option.some.injEq, Prod.mk.injEq] at h
              obtain ⟨rfl, rfl, rfl⟩ := h
              obtain ⟨w2, S2, u2, p1, p2, p3⟩ := unw_ok hCD s.df m .ret s.H H2 hunw w1 S1 { Frame.atR { (default : Frame) with fn := f, kind := kd, roundOf := none } a' todo with mode := u } cs1 q2.heap (hb.next q3) q2.df hmd
              have hH2 := q2.heap.next p3
              obtain ⟨y, r1, r2⟩ := results_rel (P := P) hE hH2 (p3.ext.relL q2.tm) hvs
              have hst := StepR.seq hH.loc hH.dom_lt q3 p3
              obtain ⟨S3, r3, r4, r5⟩ := leave_ok hH2 hH.dom_lt hst r2 s.pn
              have hu2 : u2 = .returning := by cases u2 <;> first | rfl | exact p2.elim
              subst hu2
              refine ⟨_, .returned y, w2, S3, cs1, hgo.trans p1, rfl, rfl, ⟨rfl, rfl, fn, hPf, r1⟩, r4, r3, q4, r5 _ _ (q2.pn.mono (p3.ext.calm base) p3.ext.sig)⟩
            · cases h
          · rename_i v H2 hunw
            simp only [Option.some.injEq, Prod.mk.injEq] at h
            obtain ⟨rfl, rfl, rfl⟩ := h
            obtain ⟨w2, S2, u2, p1, p2, p3⟩ := unw_ok hCD s.df m (.pan v) s.H H2 hunw w1 S1 { Frame.atR { (default : Frame) with fn := f, kind := kd, roundOf := none } a' todo with mode := u } cs1 q2.heap (hb.next q3) q2.df hmd
            have hst := StepR.seq hH.loc hH.dom_lt q3 p3
            cases u2 with
            | run => exact p2.elim
            | returning => exact p2.elim
            | panicking ch =>
              obtain ⟨y, rfl, hy⟩ := p2
              exact ⟨_, .panicked [{ v := y, recovered := false }], w2, S2, cs1, hgo.trans p1, rfl, rfl, ⟨rfl, rfl, fn, hPf⟩, ⟨y, rfl, hy⟩, hst, q4, q2.pn.mono (p3.ext.calm base) p3.ext.sig⟩
          · cases h
end
end Go.Ev
