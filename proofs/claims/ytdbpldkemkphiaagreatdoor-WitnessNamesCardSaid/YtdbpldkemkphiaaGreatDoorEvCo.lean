/- Code. -/
import Derived.Test.YtdbpldkemkphiaaGreatDoorEvFz
namespace Go.Ev
variable [Glb]
open Go.RowKit Go.MapKept

section
variable {P : Program} {E : Env} {call : CallH} {base : Nat → Prop} {n0 : Nat} {w w0 w' : World} {S S0 S' : Sig} {s s0 s' : St} {a : Act} {b : Frame} {cs cs0 : List Frame} {k : List Item} {H H0 : Heap}

omit [Glb] in
theorem stepR_scope {c : Code} : step P (lone (b.atR a (.code (.scope c) :: k)) cs w) = .next (lone (b.atR a (.code c :: .inScope c :: k)) cs w) :=
  step_lone_go (by simp [stepG, stepG.exec, Frame.atR])
omit [Glb] in
theorem stepR_inScope {c : Code} : step P (lone (b.atR a (.inScope c :: k)) cs w) = .next (lone (b.atR a k) cs w) :=
  step_lone_go (by simp [stepG, stepG.exec, Frame.atR])

omit [Glb] in
/-- An item that is left alone by what is no normal end. -/
theorem Res.pass {m : Machine} {x : X} {it : Item} (hx : it.plain = true) (hne : x ≠ .nrm) (r : Res P base n0 S w s b cs (it :: k) m x s') : Res P base n0 S w s b cs k m x s' := by
  obtain ⟨e, a', cs', w', S', h1, h2, h3, h4, h5⟩ := r
  refine ⟨e, a', cs', w', S', h1, h2, h3, h4, .pass hx (fun _ _ => .inl ?_) h5⟩
  intro he; subst he
  cases x <;> first | exact absurd rfl hne | exact h1

omit [Glb] in
/-- Behind a normal end. -/
theorem Res.normal {m : Machine} (r : Res P base n0 S w s b cs k m .nrm s') : ∃ a' cs' w' S', SR base n0 b a' cs' w' S' s' ∧ StepR base (domS S) S w s.H S' w' s'.H ∧ CsTo s.pn s'.pn cs cs' ∧ Go_ P m (lone (b.atR a' k) cs' w') := by
  obtain ⟨e, a', cs', w', S', h1, h2, h3, h4, h5⟩ := r
  cases e <;> first
    | exact ⟨a', cs', w', S', h2, h3, h4, h5⟩
    | exact h1.elim

theorem loop_ok {c : Code} {ev : St → Option (X × St)} {rd : Option Nat} {fid : FuncId} (hfid : b.fn = fid)
    (hev : ∀ s x s', ev s = some (x, s') → ∀ (w : World) (S : Sig) (a : Act) (cs : List Frame) (k : List Item), SR base n0 b a cs w S s → RdOk rd b S → BaseOk base w S → Res P base n0 S w s b cs k (lone (b.atR a (.code c :: k)) cs w) x s')
    (hdom : ∀ b, (S0 b).isSome → b < s0.H.length) (hl0 : Loc w0 n0 S0) (hrd0 : RdOk rd b S0) (hb0 : BaseOk base w0 S0) : ∀ (N : Nat) (s : St) (x : X) (s' : St), evLoop ev s0.H.length N s = some (x, s') →
    ∀ (w : World) (S : Sig) (a : Act) (cs : List Frame), SR base n0 b a cs w S s → StepR base (domS S0) S0 w0 s0.H S w s.H → CsTo s0.pn s.pn cs0 cs → Res P base n0 S0 w0 s0 b cs0 k (lone (b.atR a (.code c :: .inLoop c :: k)) cs w) x s'
  | 0, s, x, s', h => by cases h
  | N + 1, s, x, s', h => by
    intro w S a cs hs hx hc
    have hb : BaseOk base w S := hb0.next hx
    have hrd : RdOk rd b S := hrd0.mono hx.ext.sig
    simp only [evLoop] at h
    split at h
    · rename_i s1 hev1
      have r := hev s _ s1 hev1 w S a cs (.inLoop c :: k) hs hrd hb
      obtain ⟨a1, cs1, w1, S1, h1, h2, h3, h4⟩ := r.normal
      have hx1 := StepR.seq hl0 hdom hx h2
      obtain ⟨S2, h5, h6, h7⟩ := trunc_ok h1 (hb.next h2) hdom hx1
      have := loop_ok hfid hev hdom hl0 hrd0 hb0 N _ x s' h w1 S2 a1 cs1 h5 h6 (by rw [h7]; exact hc.trans h3)
      exact Res.of_steps (h4.trans (.one trivial stepR_inLoop)) this
    · rename_i hne
      have r := hev s x s' h w S a cs (.inLoop c :: k) hs hrd hb
      have r' := r.pass (k := k) rfl (by
        intro he; subst he
        exact hne s' h)
      obtain ⟨e, a', cs', w', S', q1, q2, q3, q4, q5⟩ := r'
      exact ⟨e, a', cs', w', S', q1, q2, StepR.seq hl0 hdom hx q3, hc.trans q4, q5⟩

omit [Glb] in
theorem stepR_rangeFunc' {g : Operand} {ps : Array Tmp} {assign body : Code} {l : Nat} {mark : List Deferred} {w₁ w₁' w₂ : World} {d : Deferred} {nx : Next} {fr : Frame}
    (he : (Instr.enterLoop b.fn a.tmps ps assign body b.roundOf).run P w = .ok (l, mark) w₁)
    (hres : (resolve a.eval (rangeCall g l) 0).run P w₁ = .ok d w₁') (hinv : (invoke d.target d.args).run P w₁' = .ok nx w₂) (hfr : nxFrame P nx = some fr) :
    step P (lone (b.atR a (.code (.rangeFunc g ps assign body) :: k)) cs w) =
      .next (lone fr (b.atR { a with defers := mark ++ a.defers } (.inRangeFunc l :: k) :: cs) w₂) :=
  step_lone_go (by
    have hev := Frame.eval_atR b { a with defers := mark ++ a.defers } (.inRangeFunc l :: k)
    simp only [Frame.atR] at hev
    have hres' : Sem.run P (resolve ({ tmps := a.tmps, defers := mark ++ a.defers } : Act).eval { callee := .value g, args := #[.const (.func (.yield l) #[] #[])], argTypes := #[] } 0) w₁ = .ok d w₁' := hres
    cases nx <;> simp only [nxFrame, Option.some.injEq, reduceCtorEq] at hfr
    · subst hfr
      simp [stepG, stepG.exec, Frame.atR, Sem.runT_eq, he, GStep.bare_after, stepG.apply, hev, Sem.run_bind, hres', hinv, Result.andThen]
    · subst hfr
      simp [stepG, stepG.exec, Frame.atR, Sem.runT_eq, he, GStep.bare_after, stepG.apply, hev, Sem.run_bind, hres', hinv, Result.andThen])

omit [Glb] in
/-- Behind the iterator's return. -/
theorem endLoop_ok {l : Nat} {e : Ent} {r : Nat} {x : X} {sx : St} (hH : HRel (okOf base S) w n0 S H) (hs : RelL (okOf base S) w S sx.tm a.tmps) (hdf : DfRel (okOf base S) w S sx.df a.defers) (hpn : PnRel (okOf base S) w S b sx.pn cs)
    (hl : S l = some e) (hloc : e.loc = some (r, 0)) (h : endLoopX l sx H = some (x, s')) :
    ∃ ex w', XRel (okOf base S) w' S x ex ∧ SR base n0 b a cs w' S s' ∧ StepR base (domS S) S w H S w' s'.H ∧ s'.pn = sx.pn ∧ ArrivesIn (fun _ => True) P (lone (b.atR a (.endRangeFunc r :: k)) cs w) b k cs ex a w' := by
  unfold endLoopX at h
  split at h
  · rename_i st pend fn tm ps x1 x2 db heq
    obtain ⟨kb, hk, hB⟩ := hH.blk l e hl
    rw [heq] at hk; obtain rfl := Option.some.inj hk
    obtain ⟨hfx, hro, r', d, ed, tmps, hloc', hheap, ht, hd, hdf', hdro, hdl, hc1, hc2⟩ := hB
    rw [hloc] at hloc'
    simp only [Option.some.injEq, Prod.mk.injEq, and_true] at hloc'
    subst hloc'
    have hrlt : r < w.heap.size := (Array.getElem?_eq_some_iff.1 hheap).1
    have hllt : l < H.length := (List.getElem?_eq_some_iff.1 heq).1
    split at h
    · cases h
    · rename_i hst
      obtain ⟨w', hw'⟩ : ∃ w', w' = { w with heap := w.heap.setIfInBounds r (.loop { state := .exhausted, pending := pend, fn := fn, tmps := tmps, params := ps, assign := x1, body := x2, defers := d }) } := ⟨_, rfl⟩
      have hrun : (Instr.endLoop r).run P w = .ok pend w' := by
        subst hw'
        have hst' : (st == LoopState.busy) = false := by cases st <;> first | rfl | exact absurd rfl hst
        simp only [Instr.endLoop, Instr.getLoop, Sem.run_bind, run_getObj' hheap, Result.andThen_ok, Sem.run_pure, hst', Bool.false_eq_true, if_false, run_setObj' hheap]
      have hstep : StepR base (fun x => x = l) S w H S w' (H.set l (.loop .exhausted pend fn tm ps x1 x2 db)) := by
        subst hw'
        exact turn_fix hH.loc hl hfx hro hloc hllt _ _ (fun hk => ⟨hfx, hro, r, d, ed, tmps, hloc, heap_set_same hrlt, ht.mono hk (SigLe.refl S), hd, hdf', hdro, hdl, hc1, hc2⟩)
      have hstep' := hstep.all hH (fun q hq => by subst hq; simp [hl])
      have hgo := stepR_endRangeFunc (P := P) (b := b) (a := a) (k := k) (cs := cs) hrun
      have hSR : SR base n0 b a cs w' S { sx with H := H.set l (.loop .exhausted pend fn tm ps x1 x2 db) } := ⟨hH.next hstep, hstep.ext.relL hs, hdf.mono (hstep.ext.calm base) hstep.ext.sig, hpn.mono (hstep.ext.calm base) hstep.ext.sig⟩
      split at h
      · simp only [Option.some.injEq, Prod.mk.injEq] at h
        obtain ⟨rfl, rfl⟩ := h
        exact ⟨.normal, w', trivial, hSR, hstep', rfl, .one trivial hgo⟩
      · simp only [Option.some.injEq, Prod.mk.injEq] at h
        obtain ⟨rfl, rfl⟩ := h
        refine ⟨.ret, w', trivial, hSR, hstep', rfl, fun hn => ⟨_, .head trivial hgo (.one trivial (stepR_ret hn))⟩, fun _ => ⟨k, .one trivial hgo⟩⟩
      · rename_i id
        simp only [Option.some.injEq, Prod.mk.injEq] at h
        obtain ⟨rfl, rfl⟩ := h
        exact ⟨.exit id, w', rfl, hSR, hstep', rfl, fun k' hk => .head trivial hgo (.one trivial (stepR_exit hk)), fun _ hk => ⟨k, hk, .one trivial hgo⟩⟩
      · cases h
  · cases h

omit [Glb] in
/-- The record of a loop over a function, laid. -/
theorem push_loop (hH : HRel (okOf base S) w n0 S H) {fid : FuncId} {tm : List V} {tmps : Array Value} (ht : RelL (okOf base S) w S tm tmps) {db d : Nat} {ed : Ent} (hd : S db = some ed) (hdf : ed.fix = true) (hdr : ed.ro = false) (hdl : ed.loc = some (d, 0)) (ps : Array Tmp) {asg body : Code} (h1 : codeRegs asg = true) (h2 : codeRegs body = true) :
    StepR base nobody S w H (S.put H.length ⟨true, 0, false, 0, 0, some (w.heap.size, 0)⟩) (w.alloc (.loop { state := .ready, pending := none, fn := fid, tmps := tmps, params := ps, assign := asg, body := body, defers := d })) (H ++ [.loop .ready none fid tm ps asg body db]) := by
  have hn : S H.length = none := hH.none_len (Nat.le_refl _)
  refine StepR.push hH.loc hn ⟨true, 0, false, 0, 0, some (w.heap.size, 0)⟩ _ _ rfl (fun hs hk => ⟨rfl, rfl, w.heap.size, d, ed, tmps, rfl, heap_alloc_new w _, ht.mono hk hs, ?_, hdf, hdr, hdl, h1, h2⟩)
  rw [Sig.put_other _ _ (fun h => by rw [h, hn] at hd; cases hd)]
  exact hd

omit [Glb] in
theorem push_defs (hH : HRel (okOf base S) w n0 S H) :
    StepR base nobody S w H (S.put H.length ⟨true, 0, false, 0, 0, some (w.heap.size, 0)⟩) (w.alloc (.deferred (some []))) (H ++ [.defs]) :=
  StepR.push hH.loc (hH.none_len (Nat.le_refl _)) ⟨true, 0, false, 0, 0, some (w.heap.size, 0)⟩ _ _ rfl (fun _ _ => ⟨rfl, rfl, w.heap.size, rfl, heap_alloc_new w _⟩)

/-- The one call of a loop over a function, and what is behind it. -/
theorem range_ok (hC : CallOk P call) {g : Operand} {ps : Array Tmp} {asg body : Code} {fv : V} {H2 H3 : Heap} {pn1 : Pn} {l r : Nat} {mark : List Deferred} {sx : St} {x : X} {v : V}
    (hH : HRel (okOf base S) w n0 S H) (hb : BaseOk base w S) (hstep : StepR base (domS S) S w H S0 w0 H2) (he : (Instr.enterLoop b.fn a.tmps ps asg body b.roundOf).run P w = .ok (r, mark) w0)
    (hf : Rel (okOf base S) w S fv (a.eval g)) {e2 : Ent} (hl : S0 l = some e2) (hfx : e2.fix = true) (hloc : e2.loc = some (r, 0)) (hcall : call .normal fv [.yld l] H2 = some (.ret v, H3, pn1))
    (htm : RelL (okOf base S0) w0 S0 sx.tm a.tmps) (hdf : DfRel (okOf base S0) w0 S0 sx.df (mark ++ a.defers)) (hpn : PnRel (okOf base S0) w0 S0 b sx.pn cs) (hend : endLoopX l sx H3 = some (x, s')) (hs0 : s.H = H) (hsp : s.pn = sx.pn) :
    Res P base n0 S w s b cs k (lone (b.atR a (.code (.rangeFunc g ps asg body) :: k)) cs w) x s' := by
  have hH2 : HRel (okOf base S0) w0 n0 S0 H2 := hH.next hstep
  obtain ⟨d, nx, e, w3, S3, q1, q2, q3, q4, q5⟩ := hC fv [.yld l] H2 _ H3 pn1 hcall base n0 w0 S0 (a.eval g) #[.func (.yield r) #[] #[]] hH2 (hstep.ext.rel hf) (relL_one (.yld hl hfx hloc)) (hb.next hstep) (b.atR { a with defers := mark ++ a.defers } (.inRangeFunc r :: k)) cs
  obtain ⟨fr, hfr, hruns⟩ := q3
  cases e with
  | panicked ch => exact q4.elim
  | outgrown => exact q4.elim
  | returned y =>
    have hres : (resolve a.eval (rangeCall g r) 0).run P w0 = .ok d w0 := by
      have hm : (#[.const (.func (.yield r) #[] #[])] : Array Operand).map a.eval = #[Value.func (.yield r) #[] #[]] := by simp [Act.eval]
      simp only [resolve, rangeCall, hm]
      exact q1
    have h1 := stepR_rangeFunc' (P := P) (b := b) (a := a) (k := k) (cs := cs) he hres q2 hfr
    have h2 := hruns
    simp only [EndAt, finish_atR_inRangeFunc] at h2
    have hl3 : S3 l = some e2 := by
      obtain ⟨e', h', _, _, q⟩ := q5.ext.sig l e2 hl
      rw [h', q hfx]
    obtain ⟨ex, w4, p1, p2, p3, p4, p5⟩ := endLoop_ok (P := P) (k := k) (a := { a with defers := mark ++ a.defers }) (sx := sx) (cs := cs) (b := b) (hH2.next q5) (q5.ext.relL htm) (hdf.mono (q5.ext.calm base) q5.ext.sig) (hpn.mono (q5.ext.calm base) q5.ext.sig) hl3 hloc hend
    have hst := StepR.seq hH.loc hH.dom_lt hstep (StepR.seq hH2.loc hH2.dom_lt q5 p3)
    refine ⟨ex, _, cs, w4, S3, p1, p2, by rw [hs0]; exact hst, ?_, .of_steps (.head trivial h1 h2) p5⟩
    rw [p4, hsp]
    exact .refl hpn

theorem code_ok (hE : EnvOk P E) (hC : CallOk P call) (N : Nat) (fid : FuncId) (rd : Option Nat) : ∀ (c : Code) (s : St) (x : X) (s' : St), codeRegs c = true → evCode E call N fid rd c s = some (x, s') →
    ∀ (w : World) (S : Sig) (a : Act) (cs : List Frame) (k : List Item), SR base n0 b a cs w S s → RdOk rd b S → b.fn = fid → BaseOk base w S → Res P base n0 S w s b cs k (lone (b.atR a (.code c :: k)) cs w) x s' := by
  intro c
  induction c with
  | skip =>
    intro s x s' _ h w S a cs k hs _ _ _
    simp only [evCode, Option.some.injEq, Prod.mk.injEq] at h
    obtain ⟨rfl, rfl⟩ := h
    exact ⟨.normal, a, cs, w, S, trivial, hs, .rfl' hs.heap, .refl hs.pn, .one trivial stepR_skip⟩
  | label l =>
    intro s x s' _ h w S a cs k hs _ _ _
    simp only [evCode, Option.some.injEq, Prod.mk.injEq] at h
    obtain ⟨rfl, rfl⟩ := h
    exact ⟨.normal, a, cs, w, S, trivial, hs, .rfl' hs.heap, .refl hs.pn, .one trivial stepR_label⟩
  | region rid ops d =>
    intro s x s' hr h w S a cs k hs hrd _ hb
    simp only [evCode] at h
    refine region_ok hE hC h (fun hd => ?_) hs (fun hn => ?_) hb
    · subst hd; simpa [codeRegs] using hr
    · cases rd with
      | none => exact hrd
      | some l => cases hn
  | seq c1 c2 ih1 ih2 =>
    intro s x s' hr h w S a cs k hs hrd hf hb
    simp only [codeRegs, Bool.and_eq_true] at hr
    simp only [evCode] at h
    refine Res.of_steps (.one trivial stepR_seq) ?_
    split at h
    · rename_i s1 h1
      obtain ⟨a1, cs1, w1, S1, q1, q2, q3, q4⟩ := (ih1 s _ s1 hr.1 h1 w S a cs (.code c2 :: k) hs hrd hf hb).normal
      have := ih2 s1 x s' hr.2 h w1 S1 a1 cs1 k q1 (hrd.mono q2.ext.sig) hf (hb.next q2)
      exact Res.of_steps q4 (Res.after hs.heap q2 q3 this)
    · rename_i hne
      exact (ih1 s x s' hr.1 h w S a cs (.code c2 :: k) hs hrd hf hb).pass rfl (fun he => by subst he; exact hne s' h)
  | cond g c1 c2 ih1 ih2 =>
    intro s x s' hr h w S a cs k hs hrd hf hb
    simp only [codeRegs, Bool.and_eq_true] at hr
    simp only [evCode] at h
    split at h
    · rename_i hg
      have := (evo_rel hs.tm hg).bool_inv
      exact Res.of_steps (.one trivial (stepR_cond this)) (ih1 s x s' hr.1 h w S a cs k hs hrd hf hb)
    · rename_i hg
      have := (evo_rel hs.tm hg).bool_inv
      exact Res.of_steps (.one trivial (stepR_cond this)) (ih2 s x s' hr.2 h w S a cs k hs hrd hf hb)
    · cases h
  | block id c ih =>
    intro s x s' hr h w S a cs k hs hrd hf hb
    simp only [codeRegs] at hr
    simp only [evCode] at h
    refine Res.of_steps (.one trivial stepR_block) ?_
    have fin : ∀ x1, evCode E call N fid rd c s = some (x1, s') → (x = match x1 with | .exit i => if i = id then .nrm else .exit i | y => y) → Res P base n0 S w s b cs k (lone (b.atR a (.code c :: .inBlock id :: k)) cs w) x s' := fun x1 h1 hx => by
      obtain ⟨e, a', cs', w', S', q1, q2, q3, q4, q5⟩ := ih s x1 s' hr h1 w S a cs (.inBlock id :: k) hs hrd hf hb
      cases x1 with
      | nrm =>
        subst hx
        cases e <;> first
          | exact q1.elim
          | exact ⟨.normal, a', cs', w', S', trivial, q2, q3, q4, StepsIn.trans q5 (.one trivial stepR_inBlock)⟩
      | ret =>
        subst hx
        cases e <;> first
          | exact q1.elim
          | exact ⟨.ret, a', cs', w', S', trivial, q2, q3, q4, q5⟩
      | pan v =>
        subst hx
        cases e <;> first
          | exact q1.elim
          | exact ⟨_, a', cs', w', S', q1, q2, q3, q4, q5⟩
      | exit i =>
        cases e <;> first
          | exact q1.elim
          | (rename_i j
             have : i = j := q1
             subst this
             simp only at hx
             by_cases hid : i = id
             · rw [if_pos hid] at hx
               subst hx
               exact ⟨.normal, a', cs', w', S', trivial, q2, q3, q4, q5.1 k (by simp [exitTo, hid])⟩
             · rw [if_neg hid] at hx
               subst hx
               have this : (id == i) = false := by simp; exact fun h => hid h.symm
               have hxx : exitTo i (.inBlock id :: k) = exitTo i k := by simp [exitTo, this]
               exact ⟨.exit i, a', cs', w', S', rfl, q2, q3, q4, fun k' hk => q5.1 k' (by rw [hxx]; exact hk), fun hr' hk => q5.2 hr' (by rw [hxx]; exact hk)⟩)
    split at h
    · rename_i i s1 h1
      simp only [Option.some.injEq, Prod.mk.injEq] at h
      obtain ⟨rfl, rfl⟩ := h
      exact fin (.exit i) h1 rfl
    · rename_i hne
      refine fin x h ?_
      cases x with
      | exit i => exact absurd h (hne i s')
      | _ => rfl
  | loop c ih =>
    intro s x s' hr h w S a cs k hs hrd hf hb
    simp only [codeRegs] at hr
    simp only [evCode] at h
    refine Res.of_steps (.one trivial stepR_loop) ?_
    exact loop_ok hf (fun s x s' h w S a cs k hs hrd hb => ih s x s' hr h w S a cs k hs hrd hf hb) hs.heap.dom_lt hs.heap.loc hrd hb N s x s' h w S a cs hs (.rfl' hs.heap) (.refl hs.pn)
  | scope c ih =>
    intro s x s' hr h w S a cs k hs hrd hf hb
    simp only [codeRegs] at hr
    simp only [evCode] at h
    refine Res.of_steps (.one trivial stepR_scope) ?_
    obtain ⟨e, a', cs', w', S', q1, q2, q3, q4, q5⟩ := ih s x s' hr h w S a cs (.inScope c :: k) hs hrd hf hb
    refine ⟨e, a', cs', w', S', q1, q2, q3, q4, ?_⟩
    cases e with
    | normal => exact StepsIn.trans q5 (.one trivial stepR_inScope)
    | exit id => exact ⟨fun k' hk => q5.1 k' (by simpa [exitTo] using hk), fun hr hk => q5.2 hr (by simpa [exitTo] using hk)⟩
    | goto l => cases x <;> exact q1.elim
    | ret => exact q5
    | panic ch => exact q5
    | outgrown => cases x <;> exact q1.elim
  | exit id =>
    intro s x s' _ h w S a cs k hs _ _ _
    simp only [evCode, Option.some.injEq, Prod.mk.injEq] at h
    obtain ⟨rfl, rfl⟩ := h
    exact ⟨.exit id, a, cs, w, S, rfl, hs, .rfl' hs.heap, .refl hs.pn, fun _ hk => .one trivial (stepR_exit hk), fun _ hk => ⟨k, hk, .refl _⟩⟩
  | ret =>
    intro s x s' _ h w S a cs k hs _ _ _
    simp only [evCode, Option.some.injEq, Prod.mk.injEq] at h
    obtain ⟨rfl, rfl⟩ := h
    exact ⟨.ret, a, cs, w, S, trivial, hs, .rfl' hs.heap, .refl hs.pn, fun hn => ⟨_, .one trivial (stepR_ret hn)⟩, fun _ => ⟨k, .refl _⟩⟩
  | rangeFunc g ps asg body ih1 ih2 =>
    intro s x s' hr h w S a cs k hs hrd hf hb
    simp only [codeRegs, Bool.and_eq_true] at hr
    simp only [evCode] at h
    split at h
    · rename_i fv hg
      split at h
      · rename_i v H3 pn1 hcall
        have hro : b.roundOf = none := hrd
        have x1 := push_defs (base := base) hs.heap
        have hH1 := hs.heap.next x1
        have x2 := push_loop (base := base) hH1 (fid := fid) (tm := s.tm) (tmps := a.tmps) (x1.ext.relL hs.tm) (Sig.put_same _ _ _) rfl rfl rfl ps hr.1 hr.2
        have x12 := StepR.seq hs.heap.loc hs.heap.dom_lt (x1.all hs.heap (fun _ h => h.elim)) (x2.all hH1 (fun _ h => h.elim))
        simp only [List.length_append, List.length_singleton, List.append_assoc, List.singleton_append] at x12
        have hlne : s.H.length ≠ s.H.length + 1 := by omega
        refine range_ok (s := s) (mark := [{ target := .collected w.heap.size, args := #[] }]) (l := s.H.length + 1) (r := (w.alloc (.deferred (some []))).heap.size) (sx := { s with df := .coll s.H.length :: s.df }) hC hs.heap hb x12 ?_ (evo_rel hs.tm hg) (Sig.put_same _ _ _) rfl rfl hcall (x12.ext.relL hs.tm) ⟨?_, hs.df.mono (x12.ext.calm base) x12.ext.sig⟩ (hs.pn.mono (x12.ext.calm base) x12.ext.sig) h rfl rfl
        · rw [hro, hf]
          simp [Instr.enterLoop]
        · refine .coll (e := ⟨true, 0, false, 0, 0, some (w.heap.size, 0)⟩) ?_ rfl rfl rfl
          rw [Sig.put_other _ _ hlne, Sig.put_same]
      · cases h
    · rename_i fv l0 hg
      split at h
      · rename_i st0 pend0 fn0 tm0 ps0 as0 bo0 db heq
        split at h
        · rename_i v H3 pn1 hcall
          obtain ⟨e0, r0, he0, hf0, hr0, hl0, hro⟩ := hrd
          obtain ⟨k0, hk0, hB⟩ := hs.heap.blk l0 e0 he0
          rw [heq] at hk0; obtain rfl := Option.some.inj hk0
          obtain ⟨_, _, r', d, ed, tmps0, hloc0, hheap0, _, hdb, hdf, hdr, hdl, _, _⟩ := hB
          rw [hl0] at hloc0
          simp only [Option.some.injEq, Prod.mk.injEq, and_true] at hloc0
          subst hloc0
          have x2 := push_loop (base := base) hs.heap (fid := fid) (tm := s.tm) (tmps := a.tmps) hs.tm hdb hdf hdr hdl ps hr.1 hr.2
          have x12 := x2.all hs.heap (fun _ h => h.elim)
          refine range_ok (s := s) (mark := []) (l := s.H.length) (r := w.heap.size) (sx := s) hC hs.heap hb x12 ?_ (evo_rel hs.tm hg) (Sig.put_same _ _ _) rfl rfl hcall (x12.ext.relL hs.tm) (hs.df.mono (x12.ext.calm base) x12.ext.sig) (hs.pn.mono (x12.ext.calm base) x12.ext.sig) h rfl rfl
          rw [hro, hf]
          simp [Instr.enterLoop, Instr.getLoop, run_getObj' hheap0]
        · cases h
      · cases h
    · cases h
  | goto l => intro s x s' _ h; simp only [evCode] at h; cases h
  | refuse y => intro s x s' _ h; simp only [evCode] at h; cases h
end
end Go.Ev
