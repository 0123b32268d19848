/- Regions whose order is fixed. -/
import Derived.Test.YtdbpldkemkphiaaGreatDoorEvV
namespace Go.Ev
variable [Glb]
open Go.RowKit Go.MapKept

def DfRel (ok : Nat → Prop) (w : World) (S : Sig) : List Df → List Deferred → Prop
  | [], [] => True
  | d :: r, x :: xs => DfOne ok w S d x ∧ DfRel ok w S r xs
  | _, _ => False

def PnRel (ok : Nat → Prop) (w : World) (S : Sig) (b : Frame) : Pn → List Frame → Prop
  | .normal, _ => b.kind = .normal
  | .dret, cs => (b.kind = .deferred ∧ b.roundOf = none) ∧ ∃ c r, cs = c :: r ∧ c.mode = .returning
  | .dpan v rec, cs => (b.kind = .deferred ∧ b.roundOf = none) ∧ ∃ c r x, cs = c :: r ∧ c.mode = .panicking [{ v := x, recovered := rec }] ∧ Rel ok w S v x

/-- The frames below: but for the mode of the one beneath a deferred call's they are as they were. -/
def CsTo (pn pn' : Pn) (cs cs' : List Frame) : Prop :=
  (pn = .normal ∧ pn' = .normal ∧ cs' = cs) ∨ (pn ≠ .normal ∧ pn' ≠ .normal ∧ ∃ c r m, cs = c :: r ∧ cs' = { c with mode := m } :: r)

structure SR (base : Nat → Prop) (n0 : Nat) (b : Frame) (a : Act) (cs : List Frame) (w : World) (S : Sig) (s : St) : Prop where
  heap : HRel (okOf base S) w n0 S s.H
  tm : RelL (okOf base S) w S s.tm a.tmps
  df : DfRel (okOf base S) w S s.df a.defers
  pn : PnRel (okOf base S) w S b s.pn cs

def RdOk (rd : Option Nat) (b : Frame) (S : Sig) : Prop :=
  match rd with
  | none => b.roundOf = none
  | some l => ∃ e r, S l = some e ∧ e.fix = true ∧ e.ro = false ∧ e.loc = some (r, 0) ∧ b.roundOf = some r

def XRel (ok : Nat → Prop) (w : World) (S : Sig) : X → Exit → Prop
  | .nrm, .normal => True
  | .ret, .ret => True
  | .exit i, .exit j => i = j
  | .pan v, .panic ch => ∃ y, ch = [{ v := y, recovered := false }] ∧ Rel ok w S v y
  | _, _ => False

def Res (P : Program) (base : Nat → Prop) (n0 : Nat) (S : Sig) (w : World) (s : St) (b : Frame) (cs : List Frame) (k : List Item) (m : Machine) (x : X) (s' : St) : Prop :=
  ∃ e a' cs' w' S', XRel (okOf base S') w' S' x e ∧ SR base n0 b a' cs' w' S' s' ∧ StepR base (domS S) S w s.H S' w' s'.H ∧ CsTo s.pn s'.pn cs cs' ∧ ArrivesIn (fun _ => True) P m b k cs' e a' w'

section
variable {P : Program} {E : Env} {base : Nat → Prop} {n0 : Nat} {w w' : World} {S S' : Sig} {s s' : St} {a : Act} {o : Oper} {b : Frame} {cs cs' : List Frame} {k : List Item}

omit [Glb] in
theorem DfOne.mono {ok ok' : Nat → Prop} (hk : Calm ok ok' w w') (hS : SigLe S S') {d : Df} {x : Deferred} (h : DfOne ok w S d x) : DfOne ok' w' S' d x := by
  cases h with
  | coll h hf hro hl => obtain ⟨e', h', _, _, q⟩ := hS _ _ h; obtain rfl := q hf; exact .coll h' hf hro hl
  | call hc ha => exact .call (hc.mono hk hS) (ha.mono hk hS)

omit [Glb] in
theorem DfRel.mono {ok ok' : Nat → Prop} (hk : Calm ok ok' w w') (hS : SigLe S S') : ∀ {d : List Df} {x : List Deferred}, DfRel ok w S d x → DfRel ok' w' S' d x
  | [], [], _ => trivial
  | _ :: _, _ :: _, h => ⟨h.1.mono hk hS, DfRel.mono hk hS h.2⟩
  | [], _ :: _, h => h.elim
  | _ :: _, [], h => h.elim

omit [Glb] in
theorem PnRel.mono {ok ok' : Nat → Prop} (hk : Calm ok ok' w w') (hS : SigLe S S') {pn : Pn} (h : PnRel ok w S b pn cs) : PnRel ok' w' S' b pn cs := by
  cases pn with
  | normal => exact h
  | dret => exact h
  | dpan v rec => obtain ⟨h1, c, r, x, h2, h3, h4⟩ := h; exact ⟨h1, c, r, x, h2, h3, h4.mono hk hS⟩

omit [Glb] in
theorem RdOk.mono {rd : Option Nat} (hS : SigLe S S') (h : RdOk rd b S) : RdOk rd b S' := by
  cases rd with
  | none => exact h
  | some l => obtain ⟨e, r, h1, h2, h3, h4, h5⟩ := h; obtain ⟨e', h', _, _, q⟩ := hS _ _ h1; obtain rfl := q h2; exact ⟨_, r, h', h2, h3, h4, h5⟩

omit [Glb] in
theorem CsTo.refl (h : PnRel (okOf base S) w S b s.pn cs) : CsTo s.pn s.pn cs cs := by
  cases hp : s.pn with
  | normal => exact .inl ⟨rfl, rfl, rfl⟩
  | dret => rw [hp] at h; obtain ⟨_, c, r, h1, h2⟩ := h; exact .inr ⟨by simp, by simp, c, r, c.mode, h1, h1⟩
  | dpan v rec => rw [hp] at h; obtain ⟨_, c, r, x, h1, h2, _⟩ := h; exact .inr ⟨by simp, by simp, c, r, c.mode, h1, h1⟩

omit [Glb] in
theorem CsTo.trans {p p' p'' : Pn} {cs'' : List Frame} (h : CsTo p p' cs cs') (h' : CsTo p' p'' cs' cs'') : CsTo p p'' cs cs'' := by
  rcases h with ⟨h1, h2, rfl⟩ | ⟨h1, h2, c, r, m, rfl, rfl⟩
  · rcases h' with ⟨_, h3, rfl⟩ | ⟨h3, _⟩
    · exact .inl ⟨h1, h3, rfl⟩
    · exact absurd h2 h3
  · rcases h' with ⟨h3, _⟩ | ⟨_, h4, c', r', m', h5, rfl⟩
    · exact absurd h3 h2
    · simp only [List.cons.injEq] at h5
      obtain ⟨rfl, rfl⟩ := h5
      exact .inr ⟨h1, h4, c, r, m', rfl, rfl⟩

omit [Glb] in
/-- One step behind another, of all blocks. -/
theorem StepR.seq {H H' : Heap} {S2 : Sig} {w2 : World} {H2 : Heap} (h : Loc w n0 S) (hdom : ∀ b, (S b).isSome → b < H.length) (x : StepR base (domS S) S w H S' w' H') (y : StepR base (domS S') S' w' H' S2 w2 H2) : StepR base (domS S) S w H S2 w2 H2 := by
  have z := StepR.trans h hdom x y
  refine ⟨⟨z.ext.os, z.ext.tape, z.ext.output, z.ext.size, z.ext.sig, fun k hk hh => z.ext.old k hk (fun b e o _ hb hro => hh b e o (by simp [domS, hb]) hb hro), z.ext.own, fun b e hb hw => z.ext.keep b e hb (hw.elim (fun hw => absurd (by simp [domS, hb]) hw) .inr)⟩,
    fun b e hb hw => ?_, z.loc, z.inj, z.dom, fun b hb hw => z.keep b hb (fun h => ?_), z.len⟩
  · exact z.blk b e hb (hw.imp (fun h => .inl h) id)
  · rcases h with h | h
    · exact hw h
    · rcases x.dom b h with h | h
      · exact hw h
      · omega

omit [Glb] in
theorem HRel.dom_lt {ok : Nat → Prop} {H : Heap} (h : HRel ok w n0 S H) : ∀ b, (S b).isSome → b < H.length := fun b hb => by
  obtain ⟨e, he⟩ := Option.isSome_iff_exists.1 hb
  exact h.lt he

omit [Glb] in
/-- A step of all blocks out of one of some. -/
theorem StepR.all {W : Nat → Prop} {H H' : Heap} (hH : HRel (okOf base S) w n0 S H) (x : StepR base W S w H S' w' H') (hW : ∀ b, W b → (S b).isSome) : StepR base (domS S) S w H S' w' H' :=
  x.widen hH.loc (fun b hb => hW b hb) (fun b hb _ _ => hH.known hb)

omit [Glb] in
theorem StepR.rfl' {H : Heap} (hH : HRel (okOf base S) w n0 S H) : StepR base (domS S) S w H S w H :=
  StepR.refl base (domS S) S w H (fun b e _ hb => hH.blk b e hb) hH.loc

omit [Glb] in
theorem Known.isSome {ok : Nat → Prop} {H : Heap} {b : Nat} (h : Known ok w S H b) : (S b).isSome := by
  obtain ⟨e, k, hb, _⟩ := h; simp [hb]

omit [Glb] in
theorem relL_put {ok : Nat → Prop} {tm : List V} (h : RelL ok w S tm a.tmps) {v : V} {x : Value} (hr : Rel ok w S v x) (dst : Option Tmp) : RelL ok w S (put tm dst v) (a.put dst x).tmps := by
  cases dst with
  | none => exact h
  | some d =>
    refine ⟨by simp [put, Act.put, h.1], fun j c hj => ?_⟩
    simp only [put, Act.put] at hj ⊢
    by_cases hd : d = j
    · subst hd
      have hlt : d < tm.length := by have := (List.getElem?_eq_some_iff.1 hj).1; simpa using this
      rw [List.getElem?_set_self hlt] at hj
      obtain rfl := Option.some.inj hj
      rw [Array.getD_eq_getD_getElem?, Array.getElem?_setIfInBounds_self_of_lt (by rw [h.1]; exact hlt)]
      exact hr
    · rw [List.getElem?_set_ne hd] at hj
      rw [Array.getD_eq_getD_getElem?, Array.getElem?_setIfInBounds_ne hd, ← Array.getD_eq_getD_getElem?]
      exact h.2 j c hj

omit [Glb] in
theorem put_defers (dst : Option Tmp) (x : Value) : (a.put dst x).defers = a.defers := by cases dst <;> rfl

omit [Glb] in
/-- What a guard says. -/
theorem want_rel {ok : Nat → Prop} {ops : Array Oper} {tm : List V} (h : RelL ok w S tm a.tmps) {v : Bool} (hw : want ops tm o = some v) : Region.wanted o (yielded ops a.tmps) = v := by
  unfold want at hw
  unfold Region.wanted
  split at hw
  · rename_i hg; rw [hg]; simpa using hw
  · rename_i j c hg
    rw [hg]
    simp only
    split at hw
    · cases hw
    · rename_i d hd
      unfold yielded
      rw [hd]
      simp only [Option.bind_some]
      have key : ∀ (u : V), tm.getD d .undef = u → u ≠ .undef → d < tm.length ∧ Rel ok w S u (a.tmps.getD d default) := fun u hu hne => by
        have hlt : d < tm.length := by
          rcases Nat.lt_or_ge d tm.length with h1 | h1
          · exact h1
          · rw [List.getD_eq_getElem?_getD, List.getElem?_eq_none h1] at hu
            exact absurd hu.symm hne
        refine ⟨hlt, h.2 d u ?_⟩
        rw [List.getD_eq_getElem?_getD, List.getElem?_eq_getElem hlt] at hu
        rw [List.getElem?_eq_getElem hlt]; simpa using hu
      split at hw
      · rename_i c' hc
        obtain rfl := Option.some.inj hw
        obtain ⟨hlt, hr⟩ := key _ hc (by simp)
        have := hr.bool_inv
        have hget : a.tmps[d]? = some (.bool c') := by
          rw [Array.getElem?_eq_getElem (by rw [h.1]; exact hlt)]
          rw [Array.getD_eq_getD_getElem?, Array.getElem?_eq_getElem (by rw [h.1]; exact hlt)] at this
          simpa using this
        rw [hget]
        simp only
        cases c' <;> cases c <;> rfl
      · rename_i hc
        obtain rfl := Option.some.inj hw
        obtain ⟨hlt, hr⟩ := key _ hc (by simp)
        cases hvv : a.tmps[d]? with
        | none => rfl
        | some y =>
          rw [Array.getD_eq_getD_getElem?, hvv] at hr
          simp only [Option.getD_some] at hr
          cases hr
          rfl
      · cases hw

theorem op_call {call : CallH} (hC : CallOk P call) {c : Call} {f : Operand} (ho : o.op = .call c) (hc : c.callee = .value f) (hH : HRel (okOf base S) w n0 S s.H) (h : RelL (okOf base S) w S s.tm a.tmps) (hb : BaseOk base w S) {args : List V} (hargs : evos s.tm c.args.toList = some args) {fv : V} (hf : evo s.tm f = some fv)
    {cr : CR} {H' : Heap} {pn' : Pn} (hcall : call .normal fv args s.H = some (cr, H', pn')) (p : At) :
    ∃ w' S' x, StepR base (domS S) S w s.H S' w' H' ∧ match cr with
      | .ret v => OpGo P p o a w x w' ∧ Rel (okOf base S') w' S' v x
      | .pan v => OpPan P p o a w x w' ∧ Rel (okOf base S') w' S' v x := by
  obtain ⟨d, nx, e, w', S', h1, h2, h3, h4, h5⟩ := hC fv args s.H cr H' pn' hcall base n0 w S (a.eval f) (c.args.map a.eval) hH (evo_rel h hf) (evos_relL h hargs) hb (p.frame a) p.cs
  have hd : ∀ c, o.op ≠ .defer c := fun c' he => by rw [ho] at he; cases he
  have hx : (execOp a.eval o).run P w = .ok nx w := by
    simp only [execOp, ho, Sem.run_bind, resolve, hc, h1, Result.andThen_ok, h2]
  cases cr with
  | ret v =>
    cases e with
    | returned y => exact ⟨w', S', y, h5, .of_call hd hx h3, h4⟩
    | panicked ch => exact h4.elim
    | outgrown => exact h4.elim
  | pan v =>
    cases e with
    | returned y => exact h4.elim
    | panicked ch => obtain ⟨y, rfl, hr⟩ := h4; exact ⟨w', S', y, h5, .of_call hd hx h3, hr⟩
    | outgrown => exact h4.elim

omit [Glb] in
theorem Res.of_steps {m m₁ : Machine} {x : X} (h : Go_ P m m₁) (r : Res P base n0 S w s b cs k m₁ x s') : Res P base n0 S w s b cs k m x s' := by
  obtain ⟨e, a', cs', w', S', h1, h2, h3, h4, h5⟩ := r
  exact ⟨e, a', cs', w', S', h1, h2, h3, h4, .of_steps h h5⟩

omit [Glb] in
/-- What was done ahead. -/
theorem Res.after {s1 : St} {cs1 : List Frame} {w1 : World} {S1 : Sig} {m : Machine} {x : X} (hH : HRel (okOf base S) w n0 S s.H) (h1 : StepR base (domS S) S w s.H S1 w1 s1.H) (hc : CsTo s.pn s1.pn cs cs1) (r : Res P base n0 S1 w1 s1 b cs1 k m x s') : Res P base n0 S w s b cs k m x s' := by
  obtain ⟨e, a', cs', w', S', q1, q2, q3, q4, q5⟩ := r
  exact ⟨e, a', cs', w', S', q1, q2, StepR.seq hH.loc hH.dom_lt h1 q3, hc.trans q4, q5⟩

omit [Glb] in
/-- The state behind an operation. -/
theorem SR.put {H' : Heap} (h : SR base n0 b a cs w S s) (x : StepR base (domS S) S w s.H S' w' H') {v : V} {y : Value} (hr : Rel (okOf base S') w' S' v y) (dst : Option Tmp) :
    SR base n0 b (a.put dst y) cs w' S' { s with tm := Ev.put s.tm dst v, H := H' } :=
  ⟨h.heap.next x, relL_put (x.ext.relL h.tm) hr dst, by rw [put_defers]; exact h.df.mono (x.ext.calm base) x.ext.sig, h.pn.mono (x.ext.calm base) x.ext.sig⟩

omit [Glb] in
theorem rel_undef {ok : Nat → Prop} : Rel ok w S (.tup []) undef := .tup rfl (fun j c hj => by simp at hj)

omit [Glb] in
theorem accOf_some {call : CallH} {r : OR} (hr : evOp E call s o = some r) (hnc : ∀ c f, o.op = .call c → c.callee ≠ .value f) : ∃ rd wr, accOf s o = some (rd, wr) := by
  cases ho : o.op with
  | call c =>
    cases hc : c.callee with
    | value f => exact absurd hc (hnc c f ho)
    | builtin b => cases b <;> simp [accOf, ho, hc]
    | invoke x y =>
      simp only [evOp, ho, hc] at hr
      split at hr <;> cases hr
  | _ => simp [accOf, ho]

omit [Glb] in
/-- Blocks that a value names are known. -/
theorem hOf_known {ok : Nat → Prop} (h : RelL ok w S s.tm a.tmps) {x : Operand} {q : Nat} (hq : q ∈ (match evo s.tm x with | some (.ptr b _ _) | some (.sl b _ _ _) | some (.map b) | some (.itr b) => [b] | _ => ([] : List Nat))) : (S q).isSome := by
  cases hv : evo s.tm x with
  | none => rw [hv] at hq; simp at hq
  | some v =>
    rw [hv] at hq
    have hr := evo_rel h hv
    cases v <;> simp only [List.mem_singleton, List.not_mem_nil] at hq <;> (subst hq; exact hr.known _ (by simp [V.refs]))

omit [Glb] in
theorem acc_known {ok : Nat → Prop} (h : RelL ok w S s.tm a.tmps) (hnc : ∀ c f, o.op = .call c → c.callee ≠ .value f) {rd wr : List Nat} (ha : accOf s o = some (rd, wr)) : ∀ q, q ∈ rd ∨ q ∈ wr → (S q).isSome := by
  have hk : ∀ {l : List Operand} {q : Nat}, q ∈ l.flatMap (fun x => match evo s.tm x with | some (.ptr b _ _) | some (.sl b _ _ _) | some (.map b) | some (.itr b) => [b] | _ => ([] : List Nat)) → (S q).isSome := fun {l q} hq => by
    obtain ⟨x, _, hx⟩ := List.mem_flatMap.1 hq
    exact hOf_known h hx
  intro q hq
  cases ho : o.op with
  | call c =>
    cases hc : c.callee with
    | value f => exact absurd hc (hnc c f ho)
    | builtin b =>
      cases b <;> simp only [accOf, ho, hc, Option.some.injEq, Prod.mk.injEq] at ha <;> obtain ⟨rfl, rfl⟩ := ha <;> rcases hq with hq | hq <;> first
        | exact hk hq
        | (simp at hq; done)
    | invoke x y => simp [accOf, ho, hc] at ha
  | load t x =>
    simp only [accOf, ho, Option.some.injEq, Prod.mk.injEq] at ha
    obtain ⟨rfl, rfl⟩ := ha
    rcases hq with hq | hq
    · exact hOf_known h hq
    · simp at hq
  | lookup t m x ok =>
    simp only [accOf, ho, Option.some.injEq, Prod.mk.injEq] at ha
    obtain ⟨rfl, rfl⟩ := ha
    rcases hq with hq | hq
    · exact hOf_known h hq
    · simp at hq
  | store t x y =>
    simp only [accOf, ho, Option.some.injEq, Prod.mk.injEq] at ha
    obtain ⟨rfl, rfl⟩ := ha
    rcases hq with hq | hq
    · simp at hq
    · exact hOf_known h hq
  | mapUpdate t m x y =>
    simp only [accOf, ho, Option.some.injEq, Prod.mk.injEq] at ha
    obtain ⟨rfl, rfl⟩ := ha
    rcases hq with hq | hq
    · simp at hq
    · exact hOf_known h hq
  | insert t m x y =>
    simp only [accOf, ho, Option.some.injEq, Prod.mk.injEq] at ha
    obtain ⟨rfl, rfl⟩ := ha
    rcases hq with hq | hq
    · simp at hq
    · exact hOf_known h hq
  | next x y =>
    simp only [accOf, ho, Option.some.injEq, Prod.mk.injEq] at ha
    obtain ⟨rfl, rfl⟩ := ha
    rcases hq with hq | hq
    · simp at hq
    · exact hOf_known h hq
  | _ =>
    simp only [accOf, ho, Option.some.injEq, Prod.mk.injEq] at ha
    obtain ⟨rfl, rfl⟩ := ha
    simp at hq

omit [Glb] in
theorem notDefer_of_value {x : Value} (h : (execOp a.eval o).run P w = .ok (.value x) w') : ∀ c, o.op ≠ .defer c := fun c hc => by
  simp only [execOp, hc, Sem.run_bind] at h
  cases hr : (resolve a.eval c o.type).run P w with
  | ok d w1 => rw [hr] at h; simp [Result.andThen] at h
  | halt e w1 => rw [hr] at h; simp [Result.andThen] at h
omit [Glb] in
theorem notDefer_of_skip (h : (execOp a.eval o).run P w = .ok .skip w') : ∀ c, o.op ≠ .defer c := fun c hc => by
  simp only [execOp, hc, Sem.run_bind] at h
  cases hr : (resolve a.eval c o.type).run P w with
  | ok d w1 => rw [hr] at h; simp [Result.andThen] at h
  | halt e w1 => rw [hr] at h; simp [Result.andThen] at h

/-- Operations one behind the other. -/
theorem ops_ok (hE : EnvOk P E) {call : CallH} (hC : CallOk P call) {ops : Array Oper} {nd : Bool} : ∀ (l : List Oper) (i : Nat) (s : St) (rs : List Rec) (x : X) (s' : St) (rs' : List Rec), evOps E call ops false nd l i s rs = some (x, s', rs') → ops.toList.drop i = l →
    ∀ (w : World) (S : Sig) (a : Act) (cs : List Frame), SR base n0 b a cs w S s → (nd = true → b.roundOf = none) → BaseOk base w S → Res P base n0 S w s b cs k (lone (b.atR a (.inRegion ops (List.range' i l.length) :: k)) cs w) x s' := by
  intro l
  induction l with
  | nil =>
    intro i s rs x s' rs' h _ w S a cs hs _ _
    simp only [evOps, Option.some.injEq, Prod.mk.injEq] at h
    obtain ⟨rfl, rfl, _⟩ := h
    exact ⟨.normal, a, cs, w, S, trivial, hs, .rfl' hs.heap, .refl hs.pn, .one trivial stepR_region_end⟩
  | cons o r ih =>
    intro i s rs x s' rs' h hdrop w S a cs hs hro hb
    have hio : ops[i]? = some o := by
      have : (ops.toList.drop i)[0]? = some o := by rw [hdrop]; rfl
      rw [List.getElem?_drop] at this
      simpa using this
    have hdrop' : ops.toList.drop (i + 1) = r := by rw [← List.drop_drop, hdrop]; rfl
    have hrange : List.range' i (o :: r).length = i :: List.range' (i + 1) r.length := by simp [List.range'_succ]
    rw [hrange]
    simp only [evOps] at h
    split at h
    · cases h
    · rename_i hw
      have hw' := want_rel hs.tm hw
      have hs1 : SR base n0 b (a.put o.dst undef) cs w S { s with tm := put s.tm o.dst (.tup []) } := by
        have := hs.put (.rfl' hs.heap) (v := .tup []) (y := undef) rel_undef o.dst
        exact this
      refine Res.of_steps (.one trivial (stepR_op_skip (by simp [hio, hw']))) ?_
      rw [hio, Option.bind_some]
      have := ih (i + 1) _ rs x s' rs' h hdrop' w S _ cs hs1 hro hb
      exact Res.after (s := s) hs.heap (.rfl' hs.heap) (.refl hs.pn) this
    · rename_i hw
      have hw' := want_rel hs.tm hw
      -- how it goes on
      have next : ∀ {v : V} {H1 : Heap} {w1 : World} {S1 : Sig} {y : Value} {rs1 : List Rec}, OpGo P ⟨b, k, cs, ops, i, List.range' (i + 1) r.length⟩ o a w y w1 → Rel (okOf base S1) w1 S1 v y → StepR base (domS S) S w s.H S1 w1 H1 →
          evOps E call ops false nd r (i + 1) { s with tm := put s.tm o.dst v, H := H1 } rs1 = some (x, s', rs') → Res P base n0 S w s b cs k (lone (b.atR a (.inRegion ops (i :: List.range' (i + 1) r.length) :: k)) cs w) x s' := fun {v H1 w1 S1 y rs1} hgo hrel hstep hev => by
        have := ih (i + 1) _ rs1 x s' rs' hev hdrop' w1 S1 _ cs (hs.put hstep hrel o.dst) hro (hb.next hstep)
        exact Res.of_steps (hgo hio hw') (Res.after (s := s) (s1 := { s with tm := put s.tm o.dst v, H := H1 }) hs.heap hstep (.refl hs.pn) this)
      have stop : ∀ {v : V} {H1 : Heap} {w1 : World} {S1 : Sig} {y : Value}, OpPan P ⟨b, k, cs, ops, i, List.range' (i + 1) r.length⟩ o a w y w1 → Rel (okOf base S1) w1 S1 v y → StepR base (domS S) S w s.H S1 w1 H1 → x = .pan v → s' = { s with H := H1 } →
          Res P base n0 S w s b cs k (lone (b.atR a (.inRegion ops (i :: List.range' (i + 1) r.length) :: k)) cs w) x s' := fun {v H1 w1 S1 y} hgo hrel hstep hx hs' => by
        subst hx hs'
        obtain ⟨todo, hst⟩ := hgo hio hw'
        exact ⟨.panic _, a, cs, w1, S1, ⟨y, rfl, hrel⟩, ⟨hs.heap.next hstep, hstep.ext.relL hs.tm, hs.df.mono (hstep.ext.calm base) hstep.ext.sig, hs.pn.mono (hstep.ext.calm base) hstep.ext.sig⟩, hstep, .refl hs.pn, todo, hst⟩
      by_cases hcall : ∃ c f, o.op = .call c ∧ c.callee = .value f
      · obtain ⟨c, f, ho, hc⟩ := hcall
        have hev : ∃ args fv cr H1 pn1, evos s.tm c.args.toList = some args ∧ evo s.tm f = some fv ∧ call .normal fv args s.H = some (cr, H1, pn1) ∧ evOp E call s o = (match cr with | .ret v => some (.val v H1) | .pan v => some (.pan v H1)) := by
          cases hargs : evos s.tm c.args.toList with
          | none => simp [evOp, ho, hargs] at h
          | some args =>
            cases hf : evo s.tm f with
            | none => simp [evOp, ho, hargs, hc, hf] at h
            | some fv =>
              cases hcl : call .normal fv args s.H with
              | none => simp [evOp, ho, hargs, hc, hf, hcl] at h
              | some p =>
                obtain ⟨cr, H1, pn1⟩ := p
                refine ⟨args, fv, cr, H1, pn1, rfl, rfl, hcl, ?_⟩
                cases cr <;> simp [evOp, ho, hargs, hc, hf, hcl]
        obtain ⟨args, fv, cr, H1, pn1, hargs, hf, hcl, hev⟩ := hev
        rw [hev] at h
        obtain ⟨w1, S1, y, hstep, hres⟩ := op_call hC ho hc hs.heap hs.tm hb hargs hf hcl ⟨b, k, cs, ops, i, List.range' (i + 1) r.length⟩
        cases cr with
        | ret v => exact next hres.1 hres.2 hstep h
        | pan v =>
          simp only [Bool.false_eq_true, if_false, Option.some.injEq, Prod.mk.injEq] at h
          exact stop hres.1 hres.2 hstep h.1.symm h.2.1.symm
      · have hnc : ∀ c f, o.op = .call c → c.callee ≠ .value f := fun c f h1 h2 => hcall ⟨c, f, h1, h2⟩
        cases hop : evOp E call s o with
        | none => rw [hop] at h; cases h
        | some res =>
          rw [hop] at h
          obtain ⟨rdl, wrl, ha⟩ := accOf_some hop hnc
          have hkn := acc_known hs.tm hnc ha
          have hpl := op_plain hE hop hnc ha hs.heap.loc (fun q hq => hs.heap.none_len hq) hs.tm (fun q hq => hs.heap.known (hkn q (.inl hq))) (fun q hq => hs.heap.known (hkn q (.inr hq)))
          cases res with
          | val v H1 =>
            obtain ⟨y, w1, S1, h1, h2, h3⟩ := hpl
            exact next (.of_value (notDefer_of_value h1) h1) h2 (h3.all hs.heap (fun q hq => hkn q (.inr hq))) h
          | skip H1 =>
            obtain ⟨w1, S1, h1, h3⟩ := hpl
            exact next (.of_skip (notDefer_of_skip h1) h1) rel_undef (h3.all hs.heap (fun q hq => hkn q (.inr hq))) h
          | pan v H1 =>
            obtain ⟨rfl, y, h1, h2⟩ := hpl
            simp only [Bool.false_eq_true, if_false, Option.some.injEq, Prod.mk.injEq] at h
            refine stop (.of_panic (fun c hc => ?_) h1) h2 (.rfl' hs.heap) h.1.symm h.2.1.symm
            simp only [evOp, hc] at hop
            split at hop
            · split at hop <;> cases hop
            · cases hop
          | dfr d H1 =>
            obtain ⟨rfl, dd, h1, h2⟩ := hpl
            simp only [Bool.false_or] at h
            split at h
            · cases h
            · rename_i hnd
              have hro' : b.roundOf = none := hro (by simpa using hnd)
              have hg := stepGR_op (P := P) (b := b) (k := k) (cs := cs) (w := w) (rest := List.range' (i + 1) r.length) hio hw'
              rw [hro', Oper.semAt_none] at hg
              have hs1 : SR base n0 b ({ a with defers := dd :: a.defers }.put o.dst undef) cs w S { s with tm := put s.tm o.dst (.tup []), df := d :: s.df } :=
                ⟨hs.heap, relL_put (a := { a with defers := dd :: a.defers }) hs.tm rel_undef o.dst, by rw [put_defers]; exact ⟨h2, hs.df⟩, hs.pn⟩
              have := ih (i + 1) _ rs x s' rs' h hdrop' w S _ cs hs1 hro hb
              refine Res.of_steps (.one trivial (step_lone_go ?_)) (Res.after (s := s) hs.heap (.rfl' hs.heap) (.refl hs.pn) this)
              have e1 : ({ b.atR a (.inRegion ops (i :: List.range' (i + 1) r.length) :: k) with defers := dd :: a.defers } : Frame).finish undef =
                  b.atR ({ a with defers := dd :: a.defers }.put o.dst undef) (.inRegion ops (List.range' (i + 1) r.length) :: k) := by
                have := Frame.finish_atR b { a with defers := dd :: a.defers } ops i (List.range' (i + 1) r.length) k undef
                rw [hio] at this; exact this
              rw [hg]; simp only [stepG.apply, Sem.runT_eq, h1, GStep.bare_after]
              exact congrArg (fun fr => GStep.go { frame := fr, callers := cs, status := .running, dying := none } w) e1
          | rcv v pn1 H1 =>
            obtain ⟨rfl, h1, h2⟩ := hpl
            simp only [Bool.false_eq_true, if_false] at h
            have hpn := hs.pn
            have hd : (b.kind = .deferred ∧ b.roundOf = none) ∧ ∃ y cs1, Rel (okOf base S) w S v y ∧ PnRel (okOf base S) w S b pn1 cs1 ∧ CsTo s.pn pn1 cs cs1 ∧ ((recoverD cs = some (y, cs1)) ∨ (recoverD cs = none ∧ y = .nilIface ∧ cs1 = cs)) := by
              rcases h2 with ⟨e1, e2⟩ | ⟨e1, e2, e3⟩ | ⟨u, e1, e2, e3⟩
              · rw [e1] at hpn
                obtain ⟨hkd, c, r', y, hcs, hm, hr⟩ := hpn
                subst hcs e2
                refine ⟨hkd, y, { c with mode := .panicking [{ v := y, recovered := true }] } :: r', hr, ⟨hkd, _, _, y, rfl, rfl, hr⟩, .inr ⟨by rw [e1]; simp, by simp, c, r', _, rfl, rfl⟩, .inl ?_⟩
                simp [recoverD, hm]
              · rw [e1] at hpn
                obtain ⟨hkd, c, r', hcs, hm⟩ := hpn
                subst hcs e2 e3
                exact ⟨hkd, .nilIface, c :: r', .nili, ⟨hkd, c, r', rfl, hm⟩, .inr ⟨by rw [e1]; simp, by simp, c, r', c.mode, rfl, rfl⟩, .inr ⟨by simp [recoverD, hm], rfl, rfl⟩⟩
              · have hpn0 := hpn
                rw [e1] at hpn
                obtain ⟨hkd, c, r', y, hcs, hm, hr⟩ := hpn
                subst hcs e3
                exact ⟨hkd, .nilIface, c :: r', .nili, by rw [e2]; exact hpn0, .inr ⟨by rw [e1]; simp, by rw [e2, e1]; simp, c, r', c.mode, rfl, rfl⟩, .inr ⟨by simp [recoverD, hm], rfl, rfl⟩⟩
            obtain ⟨⟨hkd, hro'⟩, y, cs1, hr, hpn1, hcs, hrec⟩ := hd
            have hg := stepGR_op (P := P) (b := b) (k := k) (cs := cs) (w := w) (rest := List.range' (i + 1) r.length) hio hw'
            rw [hro', Oper.semAt_none] at hg
            have hfin : ∀ v, (b.atR a (.inRegion ops (i :: List.range' (i + 1) r.length) :: k)).finish v = b.atR (a.put o.dst v) (.inRegion ops (List.range' (i + 1) r.length) :: k) := by
              intro v; rw [Frame.finish_atR, hio]; rfl
            have htr := tryRecover_deferred (fr := b.atR a (.inRegion ops (i :: List.range' (i + 1) r.length) :: k)) hkd cs
            have hs1 : SR base n0 b (a.put o.dst y) cs1 w S { s with tm := put s.tm o.dst v, pn := pn1 } :=
              ⟨hs.heap, relL_put hs.tm hr o.dst, by rw [put_defers]; exact hs.df, hpn1⟩
            have := ih (i + 1) _ rs x s' rs' h hdrop' w S _ cs1 hs1 hro hb
            refine Res.of_steps (.one trivial (step_lone_go ?_)) (Res.after (s := s) (s1 := { s with tm := put s.tm o.dst v, pn := pn1 }) hs.heap (.rfl' hs.heap) hcs this)
            rw [hg, ← hfin]
            rcases hrec with hrec | ⟨hrec, rfl, rfl⟩
            · simp only [Frame.atR, hro'] at htr ⊢
              simp [stepG.apply, h1, htr, hrec]
            · simp only [Frame.atR, hro'] at htr ⊢
              simp [stepG.apply, h1, htr, hrec]
end
end Go.Ev
