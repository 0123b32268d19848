/- The machine's steps; what is restricted to a part of the blocks. -/
import Derived.Test.YtdbpldkemkphiaaGreatDoorEvU
import Derived.RangeFuncIn
import Derived.RecoverIn
import Derived.OrdersIn
namespace Go.Ev
variable [Glb]
open Go.RowKit Go.MapKept

/-- Steps of the machine, whatever they are. -/
abbrev Go_ (P : Program) := StepsIn (fun _ => True) P

/-- Where an operation stands. -/
structure At where
  b : Frame
  k : List Item
  cs : List Frame
  ops : Array Oper
  i : Nat
  rest : List Nat

def At.frame (p : At) (a : Act) : Frame := p.b.atR a (.inRegion p.ops (p.i :: p.rest) :: p.k)

def OpGo (P : Program) (p : At) (o : Oper) (a : Act) (w : World) (x : Value) (w' : World) : Prop :=
  p.ops[p.i]? = some o → Region.wanted o (yielded p.ops a.tmps) = true →
    Go_ P (lone (p.frame a) p.cs w) (lone (p.b.atR (a.put o.dst x) (.inRegion p.ops p.rest :: p.k)) p.cs w')

def OpPan (P : Program) (p : At) (o : Oper) (a : Act) (w : World) (x : Value) (w' : World) : Prop :=
  p.ops[p.i]? = some o → Region.wanted o (yielded p.ops a.tmps) = true →
    ∃ todo, Go_ P (lone (p.frame a) p.cs w) (lone { p.b.atR a todo with mode := .panicking [{ v := x, recovered := false }] } p.cs w')

section
variable {P : Program} {p : At} {o : Oper} {a : Act} {w w' : World} {x : Value}

omit [Glb] in
theorem OpGo.of_value (hd : ∀ c, o.op ≠ .defer c) (h : (execOp a.eval o).run P w = .ok (.value x) w') : OpGo P p o a w x w' := fun ho hw => by
  obtain ⟨b, k, cs, ops, i, rest⟩ := p
  dsimp only [At.frame] at ho hw ⊢
  have hg := stepGR_op (P := P) (b := b) (k := k) (cs := cs) (w := w) (rest := rest) ho hw
  rw [Oper.semAt_eq _ _ _ hd] at hg
  have hfin : ∀ v, (b.atR a (.inRegion ops (i :: rest) :: k)).finish v = b.atR (a.put o.dst v) (.inRegion ops rest :: k) := by
    intro v; rw [Frame.finish_atR, ho]; rfl
  refine .one trivial (step_lone_go ?_)
  rw [hg, ← hfin]; simp [stepG.apply, h]

omit [Glb] in
theorem OpGo.of_skip (hd : ∀ c, o.op ≠ .defer c) (h : (execOp a.eval o).run P w = .ok .skip w') : OpGo P p o a w undef w' := fun ho hw => by
  obtain ⟨b, k, cs, ops, i, rest⟩ := p
  dsimp only [At.frame] at ho hw ⊢
  have hg := stepGR_op (P := P) (b := b) (k := k) (cs := cs) (w := w) (rest := rest) ho hw
  rw [Oper.semAt_eq _ _ _ hd] at hg
  have hfin : ∀ v, (b.atR a (.inRegion ops (i :: rest) :: k)).finish v = b.atR (a.put o.dst v) (.inRegion ops rest :: k) := by
    intro v; rw [Frame.finish_atR, ho]; rfl
  refine .one trivial (step_lone_go ?_)
  rw [hg, ← hfin]; simp [stepG.apply, h]

omit [Glb] in
theorem OpPan.of_panic (hd : ∀ c, o.op ≠ .defer c) (h : (execOp a.eval o).run P w = .halt (.panic x) w') : OpPan P p o a w x w' := fun ho hw => by
  obtain ⟨b, k, cs, ops, i, rest⟩ := p
  dsimp only [At.frame] at ho hw ⊢
  have hg := stepGR_op (P := P) (b := b) (k := k) (cs := cs) (w := w) (rest := rest) ho hw
  rw [Oper.semAt_eq _ _ _ hd] at hg
  refine ⟨.inRegion ops (i :: rest) :: k, .one trivial (step_lone_go ?_)⟩
  rw [hg, ← Frame.raise_atR]; simp [stepG.apply, h]

/-- A frame of a call. -/
def nxFrame (P : Program) : Next → Option Frame
  | .enter f args => some (Frame.enter P f args .normal)
  | .round l f t a b => some (Frame.round l f t a b .normal)
  | _ => none

def EndAt (c : Frame) (cs : List Frame) (w' : World) : Ending → Machine
  | .returned y => lone (c.finish y) cs w'
  | .panicked ch => lone (c.raise ch) cs w'
  | .outgrown => lone c cs w'

def Runs (P : Program) (nx : Next) (w : World) (e : Ending) (w' : World) (c : Frame) (cs : List Frame) : Prop :=
  ∃ fr, nxFrame P nx = some fr ∧ Go_ P (lone fr (c :: cs) w) (EndAt c cs w' e)

omit [Glb] in
theorem OpGo.of_call {nx : Next} (hd : ∀ c, o.op ≠ .defer c) (h : (execOp a.eval o).run P w = .ok nx w) (hr : Runs P nx w (.returned x) w' (p.frame a) p.cs) : OpGo P p o a w x w' := fun ho hw => by
  obtain ⟨b, k, cs, ops, i, rest⟩ := p
  dsimp only [At.frame] at ho hw ⊢
  have hg := stepGR_op (P := P) (b := b) (k := k) (cs := cs) (w := w) (rest := rest) ho hw
  rw [Oper.semAt_eq _ _ _ hd] at hg
  have hfin : ∀ v, (b.atR a (.inRegion ops (i :: rest) :: k)).finish v = b.atR (a.put o.dst v) (.inRegion ops rest :: k) := by
    intro v; rw [Frame.finish_atR, ho]; rfl
  obtain ⟨fr, hfr, hs⟩ := hr
  have this := hs
  dsimp only [At.frame] at this
  simp only [EndAt, hfin] at this
  refine .head trivial (step_lone_go ?_) this
  rw [hg]
  cases nx <;> simp only [nxFrame, Option.some.injEq, reduceCtorEq] at hfr
  · subst hfr; simp [stepG.apply, h, Frame.atR]
  · subst hfr; simp [stepG.apply, h, Frame.atR]

omit [Glb] in
theorem OpPan.of_call {nx : Next} (hd : ∀ c, o.op ≠ .defer c) (h : (execOp a.eval o).run P w = .ok nx w) (hr : Runs P nx w (.panicked [{ v := x, recovered := false }]) w' (p.frame a) p.cs) : OpPan P p o a w x w' := fun ho hw => by
  obtain ⟨b, k, cs, ops, i, rest⟩ := p
  dsimp only [At.frame] at ho hw ⊢
  have hg := stepGR_op (P := P) (b := b) (k := k) (cs := cs) (w := w) (rest := rest) ho hw
  rw [Oper.semAt_eq _ _ _ hd] at hg
  obtain ⟨fr, hfr, hs⟩ := hr
  have this := hs
  dsimp only [At.frame] at this
  simp only [EndAt, Frame.raise_atR] at this
  refine ⟨.inRegion ops (i :: rest) :: k, .head trivial (step_lone_go ?_) this⟩
  rw [hg]
  cases nx <;> simp only [nxFrame, Option.some.injEq, reduceCtorEq] at hfr
  · subst hfr; simp [stepG.apply, h, Frame.atR]
  · subst hfr; simp [stepG.apply, h, Frame.atR]
end

/-! ### calls -/
def CrRel (ok : Nat → Prop) (w : World) (S : Sig) : CR → Ending → Prop
  | .ret v, .returned y => Rel ok w S v y
  | .pan v, .panicked ch => ∃ y, ch = [{ v := y, recovered := false }] ∧ Rel ok w S v y
  | _, _ => False

structure BaseOk (base : Nat → Prop) (w : World) (S : Sig) : Prop where
  new : ∀ k, w.heap.size ≤ k → base k
  loc : ∀ b e r o, S b = some e → e.loc = some (r, o) → base r
  glob : GlobOk w
  gloc : ∀ g ∈ Glb.bs, ∀ b e o, S b = some e → e.loc ≠ some (g, o)

abbrev domS (S : Sig) : Nat → Prop := fun b => (S b).isSome

def CallOk (P : Program) (call : CallH) : Prop :=
  ∀ fv args H cr H' pn', call .normal fv args H = some (cr, H', pn') → ∀ (base : Nat → Prop) (n0 : Nat) (w : World) (S : Sig) (x : Value) (vargs : Array Value),
    HRel (okOf base S) w n0 S H → Rel (okOf base S) w S fv x → RelL (okOf base S) w S args vargs → BaseOk base w S → ∀ (c : Frame) (cs : List Frame),
    ∃ d nx e w' S', (Deferred.ofValue x vargs).run P w = .ok d w ∧ (invoke d.target d.args).run P w = .ok nx w ∧ Runs P nx w e w' c cs ∧ CrRel (okOf base S') w' S' cr e ∧ StepR base (domS S) S w H S' w' H'

section
variable {P : Program} {E : Env} {base : Nat → Prop} {n0 : Nat} {w : World} {S : Sig} {s : St} {a : Act} {o : Oper}

omit [Glb] in
theorem glob_lt {w : World} {g : Nat} {v : Value} (h : w.cell? ⟨g, 0, none⟩ = some v) : g < w.heap.size := by
  simp only [World.cell?] at h
  cases hh : w.heap[g]? with
  | none => simp [hh] at h
  | some x => exact (Array.getElem?_eq_some_iff.1 hh).1

theorem BaseOk.next {W : Nat → Prop} {S' : Sig} {w' : World} {H H' : Heap} (h : BaseOk base w S) (x : StepR base W S w H S' w' H') : BaseOk base w' S' :=
  ⟨fun k hk => h.new k (Nat.le_trans x.ext.size hk), fun b e r o hb hl => by
    rcases x.loc b e r o hb hl with ⟨e0, o0, h0, hl0, _⟩ | hr
    · exact h.loc b e0 r o0 h0 hl0
    · exact h.new r hr.1,
   fun g hg => by
    obtain ⟨m, hm⟩ := h.glob g hg
    exact ⟨m, by rw [World.cell?_of_block (w := w) (x.ext.old g (glob_lt hm) (fun b e o _ hb _ => h.gloc g hg b e o hb))]; exact hm⟩,
   fun g hg b e o hb hl => by
    obtain ⟨m, hm⟩ := h.glob g hg
    rcases x.loc b e g o hb hl with ⟨e0, o0, h0, hl0, _⟩ | hr
    · exact h.gloc g hg b e0 o0 h0 hl0
    · exact absurd (glob_lt hm) (by omega)⟩

/-! ### a part of the blocks -/
def Sig.only (S : Sig) (L : Nat → Prop) [DecidablePred L] : Sig := fun b => if L b then S b else none
def Sig.butL (S : Sig) (L : Nat → Prop) [DecidablePred L] : Sig := fun b => if L b then none else S b
def Sig.join (S' S : Sig) : Sig := fun b => match S' b with | some e => some e | none => S b

variable {L : Nat → Prop} [DecidablePred L]

omit [Glb] in
theorem Sig.only_some {b : Nat} {e : Ent} : S.only L b = some e ↔ L b ∧ S b = some e := by
  unfold Sig.only; split <;> simp [*]
omit [Glb] in
theorem Sig.butL_some {b : Nat} {e : Ent} : S.butL L b = some e ↔ ¬ L b ∧ S b = some e := by
  unfold Sig.butL; split <;> simp [*]

def baseBut (base : Nat → Prop) (S : Sig) (L : Nat → Prop) [DecidablePred L] (k : Nat) : Prop := base k ∧ ¬ own (S.butL L) k

omit [Glb] in
theorem own_split {k : Nat} : own S k ↔ own (S.only L) k ∨ own (S.butL L) k := by
  constructor
  · rintro ⟨b, e, o, hb, hro, hl⟩
    by_cases hL : L b
    · exact .inl ⟨b, e, o, Sig.only_some.2 ⟨hL, hb⟩, hro, hl⟩
    · exact .inr ⟨b, e, o, Sig.butL_some.2 ⟨hL, hb⟩, hro, hl⟩
  · rintro (⟨b, e, o, hb, hro, hl⟩ | ⟨b, e, o, hb, hro, hl⟩)
    · exact ⟨b, e, o, (Sig.only_some.1 hb).2, hro, hl⟩
    · exact ⟨b, e, o, (Sig.butL_some.1 hb).2, hro, hl⟩

omit [Glb] in
theorem okOf_only (k : Nat) : okOf (baseBut base S L) (S.only L) k ↔ okOf base S k := by
  unfold okOf baseBut
  rw [own_split (L := L) (S := S)]
  constructor
  · rintro ⟨⟨h1, h2⟩, h3⟩; exact ⟨h1, fun h => h.elim h3 h2⟩
  · rintro ⟨h1, h2⟩; exact ⟨⟨h1, fun h => h2 (.inr h)⟩, fun h => h2 (.inl h)⟩

omit [Glb] in
theorem Loc.only (h : Loc w n0 S) : Loc w n0 (S.only L) :=
  ⟨fun b b' e e' r o o' hb hb' hl hl' => h.inj b b' e e' r o o' (Sig.only_some.1 hb).2 (Sig.only_some.1 hb').2 hl hl', fun b e r o hb hl => h.new b e r o (Sig.only_some.1 hb).2 hl, h.n0⟩

theorem BaseOk.only (hl : Loc w n0 S) (h : BaseOk base w S) : BaseOk (baseBut base S L) w (S.only L) :=
  ⟨fun k hk => ⟨h.new k hk, fun ⟨b, e, o, hb, hro, hloc⟩ => by have := (hl.new b e k o (Sig.butL_some.1 hb).2 hloc).2; omega⟩,
   fun b e r o hb hloc => ⟨h.loc b e r o (Sig.only_some.1 hb).2 hloc, fun ⟨b', e', o', hb', hro, hloc'⟩ => by
    have := hl.inj b b' e e' r o o' (Sig.only_some.1 hb).2 (Sig.butL_some.1 hb').2 hloc hloc'
    subst this
    exact (Sig.butL_some.1 hb').1 (Sig.only_some.1 hb).1⟩, h.glob, fun g hg b e o hb hl => h.gloc g hg b e o (Sig.only_some.1 hb).2 hl⟩

omit [Glb] in
theorem Rel.only {v : V} {x : Value} (h : Rel (okOf base S) w S v x) (hL : ∀ b ∈ v.refs, L b) : Rel (okOf (baseBut base S L) (S.only L)) w (S.only L) v x :=
  (h.mono (ok' := okOf (baseBut base S L) (S.only L)) (w' := w) (fun k _ hk => ⟨(okOf_only k).2 hk, rfl⟩) (SigLe.refl _)).move (fun b hb => by simp [Sig.only, hL b hb])

omit [Glb] in
theorem frame_rule (hl : Loc w n0 S) {H H' : Heap} {W : Nat → Prop} (hW : ∀ b, W b → L b) (hfree : ∀ b, H.length ≤ b → b < H'.length → S b = none) {S0' : Sig} {w' : World}
    (x : StepR (baseBut base S L) W (S.only L) w H S0' w' H') :
    StepR base W S w H (S0'.join S) w' H' ∧ (∀ {v : V} {y : Value}, Rel (okOf (baseBut base S L) S0') w' S0' v y → Rel (okOf base (S0'.join S)) w' (S0'.join S) v y) := by
  have hout : ∀ {b : Nat} {e : Ent}, S b = some e → ¬ L b → S0' b = none := fun {b e} hb hL => by
    cases h0 : S0' b with
    | none => rfl
    | some e0 =>
      rcases x.dom b (by simp [h0]) with h1 | h1
      · obtain ⟨e1, h1⟩ := Option.isSome_iff_exists.1 h1
        exact absurd (Sig.only_some.1 h1).1 hL
      · rw [hfree b h1.1 h1.2] at hb; cases hb
  have hin : ∀ {b : Nat} {e : Ent}, S b = some e → L b → ∃ e', S0' b = some e' := fun {b e} hb hL => by
    obtain ⟨e', h1, _⟩ := x.ext.sig b e (Sig.only_some.2 ⟨hL, hb⟩)
    exact ⟨e', h1⟩
  have hj : ∀ {b : Nat} {e : Ent}, S0'.join S b = some e → S0' b = some e ∨ (S0' b = none ∧ S b = some e ∧ ¬ L b) := fun {b e} hb => by
    unfold Sig.join at hb
    split at hb
    · exact .inl (by rw [‹S0' b = _›]; exact hb)
    · rename_i h0
      refine .inr ⟨h0, hb, fun hL => ?_⟩
      obtain ⟨e', h1⟩ := hin hb hL
      rw [h0] at h1; cases h1
  have hj1 : ∀ {b : Nat} {e : Ent}, S0' b = some e → S0'.join S b = some e := fun {b e} hb => by unfold Sig.join; rw [hb]
  have hj2 : ∀ {b : Nat} {e : Ent}, S b = some e → ¬ L b → S0'.join S b = some e := fun {b e} hb hL => by unfold Sig.join; rw [hout hb hL]; exact hb
  have hown : ∀ {k : Nat}, own (S0'.join S) k → own S0' k ∨ own (S.butL L) k := fun {k} ⟨b, e, o, hb, hro, hloc⟩ => by
    rcases hj hb with h1 | ⟨_, h1, h2⟩
    · exact .inl ⟨b, e, o, h1, hro, hloc⟩
    · exact .inr ⟨b, e, o, Sig.butL_some.2 ⟨h2, h1⟩, hro, hloc⟩
  have hok : ∀ k, okOf (baseBut base S L) S0' k → okOf base (S0'.join S) k := fun k ⟨⟨h1, h2⟩, h3⟩ => ⟨h1, fun h => (hown h).elim h3 h2⟩
  have hsig : SigLe S0' (S0'.join S) := fun b e hb => ⟨e, hj1 hb, Nat.le_refl _, fun _ => ⟨rfl, rfl, rfl⟩, fun _ => rfl⟩
  have hcalm : Calm (okOf (baseBut base S L) S0') (okOf base (S0'.join S)) w' w' := fun k _ hk => ⟨hok k hk, rfl⟩
  refine ⟨⟨⟨x.ext.os, x.ext.tape, x.ext.output, x.ext.size, fun b e hb => ?_, fun k hk h => ?_, fun k hk => ?_, fun b e hb hw => ?_⟩, fun b e hb hw => ?_, fun b e r o hb hloc => ?_, fun b b' e e' r o o' hb hb' hloc hloc' hr => ?_, fun b hb => ?_, x.keep, x.len⟩,
    fun hr => hr.mono hcalm hsig⟩
  · by_cases hL : L b
    · obtain ⟨e', h1, h2, h3, h4⟩ := x.ext.sig b e (Sig.only_some.2 ⟨hL, hb⟩)
      exact ⟨e', hj1 h1, h2, h3, h4⟩
    · exact ⟨e, hj2 hb hL, Nat.le_refl _, fun _ => ⟨rfl, rfl, rfl⟩, fun _ => rfl⟩
  · exact x.ext.old k hk (fun b e o hWb hb hro => h b e o hWb (Sig.only_some.1 hb).2 hro)
  · rcases hown hk with hk | ⟨b, e, o, hb, hro, hloc⟩
    · rcases x.ext.own k hk with ⟨b, e, o, hb, hro, hloc⟩ | hk
      · exact .inl ⟨b, e, o, (Sig.only_some.1 hb).2, hro, hloc⟩
      · exact .inr hk
    · exact .inl ⟨b, e, o, (Sig.butL_some.1 hb).2, hro, hloc⟩
  · by_cases hL : L b
    · exact hj1 (x.ext.keep b e (Sig.only_some.2 ⟨hL, hb⟩) hw)
    · exact hj2 hb hL
  · have h0 : S0' b = some e := by
      rcases hj hb with h1 | ⟨_, h1, h2⟩
      · exact h1
      · rcases hw with hw | hw
        · exact absurd (hW b hw) h2
        · rw [hw] at h1; cases h1
    obtain ⟨k, hk, hB⟩ := x.blk b e h0 (hw.imp id (fun h => by unfold Sig.only; split <;> simp [h]))
    exact ⟨k, hk, hB.mono hcalm hsig (fun _ _ _ => rfl)⟩
  · rcases hj hb with h1 | ⟨_, h1, _⟩
    · rcases x.loc b e r o h1 hloc with ⟨e0, o0, h2, h3, h4⟩ | h2
      · exact .inl ⟨e0, o0, (Sig.only_some.1 h2).2, h3, h4⟩
      · exact .inr h2
    · exact .inl ⟨e, o, h1, hloc, id⟩
  · have q : ∀ {b : Nat} {e : Ent} {o : Nat}, S0'.join S b = some e → e.loc = some (r, o) → S0' b = some e := fun {b e o} hb hl1 => by
      rcases hj hb with h1 | ⟨_, h1, _⟩
      · exact h1
      · have := (hl.new b e r o h1 hl1).2; omega
    exact x.inj b b' e e' r o o' (q hb hloc) (q hb' hloc') hloc hloc' hr
  · obtain ⟨e, he⟩ := Option.isSome_iff_exists.1 hb
    rcases hj he with h1 | ⟨_, h1, _⟩
    · rcases x.dom b (by simp [h1]) with h2 | h2
      · obtain ⟨e2, h2⟩ := Option.isSome_iff_exists.1 h2
        exact .inl (by simp [(Sig.only_some.1 h2).2])
      · exact .inr h2
    · exact .inl (by simp [h1])
end
end Go.Ev
