/- Regions whose order is drawn: what is ahead of what; one operation on its own blocks. -/
import Derived.Test.YtdbpldkemkphiaaGreatDoorEvW
namespace Go.Ev
variable [Glb]
open Go.RowKit Go.MapKept

/-! ### the order -/
omit [Glb] in
theorem testBit_fold (c : Edge → Bool) (g : Edge → Nat) : ∀ (l : List Edge) (s0 i : Nat), (l.foldl (fun s e => if c e then s ||| 2 ^ e.on ||| g e else s) s0).testBit i = true → s0.testBit i = true ∨ ∃ e ∈ l, c e = true ∧ (i = e.on ∨ (g e).testBit i = true)
  | [], s0, i, h => .inl h
  | e :: l, s0, i, h => by
    rcases testBit_fold c g l _ i h with h1 | ⟨e', h1, h2, h3⟩
    · have h1 : (if c e = true then s0 ||| 2 ^ e.on ||| g e else s0).testBit i = true := h1
      split at h1
      · rename_i hc
        simp only [Nat.testBit_or, Bool.or_eq_true] at h1
        rcases h1 with (h1 | h1) | h1
        · exact .inl h1
        · rw [Nat.testBit_two_pow] at h1
          exact .inr ⟨e, List.mem_cons_self .., hc, .inl (by have h2 := h1; simp at h2; exact h2.symm)⟩
        · exact .inr ⟨e, List.mem_cons_self .., hc, .inr h1⟩
      · exact .inl h1
    · exact .inr ⟨e', List.mem_cons_of_mem _ h1, h2, h3⟩

/-- What is done ahead of what is done. -/
def Closed (ops : Array Oper) (D : Nat → Prop) : Prop := ∀ j o, D j → ops[j]? = some o → ∀ e ∈ o.after, Region.binds .any e = true → D e.on

omit [Glb] in
theorem before_closed {ops : Array Oper} {D : Nat → Prop} (hD : Closed ops D) : ∀ j, D j → ∀ i, ((Region.before ops).getD j 0).testBit i = true → D i := by
  have key : ∀ (l : List Oper) (acc : Array Nat), (∀ q, ops.toList.drop acc.size = q → q = l) → (∀ j, D j → ∀ i, (acc.getD j 0).testBit i = true → D i) →
      ∀ j, D j → ∀ i, ((l.foldl (fun acc o => acc.push (o.after.foldl (fun s e => if Region.binds .any e then s ||| 2 ^ e.on ||| acc.getD e.on 0 else s) 0)) acc).getD j 0).testBit i = true → D i := by
    intro l
    induction l with
    | nil => intro acc _ h; exact h
    | cons o l ih =>
      intro acc hdrop h
      have hd := hdrop _ rfl
      have hio : ops[acc.size]? = some o := by
        have : (ops.toList.drop acc.size)[0]? = some o := by rw [hd]; rfl
        rw [List.getElem?_drop] at this
        simpa using this
      refine ih _ (fun q hq => ?_) (fun j hj i hi => ?_)
      · rw [← hq, Array.size_push, ← List.drop_drop, hd]; rfl
      · rw [Array.getD_eq_getD_getElem?, Array.getElem?_push] at hi
        split at hi
        · rename_i hjs
          subst hjs
          simp only [Option.getD_some] at hi
          rw [← Array.foldl_toList] at hi
          rcases testBit_fold _ _ _ _ _ hi with h1 | ⟨e, he, hc, h1⟩
          · simp at h1
          · have hde := hD _ o hj hio e (by simpa using he) hc
            rcases h1 with rfl | h1
            · exact hde
            · exact h _ hde i h1
        · rw [← Array.getD_eq_getD_getElem?] at hi
          exact h j hj i hi
  unfold Region.before
  rw [← Array.foldl_toList]
  exact key ops.toList #[] (fun q hq => by simpa using hq.symm) (fun j _ i hi => by simp at hi)

structure RegOk (ops : Array Oper) : Prop where
  back : ∀ i o, ops[i]? = some o → ∀ e ∈ o.after, Region.binds .any e = true → e.on < i
  tmps : ∀ i j o o' d, ops[i]? = some o → ops[j]? = some o' → i ≠ j → o.dst = some d → d ∈ namesOf ops o' → ((Region.before ops).getD (max i j) 0).testBit (min i j) = true

omit [Glb] in
theorem regOk_spec {ops : Array Oper} (h : regOk ops = true) : RegOk ops := by
  simp only [regOk, List.all_eq_true, Bool.and_eq_true, Bool.or_eq_true, Bool.not_eq_true', beq_iff_eq, decide_eq_true_eq] at h
  have hm : ∀ i o, ops[i]? = some o → (o, i) ∈ ops.toList.zipIdx := fun i o hi => by
    rw [List.mem_zipIdx_iff_getElem?]; simpa using hi
  refine ⟨fun i o hi e he hb => ?_, fun i j o o' d hi hj hne hd hdn => ?_⟩
  · rcases (h (o, i) (hm i o hi)).1 e (by simpa using he) with h1 | h1
    · rw [hb] at h1; cases h1
    · exact h1
  · rcases (h (o, i) (hm i o hi)).2 (o', j) (hm j o' hj) with (h1 | h1) | h1
    · exact absurd h1 hne
    · simp only [hd, Option.any_some] at h1
      have : (namesOf ops o').contains d = true := by simpa using hdn
      rw [this] at h1; cases h1
    · exact h1

/-- Two of which one is ahead of the other. -/
def Ord (ops : Array Oper) (i j : Nat) : Prop := ((Region.before ops).getD (max i j) 0).testBit (min i j) = true

omit [Glb] in
theorem Ord.early {ops : Array Oper} {i j : Nat} (h : Ord ops i j) {D : Nat → Prop} (hD : Closed ops D) (hlt : i < j) (hj : D j) : D i := by
  unfold Ord at h
  rw [Nat.max_eq_right (Nat.le_of_lt hlt), Nat.min_eq_left (Nat.le_of_lt hlt)] at h
  exact before_closed hD j hj i h

omit [Glb] in
/-- What must be done ahead of an operation that may be taken now. -/
theorem Ord.ready {ops : Array Oper} {i j : Nat} {o : Oper} (h : Ord ops j i) {D : Nat → Prop} (hD : Closed ops D) (hio : ops[i]? = some o) (hr : ∀ e ∈ o.after, Region.binds .any e = true → D e.on) (hlt : j < i) : D j := by
  have hD' : Closed ops (fun q => D q ∨ q = i) := fun q o' hq ho' e he hb => by
    rcases hq with hq | rfl
    · exact .inl (hD q o' hq ho' e he hb)
    · rw [hio] at ho'; obtain rfl := Option.some.inj ho'; exact .inl (hr e he hb)
  rcases h.early hD' hlt (.inr rfl) with h1 | h1
  · exact h1
  · omega

omit [Glb] in
theorem Ord.symm {ops : Array Oper} {i j : Nat} (h : Ord ops i j) : Ord ops j i := by
  unfold Ord at h ⊢; rwa [Nat.max_comm, Nat.min_comm]

/-! ### an operation hangs on its operands alone -/
omit [Glb] in
theorem evos_congr {tm tm' : List V} : ∀ {l : List Operand}, (∀ x ∈ l, evo tm' x = evo tm x) → evos tm' l = evos tm l
  | [], _ => rfl
  | x :: l, h => by simp only [evos, h x (List.mem_cons_self ..), evos_congr (l := l) (fun y hy => h y (List.mem_cons_of_mem _ hy))]

omit [Glb] in
theorem optV_congr {tm tm' : List V} {x : Option Operand} (h : ∀ y ∈ x.toArray, evo tm' y = evo tm y) : optV tm' x = optV tm x := by
  cases x with
  | none => rfl
  | some y => simp only [optV, h y (by simp)]

omit [Glb] in
theorem call_operands {c : Call} : (∀ x ∈ c.args.toList, x ∈ c.operands.toList) ∧ (∀ f, c.callee = .value f → f ∈ c.operands.toList) := by
  unfold Call.operands
  constructor
  · intro x hx; cases c.callee <;> simp_all
  · intro f hf; rw [hf]; simp

omit [Glb] in
theorem evOp_congr {E : Env} {call : CallH} {s : St} {o : Oper} {tm' : List V} (h : ∀ x ∈ o.op.operands.toList, evo tm' x = evo s.tm x) : evOp E call { s with tm := tm' } o = evOp E call s o := by
  cases ho : o.op with
  | build t ps =>
    have h1 : ∀ x ∈ ps.toList.map (·.2), evo tm' x = evo s.tm x := fun x hx => h x (by rw [ho]; simpa [Op.operands] using hx)
    simp only [evOp, ho, evos_congr h1]
  | buildSlice t n ps =>
    have h1 : ∀ x ∈ ps.toList.map (·.2), evo tm' x = evo s.tm x := fun x hx => h x (by rw [ho]; simpa [Op.operands] using hx)
    simp only [evOp, ho, evos_congr h1]
  | makeFunc f p c =>
    have h1 : ∀ x ∈ p.toList, evo tm' x = evo s.tm x := fun x hx => h x (by rw [ho]; simp only [Op.operands, Array.toList_append, List.mem_append]; exact .inl hx)
    have h2 : ∀ x ∈ c.toList, evo tm' x = evo s.tm x := fun x hx => h x (by rw [ho]; simp only [Op.operands, Array.toList_append, List.mem_append]; exact .inr hx)
    simp only [evOp, ho, evos_congr h1, evos_congr h2]
  | slice t x lo hi mx =>
    have h0 : evo tm' x = evo s.tm x := h x (by rw [ho]; simp [Op.operands])
    have h1 : optV tm' lo = optV s.tm lo := optV_congr (fun y hy => h y (by rw [ho]; simp only [Op.operands, Array.toList_append, List.mem_append]; exact .inl (.inl (.inr (by simpa using hy)))))
    have h2 : optV tm' hi = optV s.tm hi := optV_congr (fun y hy => h y (by rw [ho]; simp only [Op.operands, Array.toList_append, List.mem_append]; exact .inl (.inr (by simpa using hy))))
    have h3 : optV tm' mx = optV s.tm mx := optV_congr (fun y hy => h y (by rw [ho]; simp only [Op.operands, Array.toList_append, List.mem_append]; exact .inr (by simpa using hy)))
    simp only [evOp, ho, h0, h1, h2, h3]
  | call c =>
    have h1 : ∀ x ∈ c.args.toList, evo tm' x = evo s.tm x := fun x hx => h x (by rw [ho]; exact call_operands.1 x hx)
    cases hc : c.callee with
    | value f =>
      have h2 : evo tm' f = evo s.tm f := h f (by rw [ho]; exact call_operands.2 f hc)
      simp only [evOp, ho, evos_congr h1, hc, h2]
    | builtin b =>
      simp only [evOp, ho, evos_congr h1, hc]
      cases b <;> simp only [evBuiltin]
    | invoke x y => simp only [evOp, ho, evos_congr h1, hc]
  | defer c =>
    have h1 : ∀ x ∈ c.args.toList, evo tm' x = evo s.tm x := fun x hx => h x (by rw [ho]; exact call_operands.1 x hx)
    cases hc : c.callee with
    | value f =>
      have h2 : evo tm' f = evo s.tm f := h f (by rw [ho]; exact call_operands.2 f hc)
      simp only [evOp, ho, evos_congr h1, hc]
      cases evos s.tm c.args.toList <;> simp only [h2]
    | builtin b =>
      simp only [evOp, ho, evos_congr h1, hc]
      cases evos s.tm c.args.toList <;> rfl
    | invoke x y =>
      simp only [evOp, ho, evos_congr h1, hc]
      cases evos s.tm c.args.toList <;> rfl
  | next x st => cases st <;> simp only [evOp, ho] <;> (try rw [h x (by rw [ho]; simp [Op.operands])])
  | makeMap t r => cases r <;> simp only [evOp, ho]
  | _ => simp_all [evOp, Op.operands]

omit [Glb] in
theorem accOf_congr {s : St} {o : Oper} {tm' : List V} (h : ∀ x ∈ o.op.operands.toList, evo tm' x = evo s.tm x) : accOf { s with tm := tm' } o = accOf s o := by
  have hfm : ∀ {l : List Operand}, (∀ x ∈ l, evo tm' x = evo s.tm x) → l.flatMap (fun x => match evo tm' x with | some (.ptr b _ _) | some (.sl b _ _ _) | some (.map b) | some (.itr b) => [b] | _ => ([] : List Nat)) = l.flatMap (fun x => match evo s.tm x with | some (.ptr b _ _) | some (.sl b _ _ _) | some (.map b) | some (.itr b) => [b] | _ => ([] : List Nat)) := fun {l} hl => by
    induction l with
    | nil => rfl
    | cons x l ih => rw [List.flatMap_cons, List.flatMap_cons, hl x (List.mem_cons_self ..), ih (fun y hy => hl y (List.mem_cons_of_mem _ hy))]
  cases ho : o.op with
  | call c =>
    have h1 : ∀ x ∈ c.args.toList, evo tm' x = evo s.tm x := fun x hx => h x (by rw [ho]; exact call_operands.1 x hx)
    cases hc : c.callee with
    | value f =>
      have h2 : evo tm' f = evo s.tm f := h f (by rw [ho]; exact call_operands.2 f hc)
      simp only [accOf, ho, evos_congr h1, hc, h2]
    | builtin b =>
      cases b <;> simp only [accOf, ho, hc] <;> first
        | exact congrArg some (Prod.ext (hfm (fun x hx => h1 x (List.mem_of_mem_drop hx))) (hfm (fun x hx => h1 x (List.mem_of_mem_take hx))))
        | exact congrArg some (Prod.ext (hfm h1) rfl)
    | invoke x y => simp only [accOf, ho, hc]
  | _ => simp_all [accOf, Op.operands]
end Go.Ev
