/- Operations: what the evaluator says of one is what the model does. -/
import Derived.Test.YtdbpldkemkphiaaGreatDoorEvB
namespace Go.Ev
/-- Blocks of package-level variables that hold whole numbers, whichever. -/
class Glb where
  bs : List Nat
variable [Glb]
def GlobOk (w : World) : Prop := ∀ b ∈ Glb.bs, ∃ m, w.cell? ⟨b, 0, none⟩ = some (.int .i64 m)
open Go.RowKit

/-- What may be handed in and out: plain data. -/
def RelArgs (ok : Nat → Prop) (w : World) (args : List V) (vals : Array Value) : Prop := RelL ok w none_ args vals

/-- A call on plain data answers plain data, and leaves what was there as it was. -/
def Pure (P : Program) (f : FuncId) (args : List V) (r : V) : Prop :=
  ∀ (A : Nat → Prop) (w : World) (vals : Array Value), RelL A w none_ args vals → (∀ k, A k → k < w.heap.size) → GlobOk w →
    Calls P f vals w fun e w' => ∃ v, e = .returned v ∧ Rel (fun k => A k ∨ w.heap.size ≤ k) w' none_ r v ∧ Below w.heap.size w w'

/-- The law of '==' at a type whose values are cells of bools, whole numbers and texts. -/
def EqLaw (P : Program) (t : TypeId) (ks : List UK) : Prop :=
  ∀ (xs ys : List V) (vx vy : Array Value) (b : Bool) (w : World), fitsK ks xs = true → fitsK ks ys = true → eqCells xs ys = some b → vx.size = xs.length → vy.size = ys.length →
    (∀ j c, xs[j]? = some c → ofV (vx.getD j default) = some c) → (∀ j c, ys[j]? = some c → ofV (vy.getD j default) = some c) →
    (Op.equal t (.agg vx) (.agg vy)).run P w = .ok b w

structure EnvOk (P : Program) (E : Env) : Prop where
  fn : ∀ f g, E.fn f = some g → P.funcs[f]? = some g ∧ (g.name == "runtime.NumGoroutine") = false ∧ ∀ c, g.body = some c → codeRegs c = true
  size : ∀ t n, E.size t = some n → ∃ i, P.info? t = some i ∧ i.size = n
  bytes : ∀ t n, E.bytes t = some n → ∃ i, P.info? t = some i ∧ i.bytes = n
  agg : ∀ t b, E.agg t = some b → ∀ w, (isAgg t).run P w = .ok b w
  zero : ∀ t z, E.zero t = some z → ∃ v, (∀ w, (zeroValue t).run P w = .ok v w) ∧ v.cells.size = z.length ∧ (∀ j c, z[j]? = some c → ofV (v.cells.getD j default) = some c) ∧ (E.agg t = some true → v = .agg v.cells) ∧ (E.agg t = some false → v.oneCell' = true)
  fld : ∀ t i off ft, E.fld t i = some (off, ft) → ∃ fs f, P.underlying t = some (.struct fs) ∧ fs[i]? = some f ∧ f.offset = off ∧ f.type = ft
  bld : ∀ t ps z, E.bld t = some ps → E.zero t = some z → ∃ zv, (∀ w, (zeroValue t).run P w = .ok zv w) ∧ ∀ (parts : Array (Nat × Value)) (cells : Array Value) w, Instr.fill (fun i => ps[i]?) zv.cells parts.toList = some cells → (Instr.build t parts).run P w = .ok (.agg cells) w
  arr : ∀ t n e, E.arr t = some (n, e) → P.underlying t = some (.array n e)
  slc : ∀ t e, E.slc t = some e → P.underlying t = some (.slice e)
  kind : ∀ t k, E.kind t = some k → match k with
    | .bool => P.underlying t = some .bool
    | .int q => P.underlying t = some (.int q)
    | .str => P.underlying t = some .string
    | .slice e => P.underlying t = some (.slice e)
    | .other => True
  kinds : ∀ t k, E.kind t = some k → ∃ d, P.underlying t = some d
  mapk : ∀ t k e, E.mapk t = some (k, e) → P.underlying t = some (.map k e)
  eqt : ∀ t ks, E.eqt t = some ks → P.eqGuardType P.depth t = false ∧ EqLaw P t ks
  iface : ∀ t b, E.iface t = some b → ∃ d, P.underlying t = some d ∧ ((∃ ms, d = .interface ms) ↔ b = true)
  spec : ∀ f args r, E.spec f args = some r → Pure P f args r ∧ (∃ g, P.funcs[f]? = some g ∧ (g.name == "runtime.NumGoroutine") = false ∧ g.body.isSome = true)
  mixed : P.follows .mixedOrders = true

section
variable {P : Program} {E : Env} {ok : Nat → Prop} {w : World} {S : Sig}

omit [Glb] in
theorem getD_undef {vs : Array Value} {j : Nat} (h : j < vs.size) : vs.getD j undef = vs.getD j default := by simp [Array.getD, h]

omit [Glb] in
theorem evo_rel {a : Act} {tm : List V} {x : Operand} {v : V} (h : RelL ok w S tm a.tmps) (hv : evo tm x = some v) : Rel ok w S v (a.eval x) := by
  cases x with
  | tmp t =>
    simp only [evo, Option.some.injEq] at hv
    subst hv
    cases ht : tm[t]? with
    | none => rw [List.getD_eq_getElem?_getD, ht]; exact .undef _
    | some c =>
      have hlt : t < tm.length := (List.getElem?_eq_some_iff.1 ht).1
      rw [List.getD_eq_getElem?_getD, ht]
      simp only [Act.eval, Option.getD_some]
      rw [getD_undef (by rw [h.1]; exact hlt)]
      exact h.2 t c ht
  | const c => exact .of_ofV hv
  | global g => cases hv
  | func f =>
    simp only [evo, Option.some.injEq] at hv
    subst hv
    exact .fn rfl (fun j x hj => by simp at hj) rfl (fun j x hj => by simp at hj)

omit [Glb] in
theorem evos_rel {a : Act} {tm : List V} {xs : List Operand} {vs : List V} (h : RelL ok w S tm a.tmps) (hv : evos tm xs = some vs) :
    vs.length = xs.length ∧ ∀ (j : Nat) (c : V), vs[j]? = some c → ∃ x, xs[j]? = some x ∧ Rel ok w S c (a.eval x) := by
  induction xs generalizing vs with
  | nil => simp only [evos, Option.some.injEq] at hv; subst hv; exact ⟨rfl, fun j c hj => by simp at hj⟩
  | cons x xs ih =>
    simp only [evos] at hv
    split at hv
    · rename_i v vs' h1 h2
      obtain rfl := Option.some.inj hv
      obtain ⟨hl, hr⟩ := ih h2
      refine ⟨by simp [hl], fun j c hj => ?_⟩
      cases j with
      | zero => simp at hj; subst hj; exact ⟨x, rfl, evo_rel h h1⟩
      | succ j => exact hr j c (by simpa using hj)
    · cases hv

omit [Glb] in
theorem evos_relL {a : Act} {tm : List V} {xs : Array Operand} {vs : List V} (h : RelL ok w S tm a.tmps) (hv : evos tm xs.toList = some vs) : RelL ok w S vs (xs.map a.eval) := by
  obtain ⟨hl, hr⟩ := evos_rel h hv
  refine ⟨by simp [hl], fun j c hj => ?_⟩
  obtain ⟨x, hx, hrel⟩ := hr j c hj
  have hx' : xs[j]? = some x := by simpa using hx
  have : (xs.map a.eval).getD j default = a.eval x := by simp [Array.getD_eq_getD_getElem?, hx']
  rw [this]; exact hrel

omit [Glb] in
theorem relL_one {x : V} {y : Value} (h : Rel ok w S x y) : RelL ok w S [x] #[y] :=
  ⟨rfl, fun j c hj => by
    cases j with
    | zero => simp only [List.getElem?_cons_zero, Option.some.injEq] at hj; subst hj; simpa [Array.getD] using h
    | succ j => simp at hj⟩

omit [Glb] in
/-- A value's cells. -/
theorem Rel.cells {v : V} {x : Value} (h : Rel ok w S v x) (hm : v.may = true) : RelL ok w S v.cells x.cells ∧ ∀ c ∈ v.cells, V.one c = true := by
  have key : v.cells = [v] → x.cells = #[x] → V.one v = true → RelL ok w S v.cells x.cells ∧ ∀ c ∈ v.cells, V.one c = true := fun h1 h2 h3 => by
    rw [h1, h2]; exact ⟨relL_one h, fun c hc => by simp only [List.mem_singleton] at hc; subst hc; exact h3⟩
  cases h with
  | agg h1 hs he => exact ⟨⟨hs, he⟩, h1⟩
  | undef v => cases hm
  | tup hs he => cases hm
  | _ => exact key rfl rfl rfl

omit [Glb] in
/-- A value of one cell is one in the model. -/
theorem Rel.one {v : V} {x : Value} (h : Rel ok w S v x) (hm : v.one = true) : x.oneCell' = true := by
  cases h <;> first | rfl | cases hm
end

/-- An operation that comes to a value. -/
def OpVal (P : Program) (base : Nat → Prop) (W : Nat → Prop) (S : Sig) (w : World) (H : Heap) (ρ : Operand → Value) (o : Oper) (v : V) (H' : Heap) : Prop :=
  ∃ x w' S', (execOp ρ o).run P w = .ok (.value x) w' ∧ Rel (okOf base S') w' S' v x ∧ StepR base W S w H S' w' H'

def OpSkip (P : Program) (base : Nat → Prop) (W : Nat → Prop) (S : Sig) (w : World) (H : Heap) (ρ : Operand → Value) (o : Oper) (H' : Heap) : Prop :=
  ∃ w' S', (execOp ρ o).run P w = .ok .skip w' ∧ StepR base W S w H S' w' H'

def nobody : Nat → Prop := fun _ => False

section
variable {P : Program} {E : Env} {base : Nat → Prop} {n0 : Nat} {w : World} {S : Sig} {H : Heap} {a : Act} {tm : List V} {o : Oper}

omit [Glb] in
theorem OpVal.pure {ρ : Operand → Value} {v : V} {x : Value} (hl : Loc w n0 S) (h : (execOp ρ o).run P w = .ok (.value x) w) (hr : Rel (okOf base S) w S v x) : OpVal P base nobody S w H ρ o v H :=
  ⟨x, w, S, h, hr, StepR.refl base nobody S w H (fun _ _ h => h.elim) hl⟩

omit [Glb] in
theorem op_move (hl : Loc w n0 S) (h : RelL (okOf base S) w S tm a.tmps) {x : Operand} (ho : o.op = .move x) {v : V} (hv : evo tm x = some v) : OpVal P base nobody S w H a.eval o v H :=
  .pure hl (by simp [execOp, ho]) (evo_rel h hv)

omit [Glb] in
theorem op_assign (hl : Loc w n0 S) (h : RelL (okOf base S) w S tm a.tmps) {x : Operand} (ho : o.op = .assign x) {v : V} (hv : evo tm x = some v) : OpVal P base nobody S w H a.eval o v H :=
  .pure hl (by simp [execOp, ho]) (evo_rel h hv)

omit [Glb] in
theorem op_assign_nil (hl : Loc w n0 S) (hn : S H.length = none) (h : RelL (okOf base S) w S tm a.tmps) {x : Operand} (ho : o.op = .assign x) (hv : evo tm x = some .nils) :
    OpVal P base nobody S w H a.eval o (.sl H.length 0 0 0) (H ++ [.nilb]) := by
  have hr := evo_rel h hv
  generalize hx : a.eval x = y at hr
  cases hr
  rename_i A
  refine ⟨.slice A 0 0, w, _, by simp [execOp, ho, hx], ?_, StepR.pushNil hl hn⟩
  exact .sl (Sig.put_same _ _ _) (Nat.le_refl _) (Nat.le_refl _) (fun h => absurd rfl h) (fun _ => by simp [SlOk])

omit [Glb] in
theorem op_pick (hl : Loc w n0 S) (h : RelL (okOf base S) w S tm a.tmps) {c x y : Operand} (ho : o.op = .pick c x y) {b : Bool} {u v : V} (hc : evo tm c = some (.bool b)) (hx : evo tm x = some u) (hy : evo tm y = some v) :
    OpVal P base nobody S w H a.eval o (if b then u else v) H := by
  have hr := evo_rel h hc
  generalize hq : a.eval c = q at hr
  cases hr
  refine .pure hl (x := if b then a.eval x else a.eval y) (by cases b <;> simp [execOp, ho, hq, asBool]) ?_
  cases b
  · exact evo_rel h hy
  · exact evo_rel h hx

/-! ### new variables -/
omit [Glb] in
theorem lift_rel : ∀ (cs : List V) (vs : List Value) (S : Sig) (H : Heap), Loc w n0 S → (∀ b, H.length ≤ b → S b = none) → (vs.length = cs.length ∧ ∀ j c, cs[j]? = some c → Rel (okOf base S) w S c (vs.getD j default)) → (∀ c ∈ cs, V.one c = true) →
    ∃ S', StepR base nobody S w H S' w (lift cs H).2 ∧ (∀ b, (lift cs H).2.length ≤ b → S' b = none) ∧
      (vs.length = (lift cs H).1.length ∧ ∀ j c, (lift cs H).1[j]? = some c → Rel (okOf base S') w S' c (vs.getD j default)) ∧ (∀ c ∈ (lift cs H).1, V.one c = true)
  | [], vs, S, H, hl, hn, hr, h1 => ⟨S, StepR.refl base nobody S w H (fun _ _ h => h.elim) hl, hn, hr, h1⟩
  | c :: cs, [], S, H, hl, hn, hr, h1 => by simp at hr
  | c :: cs, v :: vs, S, H, hl, hn, hr, h1 => by
    have hdom : ∀ {S : Sig} {H : Heap}, (∀ b, H.length ≤ b → S b = none) → ∀ b, (S b).isSome → b < H.length := fun {S H} hn b hb => by
      rcases Nat.lt_or_ge b H.length with h | h
      · exact h
      · rw [hn b h] at hb; cases hb
    have hc : Rel (okOf base S) w S c v := by simpa using hr.2 0 c rfl
    have ht : ∀ j c', cs[j]? = some c' → Rel (okOf base S) w S c' (vs.getD j default) := fun j c' hj => by simpa using hr.2 (j + 1) c' (by simpa using hj)
    by_cases he : c = .nils
    · subst he
      have x1 := StepR.pushNil (base := base) hl (hn _ (Nat.le_refl _))
      obtain ⟨S', x2, hn', hr', h1'⟩ := lift_rel cs vs _ (H ++ [.nilb]) (x1.locs hl) (fun b hb => by
          simp only [List.length_append, List.length_singleton] at hb
          rw [Sig.put_other _ _ (by omega)]; exact hn b (by omega)) ⟨by simpa using hr.1, fun j c' hj => x1.ext.rel (ht j c' hj)⟩ (fun c hc => h1 c (List.mem_cons_of_mem _ hc))
      refine ⟨S', ?_, hn', ⟨by simp only [lift, List.length_cons]; rw [hr'.1], fun j c' hj => ?_⟩, fun c' hc' => ?_⟩
      · have := StepR.trans hl (hdom hn) x1 x2
        exact ⟨this.ext.weaken (fun b h => by rcases h with h | h <;> exact h), fun b e hb hw => this.blk b e hb (hw.imp (fun h => .inl h) id), this.loc, this.inj, this.dom, fun b hb hw => this.keep b hb (fun h => by rcases h with h | h <;> exact h), this.len⟩
      · cases j with
        | zero =>
          simp only [lift, List.getElem?_cons_zero, Option.some.injEq] at hj
          subst hj
          refine x2.ext.rel (base := base) ?_
          have hv : Rel (okOf base S) w S .nils v := hc
          cases hv
          exact .sl (Sig.put_same _ _ _) (Nat.le_refl _) (Nat.le_refl _) (fun h => absurd rfl h) (fun _ => by simp [SlOk])
        | succ j => simpa using hr'.2 j c' (by simpa [lift] using hj)
      · simp only [lift, List.mem_cons] at hc'
        rcases hc' with rfl | hc'
        · rfl
        · exact h1' c' hc'
    · have hlift : lift (c :: cs) H = (c :: (lift cs H).1, (lift cs H).2) := by cases c <;> first | rfl | exact absurd rfl he
      obtain ⟨S', x2, hn', hr', h1'⟩ := lift_rel cs vs S H hl hn ⟨by simpa using hr.1, ht⟩ (fun c hc => h1 c (List.mem_cons_of_mem _ hc))
      rw [hlift]
      refine ⟨S', x2, hn', ⟨by simp [hr'.1], fun j c' hj => ?_⟩, fun c' hc' => ?_⟩
      · cases j with
        | zero => simp only [List.getElem?_cons_zero, Option.some.injEq] at hj; subst hj; exact x2.ext.rel hc
        | succ j => simpa using hr'.2 j c' (by simpa using hj)
      · simp only [List.mem_cons] at hc'
        rcases hc' with rfl | hc'
        · exact h1 _ (List.mem_cons_self ..)
        · exact h1' c' hc'

omit [Glb] in
theorem StepR.weaken {W W1 : Nat → Prop} {S' : Sig} {w' : World} {H' : Heap} (x : StepR base W S w H S' w' H') (h1 : ∀ b, W b → W1 b) (h2 : ∀ b, W1 b → (S b).isSome → W b) : StepR base W1 S w H S' w' H' :=
  ⟨x.ext.weaken h1, fun b e hb hw => x.blk b e hb (by
    rcases hw with hw | hw
    · cases hs : S b with
      | none => exact .inr rfl
      | some e0 => exact .inl (h2 b hw (by simp [hs]))
    · exact .inr hw), x.loc, x.inj, x.dom, fun b hb hw => x.keep b hb (fun h => hw (h1 b h)), x.len⟩

omit [Glb] in
/-- A new variable, of cells. -/
theorem new_rel (hl : Loc w n0 S) (hn : ∀ b, H.length ≤ b → S b = none) {cs : List V} {vs : Array Value} (hr : RelL (okOf base S) w S cs vs) (h1 : ∀ c ∈ cs, V.one c = true) (t : TypeId) :
    ∃ S', StepR base nobody S w H S' (w.alloc (.cells vs t)) ((lift cs H).2 ++ [.cells false 0 0 (lift cs H).1]) ∧
      Rel (okOf base S') (w.alloc (.cells vs t)) S' (.ptr (lift cs H).2.length 0 0) (.pointer (some ⟨w.heap.size, 0, none⟩)) := by
  obtain ⟨S1, x1, hn1, hr1, h11⟩ := lift_rel (base := base) cs vs.toList S H hl hn ⟨by simpa using hr.1, fun j c hj => by
    have := hr.2 j c hj
    simpa [Array.getD_eq_getD_getElem?, List.getD_eq_getElem?_getD] using this⟩ h1
  have hdom : ∀ b, (S b).isSome → b < H.length := fun b hb => by
    rcases Nat.lt_or_ge b H.length with h | h
    · exact h
    · rw [hn b h] at hb; cases hb
  have x2 := StepR.push (base := base) (x1.locs hl) (hn1 _ (Nat.le_refl _)) ⟨false, 0, false, 0, (lift cs H).1.length, some (w.heap.size, 0)⟩ (.cells false 0 0 (lift cs H).1) (.cells vs t) rfl
    (fun hs hk => ⟨rfl, rfl, rfl, rfl, w.heap.size, 0, vs, t, rfl, heap_alloc_new w _, Nat.le_refl _, by simp only [Nat.zero_add]; have := hr1.1; simp at this; omega, h11, fun j c hj => by
      have := (hr1.2 j c hj).mono hk hs
      simpa [Array.getD_eq_getD_getElem?, List.getD_eq_getElem?_getD] using this⟩)
  refine ⟨_, (StepR.trans hl hdom x1 x2).weaken (fun b h => by rcases h with h | h <;> exact h) (fun b h => h.elim), ?_⟩
  exact .ptr (Sig.put_same _ _ _) (Nat.le_refl _) (fun _ => ⟨w.heap.size, 0, rfl, rfl⟩)

omit [Glb] in
theorem op_box (hl : Loc w n0 S) (hn : ∀ b, H.length ≤ b → S b = none) (h : RelL (okOf base S) w S tm a.tmps) {t : TypeId} {x : Operand} (ho : o.op = .box t x) {v : V} (hv : evo tm x = some v) (hm : v.may = true) :
    OpVal P base nobody S w H a.eval o (.ptr (lift v.cells H).2.length 0 0) ((lift v.cells H).2 ++ [.cells false 0 0 (lift v.cells H).1]) := by
  obtain ⟨hc, h1⟩ := (evo_rel h hv).cells hm
  obtain ⟨S', x1, hr⟩ := new_rel hl hn hc h1 t
  exact ⟨_, _, S', by simp [execOp, ho, Instr.box, newVar, newRow], hr, x1⟩

theorem zero_relL (hE : EnvOk P E) {t : TypeId} {z : List V} (hz : E.zero t = some z) {ok : Nat → Prop} {w : World} {S : Sig} : ∃ v, (∀ w, (zeroValue t).run P w = .ok v w) ∧ RelL ok w S z v.cells := by
  obtain ⟨v, hv, hs, hc, _⟩ := hE.zero t z hz
  exact ⟨v, hv, hs, fun j c hj => .of_ofV (hc j c hj)⟩

theorem op_alloc (hE : EnvOk P E) (hl : Loc w n0 S) (hn : ∀ b, H.length ≤ b → S b = none) {t : TypeId} (ho : o.op = .alloc t) {z : List V} (hz : E.zero t = some z) (h1 : z.all V.one = true) :
    OpVal P base nobody S w H a.eval o (.ptr (lift z H).2.length 0 0) ((lift z H).2 ++ [.cells false 0 0 (lift z H).1]) := by
  obtain ⟨v, hv, hc⟩ := zero_relL hE hz (ok := okOf base S) (w := w) (S := S)
  obtain ⟨S', x1, hr⟩ := new_rel hl hn hc (fun c hc => List.all_eq_true.1 h1 c hc) t
  exact ⟨_, _, S', by simp [execOp, ho, Instr.alloc, hv, newVar, newRow], hr, x1⟩
end
end Go.Ev
