/- The tables of a program. -/
import Derived.Test.YtdbpldkemkphiaaGreatDoorEvCn
namespace Go.Ev
variable [Glb]
open Go.RowKit Go.MapKept

def aggOf : TypeDesc → Bool
  | .struct _ | .array _ _ => true
  | _ => false

def zeroOf (P : Program) (t : TypeId) : Option (List V) :=
  match P.info? t with
  | none => none
  | some i => match i.zero, (P.underlying t).map aggOf with
    | some (.agg cs), some true => cs.toList.mapM ofV
    | some v, some false => (ofV v).map fun v => [v]
    | _, _ => none

def kindOf : TypeDesc → UK
  | .bool => .bool
  | .int k => .int k
  | .string => .str
  | .slice e => .slice e
  | _ => .other

def bldOf (P : Program) (t : TypeId) : Option (List (Nat × Nat)) :=
  match P.underlying t with
  | some (.struct fs) => fs.toList.mapM fun f => (P.info? f.type).map fun i => (f.offset, i.size)
  | some (.array n e) => (P.info? e).map fun i => (List.range n).map fun j => (j * i.size, i.size)
  | _ => none

def envOf (P : Program) (eqs : TypeId → Option (List UK)) (spec : FuncId → List V → Option V) : Env where
  fn f := P.funcs[f]?
  size t := (P.info? t).map (·.size)
  bytes t := (P.info? t).map (·.bytes)
  agg t := (P.underlying t).map aggOf
  zero t := zeroOf P t
  fld t i := match P.underlying t with | some (.struct fs) => (fs[i]?).map fun f => (f.offset, f.type) | _ => none
  bld t := bldOf P t
  arr t := match P.underlying t with | some (.array n e) => some (n, e) | _ => none
  slc t := match P.underlying t with | some (.slice e) => some e | _ => none
  kind t := (P.underlying t).map kindOf
  mapk t := match P.underlying t with | some (.map k e) => some (k, e) | _ => none
  eqt t := eqs t
  iface t := (P.underlying t).map fun | .interface _ => true | _ => false
  spec := spec

/-- Every function's drawn regions are as they must be, and no function is the one that counts goroutines. -/
def funcsOk (P : Program) : Bool := P.funcs.toList.all fun g => !(g.name == "runtime.NumGoroutine") && ((g.body.map codeRegs).getD true)

section
variable {P : Program}

omit [Glb] in
theorem mapM_ofV : ∀ {l : List Value} {z : List V}, l.mapM ofV = some z → z.length = l.length ∧ ∀ j c, z[j]? = some c → ofV (l.getD j default) = some c
  | [], z, h => by
    simp only [List.mapM_nil, Option.pure_def, Option.some.injEq] at h
    subst h
    exact ⟨rfl, fun j c hj => by simp at hj⟩
  | v :: l, z, h => by
    simp only [List.mapM_cons, Option.pure_def, Option.bind_eq_bind] at h
    cases hv : ofV v with
    | none => rw [hv] at h; simp at h
    | some u =>
      cases hl : l.mapM ofV with
      | none => rw [hv, hl] at h; simp at h
      | some us =>
        rw [hv, hl] at h
        simp only [Option.bind_some, Option.some.injEq] at h
        subst h
        obtain ⟨h1, h2⟩ := mapM_ofV hl
        refine ⟨by simp [h1], fun j c hj => ?_⟩
        cases j with
        | zero => simp at hj; subst hj; simpa using hv
        | succ j => simpa using h2 j c (by simpa using hj)

omit [Glb] in
theorem ofV_one {x : Value} {v : V} (h : ofV x = some v) : x.oneCell' = true ∧ x.cells = #[x] := by
  unfold ofV at h
  split at h <;> first | (cases h; done) | exact ⟨rfl, rfl⟩

omit [Glb] in
theorem zeroOf_ok {t : TypeId} {z : List V} (h : zeroOf P t = some z) : ∃ v, (∀ w, (zeroValue t).run P w = .ok v w) ∧ v.cells.size = z.length ∧ (∀ j c, z[j]? = some c → ofV (v.cells.getD j default) = some c) ∧
    ((P.underlying t).map aggOf = some true → v = .agg v.cells) ∧ ((P.underlying t).map aggOf = some false → v.oneCell' = true) := by
  unfold zeroOf at h
  split at h
  · cases h
  · rename_i i hi
    have hzv : ∀ v, i.zero = some v → ∀ w, (zeroValue t).run P w = .ok v w := fun v hz w => by simp [zeroValue, typeInfo, hi, hz]
    have aggc : ∀ cs : Array Value, i.zero = some (.agg cs) → cs.toList.mapM ofV = some z → (P.underlying t).map aggOf = some true → ∃ v, (∀ w, (zeroValue t).run P w = .ok v w) ∧ v.cells.size = z.length ∧ (∀ j c, z[j]? = some c → ofV (v.cells.getD j default) = some c) ∧
        ((P.underlying t).map aggOf = some true → v = .agg v.cells) ∧ ((P.underlying t).map aggOf = some false → v.oneCell' = true) := fun cs hz hm hag => by
      obtain ⟨h1, h2⟩ := mapM_ofV hm
      refine ⟨.agg cs, hzv _ hz, by simpa [Value.cells] using h1.symm, fun j c hj => ?_, fun _ => rfl, fun h => absurd (hag.symm.trans h) (by simp)⟩
      have := h2 j c hj
      simpa [Value.cells, Array.getD_eq_getD_getElem?, List.getD_eq_getElem?_getD] using this
    split at h
    · rename_i cs hz hag
      exact aggc _ hz h hag
    · rename_i v hz hag
      cases hv : ofV v with
      | none => rw [hv] at h; cases h
      | some u =>
        rw [hv] at h
        simp only [Option.map_some, Option.some.injEq] at h
        subst h
        obtain ⟨h1, h2⟩ := ofV_one hv
        refine ⟨v, hzv _ hz, by rw [h2]; rfl, fun j c hj => ?_, fun h => absurd (hag.symm.trans h) (by simp), fun _ => h1⟩
        cases j with
        | zero => simp at hj; subst hj; rw [h2]; simpa using hv
        | succ j => simp at hj
    · cases h

omit [Glb] in
theorem agg_run {t : TypeId} {b : Bool} (h : (P.underlying t).map aggOf = some b) (w : World) : (isAgg t).run P w = .ok b w := by
  cases hd : P.underlying t with
  | none => rw [hd] at h; cases h
  | some d =>
    rw [hd] at h
    simp only [Option.map_some, Option.some.injEq] at h
    subst h
    cases d <;> simp [isAgg, run_underlying hd, aggOf]

omit [Glb] in
/-- What a filling does by a part of the places it does by all. -/
theorem fill_mono {p q : Nat → Option (Nat × Nat)} (h : ∀ i x, p i = some x → q i = some x) : ∀ {parts : List (Nat × Value)} {cells cells' : Array Value}, Instr.fill p cells parts = some cells' → Instr.fill q cells parts = some cells'
  | [], _, _, hf => hf
  | (i, v) :: r, cells, cells', hf => by
    simp only [Instr.fill] at hf ⊢
    cases hp : p i with
    | none => rw [hp] at hf; cases hf
    | some x =>
      rw [hp] at hf
      rw [h i x hp]
      obtain ⟨off, sz⟩ := x
      simp only at hf ⊢
      split at hf
      · cases hf
      · rename_i hc
        rw [if_neg hc]
        exact fill_mono h hf

omit [Glb] in
theorem mapM_places {w : World} : ∀ {fs : List Field} {ps : List (Nat × Nat)}, fs.mapM (fun f => (P.info? f.type).map fun i => (f.offset, i.size)) = some ps → (fs.mapM (fun (f : Field) => (do pure (f.offset, ← sizeOf f.type) : Sem (Nat × Nat)))).run P w = .ok ps w
  | [], ps, h => by
    simp only [List.mapM_nil, Option.pure_def, Option.some.injEq] at h
    subst h
    rfl
  | f :: fs, ps, h => by
    simp only [List.mapM_cons, Option.pure_def, Option.bind_eq_bind] at h
    cases hi : P.info? f.type with
    | none => rw [hi] at h; simp at h
    | some i =>
      cases hl : fs.mapM (fun f => (P.info? f.type).map fun i => (f.offset, i.size)) with
      | none => rw [hi, hl] at h; simp at h
      | some us =>
        rw [hi, hl] at h
        simp only [Option.map_some, Option.bind_some, Option.some.injEq] at h
        subst h
        have := mapM_places (w := w) hl
        have hs : (sizeOf f.type).run P w = .ok i.size w := by simp [sizeOf, run_typeInfo w hi]
        simp only [List.mapM_cons, Sem.run_bind, hs, Result.andThen_ok, Sem.run_pure]
        rw [this]
        rfl

omit [Glb] in
theorem bld_run {t : TypeId} {ps : List (Nat × Nat)} {z : List V} (h : bldOf P t = some ps) (hz : zeroOf P t = some z) : ∃ zv, (∀ w, (zeroValue t).run P w = .ok zv w) ∧ ∀ (parts : Array (Nat × Value)) (cells : Array Value) w, Instr.fill (fun i => ps[i]?) zv.cells parts.toList = some cells → (Instr.build t parts).run P w = .ok (.agg cells) w := by
  obtain ⟨zv, h1, _⟩ := zeroOf_ok hz
  refine ⟨zv, h1, fun parts cells w hf => ?_⟩
  unfold bldOf at h
  split at h
  · rename_i fs hu
    have hpl : (fs.mapM (fun (f : Field) => (do pure (f.offset, ← sizeOf f.type) : Sem (Nat × Nat)))).run P w = .ok ps.toArray w := by
      rw [Array.mapM_eq_mapM_toList]
      simp only [map_eq_pure_bind, Sem.run_bind, mapM_places (w := w) h, Result.andThen_ok, Sem.run_pure]
    have hf' : Instr.fill (ps.toArray[·]?) zv.cells parts.toList = some cells := fill_mono (fun i x hx => by simpa using hx) hf
    simp only [Instr.build, Sem.run_bind, h1, Result.andThen_ok, run_underlying hu]
    rw [hpl]
    simp only [Result.andThen_ok, hf', Sem.run_pure]
  · rename_i n e hu
    cases hi : P.info? e with
    | none => rw [hi] at h; cases h
    | some i =>
      rw [hi] at h
      simp only [Option.map_some, Option.some.injEq] at h
      subst h
      have hf' : Instr.fill (fun j => some (j * i.size, i.size)) zv.cells parts.toList = some cells := fill_mono (fun j x hx => by
        rw [List.getElem?_map] at hx
        cases hr : (List.range n)[j]? with
        | none => rw [hr] at hx; cases hx
        | some q =>
          rw [hr] at hx
          have : q = j := by
            have := List.getElem?_eq_some_iff.1 hr
            obtain ⟨_, h2⟩ := this
            simpa using h2.symm
          subst this
          simpa using hx) hf
      simp only [Instr.build, Sem.run_bind, h1, Result.andThen_ok, run_underlying hu, sizeOf, run_typeInfo w hi, Sem.run_pure, hf']
  · cases h

theorem envOf_ok {eqs : TypeId → Option (List UK)} {spec : FuncId → List V → Option V} (hfs : funcsOk P = true) (hmix : P.follows .mixedOrders = true) (heq : ∀ t ks, eqs t = some ks → P.eqGuardType P.depth t = false ∧ EqLaw P t ks)
    (hspec : ∀ f args r, spec f args = some r → Pure P f args r ∧ (∃ g, P.funcs[f]? = some g ∧ g.body.isSome = true)) : EnvOk P (envOf P eqs spec) := by
  have hfn : ∀ (f : FuncId) (g : Func), P.funcs[f]? = some g → (g.name == "runtime.NumGoroutine") = false ∧ ∀ c, g.body = some c → codeRegs c = true := fun f g hg => by
    have := List.all_eq_true.1 hfs g (by
      have := Array.mem_of_getElem? hg
      simpa using this)
    simp only [Bool.and_eq_true, Bool.not_eq_true'] at this
    exact ⟨this.1, fun c hc => by have h2 := this.2; rw [hc] at h2; simpa using h2⟩
  refine ⟨fun f g hg => ⟨hg, hfn f g hg⟩, fun t n h => ?_, fun t n h => ?_, fun t b h w => agg_run h w, fun t z h => zeroOf_ok h, fun t i off ft h => ?_, fun t ps z h hz => bld_run h hz, fun t n e h => ?_, fun t e h => ?_, fun t k h => ?_, fun t k h => ?_, fun t k e h => ?_, fun t ks h => heq t ks h, fun t b h => ?_,
    fun f args r h => ?_, hmix⟩
  · simp only [envOf] at h
    cases hi : P.info? t with
    | none => rw [hi] at h; cases h
    | some i => rw [hi] at h; exact ⟨i, rfl, Option.some.inj h⟩
  · simp only [envOf] at h
    cases hi : P.info? t with
    | none => rw [hi] at h; cases h
    | some i => rw [hi] at h; exact ⟨i, rfl, Option.some.inj h⟩
  · simp only [envOf] at h
    split at h
    · rename_i fs hu
      cases hf : fs[i]? with
      | none => rw [hf] at h; cases h
      | some f =>
        rw [hf] at h
        simp only [Option.map_some, Option.some.injEq, Prod.mk.injEq] at h
        exact ⟨fs, f, hu, hf, h.1, h.2⟩
    · cases h
  · simp only [envOf] at h
    split at h
    · simp only [Option.some.injEq, Prod.mk.injEq] at h
      obtain ⟨rfl, rfl⟩ := h
      assumption
    · cases h
  · simp only [envOf] at h
    split at h
    · obtain rfl := Option.some.inj h
      assumption
    · cases h
  · simp only [envOf] at h
    cases hd : P.underlying t with
    | none => rw [hd] at h; cases h
    | some d =>
      rw [hd] at h
      simp only [Option.map_some, Option.some.injEq] at h
      subst h
      cases d <;> simp [kindOf]
  · simp only [envOf] at h
    cases hd : P.underlying t with
    | none => rw [hd] at h; cases h
    | some d => exact ⟨d, rfl⟩
  · simp only [envOf] at h
    split at h
    · simp only [Option.some.injEq, Prod.mk.injEq] at h
      obtain ⟨rfl, rfl⟩ := h
      assumption
    · cases h
  · simp only [envOf] at h
    cases hd : P.underlying t with
    | none => rw [hd] at h; cases h
    | some d =>
      rw [hd] at h
      simp only [Option.map_some, Option.some.injEq] at h
      refine ⟨d, rfl, ?_⟩
      subst h
      cases d <;> simp
  · obtain ⟨h1, g, h2, h3⟩ := hspec f args r h
    exact ⟨h1, g, h2, (hfn f g h2).1, h3⟩
end
end Go.Ev
