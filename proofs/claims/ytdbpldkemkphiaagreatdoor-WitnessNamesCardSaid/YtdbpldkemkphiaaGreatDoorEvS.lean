/- Operations: values built, slices made and appended to. -/
import Derived.Test.YtdbpldkemkphiaaGreatDoorEvR
namespace Go.Ev
variable [Glb]
open Go.RowKit Go.MapKept

section
variable {P : Program} {E : Env} {base : Nat → Prop} {n0 : Nat} {w : World} {S : Sig} {H : Heap} {a : Act} {tm : List V} {o : Oper}

theorem op_typeAssert_fail (hE : EnvOk P E) (hl : Loc w n0 S) (h : RelL (okOf base S) w S tm a.tmps) {x : Operand} {xt t : TypeId} (ho : o.op = .typeAssert x xt t true) {u : V} (hx : evo tm x = some u) (hi : E.iface t = some false) (hu : u = .nili ∨ ∃ t' v, u = .ifc t' v ∧ t' ≠ t)
    {z : List V} {ag : Bool} (hz : E.zero t = some z) (ha : E.agg t = some ag) {v : V} (hv : (if ag then some (V.agg z) else z[0]?) = some v) : OpVal P base nobody S w H a.eval o (.tup [v, .bool false]) H := by
  obtain ⟨d, hd, hms⟩ := hE.iface t false hi
  have hn : ∀ ms, d ≠ .interface ms := fun ms he => by have := hms.1 ⟨ms, he⟩; cases this
  have hrx := evo_rel h hx
  generalize hxx : a.eval x = xx at hrx
  obtain ⟨y, hy, hrel⟩ := zero_val hE hz ha hv (fun _ => zero_one hE hz) (ok := okOf base S) (w := w) (S := S)
  refine .pure hl (x := .tuple #[y, .bool false]) ?_ (.tup rfl (fun j c hj => by
    match j, hj with
    | 0, hj => simp at hj; subst hj; exact hrel
    | 1, hj => simp at hj; subst hj; exact .bool _))
  rcases hu with rfl | ⟨t', v', rfl, hne⟩
  · cases hrx
    cases d <;> first
      | (exact absurd rfl (hn _))
      | simp [execOp, ho, hxx, Instr.typeAssert, run_underlying hd, hy]
  · cases hrx
    cases d <;> first
      | (exact absurd rfl (hn _))
      | simp [execOp, ho, hxx, Instr.typeAssert, run_underlying hd, hy, hne]

/-! ### building -/
omit [Glb] in
theorem foldl_set (off : Nat) : ∀ (l : List Value) (k : Nat) (cs : Array Value), off + k + l.length ≤ cs.size →
    ((l.zipIdx k).foldl (fun cs (p : Value × Nat) => cs.setIfInBounds (off + p.2) p.1) cs).size = cs.size ∧
    ∀ j, ((l.zipIdx k).foldl (fun cs (p : Value × Nat) => cs.setIfInBounds (off + p.2) p.1) cs).getD j default = if off + k ≤ j ∧ j < off + k + l.length then l.getD (j - (off + k)) default else cs.getD j default
  | [], k, cs, _ => ⟨rfl, fun j => by rw [if_neg (by simp only [List.length_nil]; omega)]; rfl⟩
  | v :: l, k, cs, h => by
    simp only [List.length_cons] at h
    obtain ⟨h1, h2⟩ := foldl_set off l (k + 1) (cs.setIfInBounds (off + k) v) (by simp only [Array.size_setIfInBounds]; omega)
    refine ⟨by simpa [List.zipIdx_cons] using h1, fun j => ?_⟩
    have := h2 j
    simp only [List.zipIdx_cons, List.foldl_cons, List.length_cons]
    rw [this]
    by_cases hj : j = off + k
    · subst hj
      rw [if_neg (by omega), if_pos (by omega)]
      simp only [Nat.sub_self, Array.getD_eq_getD_getElem?]
      rw [Array.getElem?_setIfInBounds_self_of_lt (by omega)]
      rfl
    · by_cases hlt : off + (k + 1) ≤ j ∧ j < off + (k + 1) + l.length
      · rw [if_pos hlt, if_pos (by omega)]
        have : j - (off + k) = (j - (off + (k + 1))) + 1 := by omega
        rw [this]
        rfl
      · rw [if_neg hlt, if_neg (by omega)]
        simp only [Array.getD_eq_getD_getElem?]
        rw [Array.getElem?_setIfInBounds_ne (by omega)]

omit [Glb] in
theorem fill_rel {ok : Nat → Prop} (place : Nat → Option (Nat × Nat)) : ∀ (ns : List Nat) (vs : List V) (xs : List Value) (cells cells' : List V) (vc : Array Value),
    vs.length = ns.length → xs.length = vs.length → (∀ j c, vs[j]? = some c → Rel ok w S c (xs.getD j default)) → RelL ok w S cells vc → (∀ c ∈ cells, V.one c = true) → fillCells place cells (ns.zip vs) = some cells' →
    ∃ vc', Instr.fill place vc (ns.zip xs) = some vc' ∧ RelL ok w S cells' vc' ∧ ∀ c ∈ cells', V.one c = true
  | [], [], [], cells, cells', vc, _, _, _, hr, h1, h => by simp only [List.zip_nil_right, fillCells, Option.some.injEq] at h; subst h; exact ⟨vc, rfl, hr, h1⟩
  | [], _ :: _, _, _, _, _, hl, _, _, _, _, _ => by simp at hl
  | _ :: _, [], _, _, _, _, hl, _, _, _, _, _ => by simp at hl
  | _ :: _, _ :: _, [], _, _, _, _, hl, _, _, _, _ => by simp at hl
  | [], [], _ :: _, _, _, _, _, hl, _, _, _, _ => by simp at hl
  | i :: ns, v :: vs, x :: xs, cells, cells', vc, hl1, hl2, hv, hr, h1, h => by
    have h0 : Rel ok w S v x := by simpa using hv 0 v rfl
    simp only [List.zip_cons_cons, fillCells] at h
    split at h
    · cases h
    · rename_i off n hp
      split at h
      · rename_i hc
        obtain ⟨hm, hn, hle⟩ := hc
        obtain ⟨hcl, hone⟩ := h0.cells hm
        have hxs : x.cells.size = n := hcl.1.trans hn
        have hvc : off + x.cells.size ≤ vc.size := by rw [hxs, hr.1]; exact hle
        have hft := foldl_set off x.cells.toList 0 vc (by simpa using hvc)
        have heq : x.cells.zipIdx.foldl (fun cs (p : Value × Nat) => cs.setIfInBounds (off + p.2) p.1) vc = (x.cells.toList.zipIdx 0).foldl (fun cs (p : Value × Nat) => cs.setIfInBounds (off + p.2) p.1) vc := by
          rw [← Array.foldl_toList, Array.toList_zipIdx]
        generalize hvc' : x.cells.zipIdx.foldl (fun cs (p : Value × Nat) => cs.setIfInBounds (off + p.2) p.1) vc = vc1 at heq
        rw [← heq] at hft
        have hlen : off + v.cells.length ≤ cells.length := by omega
        have hrel : RelL ok w S (putAt cells off v.cells) vc1 := by
          refine ⟨by rw [hft.1, hr.1, putAt_length hlen], fun j c hj => ?_⟩
          rw [putAt_get hlen] at hj
          rw [hft.2]
          simp only [Nat.add_zero, Array.length_toList]
          have hsz := hcl.1
          split at hj
          · rename_i hb
            rw [if_pos (by omega)]
            have := hcl.2 _ c hj
            simpa [Array.getD_eq_getD_getElem?, List.getD_eq_getElem?_getD] using this
          · rename_i hb
            rw [if_neg (by omega)]
            exact hr.2 j c hj
        have hone' : ∀ c ∈ putAt cells off v.cells, V.one c = true := fun c hc => by
          obtain ⟨j, hj⟩ := List.getElem?_of_mem hc
          rw [putAt_get hlen] at hj
          split at hj
          · exact hone c (List.mem_of_getElem? hj)
          · exact h1 c (List.mem_of_getElem? hj)
        obtain ⟨vc', e1, e2, e3⟩ := fill_rel place ns vs xs _ cells' vc1 (by simpa using hl1) (by simpa using hl2) (fun j c hj => by simpa using hv (j + 1) c (by simpa using hj)) hrel hone' h
        refine ⟨vc', ?_, e2, e3⟩
        simp only [List.zip_cons_cons, Instr.fill, hp]
        rw [if_neg (by simp only [Bool.or_eq_true, decide_eq_true_eq]; omega)]
        have hvc2 : x.cells.zipIdx.foldl (fun cs (x : Value × Nat) => match x with | (c, j) => cs.setIfInBounds (off + j) c) vc = vc1 := hvc'
        rw [hvc2]
        exact e1
      · cases h

omit [Glb] in
theorem evos_list {a : Act} {tm : List V} {ok : Nat → Prop} {ps : Array (Nat × Operand)} {vs : List V} (h : RelL ok w S tm a.tmps) (hv : evos tm (ps.toList.map (·.2)) = some vs) :
    vs.length = (ps.toList.map (·.1)).length ∧ ((ps.map fun p => (p.1, a.eval p.2)).toList = (ps.toList.map (·.1)).zip (ps.toList.map fun p => a.eval p.2)) ∧ (ps.toList.map fun p => a.eval p.2).length = vs.length ∧ ∀ j c, vs[j]? = some c → Rel ok w S c ((ps.toList.map fun p => a.eval p.2).getD j default) := by
  obtain ⟨h1, h2⟩ := evos_rel h hv
  refine ⟨by simpa using h1, ?_, by simpa using h1.symm, fun j c hj => ?_⟩
  · simp only [Array.toList_map]
    induction ps.toList with
    | nil => rfl
    | cons p l ih => simp only [List.map_cons, List.zip_cons_cons, ih]
  · obtain ⟨x, hx, hr⟩ := h2 j c hj
    rw [List.getElem?_map] at hx
    cases hp : ps.toList[j]? with
    | none => rw [hp] at hx; cases hx
    | some p =>
      rw [hp] at hx
      simp only [Option.map_some, Option.some.injEq] at hx
      subst hx
      rw [List.getD_eq_getElem?_getD, List.getElem?_map, hp]
      exact hr

theorem op_build (hE : EnvOk P E) (hl : Loc w n0 S) (h : RelL (okOf base S) w S tm a.tmps) {t : TypeId} {ps : Array (Nat × Operand)} (ho : o.op = .build t ps) {vs : List V} (hv : evos tm (ps.toList.map (·.2)) = some vs) {v : V} (hb : buildV E t ((ps.toList.map (·.1)).zip vs) = some v) :
    OpVal P base nobody S w H a.eval o v H := by
  obtain ⟨h1, h2, h3, h4⟩ := evos_list h hv
  unfold buildV at hb
  split at hb
  · rename_i z pl hz hpl
    split at hb
    · rename_i hone
      cases hf : fillCells (fun i => pl[i]?) z ((ps.toList.map (·.1)).zip vs) with
      | none => rw [hf] at hb; cases hb
      | some cells =>
        rw [hf] at hb
        simp only [Option.map_some, Option.some.injEq] at hb
        subst hb
        obtain ⟨zv, hzv, hrun⟩ := hE.bld t pl z hpl hz
        obtain ⟨zv2, hzv2, hzr⟩ := zero_relL hE hz (ok := okOf base S) (w := w) (S := S)
        have hzz : zv2 = zv := by
          have e1 := hzv w
          have e2 := hzv2 w
          rw [e1] at e2
          simpa using e2.symm
        subst hzz
        obtain ⟨vc, e1, e2, e3⟩ := fill_rel (fun i => pl[i]?) _ vs _ z cells zv2.cells h1 h3 h4 hzr (fun c hc => List.all_eq_true.1 hone c hc) hf
        have := hrun (ps.map fun p => (p.1, a.eval p.2)) vc w (by rw [h2]; exact e1)
        refine .pure hl (x := .agg vc) ?_ (.agg e3 e2.1 e2.2)
        have hps : (ps.map fun (x : Nat × Operand) => match x with | (i, x) => (i, a.eval x)) = ps.map fun p => (p.1, a.eval p.2) := rfl
        simp only [execOp, ho, Sem.run_bind, hps, this, Result.andThen_ok, Sem.run_pure]
    · cases hb
  · cases hb

omit [Glb] in
theorem fillCells_length (place : Nat → Option (Nat × Nat)) : ∀ (ps : List (Nat × V)) (cells cells' : List V), fillCells place cells ps = some cells' → cells'.length = cells.length
  | [], cells, cells', h => by simp only [fillCells, Option.some.injEq] at h; subst h; rfl
  | (i, v) :: r, cells, cells', h => by
    simp only [fillCells] at h
    split at h
    · cases h
    · split at h
      · rename_i hc
        rw [fillCells_length place r _ _ h, putAt_length (by omega)]
      · cases h

omit [Glb] in
theorem zeros_get (z : List V) (len : Nat) : (zeros len z).length = len * z.length ∧ ∀ (j : Nat) (c : V), (zeros len z)[j]? = some c → z[j % z.length]? = some c := by
  induction len with
  | zero => exact ⟨by simp [zeros], fun j c hj => by simp [zeros] at hj⟩
  | succ len ih =>
    have he : zeros (len + 1) z = z ++ zeros len z := by simp [zeros, List.replicate_succ]
    rw [he]
    refine ⟨by rw [List.length_append, ih.1, Nat.add_mul]; omega, fun j c hj => ?_⟩
    rw [List.getElem?_append] at hj
    split at hj
    · rename_i hlt; rw [Nat.mod_eq_of_lt hlt]; exact hj
    · rename_i hge
      have := ih.2 _ c hj
      rwa [← Nat.mod_eq_sub_mod (by omega)] at this

/-- Rows of zero values. -/
theorem zeros_rel (hE : EnvOk P E) {t : TypeId} {z : List V} (hz : E.zero t = some z) {len m : Nat} (hle : len ≤ m) {ok : Nat → Prop} {w : World} {S : Sig} {zc : Array Value} (hzc : m * z.length ≠ 0 → ∃ v, (∀ w, (zeroValue t).run P w = .ok v w) ∧ zc = v.cells) :
    ∀ j c, (zeros len z)[j]? = some c → j < m * z.length ∧ Rel ok w S c (((Array.range (m * z.length)).map (fun i => zc[i % zc.size]!)).getD j default) := fun j c hj => by
  have hlt : j < len * z.length := by rw [← (zeros_get z len).1]; exact (List.getElem?_eq_some_iff.1 hj).1
  have hlt2 : j < m * z.length := Nat.lt_of_lt_of_le hlt (Nat.mul_le_mul_right _ hle)
  refine ⟨hlt2, ?_⟩
  obtain ⟨v, hv, rfl⟩ := hzc (by omega)
  obtain ⟨v2, hv2, hs, hr, _⟩ := hE.zero t z hz
  have : v2 = v := by
    have e1 := hv w
    rw [hv2 w] at e1
    simpa using e1
  subst this
  have hg := (zeros_get z len).2 j c hj
  have hoc := hr _ c hg
  have e1 : ((Array.range (m * z.length)).map (fun i => v2.cells[i % v2.cells.size]!)).getD j default = v2.cells.getD (j % z.length) default := by
    simp only [Array.getD_eq_getD_getElem?, Array.getElem?_map]
    rw [Array.getElem?_range, if_pos hlt2, hs]
    simp only [Option.map_some, Option.getD_some]
    have : j % z.length < v2.cells.size := by rw [hs]; exact (List.getElem?_eq_some_iff.1 hg).1
    rw [getElem!_pos v2.cells (j % z.length) this, Array.getElem?_eq_getElem this]
    rfl
  rw [e1]
  exact .of_ofV hoc

omit [Glb] in
/-- A new slice, whole. -/
theorem new_slice (hl : Loc w n0 S) (hn : S H.length = none) {cs : List V} {arr : Array Value} (g n c len : Nat) (ty : TypeId) (hlen : len ≤ c) (hc : c * n ≤ arr.size) (hcl : cs.length ≤ c * n) (h1 : ∀ x ∈ cs, V.one x = true) (hr : ∀ j x, cs[j]? = some x → Rel (okOf base S) w S x (arr.getD j default)) :
    ∃ S', StepR base nobody S w H S' (w.alloc (.cells arr ty)) (H ++ [.cells false g n cs]) ∧ Rel (okOf base S') (w.alloc (.cells arr ty)) S' (.sl H.length g 0 len) (.slice (some ⟨w.heap.size, 0, none⟩) len c) := by
  refine ⟨_, StepR.push hl hn ⟨false, g, false, n, c * n, some (w.heap.size, 0)⟩ _ _ rfl (fun hs hk => ⟨rfl, rfl, rfl, rfl, w.heap.size, 0, arr, ty, rfl, heap_alloc_new w _, hcl, by simpa using hc, h1, fun j x hj => by
    rw [Nat.zero_add]; exact (hr j x hj).mono hk hs⟩), .sl (Sig.put_same _ _ _) (Nat.le_refl _) hlen (fun _ => ⟨_, _, rfl⟩) (fun _ => ?_)⟩
  simp [SlOk]

theorem op_buildSlice (hE : EnvOk P E) (hl : Loc w n0 S) (hn : S H.length = none) (h : RelL (okOf base S) w S tm a.tmps) {t : TypeId} {len : Nat} {ps : Array (Nat × Operand)} (ho : o.op = .buildSlice t len ps) {vs : List V} (hv : evos tm (ps.toList.map (·.2)) = some vs) {el : TypeId} (hs : E.slc t = some el)
    {n : Nat} {z : List V} (hsz : E.size el = some n) (hz : E.zero el = some z) (hzl : z.length = n) (hle : len * n ≤ 2 ^ 24) {cs : List V} (hf : fillCells (fun i => some (i * n, n)) (zeros len z) ((ps.toList.map (·.1)).zip vs) = some cs) :
    OpVal P base nobody S w H a.eval o (.sl H.length 0 0 len) (H ++ [.cells false 0 n cs]) := by
  obtain ⟨h1, h2, h3, h4⟩ := evos_list h hv
  have hu := hE.slc t el hs
  obtain ⟨zv, hzv, hzs, _⟩ := hE.zero el z hz
  subst hzl
  obtain ⟨zc, hzc⟩ : ∃ zc, zc = if len * z.length = 0 then (#[] : Array Value) else zv.cells := ⟨_, rfl⟩
  have hrz : RelL (okOf base S) w S (zeros len z) ((Array.range (len * z.length)).map (fun i => zc[i % zc.size]!)) := ⟨by simp [(zeros_get z len).1], fun j c hj =>
    (zeros_rel hE hz (Nat.le_refl len) (fun hne => ⟨zv, hzv, by rw [hzc, if_neg hne]⟩) j c hj).2⟩
  obtain ⟨vc, e1, e2, e3⟩ := fill_rel (fun i => some (i * z.length, z.length)) _ vs _ (zeros len z) cs _ h1 h3 h4 hrz (fun c hc => by
    obtain ⟨j, hj⟩ := List.getElem?_of_mem hc
    exact List.all_eq_true.1 (zero_one hE hz) c (List.mem_of_getElem? ((zeros_get z len).2 j c hj))) hf
  have hcl := fillCells_length _ _ _ _ hf
  rw [(zeros_get z len).1] at hcl
  obtain ⟨S', x1, hr⟩ := new_slice (base := base) hl hn 0 z.length len len el (Nat.le_refl _) (by rw [e2.1, hcl]; exact Nat.le_refl _) (by omega) e3 e2.2
  refine ⟨_, _, S', ?_, hr, x1⟩
  have hps : (ps.map fun (x : Nat × Operand) => match x with | (i, x) => (i, a.eval x)) = ps.map fun p => (p.1, a.eval p.2) := rfl
  have hz' : Sem.run P (if len * z.length = 0 then (pure #[] : Sem (Array Value)) else do pure (← zeroValue el).cells) w = .ok zc w := by
    rw [hzc]
    split
    · rfl
    · simp [hzv]
  have hbs : (Instr.buildSlice t len (ps.map fun p => (p.1, a.eval p.2))).run P w = .ok (.slice (some ⟨w.heap.size, 0, none⟩) len len) (w.alloc (.cells vc el)) := by
    rw [← h2] at e1
    by_cases h0 : len * z.length = 0
    · rw [if_pos h0] at hzc
      subst hzc
      simp only [Instr.buildSlice, Sem.run_bind, run_underlying hu, Result.andThen_ok, size_run hE hsz, Sem.run_ite, if_neg (show ¬ len * z.length > 2 ^ 24 by omega), if_pos h0, Sem.run_pure, e1, newRow, newObj]
      rfl
    · rw [if_neg h0] at hzc
      subst hzc
      simp only [Instr.buildSlice, Sem.run_bind, run_underlying hu, Result.andThen_ok, size_run hE hsz, Sem.run_ite, if_neg (show ¬ len * z.length > 2 ^ 24 by omega), if_neg h0, Sem.run_pure, hzv, e1, newRow, newObj]
      rfl
  simp only [execOp, ho, Sem.run_bind, hps, hbs, Result.andThen_ok, Sem.run_pure]

theorem op_makeSlice (hE : EnvOk P E) (hl : Loc w n0 S) (hn : S H.length = none) (h : RelL (okOf base S) w S tm a.tmps) {t : TypeId} {x y : Operand} (ho : o.op = .makeSlice t x y) {l c : Int} (hx : evo tm x = some (.int .i64 l)) (hy : evo tm y = some (.int .i64 c)) {el : TypeId} (hs : E.slc t = some el)
    {n by_ : Nat} {z : List V} (hsz : E.size el = some n) (hz : E.zero el = some z) (hby : E.bytes el = some by_) (hzl : z.length = n) (h0 : 0 ≤ l) (h1 : l ≤ c) (h2 : c ≤ 2 ^ 40) (h3 : (by_ : Int) * c ≤ 2 ^ 40) :
    OpVal P base nobody S w H a.eval o (.sl H.length 0 0 l.toNat) (H ++ [.cells false 0 n (zeros l.toNat z)]) := by
  have hu := hE.slc t el hs
  obtain ⟨zv, hzv, hzs, _⟩ := hE.zero el z hz
  obtain ⟨i, hi, his⟩ := hE.bytes el by_ hby
  subst hzl
  have hrx := (evo_rel h hx).int_inv
  have hry := (evo_rel h hy).int_inv
  obtain ⟨zc, hzc⟩ : ∃ zc, zc = if c.toNat * z.length = 0 then (#[] : Array Value) else zv.cells := ⟨_, rfl⟩
  have hrz := zeros_rel hE hz (len := l.toNat) (m := c.toNat) (by omega) (ok := okOf base S) (w := w) (S := S) (zc := zc) (fun hne => ⟨zv, hzv, by rw [hzc, if_neg hne]⟩)
  obtain ⟨S', x1, hr⟩ := new_slice (base := base) hl hn (cs := zeros l.toNat z) (arr := (Array.range (c.toNat * z.length)).map (fun i => zc[i % zc.size]!)) 0 z.length c.toNat l.toNat el (by omega) (by simp) (by rw [(zeros_get z _).1]; exact Nat.mul_le_mul_right _ (by omega)) (fun x hx => by
    obtain ⟨j, hj⟩ := List.getElem?_of_mem hx
    exact List.all_eq_true.1 (zero_one hE hz) x (List.mem_of_getElem? ((zeros_get z _).2 j x hj))) (fun j x hj => (hrz j x hj).2)
  refine ⟨_, _, S', ?_, hr, x1⟩
  have wl : IntKind.i64.wrap l = l := by rw [IntKind.wrap_i64]; omega
  have wc : IntKind.i64.wrap c = c := by rw [IntKind.wrap_i64]; omega
  have n1 : ¬ c < 0 := by omega
  have n2 : ¬ (281474976710656 < (i.bytes : Int) * c) := by rw [his]; omega
  have n3 : ¬ l < 0 := by omega
  have n4 : ¬ c < l := by omega
  have hroom : ¬ (c.toNat * i.bytes > roomBytes) := by
    have e1 : ((c.toNat * i.bytes : Nat) : Int) = (by_ : Int) * c := by rw [Int.natCast_mul, Int.toNat_of_nonneg (by omega), his, Int.mul_comm]
    have e2 : (roomBytes : Int) = 2 ^ 47 := by simp [roomBytes]
    omega
  have hrun : (Instr.makeSlice t (.int .i64 l) (.int .i64 c)).run P w = .ok (.slice (some ⟨w.heap.size, 0, none⟩) l.toNat c.toNat) (w.alloc (.cells ((Array.range (c.toNat * z.length)).map (fun i => zc[i % zc.size]!)) el)) := by
    by_cases hn0 : c.toNat * z.length = 0
    · rw [if_pos hn0] at hzc
      subst hzc
      simp [Instr.makeSlice, run_underlying hu, asInt, asIntOf, typeInfo, hi, size_run hE hsz, wl, wc, n1, n2, n3, n4, hn0, newRow, askRoom, hroom]
    · rw [if_neg hn0] at hzc
      subst hzc
      simp [Instr.makeSlice, run_underlying hu, asInt, asIntOf, typeInfo, hi, size_run hE hsz, hzv, wl, wc, n1, n2, n3, n4, hn0, newRow, askRoom, hroom]
  simp only [execOp, ho, Sem.run_bind, hrx, hry, hrun, Result.andThen_ok, Sem.run_pure]
end
end Go.Ev
