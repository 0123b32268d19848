/- One operation, of whatever kind but a call of a function. -/
import Derived.Test.YtdbpldkemkphiaaGreatDoorEvT
namespace Go.Ev
variable [Glb]
open Go.RowKit Go.MapKept

/-- A deferred call. -/
inductive DfOne (ok : Nat → Prop) (w : World) (S : Sig) : Df → Deferred → Prop
  | coll {b e r} (h : S b = some e) (hf : e.fix = true) (hro : e.ro = false) (hl : e.loc = some (r, 0)) : DfOne ok w S (.coll b) { target := .collected r, args := #[] }
  | call {f : FuncId} {p c : List V} {vc : Array Value} {args : List V} {va : Array Value} (hc : RelL ok w S c vc) (ha : RelL ok w S (p ++ args) va) : DfOne ok w S (.call (.fn (.func f) p c) args) { target := .fn (.func f) vc, args := va }

def PlainRes (P : Program) (base : Nat → Prop) (S : Sig) (w : World) (s : St) (ρ : Operand → Value) (o : Oper) (wr : List Nat) : OR → Prop
  | .val v H' => OpVal P base (fun b => b ∈ wr) S w s.H ρ o v H'
  | .skip H' => OpSkip P base (fun b => b ∈ wr) S w s.H ρ o H'
  | .pan v H' => H' = s.H ∧ ∃ x, (execOp ρ o).run P w = .halt (.panic x) w ∧ Rel (okOf base S) w S v x
  | .dfr d H' => H' = s.H ∧ ∃ dd, (execOp ρ o).run P w = .ok (.defer dd) w ∧ DfOne (okOf base S) w S d dd
  | .rcv v pn H' => H' = s.H ∧ (execOp ρ o).run P w = .ok .recover w ∧ ((s.pn = .dpan v false ∧ pn = .dpan v true) ∨ (s.pn = .dret ∧ pn = .dret ∧ v = .nili) ∨ (∃ u, s.pn = .dpan u true ∧ pn = s.pn ∧ v = .nili))

section
variable {P : Program} {E : Env} {base : Nat → Prop} {n0 : Nat} {w : World} {S : Sig} {s : St} {a : Act} {o : Oper}

omit [Glb] in
theorem OpVal.nobody_of {W : Nat → Prop} {v : V} {H H' : Heap} {ρ : Operand → Value} (hl : Loc w n0 S) (h : OpVal P base nobody S w H ρ o v H') (hW : ∀ b, W b → Known (okOf base S) w S H b) : OpVal P base W S w H ρ o v H' := by
  obtain ⟨x, w', S', h1, h2, h3⟩ := h
  exact ⟨x, w', S', h1, h2, h3.widen hl (fun b h => h.elim) (fun b hb _ _ => hW b hb)⟩

omit [Glb] in
theorem OpVal.mono {W W1 : Nat → Prop} {v : V} {H H' : Heap} {ρ : Operand → Value} (hl : Loc w n0 S) (h : OpVal P base W S w H ρ o v H') (h1 : ∀ b, W b → W1 b) (hW : ∀ b, W1 b → Known (okOf base S) w S H b) : OpVal P base W1 S w H ρ o v H' := by
  obtain ⟨x, w', S', e1, e2, e3⟩ := h
  exact ⟨x, w', S', e1, e2, e3.widen hl h1 (fun b hb _ _ => hW b hb)⟩

omit [Glb] in
theorem OpSkip.mono {W W1 : Nat → Prop} {H H' : Heap} {ρ : Operand → Value} (hl : Loc w n0 S) (h : OpSkip P base W S w H ρ o H') (h1 : ∀ b, W b → W1 b) (hW : ∀ b, W1 b → Known (okOf base S) w S H b) : OpSkip P base W1 S w H ρ o H' := by
  obtain ⟨w', S', e1, e3⟩ := h
  exact ⟨w', S', e1, e3.widen hl h1 (fun b hb _ _ => hW b hb)⟩

omit [Glb] in
theorem map_val {α : Type} {x : Option α} {f : α → V} {H : Heap} {r : OR} (h : x.map (fun v => OR.val (f v) H) = some r) : ∃ v, x = some v ∧ r = .val (f v) H := by
  cases x with
  | none => cases h
  | some v => exact ⟨v, rfl, (Option.some.inj h).symm⟩

omit [Glb] in
theorem evos_one {tm : List V} {l : List Operand} {x : V} (h : evos tm l = some [x]) : ∃ y, l = [y] ∧ evo tm y = some x := by
  match l, h with
  | [], h => simp [evos] at h
  | y :: r, h =>
    simp only [evos] at h
    split at h
    · rename_i v vs h1 h2
      simp only [Option.some.injEq, List.cons.injEq] at h
      obtain ⟨rfl, rfl⟩ := h
      cases r with
      | nil => exact ⟨y, rfl, h1⟩
      | cons z r =>
        simp only [evos] at h2
        split at h2 <;> simp at h2
    · cases h

omit [Glb] in
theorem evos_two {tm : List V} {l : List Operand} {x x' : V} (h : evos tm l = some [x, x']) : ∃ y y', l = [y, y'] ∧ evo tm y = some x ∧ evo tm y' = some x' := by
  match l, h with
  | [], h => simp [evos] at h
  | y :: r, h =>
    simp only [evos] at h
    split at h
    · rename_i v vs h1 h2
      simp only [Option.some.injEq, List.cons.injEq] at h
      obtain ⟨rfl, rfl⟩ := h
      obtain ⟨y', rfl, h3⟩ := evos_one h2
      exact ⟨y, y', rfl, h1, h3⟩
    · cases h

theorem op_plain (hE : EnvOk P E) {call : CallH} {r : OR} (hr : evOp E call s o = some r) (hnc : ∀ c f, o.op = .call c → c.callee ≠ .value f) {rd wr : List Nat} (ha : accOf s o = some (rd, wr)) (hl : Loc w n0 S) (hn : ∀ b, s.H.length ≤ b → S b = none) (h : RelL (okOf base S) w S s.tm a.tmps)
    (hkr : ∀ b ∈ rd, Known (okOf base S) w S s.H b) (hkw : ∀ b ∈ wr, Known (okOf base S) w S s.H b) : PlainRes P base S w s a.eval o wr r := by
  have hn0 : S s.H.length = none := hn _ (Nat.le_refl _)
  have pv : ∀ {v : V} {H' : Heap}, OpVal P base nobody S w s.H a.eval o v H' → PlainRes P base S w s a.eval o wr (.val v H') := fun h => h.nobody_of hl hkw
  cases ho : o.op with
  | move x =>
    simp only [evOp, ho] at hr
    obtain ⟨v, hv, rfl⟩ := map_val hr
    exact pv (op_move hl h ho hv)
  | assign x =>
    simp only [evOp, ho] at hr
    split at hr
    · rename_i hv
      obtain rfl := Option.some.inj hr
      exact pv (op_assign_nil hl hn0 h ho hv)
    · rename_i v hv _
      obtain rfl := Option.some.inj hr
      exact pv (op_assign hl h ho ‹_›)
    · cases hr
  | pick c x y =>
    simp only [evOp, ho] at hr
    split at hr
    · obtain rfl := Option.some.inj hr
      exact pv (op_pick hl h ho ‹_› ‹_› ‹_›)
    · cases hr
  | alloc t =>
    simp only [evOp, ho] at hr
    split at hr
    · split at hr
      · obtain rfl := Option.some.inj hr
        exact pv (op_alloc hE hl hn ho ‹_› ‹_›)
      · cases hr
    · cases hr
  | box t x =>
    simp only [evOp, ho] at hr
    split at hr
    · split at hr
      · obtain rfl := Option.some.inj hr
        exact pv (op_box hl hn h ho ‹_› ‹_›)
      · cases hr
    · cases hr
  | build t ps =>
    simp only [evOp, ho] at hr
    split at hr
    · obtain ⟨v, hv, rfl⟩ := map_val hr
      exact pv (op_build hE hl h ho ‹_› hv)
    · cases hr
  | buildSlice t len ps =>
    simp only [evOp, ho] at hr
    split at hr
    · split at hr
      · split at hr
        · rename_i hc
          split at hr
          · obtain rfl := Option.some.inj hr
            exact pv (op_buildSlice hE hl hn0 h ho ‹_› ‹_› ‹_› ‹_› hc.1 hc.2.1 ‹_›)
          · cases hr
        · cases hr
      · cases hr
    · cases hr
  | load t x =>
    simp only [evOp, ho] at hr
    split at hr
    · rename_i p hp
      obtain ⟨v, hv, rfl⟩ := map_val hr
      refine pv (op_load hE hl h ho hp hv (fun b g off he => hkr b ?_))
      subst he
      simp only [accOf, ho, hp, Option.some.injEq, Prod.mk.injEq] at ha
      rw [← ha.1]; simp
    · cases hr
  | store t x y =>
    simp only [evOp, ho] at hr
    split at hr
    · rename_i p v n hp hv hsz
      split at hr
      · rename_i hc
        cases hw : writeAt (lift v.cells s.H).2 p (lift v.cells s.H).1 with
        | none => rw [hw] at hr; cases hr
        | some H' =>
          rw [hw] at hr
          obtain rfl := Option.some.inj hr
          refine op_store hE hl hn h ho hp hv hc.1 hsz hc.2 hw (fun b g off he => ?_) hkw
          subst he
          simp only [accOf, ho, hp, Option.some.injEq, Prod.mk.injEq] at ha
          rw [← ha.2]; simp
      · cases hr
    · cases hr
  | nilCheck x =>
    simp only [evOp, ho] at hr
    split at hr <;> first
      | (cases hr; done)
      | (obtain rfl := Option.some.inj hr
         exact pv (op_nilCheck hl h ho ‹_› (by first | exact .inl ⟨_, _, _, rfl⟩ | exact .inr (.inl ⟨_, _, rfl⟩) | exact .inr (.inr ⟨_, _, _, rfl⟩))))
  | binOp op t x y ty =>
    simp only [evOp, ho] at hr
    split at hr
    · split at hr
      · rename_i hc
        split at hr
        · obtain rfl := Option.some.inj hr; exact pv (op_binOp_nil hE hl h ho ‹_› ‹_› hc.1 hc.2 (.inl ⟨rfl, rfl⟩))
        · obtain rfl := Option.some.inj hr; exact pv (op_binOp_nil hE hl h ho ‹_› ‹_› hc.1 hc.2 (.inr ⟨rfl, rfl⟩))
        · cases hr
      · cases hr
    · obtain ⟨v, hv, rfl⟩ := map_val hr
      exact pv (op_binOp hE hl h ho ‹_› ‹_› hv)
    · cases hr
  | unOp op t x =>
    simp only [evOp, ho] at hr
    split at hr
    · obtain ⟨v, hv, rfl⟩ := map_val hr
      exact pv (op_unOp hl h ho ‹_› hv)
    · cases hr
  | convert t d x =>
    simp only [evOp, ho] at hr
    split at hr
    · obtain ⟨v, hv, rfl⟩ := map_val hr
      exact pv (op_convert hE hl h ho ‹_› hv)
    · cases hr
  | makeInterface t x =>
    simp only [evOp, ho] at hr
    split at hr
    · cases hr
    · obtain rfl := Option.some.inj hr
      exact pv (op_makeIface hE hl h ho ‹_› ‹_›)
    · cases hr
  | makeFunc f p c =>
    simp only [evOp, ho] at hr
    split at hr
    · split at hr
      · obtain rfl := Option.some.inj hr
        exact pv (op_makeFunc hl h ho ‹_› ‹_›)
      · cases hr
    · cases hr
  | makeMap t r' =>
    simp only [evOp, ho] at hr
    cases r' with
    | none =>
      obtain rfl := Option.some.inj hr
      exact pv (op_makeMap hl hn0 ho)
    | some x => cases hr
  | makeSlice t l c =>
    simp only [evOp, ho] at hr
    split at hr
    · split at hr
      · split at hr
        · rename_i hc
          obtain rfl := Option.some.inj hr
          exact pv (op_makeSlice hE hl hn0 h ho ‹_› ‹_› ‹_› ‹_› ‹_› ‹_› hc.2.2.2.2.1 hc.1 hc.2.1 hc.2.2.1 hc.2.2.2.1)
        · cases hr
      · cases hr
    · cases hr
  | slice t x lo hi mx =>
    simp only [evOp, ho] at hr
    split at hr
    · split at hr
      · obtain ⟨v, hv, rfl⟩ := map_val hr
        exact pv (op_slice_str hE hl h ho ‹_› ‹_› ‹_› ‹_› ‹_› hv)
      · cases hr
    · split at hr
      · split at hr
        · obtain ⟨v, hv, rfl⟩ := map_val hr
          exact pv (op_slice_slc hE hl h ho ‹_› ‹_› ‹_› ‹_› ‹_› ‹_› hv)
        · cases hr
      · cases hr
    · cases hr
  | fieldAddr t x f =>
    simp only [evOp, ho] at hr
    split at hr
    · split at hr
      · split at hr
        · obtain ⟨v, hv, rfl⟩ := map_val hr
          exact pv (op_fieldAddr hE hl h ho ‹_› ‹_› ‹_› ‹_› hv)
        · cases hr
      · cases hr
    · cases hr
  | field t x f =>
    simp only [evOp, ho] at hr
    split at hr
    · obtain ⟨v, hv, rfl⟩ := map_val hr
      exact pv (op_field hE hl h ho ‹_› ‹_› hv)
    · cases hr
  | indexAddr t x i =>
    simp only [evOp, ho] at hr
    split at hr
    · split at hr
      · split at hr
        · obtain ⟨v, hv, rfl⟩ := map_val hr
          exact pv (op_indexAddr_arr hE hl h ho ‹_› ‹_› ‹_› ‹_› hv)
        · cases hr
      · split at hr
        · obtain ⟨v, hv, rfl⟩ := map_val hr
          exact pv (op_indexAddr_slc hE hl h ho ‹_› ‹_› ‹_› ‹_› hv)
        · cases hr
      · cases hr
    · cases hr
  | index t x i =>
    simp only [evOp, ho] at hr
    split at hr
    · split at hr
      · split at hr
        · split at hr
          · rename_i hc
            obtain ⟨v, hv, rfl⟩ := map_val hr
            exact pv (op_index_agg hE hl h ho ‹_› ‹_› ‹_› ‹_› hc.1 hc.2 hv)
          · cases hr
        · cases hr
      · cases hr
    · split at hr
      · rename_i hc
        split at hr
        · obtain rfl := Option.some.inj hr
          exact pv (op_index_str hE hl h ho ‹_› ‹_› hc.1 hc.2 ‹_›)
        · cases hr
      · cases hr
    · cases hr
  | lookup t x k ok =>
    simp only [evOp, ho] at hr
    split at hr
    · rename_i m kv kt el hm hk ht
      split at hr
      · rename_i hf
        split at hr
        · rename_i es hes
          have hme : mapEnts s.H m = some es := by
            unfold mapEnts
            exact hes
          have hK : ∀ b, m = .map b → Known (okOf base S) w S s.H b := fun b he => hkr b (by
            subst he
            simp only [accOf, ho, hm, Option.some.injEq, Prod.mk.injEq] at ha
            rw [← ha.1]; simp)
          split at hr
          · rename_i v hfk
            obtain rfl := Option.some.inj hr
            have := op_lookup hE hl h ho hm hk ht hf hme hK hfk (v := v) rfl
            exact pv (by simpa using this)
          · rename_i hfk
            split at hr
            · split at hr
              · rename_i v hv
                obtain rfl := Option.some.inj hr
                have := op_lookup hE hl h ho hm hk ht hf hme hK hfk (v := v) ⟨_, _, ‹_›, ‹_›, hv⟩
                exact pv (by simpa using this)
              · cases hr
            · cases hr
          · cases hr
        · cases hr
      · cases hr
    · cases hr
  | mapUpdate t m k x =>
    simp only [evOp, ho] at hr
    split at hr
    · rename_i b kv v kt el hm hk hx ht
      split at hr
      · rename_i es hf hes
        cases hp : putK kv v es with
        | none => rw [hp] at hr; cases hr
        | some es' =>
          rw [hp] at hr
          obtain rfl := Option.some.inj hr
          have hb : b ∈ wr := by
            simp only [accOf, ho, hm, Option.some.injEq, Prod.mk.injEq] at ha
            rw [← ha.2]; simp
          exact (op_mapUpdate hE hl h (.inl ho) hm hk hx ht hf hes (hkw b hb) hp).mono hl (fun q hq => by subst hq; exact hb) hkw
      · cases hr
    · cases hr
  | insert t m k x =>
    simp only [evOp, ho] at hr
    split at hr
    · rename_i b kv v kt el hm hk hx ht
      split at hr
      · rename_i es hf hes
        cases hp : putK kv v es with
        | none => rw [hp] at hr; cases hr
        | some es' =>
          rw [hp] at hr
          obtain rfl := Option.some.inj hr
          have hb : b ∈ wr := by
            simp only [accOf, ho, hm, Option.some.injEq, Prod.mk.injEq] at ha
            rw [← ha.2]; simp
          exact (op_mapUpdate hE hl h (.inr ho) hm hk hx ht hf hes (hkw b hb) hp).mono hl (fun q hq => by subst hq; exact hb) hkw
      · cases hr
    · cases hr
  | range t x =>
    simp only [evOp, ho] at hr
    split at hr
    · split at hr
      · obtain rfl := Option.some.inj hr
        exact pv (op_range hE hl hn0 h ho ‹_› ‹_›)
      · cases hr
    · cases hr
  | next x st =>
    cases st with
    | false => simp only [evOp, ho] at hr; cases hr
    | true =>
      simp only [evOp, ho] at hr
      split at hr
      · rename_i b hb
        have hbw : b ∈ wr := by
          simp only [accOf, ho, hb, Option.some.injEq, Prod.mk.injEq] at ha
          rw [← ha.2]; simp
        split at hr
        · split at hr
          · obtain rfl := Option.some.inj hr
            exact (op_next_more hl h ho hb ‹_› (hkw b hbw) ‹_›).mono hl (fun q hq => by subst hq; exact hbw) hkw
          · obtain rfl := Option.some.inj hr
            exact pv (op_next_over hl h ho hb ‹_› (hkw b hbw) ‹_›)
        · cases hr
      · cases hr
  | typeAssert x xt t ok =>
    simp only [evOp, ho] at hr
    split at hr
    · rename_i u v hx hi
      split at hr
      · rename_i hut
        subst hut
        obtain rfl := Option.some.inj hr
        exact pv (op_typeAssert_val hE hl h ho hx hi)
      · rename_i hut
        split at hr
        · rename_i hok
          subst hok
          split at hr
          · split at hr
            · obtain rfl := Option.some.inj hr
              exact pv (op_typeAssert_fail hE hl h ho hx hi (.inr ⟨_, _, rfl, hut⟩) ‹_› ‹_› ‹_›)
            · cases hr
          · cases hr
        · cases hr
    · rename_i hx hi
      split at hr
      · rename_i hok
        subst hok
        split at hr
        · split at hr
          · obtain rfl := Option.some.inj hr
            exact pv (op_typeAssert_fail hE hl h ho hx hi (.inl rfl) ‹_› ‹_› ‹_›)
          · cases hr
        · cases hr
      · cases hr
    · cases hr
  | extract x i =>
    simp only [evOp, ho] at hr
    split at hr
    · obtain ⟨v, hv, rfl⟩ := map_val hr
      exact pv (op_extract hl h ho ‹_› hv)
    · cases hr
  | call c =>
    simp only [evOp, ho] at hr
    split at hr
    · cases hr
    · rename_i args hargs
      split at hr
      · rename_i hc
        obtain ⟨v, hv, rfl⟩ := map_val hr
        exact pv (op_min hl h ho hc hargs hv)
      · rename_i hc
        obtain ⟨v, hv, rfl⟩ := map_val hr
        exact pv (op_max hl h ho hc hargs hv)
      · rename_i b hmin hmax hc
        unfold evBuiltin at hr
        split at hr
        · rename_i x
          split at hr
          · rename_i t ht
            cases hlen : lenV E s.H t x with
            | none => rw [hlen] at hr; cases hr
            | some k =>
              rw [hlen] at hr
              obtain rfl := Option.some.inj hr
              refine pv (op_len hE hl h ho hc hargs ht hlen (fun b he => hkr b ?_))
              subst he
              obtain ⟨y, hy, hy2⟩ := evos_one hargs
              simp only [accOf, ho, hc, Option.some.injEq, Prod.mk.injEq, hy] at ha
              rw [← ha.1]; simp [hy2]
          · cases hr
        · rename_i x y
          split at hr
          · rename_i t ts htt
            split at hr
            · rename_i e he
              split at hr
              · rename_i n by_ z hsz hby hz
                split at hr
                · rename_i hcond
                  obtain ⟨hpos, hzl, hts⟩ := hcond
                  obtain ⟨y1, y2, hys, hy1, hy2⟩ := evos_two hargs
                  simp only [accOf, ho, hc, Option.some.injEq, Prod.mk.injEq, hys] at ha
                  have hks : ∀ b g off len, x = .sl b g off len → b ∈ wr := fun b g off len he => by
                    subst he
                    rw [← ha.2]; simp [hy1]
                  obtain ⟨v, H', rfl, hop⟩ := op_append hE hl hn0 h ho hc hargs hts he hsz hby hz hpos hzl hr
                    (fun b g off len he _ => hkr b (by subst he; rw [← ha.1]; simp [hy2])) (fun b g off len he => hkw b (hks b g off len he))
                  exact hop.mono hl (fun b hb => by obtain ⟨g, off, len, he⟩ := hb; exact hks b g off len he) hkw
                · cases hr
              · cases hr
            · cases hr
          · cases hr
        · have hrec : (execOp a.eval o).run P w = .ok .recover w := by
            simp only [execOp, ho, Sem.run_bind, resolve_builtin hc, Result.andThen_ok, invoke, builtin, Sem.run_pure]
          split at hr
          · rename_i v hpn
            obtain rfl := Option.some.inj hr
            exact ⟨rfl, hrec, .inl ⟨hpn, rfl⟩⟩
          · rename_i v hpn
            obtain rfl := Option.some.inj hr
            exact ⟨rfl, hrec, .inr (.inr ⟨v, hpn, hpn.symm, rfl⟩)⟩
          · rename_i hpn
            obtain rfl := Option.some.inj hr
            exact ⟨rfl, hrec, .inr (.inl ⟨hpn, rfl, rfl⟩)⟩
          · cases hr
        · cases hr
      · rename_i f hc
        exact absurd hc (hnc c f ho)
      · cases hr
  | defer c =>
    simp only [evOp, ho] at hr
    split at hr
    · rename_i args f hargs hc
      split at hr
      · rename_i g p cc hf
        obtain rfl := Option.some.inj hr
        have hrf := evo_rel h hf
        have hra := evos_relL h hargs
        generalize hff : a.eval f = ff at hrf
        cases hrf with
        | @fn _ _ _ _ va vc h1 h2 h3 h4 =>
          refine ⟨rfl, _, by simp only [execOp, ho, resolve, hc, hff, Deferred.ofValue, Sem.run_bind, Sem.run_pure, Result.andThen_ok]; rfl, .call ⟨h3, h4⟩ ⟨?_, fun j x hj => ?_⟩⟩
          · simp only [Array.size_append, List.length_append, h1, hra.1]
          · rw [getD_arr, Array.toList_append]
            by_cases hjp : j < p.length
            · rw [getD_append_left (by simpa [h1] using hjp), ← getD_arr]
              rw [List.getElem?_append_left hjp] at hj
              exact h2 j x hj
            · rw [getD_append_right (by simpa [h1] using hjp), ← getD_arr]
              rw [List.getElem?_append_right (by omega)] at hj
              have := hra.2 _ x hj
              simpa [h1] using this
      · cases hr
    · cases hr
  | panic x =>
    simp only [evOp, ho] at hr
    split at hr
    · rename_i t v hx
      obtain rfl := Option.some.inj hr
      have hrx := evo_rel h hx
      generalize hxx : a.eval x = xx at hrx
      cases hrx with
      | @ifc _ _ _ v' hv =>
        exact ⟨rfl, .iface t v', by simp only [execOp, ho, hxx, Instr.panic, goPanic, Sem.run_bind]; rfl, .ifc hv⟩
    · cases hr
  | _ => simp only [evOp, ho] at hr; cases hr
end
end Go.Ev
