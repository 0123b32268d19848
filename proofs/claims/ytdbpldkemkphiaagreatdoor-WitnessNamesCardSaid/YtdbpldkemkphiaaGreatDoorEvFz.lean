/- Plain data out of blocks; blocks that go. -/
import Derived.Test.YtdbpldkemkphiaaGreatDoorEvRa
namespace Go.Ev
variable [Glb]
open Go.RowKit Go.MapKept

section
variable {P : Program} {E : Env} {base : Nat → Prop} {n0 : Nat} {w w0 : World} {S S0 S' : Sig} {s : St} {a : Act} {b : Frame} {cs : List Frame} {H H0 : Heap}

omit [Glb] in
theorem refsL_nil_mem {cs : List V} (h : refsL cs = []) {c : V} (hc : c ∈ cs) : c.refs = [] := by
  obtain ⟨j, hj⟩ := List.getElem?_of_mem hc
  exact refsL_nil h hj

omit [Glb] in
theorem frz_rel {ok ok' : Nat → Prop} (hH : HRel ok w n0 S H) {h0 : Nat} {L : Nat → Prop} (hL : ∀ b, L b → ∀ q ∈ blkRefs H b, L q) (hok : ∀ k, ok k → ok' k) (hloc : ∀ b e r o, L b → h0 ≤ b → S b = some e → e.loc = some (r, o) → (∃ ro g es cs, H[b]? = some (.cells ro g es cs)) → ok' r) :
    ∀ (fuel : Nat) (keep : Bool) (v : V) (x : Value) (S' : Sig), (keep = true → ∀ b, b < h0 → S' b = S b) → Rel ok w S v x → (∀ b ∈ v.refs, L b) → Rel ok' w S' (frz H h0 keep fuel v) x := by
  have hcalm : Calm ok ok' w w := fun k _ hk => ⟨hok k hk, rfl⟩
  intro fuel
  induction fuel with
  | zero => intro keep v x S' _ _ _; exact .undef _
  | succ fuel ih =>
    intro keep v x S' hS' hr hrefs
    have hmv : (∀ b ∈ v.refs, S' b = S b) → Rel ok' w S' v x := fun h => (hr.mono hcalm (SigLe.refl S)).move h
    have hpure : v.refs = [] → Rel ok' w S' v x := fun h => hmv (fun b hb => by rw [h] at hb; cases hb)
    have hone : ∀ q, v.refs = [q] → Rel ok' w S' (if q < h0 && keep then v else .undef) x := fun q hq => by
      split
      · rename_i hc
        simp only [Bool.and_eq_true, decide_eq_true_eq] at hc
        exact hmv (fun b hb => by rw [hq] at hb; simp only [List.mem_singleton] at hb; subst hb; exact hS' hc.2 _ hc.1)
      · exact .undef _
    cases v with
    | ptr q g off => exact hone q rfl
    | map q => exact hone q rfl
    | itr q => exact hone q rfl
    | yld q => exact hone q rfl
    | sl q g off len =>
      simp only [frz]
      split
      · rename_i hq
        split
        · rename_i hk
          exact hmv (fun b hb => by simp only [V.refs, List.mem_singleton] at hb; subst hb; exact hS' hk _ hq)
        · exact .undef _
      · rename_i hq
        cases hr with
        | @sl _ _ e _ _ _ A c h1 hg hc hA hs =>
          obtain ⟨k, hk, hB⟩ := hH.blk q e h1
          split
          · rename_i heq
            rw [hk] at heq; obtain rfl := Option.some.inj heq
            obtain ⟨_, hg0, _, hl0⟩ := hB
            have := hs (by omega)
            unfold SlOk at this
            rw [hl0] at this
            simp only at this
            subst this
            have : len = 0 := by omega
            subst this
            exact .nils A
          · rename_i ro g' es cells heq
            rw [hk] at heq; obtain rfl := Option.some.inj heq
            obtain ⟨_, hge, _, _, r, o, arr, t, hl1, hheap, hcap, hsz, h1c, hel⟩ := hB
            split
            · rename_i hlen
              subst hlen
              exact .list (Nat.zero_le _) (fun c hc => (List.not_mem_nil hc).elim) 0 0 (fun h => absurd rfl h) (fun j c hj => by simp at hj) (fun j c hj => by simp at hj)
            · rename_i hlen
              split
              · rename_i hcond
                obtain ⟨hgg, hle, hall, hrn⟩ := hcond
                subst hgg
                have hsl := hs hge.symm
                unfold SlOk at hsl
                rw [hl1] at hsl
                simp only at hsl
                obtain rfl := hsl.1 hlen
                have hget : ∀ j c, (((cells.drop off).take (len * es)).map (frz H h0 false fuel))[j]? = some c → ∃ c0, cells[off + j]? = some c0 ∧ c = frz H h0 false fuel c0 ∧ o + off + j < arr.size := fun j c hj => by
                  rw [List.getElem?_map, List.getElem?_take] at hj
                  split at hj
                  · rename_i hjl
                    rw [List.getElem?_drop] at hj
                    cases h0' : cells[off + j]? with
                    | none => rw [h0'] at hj; cases hj
                    | some c0 =>
                      rw [h0'] at hj
                      have := (List.getElem?_eq_some_iff.1 h0').1
                      exact ⟨c0, rfl, by simpa using hj.symm, by omega⟩
                  · cases hj
                refine .list hc (fun c hcm => ⟨List.all_eq_true.1 hall c hcm, refsL_nil_mem hrn hcm⟩) r (o + off) (fun _ => ⟨rfl, hloc q e r o (hrefs q (by simp [V.refs])) (by omega) h1 hl1 ⟨_, _, _, _, hk⟩⟩) (fun j c hj => ?_) (fun j c hj => ?_)
                · obtain ⟨c0, _, _, hlt⟩ := hget j c hj
                  rw [cell_arr_get hheap hlt]; rfl
                · obtain ⟨c0, h2, rfl, hlt⟩ := hget j c hj
                  rw [cell_arr_get hheap hlt]
                  simp only [Option.getD_some]
                  have h3 := hel _ c0 h2
                  rw [← Nat.add_assoc] at h3
                  refine ih false c0 _ none_ (fun h => by cases h) h3 (fun b hb => hL q (hrefs q (by simp [V.refs])) b ?_)
                  simp only [blkRefs, hk]
                  exact refsL_mem h2 hb
              · exact .undef _
          · exact .undef _
    | agg l =>
      simp only [frz]
      split
      · rename_i hall
        cases hr with
        | agg h1 hs he =>
          refine .agg (fun c hc => List.all_eq_true.1 hall c hc) (by simpa using hs) (fun j c hj => ?_)
          rw [List.getElem?_map] at hj
          cases hj0 : l[j]? with
          | none => rw [hj0] at hj; cases hj
          | some c0 =>
            rw [hj0] at hj
            obtain rfl := Option.some.inj hj
            exact ih keep c0 _ S' hS' (he j c0 hj0) (fun b hb => hrefs b (by simp only [V.refs]; exact refsL_mem hj0 hb))
      · exact .undef _
    | tup l =>
      simp only [frz]
      cases hr with
      | tup hs he =>
        refine .tup (by simpa using hs) (fun j c hj => ?_)
        rw [List.getElem?_map] at hj
        cases hj0 : l[j]? with
        | none => rw [hj0] at hj; cases hj
        | some c0 =>
          rw [hj0] at hj
          obtain rfl := Option.some.inj hj
          exact ih keep c0 _ S' hS' (he j c0 hj0) (fun b hb => hrefs b (by simp only [V.refs]; exact refsL_mem hj0 hb))
    | fn f p c =>
      simp only [frz]
      cases hr with
      | fn h1 h2 h3 h4 =>
        refine .fn (by simpa using h1) (fun j x hj => ?_) (by simpa using h3) (fun j x hj => ?_)
        · rw [List.getElem?_map] at hj
          cases hj0 : p[j]? with
          | none => rw [hj0] at hj; cases hj
          | some c0 =>
            rw [hj0] at hj
            obtain rfl := Option.some.inj hj
            exact ih keep c0 _ S' hS' (h2 j c0 hj0) (fun b hb => hrefs b (by simp only [V.refs, List.mem_append]; exact .inl (refsL_mem hj0 hb)))
        · rw [List.getElem?_map] at hj
          cases hj0 : c[j]? with
          | none => rw [hj0] at hj; cases hj
          | some c0 =>
            rw [hj0] at hj
            obtain rfl := Option.some.inj hj
            exact ih keep c0 _ S' hS' (h4 j c0 hj0) (fun b hb => hrefs b (by simp only [V.refs, List.mem_append]; exact .inr (refsL_mem hj0 hb)))
    | ifc t u =>
      simp only [frz]
      cases hr with
      | ifc h => exact .ifc (ih keep u _ S' hS' h (fun b hb => hrefs b (by simpa only [V.refs] using hb)))
    | _ => exact hpure rfl

omit [Glb] in
theorem okOf_cut {h0 : Nat} {k : Nat} (h : okOf base S k) : okOf base (S.only (fun b => b < h0)) k :=
  ⟨h.1, fun ⟨b, e, o, hb, hro, hl⟩ => h.2 ⟨b, e, o, (Sig.only_some.1 hb).2, hro, hl⟩⟩

theorem okOf_gone (hl : Loc w n0 S) (hb : BaseOk base w S) {h0 b : Nat} {e : Ent} {r o : Nat} (hge : h0 ≤ b) (hs : S b = some e) (hloc : e.loc = some (r, o)) : okOf base (S.only (fun b => b < h0)) r :=
  ⟨hb.loc b e r o hs hloc, fun ⟨b', e', o', hb', hro, hl'⟩ => by
    have := hl.inj b b' e e' r o o' hs (Sig.only_some.1 hb').2 hloc hl'
    subst this
    have := (Sig.only_some.1 hb').1
    omega⟩

omit [Glb] in
/-- The newer blocks go. -/
theorem cut_step (hH : HRel (okOf base S) w n0 S H) (hdom : ∀ b, (S0 b).isSome → b < H0.length) (hx : StepR base (domS S0) S0 w0 H0 S w H) (hold : (H.take H0.length).all (Blk.lt H0.length) = true) :
    StepR base (domS S0) S0 w0 H0 (S.only (fun b => b < H0.length)) w (H.take H0.length) ∧ HRel (okOf base (S.only (fun b => b < H0.length))) w n0 (S.only (fun b => b < H0.length)) (H.take H0.length) := by
  have hlen := hx.len
  have hcalm : Calm (okOf base S) (okOf base (S.only (fun b => b < H0.length))) w w := fun k _ hk => ⟨okOf_cut hk, rfl⟩
  have htake : ∀ b, b < H0.length → (H.take H0.length)[b]? = H[b]? := fun b hb => by rw [List.getElem?_take, if_pos hb]
  have hH' : HRel (okOf base (S.only (fun b => b < H0.length))) w n0 (S.only (fun b => b < H0.length)) (H.take H0.length) := by
    refine ⟨fun b e hb => ?_, hH.loc.only⟩
    obtain ⟨hlt, hb⟩ := Sig.only_some.1 hb
    obtain ⟨k, hk, hB⟩ := hH.blk b e hb
    have hk' := (htake b hlt).trans hk
    refine ⟨k, hk', (hB.mono hcalm (SigLe.refl S) (fun _ _ _ => rfl)).move (fun c hc => ?_)⟩
    have h1 := List.all_eq_true.1 hold k (List.mem_of_getElem? hk')
    have h2 := List.all_eq_true.1 h1 c hc
    simp only [decide_eq_true_eq] at h2
    simp [Sig.only, h2]
  refine ⟨⟨⟨hx.ext.os, hx.ext.tape, hx.ext.output, hx.ext.size, fun b e hb => ?_, hx.ext.old, fun k hk => ?_, fun b e hb hw => ?_⟩, fun b e hb _ => hH'.blk b e hb, fun b e r o hb hl => hx.loc b e r o (Sig.only_some.1 hb).2 hl, fun b b' e e' r o o' hb hb' hl hl' hr => hx.inj b b' e e' r o o' (Sig.only_some.1 hb).2 (Sig.only_some.1 hb').2 hl hl' hr,
    fun b hb => ?_, fun b hb hw => (htake b hb).trans (hx.keep b hb hw), by simp [hlen]⟩, hH'⟩
  · obtain ⟨e', h1, h2⟩ := hx.ext.sig b e hb
    exact ⟨e', Sig.only_some.2 ⟨hdom b (by simp [hb]), h1⟩, h2⟩
  · obtain ⟨b, e, o, hb, hro, hl⟩ := hk
    exact hx.ext.own k ⟨b, e, o, (Sig.only_some.1 hb).2, hro, hl⟩
  · exact Sig.only_some.2 ⟨hdom b (by simp [hb]), hx.ext.keep b e hb hw⟩
  · obtain ⟨e, he⟩ := Option.isSome_iff_exists.1 hb
    obtain ⟨h1, h2⟩ := Sig.only_some.1 he
    rcases hx.dom b (by simp [h2]) with h | h
    · exact .inl h
    · omega

theorem trunc_ok (hs : SR base n0 b a cs w S s) (hb : BaseOk base w S) (hdom : ∀ b, (S0 b).isSome → b < H0.length) (hx : StepR base (domS S0) S0 w0 H0 S w s.H) :
    ∃ S', SR base n0 b a cs w S' (trunc H0.length s) ∧ StepR base (domS S0) S0 w0 H0 S' w (trunc H0.length s).H ∧ (trunc H0.length s).pn = s.pn := by
  unfold trunc
  split
  · exact ⟨S, hs, hx, rfl⟩
  · split
    · rename_i hc
      simp only [Bool.and_eq_true] at hc
      obtain ⟨⟨hold, hdf⟩, hpn⟩ := hc
      obtain ⟨h1, h2⟩ := cut_step hs.heap hdom hx hold
      refine ⟨_, ⟨h2, ⟨by simpa using hs.tm.1, fun j c hj => ?_⟩, ?_, ?_⟩, h1, rfl⟩
      · simp only [List.getElem?_map] at hj
        cases hj0 : s.tm[j]? with
        | none => rw [hj0] at hj; cases hj
        | some c0 =>
          rw [hj0] at hj
          obtain rfl := Option.some.inj hj
          exact frz_rel hs.heap (L := fun _ => True) (fun _ _ _ _ => trivial) (fun k hk => okOf_cut hk) (fun b e r o _ hge hsb hl _ => okOf_gone hs.heap.loc hb hge hsb hl) depth true c0 _ _ (fun _ q hq => by simp [Sig.only, hq]) (hs.tm.2 j c0 hj0) (fun _ _ => trivial)
      · have : s.df = [] := by simpa using hdf
        have h3 := hs.df
        rw [this] at h3
        simp only [this]
        cases hd : a.defers with
        | nil => trivial
        | cons d r => rw [hd] at h3; exact h3.elim
      · have h3 := hs.pn
        show PnRel _ w _ b s.pn cs
        cases hp : s.pn with
        | normal => rw [hp] at h3; exact h3
        | dret => rw [hp] at h3; exact h3
        | dpan v rec =>
          rw [hp] at h3 hpn
          obtain ⟨q1, c, r, x, q2, q3, q4⟩ := h3
          refine ⟨q1, c, r, x, q2, q3, (q4.mono (w' := w) (ok' := okOf base (S.only (fun b => b < H0.length))) (fun k _ hk => ⟨okOf_cut hk, rfl⟩) (SigLe.refl S)).move (fun q hq => ?_)⟩
          have := List.all_eq_true.1 hpn q hq
          simp only [decide_eq_true_eq] at this
          simp [Sig.only, this]
    · exact ⟨S, hs, hx, rfl⟩

omit [Glb] in
theorem leave_ok (hH : HRel (okOf base S) w n0 S H) (hdom : ∀ b, (S0 b).isSome → b < H0.length) (hx : StepR base (domS S0) S0 w0 H0 S w H) {v : V} {x : Value} (hr : Rel (okOf base S) w S v x) (pn : Pn) :
    ∃ S', StepR base (domS S0) S0 w0 H0 S' w (leave H0.length v pn H) ∧ Rel (okOf base S') w S' v x ∧ ∀ (b : Frame) (cs : List Frame), PnRel (okOf base S) w S b pn cs → PnRel (okOf base S') w S' b pn cs := by
  unfold leave
  split
  · exact ⟨S, hx, hr, fun _ _ h => h⟩
  · split
    · rename_i hc
      simp only [Bool.and_eq_true] at hc
      obtain ⟨h1, _⟩ := cut_step hH hdom hx hc.2
      have key : ∀ {v : V} {x : Value}, Rel (okOf base S) w S v x → vlt H0.length v = true → Rel (okOf base (S.only (fun b => b < H0.length))) w (S.only (fun b => b < H0.length)) v x := fun {v x} hr hv =>
        (hr.mono (w' := w) (ok' := okOf base (S.only (fun b => b < H0.length))) (fun k _ hk => ⟨okOf_cut hk, rfl⟩) (SigLe.refl S)).move (fun q hq => by
          have := List.all_eq_true.1 hv q hq
          simp only [decide_eq_true_eq] at this
          simp [Sig.only, this])
      refine ⟨_, h1, key hr hc.1.1, fun b cs hp => ?_⟩
      cases pn with
      | normal => exact hp
      | dret => exact hp
      | dpan u rec =>
        obtain ⟨q1, c, r, x, q2, q3, q4⟩ := hp
        exact ⟨q1, c, r, x, q2, q3, key q4 hc.1.2⟩
    · exact ⟨S, hx, hr, fun _ _ h => h⟩
end
end Go.Ev
