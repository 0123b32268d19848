/- All calls. -/
import Derived.Test.YtdbpldkemkphiaaGreatDoorEvCm
namespace Go.Ev
variable [Glb]
open Go.RowKit Go.MapKept

section
variable {P : Program} {E : Env} {call : CallH} {base : Nat → Prop} {n0 : Nat} {w w0 w' : World} {S S0 S' : Sig} {H H0 : Heap}

omit [Glb] in
theorem flat_rel {ok ok' : Nat → Prop} {S1 S2 : Sig} : ∀ (fuel : Nat) (v : V) (x : Value), Rel ok w S1 v x → V.flat fuel v = true → Rel ok' w' S2 v x
  | 0, v, x, _, h => by simp [V.flat] at h
  | fuel + 1, v, x, hr, h => by
    cases v with
    | bool b => rw [hr.bool_inv]; exact .bool b
    | int k n => rw [hr.int_inv]; exact .int k n
    | str s => rw [hr.str_inv]; exact .str s
    | nilp => cases hr; exact .nilp
    | nils => cases hr; exact .nils _
    | nilf => cases hr; exact .nilf
    | nili => cases hr; exact .nili
    | nilm => cases hr; exact .nilm
    | agg l =>
      simp only [V.flat, List.all_eq_true] at h
      cases hr with
      | agg h1 hs he => exact .agg h1 hs (fun j c hj => flat_rel fuel c _ (he j c hj) (h c (List.mem_of_getElem? hj)))
    | tup l =>
      simp only [V.flat, List.all_eq_true] at h
      cases hr with
      | tup hs he => exact .tup hs (fun j c hj => flat_rel fuel c _ (he j c hj) (h c (List.mem_of_getElem? hj)))
    | ifc t u =>
      simp only [V.flat] at h
      cases hr with
      | ifc hu => exact .ifc (flat_rel fuel u _ hu h)
    | _ => simp [V.flat] at h

omit [Glb] in
theorem shut_shut (b : Blk) : b.shut.shut = b.shut := by cases b <;> rfl

omit [Glb] in
theorem shutAll_get : ∀ (l : List Nat) (H : Heap), (shutAll H l).length = H.length ∧ ∀ b, (shutAll H l)[b]? = if b ∈ l then (H[b]?).map Blk.shut else H[b]?
  | [], H => ⟨rfl, fun b => by simp [shutAll]⟩
  | q :: l, H => by
    have he : shutAll H (q :: l) = shutAll (match H[q]? with | some k => H.set q k.shut | none => H) l := rfl
    rw [he]
    cases hq : H[q]? with
    | none =>
      obtain ⟨h1, h2⟩ := shutAll_get l H
      refine ⟨h1, fun b => ?_⟩
      simp only []
      rw [h2 b]
      by_cases hb : b ∈ l
      · rw [if_pos hb, if_pos (List.mem_cons_of_mem _ hb)]
      · by_cases hbq : b = q
        · subst hbq; rw [if_neg hb, if_pos (List.mem_cons_self ..), hq]; rfl
        · rw [if_neg hb, if_neg (by simp [hb, hbq])]
    | some k =>
      obtain ⟨h1, h2⟩ := shutAll_get l (H.set q k.shut)
      refine ⟨by rw [h1]; simp, fun b => ?_⟩
      simp only []
      rw [h2 b]
      by_cases hbq : b = q
      · subst hbq
        have hlt := (List.getElem?_eq_some_iff.1 hq).1
        rw [if_pos (List.mem_cons_self ..), List.getElem?_set_self hlt, hq]
        split
        · simp [shut_shut]
        · rfl
      · rw [List.getElem?_set_ne (fun h => hbq h.symm)]
        by_cases hb : b ∈ l
        · rw [if_pos hb, if_pos (List.mem_cons_of_mem _ hb)]
        · rw [if_neg hb, if_neg (by simp [hb, hbq])]

/-- Blocks of cells that are shut. -/
def shutS (S : Sig) (H : Heap) (l : List Nat) : Sig := fun b =>
  match S b, H[b]? with
  | some e, some (.cells _ _ _ _) => if b ∈ l then some { e with ro := true } else some e
  | x, _ => x

omit [Glb] in
theorem shutS_some {l : List Nat} {b : Nat} {e' : Ent} (h : shutS S H l b = some e') : ∃ e, S b = some e ∧ e'.loc = e.loc ∧ (e' = e ∨ e' = { e with ro := true }) ∧ (b ∈ l → (∃ ro g es cs, H[b]? = some (.cells ro g es cs)) → e'.ro = true) := by
  unfold shutS at h
  split at h
  · rename_i e _ _ _ _ h1 h2
    split at h
    · obtain rfl := Option.some.inj h
      exact ⟨e, h1, rfl, .inr rfl, fun _ _ => rfl⟩
    · rename_i hb
      obtain rfl := Option.some.inj h
      exact ⟨e, h1, rfl, .inl rfl, fun hb' => absurd hb' hb⟩
  · rename_i h1
    refine ⟨e', h, rfl, .inl rfl, fun _ ⟨ro, g, es, cs, hc⟩ => ?_⟩
    exact (h1 _ ro g es cs h hc).elim

omit [Glb] in
theorem shutS_of {l : List Nat} {b : Nat} {e : Ent} (h : S b = some e) : (shutS S H l b = some e ∧ ¬ (b ∈ l ∧ ∃ ro g es cs, H[b]? = some (.cells ro g es cs))) ∨ (shutS S H l b = some { e with ro := true } ∧ b ∈ l ∧ ∃ ro g es cs, H[b]? = some (.cells ro g es cs)) := by
  unfold shutS
  rw [h]
  split
  · rename_i ro g es cs h1 h2
    obtain rfl := Option.some.inj h1
    split
    · rename_i hb; exact .inr ⟨rfl, hb, _, _, _, _, h2⟩
    · rename_i hb; exact .inl ⟨rfl, fun h => hb h.1⟩
  · rename_i h1
    exact .inl ⟨rfl, fun ⟨_, ro, g, es, cs, hc⟩ => (h1 _ ro g es cs rfl hc).elim⟩

theorem spec_ok (hE : EnvOk P E) {f : FuncId} {full : List V} {r : V} (hsp : E.spec f (full.map (frz H 0 false depth)) = some r) {vals : Array Value} (hH : HRel (okOf base S) w n0 S H) (ha : RelL (okOf base S) w S full vals) (hb : BaseOk base w S) {H' : Heap}
    (hr : (r.flat depth = true ∧ H' = H) ∨ ∃ l, reach H (refsL full) = some l ∧ H' = shutAll H l) (c : Frame) (cs : List Frame) :
    ∃ y w' S', Go_ P (lone (Frame.enter P f vals .normal) (c :: cs) w) (lone (c.finish y) cs w') ∧ Rel (okOf base S') w' S' r y ∧ StepR base (domS S) S w H S' w' H' := by
  obtain ⟨hpure, g, hg1, hg2, hg3⟩ := hE.spec f _ r hsp
  have go : ∀ (A : Nat → Prop), (∀ k, A k → k < w.heap.size) → RelL A w none_ (full.map (frz H 0 false depth)) vals → ∃ y w', Go_ P (lone (Frame.enter P f vals .normal) (c :: cs) w) (lone (c.finish y) cs w') ∧ Rel (fun k => A k ∨ w.heap.size ≤ k) w' none_ r y ∧ Below w.heap.size w w' := fun A hA hrel => by
    obtain ⟨e, w', fr, ⟨v, rfl, h1, h2⟩, h3, h4, h5⟩ := hpure A w vals hrel hA hb.glob (c :: cs)
    exact ⟨v, w', (StepsIn.of_steps h3).trans (.one trivial (step_leave_returned h5)), h1, h2⟩
  have frzL : ∀ (L : Nat → Prop) (ok' : Nat → Prop), (∀ b, L b → ∀ q ∈ blkRefs H b, L q) → (∀ k, okOf base S k → ok' k) → (∀ b e r o, L b → 0 ≤ b → S b = some e → e.loc = some (r, o) → (∃ ro g es cs, H[b]? = some (.cells ro g es cs)) → ok' r) → (∀ b ∈ refsL full, L b) →
      RelL (fun k => ok' k ∧ k < w.heap.size) w none_ (full.map (frz H 0 false depth)) vals := fun L ok' h1 h2 h3 h4 => by
    refine ⟨by simpa using ha.1, fun j c hj => ?_⟩
    rw [List.getElem?_map] at hj
    cases hj0 : full[j]? with
    | none => rw [hj0] at hj; cases hj
    | some c0 =>
      rw [hj0] at hj
      obtain rfl := Option.some.inj hj
      have := frz_rel (S := S) hH h1 h2 h3 depth false c0 _ none_ (fun h => by cases h) (ha.2 j c0 hj0) (fun b hb => h4 b (refsL_mem hj0 hb))
      exact this.mono (fun k hk hok => ⟨⟨hok, hk⟩, rfl⟩) (SigLe.refl _)
  have same : ∀ {w' : World}, Below w.heap.size w w' → ∀ k, k < w.heap.size → w'.heap[k]? = w.heap[k]? := fun h k hk => h.block k hk
  rcases hr with ⟨hflat, rfl⟩ | ⟨l, hl, rfl⟩
  · obtain ⟨y, w', h1, h2, h3⟩ := go _ (fun k hk => hk.2) (frzL (fun _ => True) (fun _ => True) (fun _ _ _ _ => trivial) (fun _ _ => trivial) (fun _ _ _ _ _ _ _ _ _ => trivial) (fun _ _ => trivial))
    have hcalm : Calm (okOf base S) (okOf base S) w w' := fun k hk hok => ⟨hok, same h3 k hk⟩
    refine ⟨y, w', S, h1, flat_rel depth r y h2 hflat, ⟨⟨h3.os, h3.tape, h3.output, h3.size, SigLe.refl S, fun k hk _ => same h3 k hk, fun k hk => .inl hk, fun b e hb _ => hb⟩, fun b e hb _ => ?_, fun b e r o hb hl => .inl ⟨e, o, hb, hl, id⟩,
      fun b b' e e' r o o' hb hb' hl hl' _ => hH.loc.inj b b' e e' r o o' hb hb' hl hl', fun b hb => .inl hb, fun _ _ _ => rfl, Nat.le_refl _⟩⟩
    obtain ⟨k, hk, hB⟩ := hH.blk b e hb
    exact ⟨k, hk, hB.mono hcalm (SigLe.refl S) (fun r o hl => same h3 r (hH.loc.new b e r o hb hl).2)⟩
  · obtain ⟨g1, g2, g3⟩ := reach_spec hl
    obtain ⟨hlen, hget⟩ := shutAll_get l H
    have hown : ∀ k, own (shutS S H l) k → own S k := fun k ⟨b, e', o, hb, hro, hloc⟩ => by
      obtain ⟨e, h1, h2, h3, _⟩ := shutS_some hb
      rcases h3 with rfl | rfl
      · exact ⟨b, _, o, h1, hro, hloc⟩
      · cases hro
    have hok : ∀ k, okOf base S k → okOf base (shutS S H l) k := fun k hk => ⟨hk.1, fun h => hk.2 (hown k h)⟩
    have hlS : ∀ b ∈ l, (S b).isSome := g3 (fun b => (S b).isSome) (fun b hb => ha.known b hb) (fun b _ hs q hq => by
      obtain ⟨e, k, _, hk, hB⟩ := hH.known hs
      simp only [blkRefs, hk] at hq
      exact hB.known q hq)
    obtain ⟨y, w', h1, h2, h3⟩ := go _ (fun k hk => hk.2) (frzL (fun b => b ∈ l) (okOf base (shutS S H l)) g2 hok (fun b e r o hbl _ hsb hloc hcells => ⟨hb.loc b e r o hsb hloc, fun ⟨b', e', o', hb', hro, hloc'⟩ => by
      obtain ⟨e0, q1, q2, _, q4⟩ := shutS_some hb'
      have := hH.loc.inj b b' e e0 r o o' hsb q1 hloc (by rw [← q2]; exact hloc')
      subst this
      rw [q4 hbl hcells] at hro; cases hro⟩) g1)
    have hsig : SigLe S (shutS S H l) := fun b e hbe => by
      rcases shutS_of (H := H) (l := l) hbe with ⟨q, _⟩ | ⟨q, hq, hcells⟩
      · exact ⟨e, q, Nat.le_refl _, fun _ => ⟨rfl, rfl, rfl⟩, fun _ => rfl⟩
      · refine ⟨_, q, Nat.le_refl _, fun _ => ⟨rfl, rfl, rfl⟩, fun hfx => ?_⟩
        obtain ⟨ro, g, es, cs, hc⟩ := hcells
        obtain ⟨k, hk, hB⟩ := hH.blk b e hbe
        rw [hc] at hk; obtain rfl := Option.some.inj hk
        rw [hB.1] at hfx; cases hfx
    have hcalm : Calm (okOf base S) (okOf base (shutS S H l)) w w' := fun k hk hk' => ⟨hok k hk', same h3 k hk⟩
    refine ⟨y, w', shutS S H l, h1, h2.mono (fun k _ hk => ⟨?_, rfl⟩) (SigLe.none _), ⟨⟨h3.os, h3.tape, h3.output, h3.size, hsig, fun k hk _ => same h3 k hk, fun k hk => .inl (hown k hk), fun b e hbe hw => ?_⟩, fun b e' hbe _ => ?_, fun b e' r o hbe hloc => ?_,
      fun b b' e e' r o o' hbe hbe' hloc hloc' _ => ?_, fun b hbs => ?_, fun b hlt hw => ?_, by rw [hlen]; exact Nat.le_refl _⟩⟩
    · rcases hk with hk | hk
      · exact hk.1
      · exact ⟨hb.new k hk, fun hown' => by
          obtain ⟨b, e, o, hbe, _, hloc⟩ := hown k hown'
          have := (hH.loc.new b e k o hbe hloc).2
          omega⟩
    · have hro : e.ro = true := by
        rcases hw with hw | hw
        · exact absurd (by simp [domS, hbe]) hw
        · exact hw
      rcases shutS_of (H := H) (l := l) hbe with ⟨q, _⟩ | ⟨q, _⟩
      · exact q
      · rw [q, ← hro]
    · obtain ⟨e, q1, q2, q3, _⟩ := shutS_some hbe
      obtain ⟨k, hk, hB⟩ := hH.blk b e q1
      have hB' := hB.mono hcalm hsig (fun r o hl => same h3 r (hH.loc.new b e r o q1 hl).2)
      rcases shutS_of (H := H) (l := l) q1 with ⟨q, hn⟩ | ⟨q, hbl, ro, g, es, cs, hc⟩
      · rw [hbe] at q; obtain rfl := Option.some.inj q
        refine ⟨k, ?_, hB'⟩
        rw [hget b]
        split
        · rename_i hbl
          rw [hk]
          cases k with
          | cells ro g es cs => exact absurd ⟨hbl, ro, g, es, cs, hk⟩ hn
          | _ => rfl
        · exact hk
      · rw [hbe] at q; obtain rfl := Option.some.inj q
        rw [hk] at hc; obtain rfl := Option.some.inj hc
        refine ⟨.cells true g es cs, by rw [hget b, if_pos hbl, hk]; rfl, ?_⟩
        obtain ⟨p1, p2, p3, p4, p5⟩ := hB'
        exact ⟨p1, p2, rfl, p4, p5⟩
    · obtain ⟨e, q1, q2, q3, _⟩ := shutS_some hbe
      refine .inl ⟨e, o, q1, by rw [← q2]; exact hloc, fun hro => ?_⟩
      rcases q3 with rfl | rfl
      · exact hro
      · cases hro
    · obtain ⟨e0, q1, q2, _, _⟩ := shutS_some hbe
      obtain ⟨e0', q1', q2', _, _⟩ := shutS_some hbe'
      exact hH.loc.inj b b' e0 e0' r o o' q1 q1' (by rw [← q2]; exact hloc) (by rw [← q2']; exact hloc')
    · obtain ⟨e', he'⟩ := Option.isSome_iff_exists.1 hbs
      obtain ⟨e, q1, _⟩ := shutS_some he'
      exact .inl (by simp [q1])
    · rw [hget b, if_neg (fun hbl => hw (hlS b hbl))]

omit [Glb] in
theorem relL_app {ok : Nat → Prop} {xs ys : List V} {vx vy : Array Value} (h1 : RelL ok w S xs vx) (h2 : RelL ok w S ys vy) : RelL ok w S (xs ++ ys) (vx ++ vy) := by
  refine ⟨by simp [h1.1, h2.1], fun j c hj => ?_⟩
  rw [getD_arr, Array.toList_append]
  by_cases hlt : j < xs.length
  · rw [getD_append_left (by simpa [h1.1] using hlt), ← getD_arr]
    rw [List.getElem?_append_left hlt] at hj
    exact h1.2 j c hj
  · rw [getD_append_right (by simpa [h1.1] using hlt), ← getD_arr]
    rw [List.getElem?_append_right (by omega)] at hj
    have := h2.2 _ c hj
    simpa [h1.1] using this

theorem calls_ok (hE : EnvOk P E) (N : Nat) : ∀ n, CallOk P (evCall E N n) ∧ CallDOk P (evCall E N n)
  | 0 => ⟨fun fv args H cr H' pn' h => by simp [evCall] at h, fun pn f p c args H v H' pn' _ h => by simp [evCall] at h⟩
  | n + 1 => by
    obtain ⟨hC, hCD⟩ := calls_ok hE N n
    refine ⟨fun fv args H cr H' pn' h base n0 w S x vargs hH hf ha hb c cs => ?_, fun pn f p c args H v H' pn' hpn h base n0 w S vc va hH hc ha hb c0 cs hp => ?_⟩
    · simp only [evCall] at h
      split at h
      · rename_i f first cap
        cases hf with
        | @fn _ _ _ _ vf vc h1 h2 h3 h4 =>
          have hfull : RelL (okOf base S) w S (first ++ args ++ cap) (vf ++ vargs ++ vc) := relL_app (relL_app ⟨h1, h2⟩ ha) ⟨h3, h4⟩
          have hd : (Deferred.ofValue (.func (.func f) vf vc) vargs).run P w = .ok { target := .fn (.func f) vc, args := vf ++ vargs } w := rfl
          have enter : ∀ g, P.funcs[f]? = some g → (g.name == "runtime.NumGoroutine") = false → g.body.isSome = true → (invoke (.fn (.func f) vc) (vf ++ vargs)).run P w = .ok (.enter f (vf ++ vargs ++ vc)) w := fun g q1 q2 q3 =>
            run_callFunc' q1 q2 q3 _ w
          split at h
          · rename_i r hsp
            have hsp' : E.spec f ((first ++ args ++ cap).map (frz H 0 false depth)) = some r := hsp
            obtain ⟨_, g, hg1, hg2, hg3⟩ := hE.spec f _ r hsp'
            have hres : cr = .ret r ∧ ((r.flat depth = true ∧ H' = H) ∨ ∃ l, reach H (refsL (first ++ args ++ cap)) = some l ∧ H' = shutAll H l) := by
              split at h
              · rename_i hfl
                simp only [Option.some.injEq, Prod.mk.injEq] at h
                exact ⟨h.1.symm, .inl ⟨hfl, h.2.1.symm⟩⟩
              · cases hrc : reach H (refsL (first ++ args ++ cap)) with
                | none => rw [hrc] at h; cases h
                | some l =>
                  rw [hrc] at h
                  simp only [Option.map_some, Option.some.injEq, Prod.mk.injEq] at h
                  exact ⟨h.1.symm, .inr ⟨l, rfl, h.2.1.symm⟩⟩
            obtain ⟨rfl, hr⟩ := hres
            obtain ⟨y, w', S', q1, q2, q3⟩ := spec_ok hE hsp' hH hfull hb hr c cs
            exact ⟨_, _, .returned y, w', S', hd, enter g hg1 hg2 hg3, ⟨_, rfl, q1⟩, q2, q3⟩
          · have hfn : evFn E (evCall E N n) N .normal f (first ++ args ++ cap) H = some (cr, H', pn') := h
            have hg : ∃ g, P.funcs[f]? = some g ∧ (g.name == "runtime.NumGoroutine") = false ∧ g.body.isSome = true := by
              unfold evFn at hfn
              split at hfn
              · cases hfn
              · rename_i g hg
                obtain ⟨q1, q2, _⟩ := hE.fn f g hg
                split at hfn
                · cases hfn
                · rename_i cc hcc; exact ⟨g, q1, q2, by rw [hcc]; rfl⟩
            obtain ⟨g, hg1, hg2, hg3⟩ := hg
            obtain ⟨fr, e, w', S', cs', q1, q2, q3, q4, q5, q6, q7, _⟩ := fn_ok (kd := .normal) (cs := c :: cs) hE hC hCD hfn hH hfull hb rfl
            have hcs : cs' = c :: cs := by
              rcases q7 with ⟨_, _, h⟩ | ⟨h, _⟩
              · exact h
              · exact absurd rfl h
            subst hcs
            refine ⟨_, _, e, w', S', hd, enter g hg1 hg2 hg3, ⟨_, rfl, ?_⟩, q5, q6⟩
            cases e with
            | returned y =>
              obtain ⟨p1, p2, p3⟩ := q4
              exact q1.trans (.one trivial (step_leave_returned ⟨p1, p2, q3, p3⟩))
            | panicked ch =>
              obtain ⟨p1, p2, p3⟩ := q4
              exact q1.trans (.one trivial (step_leave_panicked ⟨p1, p2, p3⟩))
            | outgrown => cases cr <;> exact q5.elim
      · rename_i l
        cases hf with
        | @yld _ _ e r h1 h2 h3 =>
          obtain ⟨nx, y, w', S', q1, q2, q3, q4⟩ := round_ok hE hC h hH h1 h3 ha hb c cs
          refine ⟨{ target := .fn (.yield r) #[], args := #[] ++ vargs }, nx, .returned y, w', S', rfl, ?_, q2, q3, q4⟩
          simpa [invoke] using q1
      · cases h
    · have hfn : evFn E (evCall E N n) N pn f (p ++ args ++ c) H = some (.ret v, H', pn') := by
        simp only [evCall] at h
        cases pn with
        | normal => exact absurd rfl hpn
        | dret => exact h
        | dpan u rec => exact h
      have hg : ∃ g, P.funcs[f]? = some g ∧ (g.name == "runtime.NumGoroutine") = false ∧ g.body.isSome = true := by
        unfold evFn at hfn
        split at hfn
        · cases hfn
        · rename_i g hg
          obtain ⟨q1, q2, _⟩ := hE.fn f g hg
          split at hfn
          · cases hfn
          · rename_i cc hcc; exact ⟨g, q1, q2, by rw [hcc]; rfl⟩
      obtain ⟨g, hg1, hg2, hg3⟩ := hg
      have hconv : ∀ {base : Nat → Prop} {w : World} {S : Sig} {pn : Pn} {cs : List Frame} {b b' : Frame}, b.kind = b'.kind → b.roundOf = b'.roundOf → PnRel (okOf base S) w S b pn cs → PnRel (okOf base S) w S b' pn cs := fun h1 h2 h => by
        rename_i pn _ _ _
        cases pn with
        | normal => exact h1.symm.trans h
        | dret => obtain ⟨⟨q1, q2⟩, q⟩ := h; exact ⟨⟨h1 ▸ q1, h2 ▸ q2⟩, q⟩
        | dpan u rec => obtain ⟨⟨q1, q2⟩, q⟩ := h; exact ⟨⟨h1 ▸ q1, h2 ▸ q2⟩, q⟩
      obtain ⟨fr, e, w', S', cs', q1, q2, q3, q4, q5, q6, q7, q8⟩ := fn_ok (kd := .deferred) (cs := c0 :: cs) hE hC hCD hfn hH (relL_app ha hc) hb (hconv (b := frD) rfl rfl hp)
      cases e with
      | returned y =>
        rcases q7 with ⟨h1, _⟩ | ⟨_, hpn', c1, r1, m, h1, rfl⟩
        · exact absurd h1 hpn
        · simp only [List.cons.injEq] at h1
          obtain ⟨rfl, rfl⟩ := h1
          exact ⟨w', S', fr, y, m, run_callFunc' hg1 hg2 hg3 _ w, q1, q3, q4, q6, hpn', hconv (b' := frD) rfl rfl q8⟩
      | panicked ch => exact q5.elim
      | outgrown => exact q5.elim

/-- **What the evaluator comes to is what the program comes to**: a result in new memory, seen as plain data. -/
theorem pure_of_frz (hE : EnvOk P E) {N n : Nat} {f : FuncId} {args : List V} {r0 r : V} {H' : Heap} {pn' : Pn} (h : evFn E (evCall E N n) N .normal f args [] = some (.ret r0, H', pn')) (hfr : frz H' 0 false depth r0 = r) : Pure P f args r := by
  intro A w vals hrel hA hglob cs
  obtain ⟨hC, hCD⟩ := calls_ok hE N n
  have no : ∀ {b : Nat} {e : Ent}, none_ b = some e → False := fun h => by cases h
  have hH : HRel (okOf (fun k => A k ∨ w.heap.size ≤ k) none_) w w.heap.size none_ [] := ⟨fun b e hb => (no hb).elim, ⟨fun b _ e _ _ _ _ hb => (no hb).elim, fun b e r o hb => (no hb).elim, Nat.le_refl _⟩⟩
  have hr0 : RelL (okOf (fun k => A k ∨ w.heap.size ≤ k) none_) w none_ args vals := hrel.mono (fun k _ hk => ⟨⟨.inl hk, fun ⟨b, e, o, hb, _⟩ => no hb⟩, rfl⟩) (SigLe.refl _)
  have hb : BaseOk (fun k => A k ∨ w.heap.size ≤ k) w none_ := ⟨fun k hk => .inr hk, fun b e r o hb => (no hb).elim, hglob, fun g _ b e o hb => (no hb).elim⟩
  obtain ⟨fr, e, w', S', cs', q1, q2, q3, q4, q5, q6, q7, _⟩ := fn_ok (kd := .normal) (cs := cs) hE hC hCD h hH hr0 hb rfl
  have hcs : cs' = cs := by
    rcases q7 with ⟨_, _, h⟩ | ⟨h, _⟩
    · exact h
    · exact absurd rfl h
  subst hcs
  cases e with
  | returned y =>
    obtain ⟨p1, p2, p3⟩ := q4
    refine ⟨.returned y, w', fr, ⟨y, rfl, ?_, ?_⟩, q1.steps, q2, ⟨p1, p2, q3, p3⟩⟩
    · rw [← hfr]
      refine frz_rel (S := S') (hH.next q6) (h0 := 0) (L := fun _ => True) (fun _ _ _ _ => trivial) (fun k hk => hk.1) (fun b e r o _ _ hb hl _ => ?_) depth false r0 y none_ (fun h => by cases h) q5 (fun _ _ => trivial)
      rcases q6.loc b e r o hb hl with ⟨e0, o0, h0, _⟩ | hr
      · exact (no h0).elim
      · exact .inr hr.1
    · exact ⟨q6.ext.os, q6.ext.tape, q6.ext.output, q6.ext.size, fun k hk => q6.ext.old k hk (fun b e o _ hb => (no hb).elim)⟩
  | panicked ch => exact q5.elim
  | outgrown => exact q5.elim

/-- **What the evaluator comes to is what the program comes to.** -/
theorem pure_of_ev (hE : EnvOk P E) {N n : Nat} {f : FuncId} {args : List V} {r : V} {H' : Heap} {pn' : Pn} (h : evFn E (evCall E N n) N .normal f args [] = some (.ret r, H', pn')) (hrefs : r.refs = []) : Pure P f args r := by
  intro A w vals hrel hA hglob cs
  obtain ⟨hC, hCD⟩ := calls_ok hE N n
  have no : ∀ {b : Nat} {e : Ent}, none_ b = some e → False := fun h => by cases h
  have hH : HRel (okOf (fun k => A k ∨ w.heap.size ≤ k) none_) w w.heap.size none_ [] := ⟨fun b e hb => (no hb).elim, ⟨fun b _ e _ _ _ _ hb => (no hb).elim, fun b e r o hb => (no hb).elim, Nat.le_refl _⟩⟩
  have hr0 : RelL (okOf (fun k => A k ∨ w.heap.size ≤ k) none_) w none_ args vals := hrel.mono (fun k _ hk => ⟨⟨.inl hk, fun ⟨b, e, o, hb, _⟩ => no hb⟩, rfl⟩) (SigLe.refl _)
  have hb : BaseOk (fun k => A k ∨ w.heap.size ≤ k) w none_ := ⟨fun k hk => .inr hk, fun b e r o hb => (no hb).elim, hglob, fun g _ b e o hb => (no hb).elim⟩
  obtain ⟨fr, e, w', S', cs', q1, q2, q3, q4, q5, q6, q7, _⟩ := fn_ok (kd := .normal) (cs := cs) hE hC hCD h hH hr0 hb rfl
  have hcs : cs' = cs := by
    rcases q7 with ⟨_, _, h⟩ | ⟨h, _⟩
    · exact h
    · exact absurd rfl h
  subst hcs
  cases e with
  | returned y =>
    obtain ⟨p1, p2, p3⟩ := q4
    refine ⟨.returned y, w', fr, ⟨y, rfl, ?_, ?_⟩, q1.steps, q2, ⟨p1, p2, q3, p3⟩⟩
    · exact ((Rel.mono (ok' := fun k => A k ∨ w.heap.size ≤ k) (w' := w') (fun k _ hk => ⟨hk.1, rfl⟩) q5 (SigLe.refl S')).pure hrefs)
    · exact ⟨q6.ext.os, q6.ext.tape, q6.ext.output, q6.ext.size, fun k hk => q6.ext.old k hk (fun b e o _ hb => (no hb).elim)⟩
  | panicked ch => exact q5.elim
  | outgrown => exact q5.elim
end
end Go.Ev
