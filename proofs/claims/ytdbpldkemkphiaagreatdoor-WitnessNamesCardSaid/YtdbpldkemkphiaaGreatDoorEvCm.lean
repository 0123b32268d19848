/- Rounds of loops over functions; all calls. -/
import Derived.Test.YtdbpldkemkphiaaGreatDoorEvCl
namespace Go.Ev
variable [Glb]
open Go.RowKit Go.MapKept

section
variable {P : Program} {E : Env} {call : CallH} {base : Nat → Prop} {n0 : Nat} {w w0 w' : World} {S S0 S' : Sig} {s s0 s' : St} {a : Act} {b : Frame} {cs cs0 : List Frame} {k : List Item} {H H0 : Heap}

omit [Glb] in
theorem setAll_rel {ok : Nat → Prop} : ∀ (ps : List Tmp) (args : List V) (xs : List Value) (tm : List V) (tmps : Array Value), RelL ok w S tm tmps → xs.length = args.length → (∀ j c, args[j]? = some c → Rel ok w S c (xs.getD j default)) →
    RelL ok w S ((ps.zip args).foldl (fun t p => t.set p.1 p.2) tm) ((ps.zip xs).foldl (fun t p => t.setIfInBounds p.1 p.2) tmps)
  | [], args, xs, tm, tmps, h, _, _ => by simpa using h
  | p :: ps, [], xs, tm, tmps, h, hl, _ => by
    have : xs = [] := List.eq_nil_of_length_eq_zero (by simpa using hl)
    subst this; simpa using h
  | p :: ps, v :: args, [], tm, tmps, h, hl, _ => by simp at hl
  | p :: ps, v :: args, x :: xs, tm, tmps, h, hl, hr => by
    simp only [List.zip_cons_cons, List.foldl_cons]
    refine setAll_rel ps args xs _ _ ?_ (by simpa using hl) (fun j c hj => by simpa using hr (j + 1) c (by simpa using hj))
    exact relL_put (a := ⟨tmps, []⟩) h (by simpa using hr 0 v rfl) (some p)

omit [Glb] in
/-- The record of a loop in memory. -/
theorem loop_rec {ok : Nat → Prop} {e : Ent} {r : Nat} {st : LoopState} {pend : Option Code} {fn : FuncId} {tm : List V} {ps : Array Tmp} {x1 x2 : Code} {db : Nat} (hB : BRel ok w S e (.loop st pend fn tm ps x1 x2 db)) (hloc : e.loc = some (r, 0)) :
    e.fix = true ∧ e.ro = false ∧ ∃ rec : Loop, w.heap[r]? = some (.loop rec) ∧ rec.state = st ∧ rec.pending = pend ∧ rec.fn = fn ∧ rec.params = ps ∧ rec.assign = x1 ∧ rec.body = x2 ∧ RelL ok w S tm rec.tmps ∧ codeRegs x1 = true ∧ codeRegs x2 = true := by
  obtain ⟨h1, h2, r', d, ed, tmps, hl, hh, ht, hd, hf, hro, hdl, hc1, hc2⟩ := hB
  rw [hloc] at hl
  simp only [Option.some.injEq, Prod.mk.injEq, and_true] at hl
  subst hl
  exact ⟨h1, h2, _, hh, rfl, rfl, rfl, rfl, rfl, rfl, ht, hc1, hc2⟩

omit [Glb] in
/-- A loop's record turns. -/
theorem loop_turn (hH : HRel (okOf base S) w n0 S H) {l : Nat} {e : Ent} {r : Nat} {st st' : LoopState} {pend pend' : Option Code} {fn : FuncId} {tm : List V} {ps : Array Tmp} {x1 x2 : Code} {db : Nat} (hl : S l = some e) (hk : H[l]? = some (.loop st pend fn tm ps x1 x2 db)) (hloc : e.loc = some (r, 0)) {rec : Loop} (hrec : w.heap[r]? = some (.loop rec)) :
    StepR base (domS S) S w H S { w with heap := w.heap.setIfInBounds r (.loop { rec with state := st', pending := pend' }) } (H.set l (.loop st' pend' fn tm ps x1 x2 db)) := by
  obtain ⟨k, hk', hB⟩ := hH.blk l e hl
  rw [hk] at hk'; obtain rfl := Option.some.inj hk'
  obtain ⟨h1, h2, r', d, ed, tmps, hl2, hh, ht, hd, hf, hro, hdl, hc1, hc2⟩ := hB
  rw [hloc] at hl2
  simp only [Option.some.injEq, Prod.mk.injEq, and_true] at hl2
  subst hl2
  rw [hrec] at hh
  simp only [Option.some.injEq, Obj.loop.injEq] at hh
  subst hh
  have hrlt : r < w.heap.size := (Array.getElem?_eq_some_iff.1 hrec).1
  have t := turn_fix (base := base) (H := H) hH.loc hl h1 h2 hloc (List.getElem?_eq_some_iff.1 hk).1 (.loop { state := st', pending := pend', fn := fn, tmps := tmps, params := ps, assign := x1, body := x2, defers := d }) (.loop st' pend' fn tm ps x1 x2 db)
    (fun hk => ⟨h1, h2, r, d, ed, tmps, hloc, heap_set_same hrlt, ht.mono hk (SigLe.refl S), hd, hf, hro, hdl, hc1, hc2⟩)
  exact t.all hH (fun q hq => by subst hq; simp [hl])

theorem round_ok (hE : EnvOk P E) (hC : CallOk P call) {N : Nat} {l : Nat} {args : List V} {cr : CR} {H' : Heap} {pn' : Pn} (h : evRound E call N l args H = some (cr, H', pn')) (hH : HRel (okOf base S) w n0 S H) {e : Ent} {r : Nat} (hl : S l = some e) (hloc : e.loc = some (r, 0))
    {vargs : Array Value} (ha : RelL (okOf base S) w S args vargs) (hb : BaseOk base w S) (c : Frame) (cs : List Frame) :
    ∃ nx y w' S', (Instr.yield r vargs).run P w = .ok nx w ∧ Runs P nx w (.returned y) w' c cs ∧ CrRel (okOf base S') w' S' cr (.returned y) ∧ StepR base (domS S) S w H S' w' H' := by
  unfold evRound at h
  split at h
  · rename_i pend fid tm ps asg body db heq
    split at h
    · rename_i hlen
      obtain ⟨kb, hk, hB⟩ := hH.blk l e hl
      rw [heq] at hk; obtain rfl := Option.some.inj hk
      obtain ⟨hfx, hro, rec, hrec, hst, _, hfn, hps, hasg, hbody, htmr, hc1, hc2⟩ := loop_rec hB hloc
      have hy := run_yield (P := P) (args := vargs) hrec (by rw [ha.1, hps]; exact hlen)
      obtain ⟨bf, hbf⟩ : ∃ bf : Frame, bf = { (default : Frame) with fn := fid, kind := .normal, roundOf := some r } := ⟨_, rfl⟩
      obtain ⟨tmps1, htmps1⟩ : ∃ t, t = (rec.params.zip vargs).foldl (fun t (p : Tmp × Value) => t.setIfInBounds p.1 p.2) rec.tmps := ⟨_, rfl⟩
      have hfr : Frame.round r rec.fn tmps1 rec.assign rec.body .normal = bf.atR { tmps := tmps1, defers := [] } [.code asg, .beginRound, .code body] := by
        subst hbf
        simp [Frame.round, Frame.atR, hfn, hasg, hbody]
      have hrel1 : RelL (okOf base S) w S ((ps.toList.zip args).foldl (fun t p => t.set p.1 p.2) tm) tmps1 := by
        subst htmps1
        rw [← Array.foldl_toList, Array.toList_zip, hps]
        exact setAll_rel _ _ _ _ _ htmr (by simpa using ha.1) (fun j c hj => by rw [← getD_arr]; exact ha.2 j c hj)
      have hs0 : SR base n0 bf { tmps := tmps1, defers := [] } (c :: cs) w S { tm := (ps.toList.zip args).foldl (fun t p => t.set p.1 p.2) tm, df := [], H := H, pn := .normal } :=
        ⟨hH, hrel1, trivial, by subst hbf; rfl⟩
      have hrd : RdOk (some l) bf S := ⟨e, r, hl, hfx, hro, hloc, by subst hbf; rfl⟩
      have hcs : ∀ {pn' : Pn} {cs' : List Frame}, CsTo .normal pn' (c :: cs) cs' → cs' = c :: cs := fun h => by
        rcases h with ⟨_, _, h⟩ | ⟨h, _⟩
        · exact h
        · exact absurd rfl h
      split at h
      · rename_i s1 hev1
        obtain ⟨a1, cs1, w1, S1, q1, q2, q3, q4⟩ := (code_ok hE hC N fid (some l) asg _ _ s1 hc1 hev1 w S _ _ [.beginRound, .code body] hs0 hrd (by subst hbf; rfl) hb).normal
        obtain rfl := hcs q3
        have hpn1 : s1.pn = .normal := by
          rcases q3 with ⟨_, h, _⟩ | ⟨h, _⟩
          · exact h
          · exact absurd rfl h
        split at h
        · rename_i pend1 fid1 tm1 ps1 asg1 body1 db1 heq1 hdf1
          have hl1 : S1 l = some e := by
            obtain ⟨e', h', _, _, q⟩ := q2.ext.sig l e hl
            rw [h', q hfx]
          obtain ⟨kb1, hk1, hB1⟩ := q1.heap.blk l e hl1
          rw [heq1] at hk1; obtain rfl := Option.some.inj hk1
          obtain ⟨_, _, rec1, hrec1, hst1, hpe1, _⟩ := loop_rec hB1 hloc
          have t1 := loop_turn (base := base) (st' := .busy) (pend' := pend1) q1.heap hl1 heq1 hloc hrec1
          obtain ⟨w2, hw2⟩ : ∃ w2 : World, w2 = { w1 with heap := w1.heap.setIfInBounds r (.loop { rec1 with state := .busy, pending := pend1 }) } := ⟨_, rfl⟩
          rw [← hw2] at t1
          have hbr : (Instr.beginRound r).run P w1 = .ok () w2 := by
            subst hw2
            have e1 : ({ rec1 with state := .busy, pending := pend1 } : Loop) = { rec1 with state := .busy } := by rw [← hpe1]
            rw [e1]
            simp only [Instr.beginRound, Instr.getLoop, Sem.run_bind, run_getObj' hrec1, Result.andThen_ok, Sem.run_pure, run_setObj' hrec1, hst1]
          have hb1 := hb.next q2
          have hs2 : SR base n0 bf a1 (c :: cs) w2 S1 { s1 with H := s1.H.set l (.loop .busy pend1 fid1 tm1 ps1 asg1 body1 db1) } :=
            ⟨q1.heap.next t1, t1.ext.relL q1.tm, q1.df.mono (t1.ext.calm base) t1.ext.sig, q1.pn.mono (t1.ext.calm base) t1.ext.sig⟩
          split at h
          · rename_i x s2 hev2
            obtain ⟨ex, a2, cs2, w3, S2, p1, p2, p3, p4, p5⟩ := code_ok hE hC N fid (some l) body _ x s2 hc2 hev2 w2 S1 a1 (c :: cs) [] hs2 (hrd.mono q2.ext.sig) (by subst hbf; rfl) (hb1.next t1)
            have p4' : CsTo .normal s2.pn (c :: cs) cs2 := by rw [← hpn1]; exact p4
            obtain rfl := hcs p4'
            split at h
            · rename_i st2 pe2 f2 t2 pp2 a2' b2 d2 heq2 hdf2
              have hl2 : S2 l = some e := by
                obtain ⟨e', h', _, _, q⟩ := p3.ext.sig l e hl1
                rw [h', q hfx]
              obtain ⟨kb2, hk2, hB2⟩ := p2.heap.blk l e hl2
              rw [heq2] at hk2; obtain rfl := Option.some.inj hk2
              obtain ⟨_, _, rec2, hrec2, _⟩ := loop_rec hB2 hloc
              have hst02 := StepR.seq hH.loc hH.dom_lt q2 (StepR.seq q1.heap.loc q1.heap.dom_lt t1 p3)
              -- the round's end
              have fin : ∀ (jump : Option Code) (H2 : Heap) (S3 : Sig), (∀ (st' : LoopState), st' = (if jump.isNone then LoopState.ready else .done) → ∃ w4, (Instr.endRound r jump).run P w3 = .ok (.bool jump.isNone) w4 ∧ StepR base (domS S2) S2 w3 s2.H S2 w4 (s2.H.set l (.loop st' jump f2 t2 pp2 a2' b2 d2))) := fun jump H2 S3 st' hst' => by
                subst hst'
                refine ⟨_, ?_, loop_turn (base := base) p2.heap hl2 heq2 hloc hrec2⟩
                simp only [Instr.endRound, Instr.getLoop, Sem.run_bind, run_getObj' hrec2, Result.andThen_ok, Sem.run_pure, run_setObj' hrec2]
              have hbegin := stepR_beginRound (P := P) (b := bf) (a := a1) (k := [.code body]) (cs := c :: cs) (by subst hbf; rfl) hbr
              have hsteps : Go_ P (lone (Frame.round r rec.fn tmps1 rec.assign rec.body .normal) (c :: cs) w) (lone (bf.atR a1 [.code body]) (c :: cs) w2) := by
                rw [hfr]; exact q4.trans (.one trivial hbegin)
              have hnx : nxFrame P (.round r rec.fn tmps1 rec.assign rec.body) = some (Frame.round r rec.fn tmps1 rec.assign rec.body .normal) := rfl
              have hyr : (Instr.yield r vargs).run P w = .ok (.round r rec.fn tmps1 rec.assign rec.body) w := by rw [htmps1]; exact hy
              have hbk : bf.roundOf = some r ∧ bf.kind = .normal := by subst hbf; exact ⟨rfl, rfl⟩
              split at h
              · simp only [Option.some.injEq, Prod.mk.injEq] at h
                obtain ⟨rfl, rfl, rfl⟩ := h
                obtain ⟨w4, hend, t4⟩ := fin none [] S2 .ready rfl
                have hst := StepR.seq hH.loc hH.dom_lt hst02 t4
                obtain ⟨S5, r1, r2, _⟩ := leave_ok (p2.heap.next t4) hH.dom_lt hst (v := .bool true) (x := .bool true) (.bool true) .normal
                cases ex <;> first
                  | exact p1.elim
                  | exact ⟨_, .bool true, w4, S5, hyr, ⟨_, hnx, hsteps.trans (StepsIn.trans p5 (.one trivial (stepR_round_end hbk.1 hbk.2 hend)))⟩, r2, r1⟩
              · simp only [Option.some.injEq, Prod.mk.injEq] at h
                obtain ⟨rfl, rfl, rfl⟩ := h
                obtain ⟨w4, hend, t4⟩ := fin (some .ret) [] S2 .done rfl
                have hst := StepR.seq hH.loc hH.dom_lt hst02 t4
                cases ex <;> first
                  | exact p1.elim
                  | (obtain ⟨k1, hk1⟩ := p5.2 (by rw [hbk.1]; rfl)
                     exact ⟨_, .bool false, w4, S2, hyr, ⟨_, hnx, hsteps.trans (StepsIn.trans hk1 (.one trivial (stepR_round_ret hbk.1 hbk.2 hend)))⟩, .bool false, hst⟩)
              · rename_i id
                simp only [Option.some.injEq, Prod.mk.injEq] at h
                obtain ⟨rfl, rfl, rfl⟩ := h
                obtain ⟨w4, hend, t4⟩ := fin (some (.exit id)) [] S2 .done rfl
                have hst := StepR.seq hH.loc hH.dom_lt hst02 t4
                cases ex <;> first
                  | exact p1.elim
                  | (have hid : id = _ := p1
                     subst hid
                     obtain ⟨k1, hk0, hk1⟩ := p5.2 (by rw [hbk.1]; rfl) rfl
                     exact ⟨_, .bool false, w4, S2, hyr, ⟨_, hnx, hsteps.trans (StepsIn.trans hk1 (.one trivial (stepR_round_exit hbk.1 hbk.2 hk0 hend)))⟩, .bool false, hst⟩)
              · cases h
            · cases h
          · cases h
        · cases h
      · cases h
    · cases h
  · cases h
end
end Go.Ev
