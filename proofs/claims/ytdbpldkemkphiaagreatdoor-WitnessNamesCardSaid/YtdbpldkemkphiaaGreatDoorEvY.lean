/- One operation on its own blocks. -/
import Derived.Test.YtdbpldkemkphiaaGreatDoorEvX
namespace Go.Ev
variable [Glb]
open Go.RowKit Go.MapKept

omit [Glb] in
theorem close_sub (H : Heap) : ∀ (n : Nat) (l : List Nat), ∀ b ∈ l, b ∈ close H n l
  | 0, l, b, h => h
  | n + 1, l, b, h => by
    simp only [close]
    split
    · exact h
    · exact close_sub H n _ b (List.mem_append_left _ h)

omit [Glb] in
theorem mem_eraseDups_of {l : List Nat} {b : Nat} (h : b ∈ l.eraseDups) : b ∈ l := by
  simpa using List.mem_eraseDups.1 h

omit [Glb] in
theorem close_ind (H : Heap) (Q : Nat → Prop) : ∀ (n : Nat) (l : List Nat), (∀ b ∈ l, Q b) → (∀ b ∈ close H n l, Q b → ∀ c ∈ blkRefs H b, Q c) → ∀ b ∈ close H n l, Q b
  | 0, l, h, _, b, hb => h b hb
  | n + 1, l, h, hs, b, hb => by
    simp only [close] at hb hs
    split at hb
    · exact h b hb
    · rename_i hne
      rw [if_neg hne] at hs
      refine close_ind H Q n _ (fun c hc => ?_) hs b hb
      rcases List.mem_append.1 hc with hc | hc
      · exact h c hc
      · have hc2 := mem_eraseDups_of hc
        have hc3 := (List.mem_filter.1 hc2).1
        obtain ⟨q, hq, hcq⟩ := List.mem_flatMap.1 hc3
        exact hs q (close_sub H n _ q (List.mem_append_left _ hq)) (h q hq) c hcq

omit [Glb] in
theorem reach_spec {H : Heap} {l c : List Nat} (h : reach H l = some c) : (∀ b ∈ l, b ∈ c) ∧ (∀ b ∈ c, ∀ q ∈ blkRefs H b, q ∈ c) ∧ ∀ (Q : Nat → Prop), (∀ b ∈ l, Q b) → (∀ b ∈ c, Q b → ∀ q ∈ blkRefs H b, Q q) → ∀ b ∈ c, Q b := by
  unfold reach at h
  simp only at h
  split at h
  · rename_i hc
    simp only [Bool.and_eq_true] at hc
    obtain rfl := Option.some.inj h
    refine ⟨fun b hb => ?_, fun b hb q hq => ?_, fun Q h1 h2 => close_ind H Q _ _ h1 h2⟩
    · simpa using List.all_eq_true.1 hc.2 b hb
    · have := List.all_eq_true.1 (List.all_eq_true.1 hc.1 b hb) q hq
      simpa using this
  · cases h

section
variable {P : Program} {E : Env} {base : Nat → Prop} {n0 : Nat} {w w' : World} {S S' : Sig} {s s' : St} {a : Act} {o : Oper}

omit [Glb] in
theorem refsL_known {ok : Nat → Prop} : ∀ {cs : List V} {xs : Nat → Value}, (∀ (j : Nat) (c : V), cs[j]? = some c → Rel ok w S c (xs j)) → ∀ b ∈ refsL cs, (S b).isSome
  | [], _, _, b, hb => by simp [refsL] at hb
  | c :: cs, xs, h, b, hb => by
    simp only [refsL, List.mem_append] at hb
    rcases hb with hb | hb
    · exact (h 0 c rfl).known b hb
    · exact refsL_known (xs := fun j => xs (j + 1)) (fun j c hj => h (j + 1) c (by simpa using hj)) b hb

omit [Glb] in
theorem RelL.known {ok : Nat → Prop} {cs : List V} {vs : Array Value} (h : RelL ok w S cs vs) : ∀ b ∈ refsL cs, (S b).isSome := refsL_known (xs := fun j => vs.getD j default) h.2

omit [Glb] in
theorem BRel.known {ok : Nat → Prop} {e : Ent} {k : Blk} (h : BRel ok w S e k) : ∀ b ∈ k.refs, (S b).isSome := by
  cases k with
  | cells ro g es cs => obtain ⟨_, _, _, _, r, o, arr, t, _, _, _, _, _, he⟩ := h; exact refsL_known (xs := fun j => arr.getD (o + j) default) he
  | map es =>
    obtain ⟨_, _, r, ents, clock, _, _, _, he⟩ := h
    intro b hb
    obtain ⟨kv, hkv, hb⟩ := List.mem_flatMap.1 hb
    obtain ⟨j, hj⟩ := List.getElem?_of_mem hkv
    rcases List.mem_append.1 hb with hb | hb
    · exact (he j kv hj).2.1.known b hb
    · exact (he j kv hj).2.2.known b hb
  | loop st pend fn tm ps x y db =>
    obtain ⟨_, _, r, d, ed, tmps, _, _, ht, hd, _⟩ := h
    intro b hb
    simp only [Blk.refs, List.mem_cons] at hb
    rcases hb with rfl | hb
    · simp [hd]
    · exact ht.known b hb
  | _ => intro b hb; simp [Blk.refs] at hb

omit [Glb] in
theorem RelL.move {ok : Nat → Prop} {cs : List V} {vs : Array Value} (h : RelL ok w S cs vs) (hS : ∀ b ∈ refsL cs, S' b = S b) : RelL ok w S' cs vs :=
  ⟨h.1, fun j c hj => (h.2 j c hj).move (fun b hb => hS b (refsL_mem hj hb))⟩

omit [Glb] in
theorem BRel.move {ok : Nat → Prop} {e : Ent} {k : Blk} (h : BRel ok w S e k) (hS : ∀ b ∈ k.refs, S' b = S b) : BRel ok w S' e k := by
  cases k with
  | cells ro g es cs => obtain ⟨h1, h2, h3, h4, r, o, arr, t, h5, h6, h7, h8, h9, he⟩ := h; exact ⟨h1, h2, h3, h4, r, o, arr, t, h5, h6, h7, h8, h9, fun j c hj => (he j c hj).move (fun b hb => hS b (refsL_mem hj hb))⟩
  | map es =>
    obtain ⟨h1, h2, r, ents, clock, h3, h4, h5, he⟩ := h
    refine ⟨h1, h2, r, ents, clock, h3, h4, h5, fun j kv hj => ?_⟩
    have hm : ∀ b, b ∈ kv.1.refs ∨ b ∈ kv.2.refs → S' b = S b := fun b hb => hS b (List.mem_flatMap.2 ⟨kv, List.mem_of_getElem? hj, List.mem_append.2 hb⟩)
    exact ⟨(he j kv hj).1, (he j kv hj).2.1.move (fun b hb => hm b (.inl hb)), (he j kv hj).2.2.move (fun b hb => hm b (.inr hb))⟩
  | loop st pend fn tm ps x y db =>
    obtain ⟨h1, h2, r, d, ed, tmps, h3, h4, ht, hd, h5⟩ := h
    exact ⟨h1, h2, r, d, ed, tmps, h3, h4, ht.move (fun b hb => hS b (by simp [Blk.refs, hb])), by rw [hS db (by simp [Blk.refs])]; exact hd, h5⟩
  | _ => exact h

variable {L : Nat → Prop} [DecidablePred L]

omit [Glb] in
theorem Known.only {H : Heap} {b : Nat} (h : Known (okOf base S) w S H b) (hb : L b) (hr : ∀ k, H[b]? = some k → ∀ c ∈ k.refs, L c) : Known (okOf (baseBut base S L) (S.only L)) w (S.only L) H b := by
  obtain ⟨e, k, h1, h2, h3⟩ := h
  refine ⟨e, k, Sig.only_some.2 ⟨hb, h1⟩, h2, ?_⟩
  have h4 : BRel (okOf (baseBut base S L) (S.only L)) w S e k := h3.mono (fun q _ hq => ⟨(okOf_only q).2 hq, rfl⟩) (SigLe.refl _) (fun _ _ _ => rfl)
  exact h4.move (fun c hc => by simp [Sig.only, hr k h2 c hc])

omit [Glb] in
theorem RelL.only {cs : List V} {vs : Array Value} (h : RelL (okOf base S) w S cs vs) (hL : ∀ b ∈ refsL cs, L b) : RelL (okOf (baseBut base S L) (S.only L)) w (S.only L) cs vs :=
  ⟨h.1, fun j c hj => (h.2 j c hj).only (fun b hb => hL b (refsL_mem hj hb))⟩

/-- What an operation came to: a value, or nothing. -/
def Came_ (E : Env) (call : CallH) (s : St) (o : Oper) (v : V) (H' : Heap) : Prop := evOp E call s o = some (.val v H') ∨ (evOp E call s o = some (.skip H') ∧ v = .tup [])

/-- An operation on the blocks that it reads and writes. -/
theorem op_foot (hE : EnvOk P E) {call : CallH} (hC : CallOk P call) {v : V} {H' : Heap} (hr : Came_ E call s o v H') {rd wr : List Nat} (ha : accOf s o = some (rd, wr)) (hl : Loc w n0 S) (hb : BaseOk base w S) (h : RelL (okOf base S) w S s.tm a.tmps)
    (hn : ∀ b, s.H.length ≤ b → S b = none) (hkr : ∀ b ∈ rd, Known (okOf base S) w S s.H b) (hkw : ∀ b ∈ wr, Known (okOf base S) w S s.H b) (p : At) :
    ∃ x w' S', OpGo P p o a w x w' ∧ Rel (okOf base S') w' S' v x ∧ StepR base (fun b => b ∈ wr) S w s.H S' w' H' := by
  by_cases hcall : ∃ c f, o.op = .call c ∧ c.callee = .value f
  · obtain ⟨c, f, ho, hc⟩ := hcall
    have hev : ∃ args fv pn1, evos s.tm c.args.toList = some args ∧ evo s.tm f = some fv ∧ call .normal fv args s.H = some (.ret v, H', pn1) := by
      cases hargs : evos s.tm c.args.toList with
      | none => simp [Came_, evOp, ho, hargs] at hr
      | some args =>
        cases hf : evo s.tm f with
        | none => simp [Came_, evOp, ho, hargs, hc, hf] at hr
        | some fv =>
          cases hcl : call .normal fv args s.H with
          | none => simp [Came_, evOp, ho, hargs, hc, hf, hcl] at hr
          | some p =>
            obtain ⟨cr, H1, pn1⟩ := p
            cases cr with
            | ret v' =>
              simp only [Came_, evOp, ho, hargs, hc, hf, hcl, Option.some.injEq, OR.val.injEq, reduceCtorEq, false_and, or_false] at hr
              obtain ⟨rfl, rfl⟩ := hr
              exact ⟨args, fv, pn1, rfl, rfl, hcl⟩
            | pan v' => simp [Came_, evOp, ho, hargs, hc, hf, hcl] at hr
    obtain ⟨args, fv, pn1, hargs, hf, hcl⟩ := hev
    have hreach : reach s.H (fv.refs ++ refsL args) = some wr := by
      simp only [accOf, ho, hc, hf, hargs] at ha
      cases hrc : reach s.H (fv.refs ++ refsL args) with
      | none => rw [hrc] at ha; cases ha
      | some l => rw [hrc] at ha; simp only [Option.map_some, Option.some.injEq, Prod.mk.injEq] at ha; rw [ha.2]
    obtain ⟨h1, h2, _⟩ := reach_spec hreach
    have hblk : ∀ b k, b ∈ wr → s.H[b]? = some k → ∀ q ∈ k.refs, q ∈ wr := fun b k hbw hk q hq => h2 b hbw q (by simp only [blkRefs, hk]; exact hq)
    have hH0 : HRel (okOf (baseBut base S (fun b => b ∈ wr)) (S.only (fun b => b ∈ wr))) w n0 (S.only (fun b => b ∈ wr)) s.H := by
      refine ⟨fun b e hbe => ?_, hl.only⟩
      obtain ⟨hbw, hbe⟩ := Sig.only_some.1 hbe
      obtain ⟨e', k, h3, h4, h5⟩ := (hkw b hbw).only (L := fun b => b ∈ wr) hbw (fun k hk q hq => hblk b k hbw hk q hq)
      have : e' = e := by
        have := (Sig.only_some.1 h3).2
        rw [hbe] at this; exact (Option.some.inj this).symm
      subst this
      exact ⟨k, h4, h5⟩
    obtain ⟨d, nx, e, w', S0', q1, q2, q3, q4, q5⟩ := hC fv args s.H (.ret v) H' pn1 hcl _ n0 w _ (a.eval f) (c.args.map a.eval) hH0
      ((evo_rel h hf).only (fun b hb => h1 b (List.mem_append_left _ hb))) ((evos_relL h hargs).only (fun b hb => h1 b (List.mem_append_right _ hb))) (hb.only hl) (p.frame a) p.cs
    cases e with
    | returned y =>
      have hWL : ∀ b, domS (S.only (fun b => b ∈ wr)) b → b ∈ wr := fun b hb => by
        obtain ⟨e, he⟩ := Option.isSome_iff_exists.1 hb
        exact (Sig.only_some.1 he).1
      obtain ⟨f1, f2⟩ := frame_rule hl hWL (fun b hb _ => hn b hb) q5
      have hd : ∀ c, o.op ≠ .defer c := fun c' he => by rw [ho] at he; cases he
      have hx : (execOp a.eval o).run P w = .ok nx w := by
        simp only [execOp, ho, Sem.run_bind, resolve, hc, q1, Result.andThen_ok, q2]
      refine ⟨y, w', _, .of_call hd hx q3, f2 q4, f1.weaken hWL (fun b hb hs => ?_)⟩
      obtain ⟨e, he⟩ := Option.isSome_iff_exists.1 hs
      show (S.only (fun b => b ∈ wr) b).isSome
      rw [Sig.only_some.2 ⟨hb, he⟩]; rfl
    | panicked ch => exact q4.elim
    | outgrown => exact q4.elim
  · have hnc : ∀ c f, o.op = .call c → c.callee ≠ .value f := fun c f h1 h2 => hcall ⟨c, f, h1, h2⟩
    rcases hr with hr | ⟨hr, rfl⟩
    · obtain ⟨x, w', S', h1, h2, h3⟩ := op_plain hE hr hnc ha hl hn h hkr hkw
      exact ⟨x, w', S', .of_value (notDefer_of_value h1) h1, h2, h3⟩
    · obtain ⟨w', S', h1, h3⟩ := op_plain hE hr hnc ha hl hn h hkr hkw
      exact ⟨undef, w', S', .of_skip (notDefer_of_skip h1) h1, rel_undef, h3⟩

/-- The temporaries that an operation looks at. -/
def keepT (ts : List Tmp) (tm : List V) : List V := tm.zipIdx.map fun p => if ts.contains p.2 then p.1 else .undef

omit [Glb] in
theorem keepT_get {ts : List Tmp} {tm : List V} {j : Nat} : (keepT ts tm)[j]? = (tm[j]?).map (fun c => if ts.contains j then c else .undef) := by
  simp only [keepT, List.getElem?_map, List.getElem?_zipIdx]
  cases tm[j]? <;> simp

omit [Glb] in
theorem evo_keepT {l : List Operand} {tm : List V} {x : Operand} (hx : x ∈ l) : evo (keepT (tmpsOf l) tm) x = evo tm x := by
  cases x with
  | tmp t =>
    have : (tmpsOf l).contains t = true := by
      simp only [tmpsOf, List.contains_iff_mem]
      exact List.mem_filterMap.2 ⟨.tmp t, hx, rfl⟩
    simp only [evo, List.getD_eq_getElem?_getD, keepT_get, this]
    cases tm[t]? <;> simp
  | _ => rfl

theorem op_virtual (hE : EnvOk P E) {call : CallH} (hC : CallOk P call) {v : V} {H' : Heap} (hr : Came_ E call s o v H') {rd wr : List Nat} (ha : accOf s o = some (rd, wr)) (hl : Loc w n0 S) (hb : BaseOk base w S) (hsz : a.tmps.size = s.tm.length)
    (ht : ∀ t c, t ∈ tmpsOf o.op.operands.toList → s.tm[t]? = some c → Rel (okOf base S) w S c (a.tmps.getD t default) ∧ ∀ b ∈ c.refs, b < s.H.length)
    (hk : ∀ b, b ∈ rd ∨ b ∈ wr → Known (okOf base S) w S s.H b) (hkr : ∀ b k, b ∈ rd ∨ b ∈ wr → s.H[b]? = some k → ∀ c ∈ k.refs, c < s.H.length)
    (hfree : ∀ b, s.H.length ≤ b → b < H'.length → S b = none) (p : At) :
    ∃ x w' S', OpGo P p o a w x w' ∧ Rel (okOf base S') w' S' v x ∧ StepR base (fun b => b ∈ wr) S w s.H S' w' H' := by
  have hcg : ∀ x ∈ o.op.operands.toList, evo (keepT (tmpsOf o.op.operands.toList) s.tm) x = evo s.tm x := fun x hx => evo_keepT hx
  have hr' : Came_ E call { s with tm := keepT (tmpsOf o.op.operands.toList) s.tm } o v H' := by
    unfold Came_
    rw [evOp_congr hcg]
    exact hr
  have ha' : accOf { s with tm := keepT (tmpsOf o.op.operands.toList) s.tm } o = some (rd, wr) := by rw [accOf_congr hcg]; exact ha
  have hlt : ∀ b, b ∈ rd ∨ b ∈ wr → b < s.H.length := fun b hb => by
    obtain ⟨e, k, _, h2, _⟩ := hk b hb
    exact (List.getElem?_eq_some_iff.1 h2).1
  obtain ⟨x, w', S0', h1, h2, h3⟩ := op_foot (s := { s with tm := keepT (tmpsOf o.op.operands.toList) s.tm }) (base := baseBut base S (fun b => b < s.H.length)) (S := S.only (fun b => b < s.H.length)) (n0 := n0) (a := a) hE hC hr' ha' hl.only (hb.only hl)
    ⟨by simp [keepT, hsz], fun j c hj => by
      rw [keepT_get] at hj
      cases hc : s.tm[j]? with
      | none => rw [hc] at hj; cases hj
      | some c0 =>
        rw [hc] at hj
        simp only [Option.map_some, Option.some.injEq] at hj
        subst hj
        split
        · rename_i hts
          obtain ⟨h4, h5⟩ := ht j c0 (by simpa using hts) hc
          exact h4.only h5
        · exact .undef _⟩
    (fun b hb => by unfold Sig.only; rw [if_neg (by have : s.H.length ≤ b := hb; omega)])
    (fun b hb => (hk b (.inl hb)).only (L := fun b => b < s.H.length) (hlt b (.inl hb)) (fun k hk' => hkr b k (.inl hb) hk'))
    (fun b hb => (hk b (.inr hb)).only (L := fun b => b < s.H.length) (hlt b (.inr hb)) (fun k hk' => hkr b k (.inr hb) hk')) p
  obtain ⟨f1, f2⟩ := frame_rule hl (fun b hb => hlt b (.inr hb)) hfree h3
  exact ⟨x, w', _, h1, f2 h2, f1⟩
end
end Go.Ev
