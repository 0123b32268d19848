/- Regions: whole. -/
import Derived.Test.YtdbpldkemkphiaaGreatDoorEvZ
namespace Go.Ev
variable [Glb]
open Go.RowKit Go.MapKept

section
variable {P : Program} {E : Env} {call : CallH} {base : Nat → Prop} {n0 : Nat} {ops : Array Oper} {f : Nat → St} {w0 w : World} {S0 S : Sig} {s s' : St} {a : Act} {b : Frame} {cs : List Frame} {k : List Item}

omit [Glb] in
theorem acc_known_all (hH : HRel (okOf base S) w n0 S s.H) (h : RelL (okOf base S) w S s.tm a.tmps) {o : Oper} {rd wr : List Nat} (ha : accOf s o = some (rd, wr)) : ∀ q, q ∈ rd ∨ q ∈ wr → (S q).isSome := by
  by_cases hcall : ∃ c g, o.op = .call c ∧ c.callee = .value g
  · obtain ⟨c, g, ho, hc⟩ := hcall
    cases hf : evo s.tm g with
    | none => simp [accOf, ho, hc, hf] at ha
    | some fv =>
      cases hargs : evos s.tm c.args.toList with
      | none => simp [accOf, ho, hc, hf, hargs] at ha
      | some args =>
        have hreach : rd = [] ∧ reach s.H (fv.refs ++ refsL args) = some wr := by
          simp only [accOf, ho, hc, hf, hargs] at ha
          cases hrc : reach s.H (fv.refs ++ refsL args) with
          | none => rw [hrc] at ha; cases ha
          | some l => rw [hrc] at ha; simp only [Option.map_some, Option.some.injEq, Prod.mk.injEq] at ha; exact ⟨ha.1.symm, by rw [ha.2]⟩
        obtain ⟨_, _, h3⟩ := reach_spec hreach.2
        have hall := h3 (fun b => (S b).isSome) (fun b hb => by
          rcases List.mem_append.1 hb with hb | hb
          · exact (evo_rel h hf).known b hb
          · exact (evos_relL h hargs).known b hb) (fun b _ hs q hq => by
          obtain ⟨e, k, _, hk, hB⟩ := hH.known hs
          simp only [blkRefs, hk] at hq
          exact hB.known q hq)
        intro q hq
        rcases hq with hq | hq
        · rw [hreach.1] at hq; simp at hq
        · exact hall q hq
  · exact acc_known h (fun c g h1 h2 => hcall ⟨c, g, h1, h2⟩) ha

/-- What is known of the operations ahead of j. -/
def Facts (ops : Array Oper) (f : Nat → St) (S0 : Sig) (i : Nat) : Prop :=
  (f i).H.length ≤ (f (i + 1)).H.length ∧ (∀ b, b < (f i).H.length → b ∉ (accs ops f i).2 → (f (i + 1)).H[b]? = (f i).H[b]?) ∧ (∀ b ∈ refsL (f i).tm, b < (f i).H.length) ∧
    ∀ b, (b ∈ (accs ops f i).1 ∨ b ∈ (accs ops f i).2) → b < (f i).H.length ∧ (∀ k, (f i).H[b]? = some k → ∀ c ∈ k.refs, c < (f i).H.length) ∧ (b < (f 0).H.length → (S0 b).isSome)

theorem index_run (hE : EnvOk P E) (hC : CallOk P call) (htr : ∀ j o, ops[j]? = some o → Tr E call ops (f j) o (f (j + 1))) (hacc : ∀ j o, ops[j]? = some o → want ops (f j).tm o = some true → accOf (f j) o = some (accs ops f j))
    (hH : HRel (okOf base S0) w0 n0 S0 (f 0).H) (ht : RelL (okOf base S0) w0 S0 (f 0).tm a.tmps) (hb : BaseOk base w0 S0) :
    ∀ j, j ≤ ops.size → (∃ w S a', HRel (okOf base S) w n0 S (f j).H ∧ RelL (okOf base S) w S (f j).tm (a' : Act).tmps ∧ BaseOk base w S ∧ StepR base (domS S0) S0 w0 (f 0).H S w (f j).H) ∧ ∀ i, i < j → Facts ops f S0 i
  | 0, _ => ⟨⟨w0, S0, a, hH, ht, hb, .rfl' hH⟩, fun i hi => by omega⟩
  | j + 1, hj => by
    obtain ⟨⟨w, S, a', h1, h2, h3, h4⟩, h5⟩ := index_run hE hC htr hacc hH ht hb j (by omega)
    have hjo : ops[j]? = some (ops[j]'(by omega)) := Array.getElem?_eq_getElem (by omega)
    have hrefs : ∀ b ∈ refsL (f j).tm, b < (f j).H.length := fun b hb => h1.dom_lt b (h2.known b hb)
    have hknown : ∀ rd wr, accOf (f j) (ops[j]'(by omega)) = some (rd, wr) → ∀ b, (b ∈ rd ∨ b ∈ wr) → b < (f j).H.length ∧ (∀ k, (f j).H[b]? = some k → ∀ c ∈ k.refs, c < (f j).H.length) ∧ (b < (f 0).H.length → (S0 b).isSome) := fun rd wr ha b hb => by
      have hs := acc_known_all h1 h2 ha b hb
      refine ⟨h1.dom_lt b hs, fun k hk c hc => ?_, fun hlt => ?_⟩
      · obtain ⟨e, k', _, hk', hB⟩ := h1.known hs
        rw [hk] at hk'; obtain rfl := Option.some.inj hk'
        exact h1.dom_lt c (hB.known c hc)
      · rcases h4.dom b hs with h | h
        · exact h
        · omega
    rcases htr j _ hjo with ⟨hw, hf1⟩ | ⟨hw, v, H', hcame, hf1⟩
    · have ha0 : accs ops f j = ([], []) := by unfold accs; rw [hjo]; simp [hw]
      have hHe : (f (j + 1)).H = (f j).H := by rw [hf1]
      refine ⟨⟨w, S, a'.put (ops[j]'(by omega)).dst undef, by rw [hHe]; exact h1, by rw [hf1]; exact relL_put h2 rel_undef _, h3, by rw [hHe]; exact h4⟩, fun i hi => ?_⟩
      rcases Nat.lt_or_ge i j with hij | hij
      · exact h5 i hij
      · have : i = j := by omega
        subst this
        exact ⟨by rw [hHe]; exact Nat.le_refl _, fun b _ _ => by rw [hHe], hrefs, fun b hb => by rw [ha0] at hb; simp at hb⟩
    · have ha := hacc j _ hjo hw
      obtain ⟨rd, wr, hrw⟩ : ∃ rd wr, accs ops f j = (rd, wr) := ⟨_, _, rfl⟩
      rw [hrw] at ha
      have hkn := acc_known_all h1 h2 ha
      obtain ⟨x, w', S', _, q2, q3⟩ := op_foot hE hC hcame ha h1.loc h3 h2 (fun b hb => h1.none_len hb) (fun b hb => h1.known (hkn b (.inl hb))) (fun b hb => h1.known (hkn b (.inr hb))) ⟨default, [], [], #[], 0, []⟩
      have hHe : (f (j + 1)).H = H' := by rw [hf1]
      have q4 := q3.all h1 (fun b hb => hkn b (.inr hb))
      refine ⟨⟨w', S', a'.put (ops[j]'(by omega)).dst x, by rw [hHe]; exact h1.next q3, by rw [hf1]; exact relL_put (q3.ext.relL h2) q2 _, h3.next q3, by rw [hHe]; exact StepR.seq hH.loc hH.dom_lt h4 q4⟩, fun i hi => ?_⟩
      rcases Nat.lt_or_ge i j with hij | hij
      · exact h5 i hij
      · have : i = j := by omega
        subst this
        refine ⟨by rw [hHe]; exact q3.len, fun b hb hnb => by rw [hHe]; exact q3.keep b hb (fun hm => hnb (by rw [hrw]; exact hm)), hrefs, fun b hb => hknown rd wr ha b (by rw [hrw] at hb; exact hb)⟩

theorem runOk_of (hE : EnvOk P E) (hC : CallOk P call) {nd : Bool} {x : X} {rs : List Rec} (hev : evOps E call ops true nd ops.toList 0 s [] = some (x, s', rs)) (hrs : recsOk ops rs = true) (hreg : RegOk ops)
    (hH : HRel (okOf base S0) w0 n0 S0 s.H) (ht : RelL (okOf base S0) w0 S0 s.tm a.tmps) (hb : BaseOk base w0 S0) :
    x = .nrm ∧ s'.df = s.df ∧ s'.pn = s.pn ∧ ∃ f : Nat → St, f 0 = s ∧ f ops.size = s' ∧ RunOk E call ops f S0 := by
  obtain ⟨rfl, _, f, hf0, hfn, htr⟩ := trace_of _ _ _ _ _ _ _ hev
  have htr1 : ∀ j o, ops[j]? = some o → Tr E call ops (f j) o (f (j + 1)) := fun j o hj => (htr j o (by simpa using hj)).1
  have hrec : ∀ j o, ops[j]? = some o → want ops (f j).tm o = some true → recOf (f j) o j ∈ rs := fun j o hj hw => by
    have := (htr j o (by simpa using hj)).2 hw
    rwa [Nat.zero_add] at this
  have hacc : ∀ j o, ops[j]? = some o → want ops (f j).tm o = some true → accOf (f j) o = some (accs ops f j) := fun j o hj hw => by
    have hb := (recs_pair hrs _ (hrec j o hj hw)).1
    unfold recOf at hb
    unfold accs
    rw [hj]
    simp only [hw, if_true]
    cases ha : accOf (f j) o with
    | none => rw [ha] at hb; cases hb
    | some p => rfl
  have hrecw : ∀ j x, (x ∈ (accs ops f j).1 ∨ x ∈ (accs ops f j).2) → ∃ r ∈ rs, r.at_ = j ∧ r.rd = (accs ops f j).1 ∧ r.wr = (accs ops f j).2 := fun j x hx => by
    cases hj : ops[j]? with
    | none => unfold accs at hx; rw [hj] at hx; simp at hx
    | some o =>
      by_cases hw : want ops (f j).tm o = some true
      · refine ⟨_, hrec j o hj hw, ?_⟩
        have := hacc j o hj hw
        unfold recOf
        rw [this]
        exact ⟨rfl, rfl, rfl⟩
      · unfold accs at hx; rw [hj] at hx; simp [hw] at hx
  have hdf : ∀ j, j ≤ ops.size → (f j).df = s.df ∧ (f j).pn = s.pn := fun j => by
    induction j with
    | zero => intro _; rw [hf0]; exact ⟨rfl, rfl⟩
    | succ j ih =>
      intro hj
      obtain ⟨h1, h2⟩ := ih (by omega)
      rcases htr1 j _ (Array.getElem?_eq_getElem (by omega)) with ⟨_, h⟩ | ⟨_, v, H, _, h⟩
      · rw [h]; exact ⟨h1, h2⟩
      · rw [h]; exact ⟨h1, h2⟩
  obtain ⟨h1, h2⟩ := hdf ops.size (Nat.le_refl _)
  have hfn' : f ops.size = s' := by rw [← hfn]; simp
  rw [hfn'] at h1 h2
  subst hf0
  have hrun := index_run hE hC htr1 hacc hH ht hb
  have hfacts : ∀ i, i < ops.size → Facts ops f S0 i := fun i hi => (hrun ops.size (Nat.le_refl _)).2 i hi
  refine ⟨rfl, h1, h2, f, rfl, hfn', hreg, htr1, hacc, fun i j hne x hx hx2 => ?_, fun j hj => (hfacts j hj).1, fun j hj => (hfacts j hj).2.1, fun j hj b hbr => ?_, fun j hj => (hfacts j hj).2.2.2, fun b hb => hH.dom_lt b hb⟩
  · obtain ⟨r1, m1, e1, d1, g1⟩ := hrecw i x (.inr hx)
    obtain ⟨r2, m2, e2, d2, g2⟩ := hrecw j x hx2
    rcases (recs_pair hrs r1 m1).2 r2 m2 (by omega) with h | h
    · have := recOk_ord h (x := x) (.inl ⟨by rw [g1]; exact hx, by rw [d2, g2]; exact hx2⟩)
      rwa [e1, e2] at this
    · have := recOk_ord h (x := x) (by rw [g1, d2, g2]; exact hx2.elim (fun h => .inr ⟨h, hx⟩) (fun h => .inl ⟨h, .inr hx⟩))
      rw [e1, e2] at this
      exact this.symm
  · obtain ⟨w, S, a', h1, h2, _, _⟩ := (hrun j hj).1
    exact h1.dom_lt b (h2.known b hbr)

theorem lin_go (hE : EnvOk P E) (hC : CallOk P call) (hR : RunOk E call ops f S0) (hl0 : Loc w0 n0 S0) {df : List Deferred} (b : Frame) (k : List Item) (cs : List Frame) : ∀ (fuel t : Nat) (listed : Array Bool) (D : Nat → Prop) (a : Act) (w : World) (S : Sig) (U : List Nat),
    Inv base n0 ops f w0 S0 df D a w S → listed.size = ops.size → (∀ i, i < ops.size → (listed.getD i true = true ↔ D i)) → U.length ≤ fuel → (∀ i, i < ops.size → ¬ D i → i ∈ U) →
    ∃ a' w' S' D', Inv base n0 ops f w0 S0 df D' a' w' S' ∧ (∀ i, i < ops.size → D' i) ∧
      Go_ P (lone (b.atR a (.inRegion ops (Region.linearise.go .any ops fuel t listed []) :: k)) cs w) (lone (b.atR a' (.inRegion ops [] :: k)) cs w')
  | 0, t, listed, D, a, w, S, U, hI, hsz, hD, hU, hall => by
    refine ⟨a, w, S, D, hI, fun i hi => ?_, .refl _⟩
    apply Classical.byContradiction
    intro hn
    have := hall i hi hn
    have hU0 : U = [] := List.eq_nil_of_length_eq_zero (by omega)
    rw [hU0] at this; simp at this
  | fuel + 1, t, listed, D, a, w, S, U, hI, hsz, hD, hU, hall => by
    have hgo : Region.linearise.go .any ops (fuel + 1) t listed [] = (match (Region.ready .any ops listed)[t % (Region.ready .any ops listed).length]? with
      | some i => Region.linearise.go .any ops fuel (t / (Region.ready .any ops listed).length) (listed.setIfInBounds i true) [i]
      | none => []) := rfl
    have hmem : ∀ i, i ∈ Region.ready .any ops listed ↔ i < ops.size ∧ ¬ D i ∧ ∃ o, ops[i]? = some o ∧ ∀ e ∈ o.after, Region.binds .any e = true → listed.getD e.on false = true := fun i => by
      unfold Region.ready
      rw [List.mem_filter, List.mem_range]
      constructor
      · rintro ⟨h1, h2⟩
        simp only [Bool.and_eq_true, Bool.not_eq_true'] at h2
        refine ⟨h1, fun hd => ?_, ops[i], Array.getElem?_eq_getElem h1, fun e he hb => ?_⟩
        · rw [(hD i h1).2 hd] at h2; simp at h2
        · have h3 := h2.2
          rw [Array.getElem?_eq_getElem h1] at h3
          simp only [Option.map_some, Option.getD_some] at h3
          have := (Array.all_eq_true_iff_forall_mem.1 h3) e he
          rw [hb] at this
          simpa using this
      · rintro ⟨h1, h2, o, ho, h3⟩
        refine ⟨h1, ?_⟩
        have h4 : listed.getD i true = false := by
          cases h : listed.getD i true with
          | false => rfl
          | true => exact absurd ((hD i h1).1 h) h2
        rw [h4, ho]
        simp only [Bool.not_false, Option.map_some, Option.getD_some, Bool.true_and]
        refine Array.all_eq_true_iff_forall_mem.2 (fun e he => ?_)
        cases hb : Region.binds .any e with
        | false => rfl
        | true => simp [h3 e he hb]
    have hdl : ∀ i, i < ops.size → (listed.getD i false = true ↔ D i) := fun i hi => by
      have h1 := hD i hi
      have : listed.getD i false = listed.getD i true := by
        rw [Array.getD_eq_getD_getElem?, Array.getD_eq_getD_getElem?, Array.getElem?_eq_getElem (by omega)]; rfl
      rw [this]; exact h1
    rw [hgo]
    cases hi : (Region.ready .any ops listed)[t % (Region.ready .any ops listed).length]? with
    | none =>
      have hnil : Region.ready .any ops listed = [] := by
        cases hr : Region.ready .any ops listed with
        | nil => rfl
        | cons x xs =>
          rw [hr] at hi
          have hlt : t % (x :: xs).length < (x :: xs).length := Nat.mod_lt _ (by simp)
          rw [List.getElem?_eq_getElem hlt] at hi
          cases hi
      refine ⟨a, w, S, D, hI, fun i => ?_, .refl _⟩
      induction i using Nat.strongRecOn with
      | _ i ih =>
        intro hi'
        apply Classical.byContradiction
        intro hn
        have : i ∈ Region.ready .any ops listed := (hmem i).2 ⟨hi', hn, ops[i], Array.getElem?_eq_getElem hi', fun e he hb => by
          have hlt := hR.reg.back i _ (Array.getElem?_eq_getElem hi') e he hb
          exact (hdl e.on (by omega)).2 (ih e.on hlt (by omega))⟩
        rw [hnil] at this; simp at this
    | some i =>
      obtain ⟨h1, h2, o, ho, h3⟩ := (hmem i).1 (List.mem_of_getElem? hi)
      have hr : ∀ e ∈ o.after, Region.binds .any e = true → D e.on := fun e he hb => by
        have hlt := hR.reg.back i o ho e he hb
        exact (hdl e.on (by omega)).1 (h3 e he hb)
      obtain ⟨a1, w1, S1, hI1, hst⟩ := inv_step hE hC hR hI hl0 ho hr h2 b k cs (Region.linearise.go .any ops fuel (t / (Region.ready .any ops listed).length) (listed.setIfInBounds i true) [])
      have hiU := hall i h1 h2
      obtain ⟨a', w', S', D', hI', hD', hgo'⟩ := lin_go hE hC hR hl0 b k cs fuel (t / (Region.ready .any ops listed).length) (listed.setIfInBounds i true) (fun q => D q ∨ q = i) a1 w1 S1 (U.erase i) hI1 (by simp [hsz]) (fun q hq => by
          by_cases hqi : q = i
          · subst hqi
            rw [Array.getD_eq_getD_getElem?, Array.getElem?_setIfInBounds_self_of_lt (by omega)]
            simp
          · rw [Array.getD_eq_getD_getElem?, Array.getElem?_setIfInBounds_ne (fun h => hqi h.symm), ← Array.getD_eq_getD_getElem?, hD q hq]
            simp [hqi]) (by rw [List.length_erase_of_mem hiU]; omega) (fun q hq hn => by
          have hqi : q ≠ i := fun h => hn (.inr h)
          exact (List.mem_erase_of_ne hqi).2 (hall q hq (fun h => hn (.inl h))))
      refine ⟨a', w', S', D', hI', hD', ?_⟩
      simp only []
      rw [linearise_go_acc, List.reverse_singleton, List.singleton_append]
      exact hst.trans hgo'

omit [Glb] in
theorem SR.drew (h : SR base n0 b a cs w S s) : SR base n0 b a cs w.drew S s :=
  ⟨⟨fun q e hq => by obtain ⟨k, hk, hB⟩ := h.heap.blk q e hq; exact ⟨k, hk, hB.mono calm_drew (SigLe.refl _) (fun _ _ _ => rfl)⟩, h.heap.loc.drew⟩, h.tm.mono calm_drew (SigLe.refl _), h.df.mono calm_drew (SigLe.refl _), h.pn.mono calm_drew (SigLe.refl _)⟩

theorem region_draw_ok (hE : EnvOk P E) (hC : CallOk P call) {nd : Bool} {x : X} {rid : Nat} (hev : evRegion E call ops true nd s = some (x, s')) (hreg : regOk ops = true) (hs : SR base n0 b a cs w S s) (hb : BaseOk base w S) :
    Res P base n0 S w s b cs k (lone (b.atR a (.code (.region rid ops true) :: k)) cs w) x s' := by
  unfold evRegion at hev
  split at hev
  · rename_i x1 s1 rs hops
    split at hev
    · rename_i hrs
      simp only [Option.some.injEq, Prod.mk.injEq] at hev
      obtain ⟨rfl, rfl⟩ := hev
      have hs' := hs.drew
      have hb' : BaseOk base w.drew S := ⟨hb.new, hb.loc, hb.glob, hb.gloc⟩
      obtain ⟨rfl, hdf, hpn, f, rfl, rfl, hR⟩ := runOk_of (a := a) hE hC hops (by simpa using hrs) (regOk_spec hreg) hs'.heap hs'.tm hb'
      have hI0 : Inv base n0 ops f w.drew S a.defers (fun _ => False) a w.drew S := by
        refine ⟨fun j o hj => hj.elim, hs'.heap.loc, hb', .refl _ _ _, fun q e r o hq hl => .inl ⟨e, o, hq, hl, id⟩, fun q hq => .inl hq, fun j hj => hj.elim, fun q e hq j hj hag => ?_, hs'.tm.1, fun t c j hj hag hc => ?_, rfl⟩
        · obtain ⟨k, hk, hB⟩ := hs'.heap.blk q e hq
          refine ⟨k, ?_, hB⟩
          rw [hR.chain (Nat.zero_le j) hj (fun i _ hij hw => (hag i (by omega) hw).2 hij)]
          exact hk
        · rw [hR.chainT (Nat.zero_le j) hj (fun i o _ hij ho hd => (hag i o ho hd).2 hij)] at hc
          exact hs'.tm.2 t c hc
      obtain ⟨a', w', S', D', hI, hD, hgo⟩ := lin_go hE hC hR hs'.heap.loc b k cs ops.size (w.tape w.drawn (.order b.fn rid)) (Array.replicate ops.size false) _ a w.drew S (List.range ops.size) hI0 (by simp) (fun i hi => by simp [Array.getD_eq_getD_getElem?, hi]) (by simp) (fun i hi _ => by simpa using hi)
      have hstep : StepR base (domS S) S w.drew (f 0).H S' w' (f ops.size).H := by
        refine ⟨hI.ext, fun q e hq _ => hI.vb q e hq ops.size (Nat.le_refl _) (fun i hi _ => ⟨fun _ => hi, fun _ => hD i hi⟩), hI.far, fun q q' e e' r o o' hq hq' hl hl' hr => hI.loc.inj q q' e e' r o o' hq hq' hl hl', fun q hq => ?_, fun q hq hw => ?_, hR.mono (Nat.zero_le _) (Nat.le_refl _)⟩
        · rcases hI.di q hq with h1 | ⟨j, hj, _, h1⟩
          · exact .inl h1
          · have := hR.mono (Nat.zero_le j) (by omega)
            have := hR.mono (show j + 1 ≤ ops.size by omega) (Nat.le_refl _)
            exact .inr (by omega)
        · refine hR.chain (Nat.zero_le _) (Nat.le_refl _) (fun i _ hi hwr => ?_)
          rcases hwr with hwr | hwr
          · exact hw ((hR.known i hi q (.inr hwr)).2.2 hq)
          · have := hR.mono (Nat.zero_le i) (by omega); omega
      have hstep' := hstep.of_drew
      refine ⟨.normal, a', cs, w', S', trivial, ⟨hs.heap.next hstep', ⟨?_, fun j c hj => ?_⟩, by rw [hdf, hI.df]; exact hs.df.mono (hstep'.ext.calm base) hstep'.ext.sig, by rw [hpn]; exact hs.pn.mono (hstep'.ext.calm base) hstep'.ext.sig⟩, hstep', by rw [hpn]; exact .refl hs.pn, ?_⟩
      · rw [hI.sz, hR.tmlen (Nat.le_refl _)]
      · exact hI.tm j c ops.size (Nat.le_refl _) (fun i o ho _ => ⟨fun _ => (Array.getElem?_eq_some_iff.1 ho).1, fun _ => hD i (Array.getElem?_eq_some_iff.1 ho).1⟩) hj
      · have h1 := stepR_region_draw (P := P) (b := b) (a := a) (k := k) (cs := cs) (w := w) (ops := ops) (id := rid)
        rw [hE.mixed] at h1
        have h2 : Region.schedule true ops (w.tape w.drawn (.order b.fn rid)) = Region.linearise.go .any ops ops.size (w.tape w.drawn (.order b.fn rid)) (Array.replicate ops.size false) [] := by
          simp [Region.schedule, Region.linearise]
        rw [h2] at h1
        exact (StepsIn.head trivial h1 hgo).trans (.one trivial stepR_region_end)
    · cases hev
  · cases hev

theorem region_ok (hE : EnvOk P E) (hC : CallOk P call) {nd d : Bool} {x : X} {rid : Nat} (hev : evRegion E call ops d nd s = some (x, s')) (hreg : d = true → regOk ops = true) (hs : SR base n0 b a cs w S s) (hnd : nd = true → b.roundOf = none) (hb : BaseOk base w S) :
    Res P base n0 S w s b cs k (lone (b.atR a (.code (.region rid ops d) :: k)) cs w) x s' := by
  cases d with
  | true => exact region_draw_ok hE hC hev (hreg rfl) hs hb
  | false =>
    unfold evRegion at hev
    split at hev
    · rename_i x1 s1 rs hops
      simp only [Bool.not_false, Bool.true_or, if_true, Option.some.injEq, Prod.mk.injEq] at hev
      obtain ⟨rfl, rfl⟩ := hev
      have := ops_ok (k := k) hE hC ops.toList 0 s [] x1 s1 rs hops (by simp) w S a cs hs hnd hb
      refine Res.of_steps (.one trivial stepR_region) ?_
      rw [List.range_eq_range']
      simpa using this
    · cases hev
end
end Go.Ev
