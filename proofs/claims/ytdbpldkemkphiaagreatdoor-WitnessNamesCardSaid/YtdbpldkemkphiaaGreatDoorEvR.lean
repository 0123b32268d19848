/- Operations: slices of slices, maps, texts gone through, values built. -/
import Derived.Test.YtdbpldkemkphiaaGreatDoorEvQ
import Derived.MapKept
namespace Go.Ev
variable [Glb]
open Go.RowKit Go.MapKept

section
variable {P : Program} {E : Env} {base : Nat → Prop} {n0 : Nat} {w : World} {S : Sig} {H : Heap} {a : Act} {tm : List V} {o : Oper}

omit [Glb] in
theorem StepR.of_drew {W : Nat → Prop} {S' : Sig} {w' : World} {H' : Heap} (x : StepR base W S w.drew H S' w' H') : StepR base W S w H S' w' H' :=
  ⟨⟨x.ext.os, x.ext.tape, x.ext.output, x.ext.size, x.ext.sig, x.ext.old, x.ext.own, x.ext.keep⟩, x.blk, x.loc, x.inj, x.dom, x.keep, x.len⟩

omit [Glb] in
theorem calm_drew {ok : Nat → Prop} : Calm ok ok w w.drew := fun _ _ h => ⟨h, rfl⟩

omit [Glb] in
theorem Loc.drew (h : Loc w n0 S) : Loc w.drew n0 S := ⟨h.inj, h.new, h.n0⟩

/-! ### x[lo:hi] -/
omit [Glb] in
theorem optV_rel {ok : Nat → Prop} (h : RelL ok w S tm a.tmps) {y : Option Operand} {v : Option V} (hv : optV tm y = some v) : (v = none ∧ y = none) ∨ ∃ u z, v = some u ∧ y = some z ∧ Rel ok w S u (a.eval z) := by
  cases y with
  | none => simp only [optV, Option.some.injEq] at hv; exact .inl ⟨hv.symm, rfl⟩
  | some z =>
    simp only [optV] at hv
    cases hz : evo tm z with
    | none => rw [hz] at hv; cases hv
    | some u => rw [hz] at hv; simp only [Option.map_some, Option.some.injEq] at hv; exact .inr ⟨u, z, hv.symm, rfl, evo_rel h hz⟩

omit [Glb] in
theorem optV_none {ok : Nat → Prop} (h : RelL ok w S tm a.tmps) {y : Option Operand} (hv : optV tm y = some none) : y = none := by
  rcases optV_rel h hv with ⟨_, h⟩ | ⟨u, z, h1, _⟩
  · exact h
  · cases h1
omit [Glb] in
theorem optV_int {ok : Nat → Prop} (h : RelL ok w S tm a.tmps) {y : Option Operand} {k : IntKind} {l : Int} (hv : optV tm y = some (some (.int k l))) : y.map a.eval = some (.int k l) := by
  rcases optV_rel h hv with ⟨h1, _⟩ | ⟨u, z, h1, rfl, hr⟩
  · cases h1
  · obtain rfl := Option.some.inj h1
    simp [hr.int_inv]

omit [Glb] in
theorem lowB_run {ok : Nat → Prop} (h : RelL ok w S tm a.tmps) {lo : Option Operand} {vl : Option V} (hlo : optV tm lo = some vl) {l : Nat} (hl : lowB vl = some l) : (lo = none ∧ l = 0) ∨ ∃ k j, lo.map a.eval = some (.int k j) ∧ 0 ≤ j ∧ l = j.toNat := by
  unfold lowB at hl
  split at hl
  · simp only [Option.some.injEq] at hl; exact .inl ⟨optV_none h hlo, hl.symm⟩
  · split at hl
    · simp only [Option.some.injEq] at hl; exact .inr ⟨_, _, optV_int h hlo, by assumption, hl.symm⟩
    · cases hl
  · cases hl
omit [Glb] in
theorem highB_run {ok : Nat → Prop} (h : RelL ok w S tm a.tmps) {hi : Option Operand} {vh : Option V} (hhi : optV tm hi = some vh) {len hh : Nat} (hh' : highB len vh = some hh) : (hi = none ∧ hh = len) ∨ ∃ k j, hi.map a.eval = some (.int k j) ∧ 0 ≤ j ∧ hh = j.toNat := by
  unfold highB at hh'
  split at hh'
  · simp only [Option.some.injEq] at hh'; exact .inl ⟨optV_none h hhi, hh'.symm⟩
  · split at hh'
    · simp only [Option.some.injEq] at hh'; exact .inr ⟨_, _, optV_int h hhi, by assumption, hh'.symm⟩
    · cases hh'
  · cases hh'

omit [Glb] in
/-- The bounds of a slice. -/
theorem bounds_slice {ok : Nat → Prop} (h : RelL ok w S tm a.tmps) {lo hi : Option Operand} {vl vh : Option V} (hlo : optV tm lo = some vl) (hhi : optV tm hi = some vh) {len cap l hh : Nat}
    (hl : lowB vl = some l) (hh' : highB len vh = some hh) (h1 : l ≤ hh) (h2 : hh ≤ len) (h3 : len ≤ cap) (is : Bool) :
    (Instr.sliceBounds is len cap (lo.map a.eval) (hi.map a.eval) none).run P w = .ok (l, hh, cap) w := by
  have el := lowB_run h hlo hl
  have eh := highB_run h hhi hh'
  clear hl hh'
  rcases el with ⟨rfl, rfl⟩ | ⟨k, j, e1, e2, rfl⟩ <;> rcases eh with ⟨rfl, rfl⟩ | ⟨k', j', e1', e2', rfl⟩
  · simp [Instr.sliceBounds]
  · rw [e1']
    simp [Instr.sliceBounds, run_sliceBound, e2', show j' ≤ (cap : Int) by omega]
  · rw [e1]
    simp [Instr.sliceBounds, run_sliceBound, e2, show j ≤ (hh : Int) by omega]
  · rw [e1, e1']
    have b1 := run_sliceBound (P := P) w k' j' cap (if is then .sliceAcap else .sliceAlen) e2' (by omega)
    have b2 := run_sliceBound (P := P) w k j j'.toNat .sliceB e2 (by omega)
    simp [Instr.sliceBounds, b1, b2]

theorem op_slice_str (hE : EnvOk P E) (hl : Loc w n0 S) (h : RelL (okOf base S) w S tm a.tmps) {t : TypeId} {x : Operand} {lo hi : Option Operand} {mx : Option Operand} (ho : o.op = .slice t x lo hi mx) {s : ByteArray} (hx : evo tm x = some (.str s)) {vl vh vm : Option V}
    (hlo : optV tm lo = some vl) (hhi : optV tm hi = some vh) (hmx : optV tm mx = some vm) (hk : E.kind t = some .str) {r : V} (hr : sliceS s vl vh vm = some r) : OpVal P base nobody S w H a.eval o r H := by
  have hu := hE.kind t _ hk
  simp only at hu
  have hrx := (evo_rel h hx).str_inv
  unfold sliceS at hr
  split at hr
  · rename_i l hh h1 h2
    split at hr
    · rename_i hc
      obtain rfl := Option.some.inj hr
      obtain rfl := optV_none h hmx
      have hb := bounds_slice (P := P) h hlo hhi h1 h2 hc.1 hc.2 (Nat.le_refl _) false
      exact .pure hl (x := .string (s.extract l hh)) (by
        simp only [execOp, ho, hrx, Instr.sliceAt, Instr.slice, Sem.run_bind, run_underlying hu, Result.andThen_ok, Option.map_none, Option.isSome_none, Bool.false_eq_true, if_false, hb, Sem.run_pure]) (.str _)
    · cases hr
  · cases hr

theorem op_slice_slc (hE : EnvOk P E) (hl : Loc w n0 S) (h : RelL (okOf base S) w S tm a.tmps) {t : TypeId} {x : Operand} {lo hi : Option Operand} {mx : Option Operand} (ho : o.op = .slice t x lo hi mx) {v : V} (hx : evo tm x = some v) {vl vh vm : Option V}
    (hlo : optV tm lo = some vl) (hhi : optV tm hi = some vh) (hmx : optV tm mx = some vm) {el : TypeId} (hk : E.slc t = some el) {n : Nat} (hn : E.size el = some n) {r : V} (hr : sliceV n v vl vh vm = some r) : OpVal P base nobody S w H a.eval o r H := by
  have hu := hE.slc t el hk
  have hrx := evo_rel h hx
  generalize hxx : a.eval x = xx at hrx
  unfold sliceV at hr
  split at hr
  · cases hr
  · rename_i len hlen
    have hsl : ∃ A c, xx = .slice A len c ∧ len ≤ c := by
      unfold lenS at hlen
      split at hlen <;> first
        | (cases hlen; done)
        | (obtain rfl := Option.some.inj hlen
           cases hrx <;> first | exact ⟨_, _, rfl, by assumption⟩ | exact ⟨_, _, rfl, Nat.le_refl _⟩)
    obtain ⟨A, c, rfl, hlc⟩ := hsl
    have hrun : ∀ l hh m : Nat, (Instr.sliceBounds true len c (lo.map a.eval) (hi.map a.eval) (mx.map a.eval)).run P w = .ok (l, hh, m) w → (execOp a.eval o).run P w = .ok (.value (.slice (if m = l then A else A.map (·.add (l * n))) (hh - l) (m - l))) w := fun l hh m hb => by
      have hsz := size_run hE hn
      simp only [execOp, ho, hxx, Instr.sliceAt, Instr.slice, Sem.run_bind, run_underlying hu, Result.andThen_ok, hb, hsz, Sem.run_pure]
    split at hr
    · rename_i k m
      split at hr
      · rename_i hc
        obtain ⟨rfl, h1, h2, h3⟩ := hc
        obtain rfl := Option.some.inj hr
        have hm := optV_int h hmx
        have hbs : (Instr.sliceBounds true len c (lo.map a.eval) (hi.map a.eval) (mx.map a.eval)).run P w = .ok (0, 0, 0) w := by
          rw [hm]
          have hb0 := run_sliceBound (P := P) w k 0 c .slice3Acap (by omega) (by omega)
          rcases highB_run h hhi h2 with ⟨e, _⟩ | ⟨k', j', e1', e2', e3'⟩
          · subst e; simp only [optV, Option.some.injEq] at hhi; rw [← hhi] at h3; cases h3
          · have : j' = 0 := by omega
            subst this
            rw [e1']
            have hb1 := run_sliceBound (P := P) w k' 0 0 .slice3B (by omega) (by omega)
            rcases lowB_run h hlo h1 with ⟨rfl, _⟩ | ⟨k2, j2, f1, f2, f3⟩
            · simp [Instr.sliceBounds, hb0, hb1]
            · have : j2 = 0 := by omega
              subst this
              rw [f1]
              have hb2 := run_sliceBound (P := P) w k2 0 0 .slice3C (by omega) (by omega)
              simp [Instr.sliceBounds, hb0, hb1, hb2]
        exact .pure hl (hrun _ _ _ hbs) (.nils _)
      · cases hr
    · cases hr
    · obtain rfl := optV_none h hmx
      split at hr
      · rename_i l hh h1 h2
        split at hr
        · rename_i hc
          have hb := bounds_slice (P := P) h hlo hhi h1 h2 hc.1 hc.2 hlc true
          refine .pure hl (hrun _ _ _ hb) ?_
          unfold subS at hr
          split at hr
          · rename_i b g off len' 
            obtain rfl := Option.some.inj hr
            cases hrx with
            | @sl _ _ e _ _ _ A c h1' hg hc' hA hs =>
              have hA2 : (if c = l then A else A.map (·.add (l * n))) = A.map (·.add (l * n)) ∨ hh - l = 0 := by
                by_cases hcl : c = l
                · exact .inr (by omega)
                · exact .inl (by rw [if_neg hcl])
              refine .sl h1' hg (by omega) (fun hne => ?_) (fun he => ?_)
              · rcases hA2 with hA2 | hA2
                · rw [hA2]; obtain ⟨r, o', rfl⟩ := hA (by omega); exact ⟨r, o' + l * n, by simp [addr_add]⟩
                · exact absurd hA2 hne
              · have := hs he
                unfold SlOk at this ⊢
                cases hloc : e.loc with
                | none => rw [hloc] at this; simp only at this ⊢; omega
                | some p =>
                  obtain ⟨r, o'⟩ := p
                  rw [hloc] at this
                  simp only at this ⊢
                  refine ⟨fun hne => ?_, fun h0 => ?_⟩
                  · rcases hA2 with hA2 | hA2
                    · rw [hA2, this.1 (by omega)]; simp [addr_add, Nat.add_assoc]
                    · exact absurd hA2 hne
                  · have hoff : off = 0 := by omega
                    have hln : l * n = 0 := by omega
                    obtain ⟨q1, q2⟩ := this.2 hoff
                    refine ⟨?_, Nat.le_trans (Nat.mul_le_mul_right _ (Nat.sub_le _ _)) q2⟩
                    split
                    · exact q1
                    · rw [q1, hln]; simp [addr_add]
          · rename_i len' cs
            split at hr
            · rename_i hcs
              obtain rfl := Option.some.inj hr
              cases hrx with
              | @list _ _ A c _ hc' h1' r o' hr' hs he =>
                have hget : ∀ j c, ((cs.drop (l * n)).take ((hh - l) * n))[j]? = some c → cs[l * n + j]? = some c := fun j c hj => by
                  rw [List.getElem?_take] at hj
                  split at hj
                  · rwa [List.getElem?_drop] at hj
                  · cases hj
                refine .list (by omega) (fun c hc => ?_) r (o' + l * n) (fun hne => ?_) (fun j c hj => ?_) (fun j c hj => ?_)
                · exact h1' c (List.mem_of_mem_drop (List.mem_of_mem_take hc))
                · have hne2 : cs ≠ [] := by rintro rfl; simp at hne
                  have hpos : hh - l ≠ 0 := by intro h0; rw [h0] at hne; simp at hne
                  have hcl : c ≠ l := by omega
                  obtain ⟨q1, q2⟩ := hr' hne2
                  rw [if_neg hcl, q1]
                  exact ⟨by simp [addr_add], q2⟩
                · rw [Nat.add_assoc]; exact hs _ c (hget j c hj)
                · rw [Nat.add_assoc]; exact he _ c (hget j c hj)
            · cases hr
          · obtain rfl := Option.some.inj hr
            cases hrx with
            | nils A =>
              have : hh - l = 0 ∧ 0 - l = 0 := by
                simp only [lenS, Option.some.injEq] at hlen
                omega
              rw [this.1]
              have hl0 : l = 0 := by simp only [lenS, Option.some.injEq] at hlen; omega
              subst hl0
              exact .nils _
          · cases hr
        · cases hr
      · cases hr

/-! ### maps -/
omit [Glb] in
theorem keyEq_now {ok : Nat → Prop} {d : TypeDesc} {k q : V} {x y : Value} {b : Bool} (hk : Rel ok w S k x) (hq : Rel ok w S q y) (h : keyEq k q = some b) (hd : IsKey d x) : Instr.sameNow d x y = some b ∧ (b = true → Instr.sameBits 10000 y x = true) ∧ isKey q = true := by
  unfold keyEq at h
  split at h
  · obtain rfl := Option.some.inj h
    obtain rfl := hk.bool_inv
    obtain rfl := hq.bool_inv
    refine ⟨?_, ?_, rfl⟩
    · cases d <;> first | (cases hd; done) | rfl
    · intro hb; simp only [beq_iff_eq] at hb; subst hb; simp [Instr.sameBits]
  · split at h
    · rename_i hkk
      subst hkk
      obtain rfl := Option.some.inj h
      obtain rfl := hk.int_inv
      obtain rfl := hq.int_inv
      refine ⟨?_, ?_, rfl⟩
      · cases d <;> first | (cases hd; done) | simp [Instr.sameNow]
      · intro hb; simp only [beq_iff_eq] at hb; subst hb; simp [Instr.sameBits]
    · cases h
  · obtain rfl := Option.some.inj h
    obtain rfl := hk.str_inv
    obtain rfl := hq.str_inv
    refine ⟨?_, ?_, rfl⟩
    · cases d <;> first | (cases hd; done) | rfl
    · intro hb
      have := (bytes_beq _ _).1 hb
      subst this
      simp [Instr.sameBits, hb]
  · cases h

/-- A map's entries in memory. -/
def EntsRel (ok : Nat → Prop) (w : World) (S : Sig) (es : List (V × V)) (ents : List MapEntry) : Prop :=
  ents.length = es.length ∧ ∀ j kv, es[j]? = some kv → isKey kv.1 = true ∧ Rel ok w S kv.1 (ents.getD j default).key ∧ Rel ok w S kv.2 (ents.getD j default).val

omit [Glb] in
theorem EntsRel.tail {ok : Nat → Prop} {q v : V} {r : List (V × V)} {e : MapEntry} {es : List MapEntry} (h : EntsRel ok w S ((q, v) :: r) (e :: es)) : EntsRel ok w S r es ∧ Rel ok w S q e.key ∧ Rel ok w S v e.val ∧ isKey q = true :=
  ⟨⟨by simpa using h.1, fun j kv hj => by simpa using h.2 (j + 1) kv (by simpa using hj)⟩, by simpa using (h.2 0 _ rfl).2.1, by simpa using (h.2 0 _ rfl).2.2, (h.2 0 _ rfl).1⟩

omit [Glb] in
theorem find_rel {ok : Nat → Prop} {d : TypeDesc} {k : V} {x : Value} (hk : Rel ok w S k x) (hd : IsKey d x) : ∀ (es : List (V × V)) (ents : List MapEntry) (i : Nat) (r : Option V), EntsRel ok w S es ents → findK k es = some r →
    match r with
    | none => Instr.findNow d x ents i = some none
    | some v => ∃ (j : Nat) (e : MapEntry), Instr.findNow d x ents i = some (some (i + j, e.val)) ∧ Rel ok w S v e.val
  | [], [], i, r, _, h => by simp only [findK, Option.some.injEq] at h; subst h; rfl
  | [], _ :: _, _, _, hr, _ => by simp [EntsRel] at hr
  | _ :: _, [], _, _, hr, _ => by simp [EntsRel] at hr
  | (q, v) :: es, e :: ents, i, r, hr, h => by
    obtain ⟨ht, hq, hv, _⟩ := hr.tail
    simp only [findK] at h
    split at h
    · rename_i hb
      obtain rfl := Option.some.inj h
      obtain ⟨h1, _, _⟩ := keyEq_now hk hq hb hd
      exact ⟨0, e, by simp [Instr.findNow, h1], hv⟩
    · rename_i hb
      obtain ⟨h1, _, _⟩ := keyEq_now hk hq hb hd
      have := find_rel hk hd es ents (i + 1) r ht h
      cases r with
      | none => simpa [Instr.findNow, h1] using this
      | some v => obtain ⟨j, e', h2, h3⟩ := this; exact ⟨j + 1, e', by simp [Instr.findNow, h1, h2]; omega, h3⟩
    · cases h

omit [Glb] in
theorem put_rel {ok : Nat → Prop} {d : TypeDesc} {k u : V} {x : Value} (hk : Rel ok w S k x) (hd : IsKey d x) : ∀ (es es' : List (V × V)) (ents : List MapEntry) (i : Nat), EntsRel ok w S es ents → putK k u es = some es' →
    (Instr.findNow d x ents i = some none ∧ es' = es ++ [(k, u)]) ∨ ∃ (j : Nat) (e : MapEntry), Instr.findNow d x ents i = some (some (i + j, e.val)) ∧ ents[j]? = some e ∧ es' = es.set j (k, u) ∧ Instr.sameBits 10000 e.key x = true
  | [], es', [], i, _, h => by simp only [putK, Option.some.injEq] at h; subst h; exact .inl ⟨rfl, rfl⟩
  | [], _, _ :: _, _, hr, _ => by simp [EntsRel] at hr
  | _ :: _, _, [], _, hr, _ => by simp [EntsRel] at hr
  | (q, v) :: es, es', e :: ents, i, hr, h => by
    obtain ⟨ht, hq, hv, _⟩ := hr.tail
    simp only [putK] at h
    split at h
    · rename_i hb
      obtain rfl := Option.some.inj h
      obtain ⟨h1, h2, _⟩ := keyEq_now hk hq hb hd
      exact .inr ⟨0, e, by simp [Instr.findNow, h1], rfl, rfl, h2 rfl⟩
    · rename_i hb
      obtain ⟨h1, _, _⟩ := keyEq_now hk hq hb hd
      cases hp : putK k u es with
      | none => rw [hp] at h; cases h
      | some es1 =>
        rw [hp] at h
        simp only [Option.map_some, Option.some.injEq] at h
        subst h
        rcases put_rel hk hd es es1 ents (i + 1) ht hp with ⟨h2, rfl⟩ | ⟨j, e', h2, h3, rfl, h4⟩
        · exact .inl ⟨by simp [Instr.findNow, h1, h2], rfl⟩
        · exact .inr ⟨j + 1, e', by simp [Instr.findNow, h1, h2]; omega, by simpa using h3, rfl, h4⟩
    · cases h

theorem keyFits_is (hE : EnvOk P E) {kt : TypeId} {k : V} {ok : Nat → Prop} {x : Value} (hk : Rel ok w S k x) (h : keyFits E kt k = true) : ∃ d, P.underlying kt = some d ∧ IsKey d x ∧ isKey k = true := by
  unfold keyFits at h
  split at h
  · rename_i q q' n hq
    have hu := hE.kind kt _ hq
    simp only [decide_eq_true_eq] at h
    subst h
    simp only at hu
    exact ⟨_, hu, by rw [hk.int_inv]; simp [IsKey], rfl⟩
  · rename_i s hq
    have hu := hE.kind kt _ hq
    simp only at hu
    exact ⟨_, hu, by rw [hk.str_inv]; simp [IsKey], rfl⟩
  · rename_i b hq
    have hu := hE.kind kt _ hq
    simp only at hu
    exact ⟨_, hu, by rw [hk.bool_inv]; simp [IsKey], rfl⟩
  · cases h

omit [Glb] in
theorem ents_of {ok : Nat → Prop} {es : List (V × V)} {ents : Array MapEntry} (hs : ents.size = es.length) (he : ∀ j kv, es[j]? = some kv → isKey kv.1 = true ∧ Rel ok w S kv.1 (ents.getD j default).key ∧ Rel ok w S kv.2 (ents.getD j default).val) : EntsRel ok w S es ents.toList :=
  ⟨by simpa using hs, fun j kv hj => by
    have := he j kv hj
    simpa [Array.getD_eq_getD_getElem?, List.getD_eq_getElem?_getD] using this⟩

/-- What a map's value stands for. -/
def mapEnts (H : Heap) : V → Option (List (V × V))
  | .nilm => some []
  | .map b => match H[b]? with | some (.map es) => some es | _ => none
  | _ => none

theorem zero_one (hE : EnvOk P E) {t : TypeId} {z : List V} (hz : E.zero t = some z) : z.all V.one = true := by
  obtain ⟨v, _, _, hc, _⟩ := hE.zero t z hz
  refine List.all_eq_true.2 (fun c hm => ?_)
  obtain ⟨j, hj⟩ := List.getElem?_of_mem hm
  have := hc j c hj
  unfold ofV at this
  split at this <;> first | (cases this; done) | (obtain rfl := Option.some.inj this; rfl)

theorem op_lookup (hE : EnvOk P E) (hl : Loc w n0 S) (h : RelL (okOf base S) w S tm a.tmps) {t : TypeId} {x k : Operand} {ok : Bool} (ho : o.op = .lookup t x k ok) {m kv : V} (hx : evo tm x = some m) (hk : evo tm k = some kv) {kt el : TypeId} (hm : E.mapk t = some (kt, el)) (hf : keyFits E kt kv = true)
    {es : List (V × V)} (hes : mapEnts H m = some es) (hK : ∀ b, m = .map b → Known (okOf base S) w S H b) {r : Option V} (hr : findK kv es = some r) {v : V}
    (hv : match r with
      | some u => v = u
      | none => ∃ z ag, E.zero el = some z ∧ E.agg el = some ag ∧ (if ag then some (V.agg z) else z[0]?) = some v) :
    OpVal P base nobody S w H a.eval o (if ok then .tup [v, .bool r.isSome] else v) H := by
  have hu := hE.mapk t kt el hm
  have hrk := evo_rel h hk
  have hrx := evo_rel h hx
  generalize hxx : a.eval x = xx at hrx
  obtain ⟨d, hd, hik, _⟩ := keyFits_is hE hrk hf
  have hents : ∃ ents : Array MapEntry, EntsRel (okOf base S) w S es ents.toList ∧ ((xx = .map none ∧ ents = #[]) ∨ ∃ rr clock, xx = .map (some rr) ∧ w.heap[rr]? = some (.map ents clock)) := by
    unfold mapEnts at hes
    split at hes
    · obtain rfl := Option.some.inj hes
      cases hrx
      exact ⟨#[], ⟨rfl, fun j kv hj => by simp at hj⟩, .inl ⟨rfl, rfl⟩⟩
    · rename_i b
      obtain ⟨e, kk, hb, hh, hB⟩ := hK b rfl
      rw [hh] at hes
      split at hes
      · rename_i es' heq
        obtain rfl := Option.some.inj hes
        obtain rfl := Option.some.inj heq
        obtain ⟨_, _, rr, ents, clock, hloc, hheap, hsz, he⟩ := hB
        cases hrx with
        | @map _ _ e2 r2 h1 hfx hl2 =>
          rw [hb] at h1; obtain rfl := Option.some.inj h1
          rw [hloc] at hl2; simp only [Option.some.injEq, Prod.mk.injEq, and_true] at hl2; subst hl2
          exact ⟨ents, ents_of hsz he, .inr ⟨_, _, rfl, hheap⟩⟩
      · cases hes
    · cases hes
  obtain ⟨ents, hent, hrunE⟩ := hents
  have hck : ∀ em, (Instr.checkKey em 10000 kt (a.eval k)).run P w = .ok () w := fun em => run_checkKey hd hik em 9999
  have hfind := find_rel hrk hik es ents.toList 0 r hent hr
  have go : ∀ (y : Value), Rel (okOf base S) w S v y → (Instr.lookup t xx (a.eval k) ok).run P w = .ok (if ok then .tuple #[y, .bool r.isSome] else y) w → OpVal P base nobody S w H a.eval o (if ok then .tup [v, .bool r.isSome] else v) H := fun y hy hrun => by
    refine .pure hl (x := if ok then .tuple #[y, .bool r.isSome] else y) (by simp only [execOp, ho, hxx, Sem.run_bind, hrun, Result.andThen_ok, Sem.run_pure]) ?_
    cases ok
    · exact hy
    · exact .tup rfl (fun j c hj => by
        match j, hj with
        | 0, hj => simp at hj; subst hj; exact hy
        | 1, hj => simp at hj; subst hj; exact .bool _)
  cases r with
  | some u =>
    simp only at hv hfind
    subst hv
    obtain ⟨j, e, hn, hrel⟩ := hfind
    refine go e.val hrel ?_
    rcases hrunE with ⟨rfl, rfl⟩ | ⟨rr, clock, rfl, hheap⟩
    · simp only [Instr.lookup, Sem.run_bind, run_underlying hu, Result.andThen_ok, hck, Instr.findKey, run_underlying hd, hn, Sem.run_pure]
      rfl
    · simp only [Instr.lookup, Sem.run_bind, run_underlying hu, Result.andThen_ok, hck, Instr.findKey, run_underlying hd, hn, Sem.run_pure, run_getObj' hheap]
      rfl
  | none =>
    simp only at hv hfind
    obtain ⟨z, ag, hz, ha, hv⟩ := hv
    obtain ⟨y, hy, hrel⟩ := zero_val hE hz ha hv (fun _ => zero_one hE hz) (ok := okOf base S) (w := w) (S := S)
    refine go y hrel ?_
    rcases hrunE with ⟨rfl, rfl⟩ | ⟨rr, clock, rfl, hheap⟩
    · simp only [Instr.lookup, Sem.run_bind, run_underlying hu, Result.andThen_ok, hck, Instr.findKey, run_underlying hd, hfind, Sem.run_pure, hy]
      rfl
    · simp only [Instr.lookup, Sem.run_bind, run_underlying hu, Result.andThen_ok, hck, Instr.findKey, run_underlying hd, hfind, Sem.run_pure, hy, run_getObj' hheap]
      rfl

omit [Glb] in
theorem heap_set_same {r : Nat} {o' : Obj} (h : r < w.heap.size) : (w.heap.setIfInBounds r o')[r]? = some o' := by simp [h]
omit [Glb] in
theorem heap_set_ne {r : Nat} {o' : Obj} {q : Nat} (h : q ≠ r) : (w.heap.setIfInBounds r o')[q]? = w.heap[q]? := by simp [Ne.symm h]

omit [Glb] in
/-- An object that never moves holds another state. -/
theorem turn_fix (hl : Loc w n0 S) {b : Nat} {e : Ent} {r : Nat} (hb : S b = some e) (hf : e.fix = true) (hro : e.ro = false) (hloc : e.loc = some (r, 0)) (hlt : b < H.length) (o' : Obj) (k : Blk)
    (hB : Calm (okOf base S) (okOf base S) w { w with heap := w.heap.setIfInBounds r o' } → BRel (okOf base S) { w with heap := w.heap.setIfInBounds r o' } S e k) :
    StepR base (fun x => x = b) S w H S { w with heap := w.heap.setIfInBounds r o' } (H.set b k) := by
  have hS : S.put b e = S := by
    funext x
    by_cases hx : x = b
    · subst hx; rw [Sig.put_same, hb]
    · rw [Sig.put_other _ _ hx]
  have := StepR.turn (base := base) (w' := { w with heap := w.heap.setIfInBounds r o' }) (e' := e) hl hb hro hloc hlt (Nat.le_refl _) (fun _ => ⟨rfl, rfl, rfl⟩) (fun _ => rfl) ⟨0, hloc⟩ rfl rfl rfl (by simp) (fun q hq => heap_set_ne hq) k
    (fun _ hk => by rw [hS] at hk ⊢; exact hB hk)
  rwa [hS] at this

theorem op_mapUpdate (hE : EnvOk P E) (hl : Loc w n0 S) (h : RelL (okOf base S) w S tm a.tmps) {t : TypeId} {m k x : Operand} (ho : o.op = .mapUpdate t m k x ∨ o.op = .insert t m k x) {b : Nat} {kv v : V} (hm : evo tm m = some (.map b)) (hk : evo tm k = some kv) (hx : evo tm x = some v) {kt el : TypeId} (ht : E.mapk t = some (kt, el))
    (hf : keyFits E kt kv = true) {es es' : List (V × V)} (hes : H[b]? = some (.map es)) (hK : Known (okOf base S) w S H b) (hp : putK kv v es = some es') : OpSkip P base (fun q => q = b) S w H a.eval o (H.set b (.map es')) := by
  have hu := hE.mapk t kt el ht
  have hrk := evo_rel h hk
  have hrx := evo_rel h hx
  have hrm := evo_rel h hm
  generalize hmm : a.eval m = mm at hrm
  obtain ⟨d, hd, hik, hik2⟩ := keyFits_is hE hrk hf
  obtain ⟨e, kk, hb, hh, hB⟩ := hK
  rw [hes] at hh; obtain rfl := Option.some.inj hh
  obtain ⟨hfx, hro, r, ents, clock, hloc, hheap, hsz, he⟩ := hB
  cases hrm with
  | @map _ _ e2 r2 h1 hfx2 hl2 =>
    rw [hb] at h1; obtain rfl := Option.some.inj h1
    rw [hloc] at hl2; simp only [Option.some.injEq, Prod.mk.injEq, and_true] at hl2; subst hl2
    have hlt : b < H.length := (List.getElem?_eq_some_iff.1 hes).1
    have hrlt : r < w.heap.size := (Array.getElem?_eq_some_iff.1 hheap).1
    have hck : ∀ em, (Instr.checkKey em 10000 kt (a.eval k)).run P w = .ok () w := fun em => run_checkKey hd hik em 9999
    have hin : (execOp a.eval o).run P w = ((Instr.mapUpdate t (.map (some r)) (a.eval k) (a.eval x)).run P w).andThen fun _ w' => .ok .skip w' := by
      rcases ho with ho | ho <;> simp only [execOp, ho, hmm, Sem.run_bind, Sem.run_pure]
    have fin : ∀ (ents' : Array MapEntry) (clock' : Nat), (Instr.mapUpdate t (.map (some r)) (a.eval k) (a.eval x)).run P w = .ok () { w with heap := w.heap.setIfInBounds r (.map ents' clock') } → EntsRel (okOf base S) w S es' ents'.toList → OpSkip P base (fun q => q = b) S w H a.eval o (H.set b (.map es')) := fun ents' clock' hrun hent => by
      refine ⟨_, S, by rw [hin, hrun]; rfl, turn_fix hl hb hfx hro hloc hlt _ _ (fun hk => ⟨hfx, hro, r, ents', clock', hloc, heap_set_same hrlt, by simpa using hent.1, fun j kv hj => ?_⟩)⟩
      have := hent.2 j kv hj
      have e1 : ents'.toList.getD j default = ents'.getD j default := by simp [Array.getD_eq_getD_getElem?, List.getD_eq_getElem?_getD]
      rw [e1] at this
      exact ⟨this.1, this.2.1.mono hk (SigLe.refl _), this.2.2.mono hk (SigLe.refl _)⟩
    have hent := ents_of hsz he
    rcases put_rel (u := v) hrk hik es es' ents.toList 0 hent hp with ⟨hn, rfl⟩ | ⟨j, e0, hn, hj, rfl, hsame⟩
    · refine fin (ents.push { key := a.eval k, val := a.eval x, born := clock }) (clock + 1) ?_ ?_
      · simp only [Instr.mapUpdate, Sem.run_bind, run_underlying hu, Result.andThen_ok, run_getObj' hheap, hck, Instr.findKey, run_underlying hd, hn, Sem.run_pure, run_setObj' hheap]
      · refine ⟨by simp [hsz], fun j kv' hj => ?_⟩
        rw [List.getElem?_append] at hj
        split at hj
        · rename_i hjl
          have := hent.2 j kv' hj
          have e1 : (ents.push { key := a.eval k, val := a.eval x, born := clock }).toList.getD j default = ents.toList.getD j default := by
            simp only [Array.toList_push, List.getD_eq_getElem?_getD]
            rw [List.getElem?_append_left (by simp; omega)]
          rw [e1]; exact this
        · rename_i hjl
          have hj0 : j - es.length = 0 := by
            rcases Nat.eq_zero_or_pos (j - es.length) with h0 | h0
            · exact h0
            · rw [List.getElem?_eq_none (by simp; omega)] at hj; cases hj
          rw [hj0] at hj
          simp only [List.getElem?_cons_zero, Option.some.injEq] at hj
          subst hj
          have hj2 : j = ents.toList.length := by simp; omega
          have e1 : (ents.push { key := a.eval k, val := a.eval x, born := clock }).toList.getD j default = { key := a.eval k, val := a.eval x, born := clock } := by
            simp only [Array.toList_push, List.getD_eq_getElem?_getD, hj2]
            simp
          rw [e1]
          exact ⟨hik2, hrk, hrx⟩
    · have hj' : ents[j]? = some e0 := by simpa using hj
      refine fin (ents.modify j fun e => { e with key := a.eval k, val := a.eval x }) clock ?_ ?_
      · simp only [Instr.mapUpdate, Sem.run_bind, run_underlying hu, Result.andThen_ok, run_getObj' hheap, hck, Instr.findKey, run_underlying hd, hn, Sem.run_pure, Instr.keyThatStays, Nat.zero_add, hj', Option.map_some, Option.getD_some, hsame, if_true, run_setObj' hheap]
      · refine ⟨by simp [hsz], fun i kv' hi => ?_⟩
        by_cases hij : j = i
        · subst hij
          have hjl : j < es.length := by rw [← hsz]; exact (Array.getElem?_eq_some_iff.1 hj').1
          rw [List.getElem?_set_self hjl] at hi
          obtain rfl := Option.some.inj hi
          have e1 : (ents.modify j fun e => { e with key := a.eval k, val := a.eval x }).toList.getD j default = { e0 with key := a.eval k, val := a.eval x } := by
            rw [List.getD_eq_getElem?_getD, Array.getElem?_toList, Array.getElem?_modify, if_pos rfl, hj']; rfl
          rw [e1]
          exact ⟨hik2, hrk, hrx⟩
        · rw [List.getElem?_set_ne hij] at hi
          have := hent.2 i kv' hi
          have e1 : (ents.modify j fun e => { e with key := a.eval k, val := a.eval x }).toList.getD i default = ents.toList.getD i default := by
            rw [List.getD_eq_getElem?_getD, List.getD_eq_getElem?_getD, Array.getElem?_toList, Array.getElem?_modify, if_neg hij, Array.getElem?_toList]
          rw [e1]; exact this

omit [Glb] in
theorem dom_none (hn : ∀ b, H.length ≤ b → S b = none) : S H.length = none := hn _ (Nat.le_refl _)

omit [Glb] in
theorem op_makeMap (hl : Loc w n0 S) (hn : S H.length = none) {t : TypeId} (ho : o.op = .makeMap t none) : OpVal P base nobody S w H a.eval o (.map H.length) (H ++ [.map []]) := by
  refine ⟨.map (some w.heap.size), w.alloc (.map #[] 0), _, by simp [execOp, ho, Instr.makeMap], .map (Sig.put_same _ _ _) rfl rfl,
    StepR.push hl hn ⟨true, 0, false, 0, 0, some (w.heap.size, 0)⟩ _ _ rfl (fun hs hk => ⟨rfl, rfl, w.heap.size, #[], 0, rfl, heap_alloc_new w _, rfl, fun j kv hj => by simp at hj⟩)⟩

theorem op_range (hE : EnvOk P E) (hl : Loc w n0 S) (hn : S H.length = none) (h : RelL (okOf base S) w S tm a.tmps) {t : TypeId} {x : Operand} (ho : o.op = .range t x) {s : ByteArray} (hx : evo tm x = some (.str s)) (hk : E.kind t = some .str) : OpVal P base nobody S w H a.eval o (.itr H.length) (H ++ [.sit s 0]) := by
  have hu := hE.kind t _ hk
  simp only at hu
  have hrx := (evo_rel h hx).str_inv
  refine ⟨.pointer (some ⟨w.heap.size, 0, none⟩), w.alloc (.stringIter s 0), _, by simp [execOp, ho, hrx, run_range_string w t s hu, World.iter], .itr (Sig.put_same _ _ _) rfl rfl,
    StepR.push hl hn ⟨true, 0, false, 0, 0, some (w.heap.size, 0)⟩ _ _ rfl (fun hs hk => ⟨rfl, rfl, w.heap.size, rfl, heap_alloc_new w _⟩)⟩

omit [Glb] in
theorem op_next_more (hl : Loc w n0 S) (h : RelL (okOf base S) w S tm a.tmps) {x : Operand} (ho : o.op = .next x true) {b : Nat} (hx : evo tm x = some (.itr b)) {s : ByteArray} {pos : Nat} (hes : H[b]? = some (.sit s pos)) (hK : Known (okOf base S) w S H b) (hp : pos < s.size) :
    OpVal P base (fun q => q = b) S w H a.eval o (.tup [.bool true, .int .i64 pos, .int .i32 (Utf8.decode s pos).1]) (H.set b (.sit s (pos + (Utf8.decode s pos).2))) := by
  have hrx := evo_rel h hx
  generalize hxx : a.eval x = xx at hrx
  obtain ⟨e, kk, hb, hh, hB⟩ := hK
  rw [hes] at hh; obtain rfl := Option.some.inj hh
  obtain ⟨hfx, hro, r, hloc, hheap⟩ := hB
  cases hrx with
  | @itr _ _ e2 r2 h1 hfx2 hl2 =>
    rw [hb] at h1; obtain rfl := Option.some.inj h1
    rw [hloc] at hl2; simp only [Option.some.injEq, Prod.mk.injEq, and_true] at hl2; subst hl2
    have hlt : b < H.length := (List.getElem?_eq_some_iff.1 hes).1
    have hrlt : r < w.heap.size := (Array.getElem?_eq_some_iff.1 hheap).1
    refine ⟨.tuple #[.bool true, .int .i64 pos, .int .i32 (Utf8.decode s pos).1], _, S, ?_, .tup rfl (fun j c hj => ?_), turn_fix hl hb hfx hro hloc hlt (.stringIter s (pos + (Utf8.decode s pos).2)) _ (fun hk => ⟨hfx, hro, r, hloc, heap_set_same hrlt⟩)⟩
    · simp only [execOp, ho, hxx, Instr.next, Sem.run_bind, run_getObj' hheap, Result.andThen_ok, if_pos hp, run_setObj' hheap, Sem.run_pure, goInt]
    · match j, hj with
      | 0, hj => simp at hj; subst hj; exact .bool true
      | 1, hj => simp at hj; subst hj; exact .int _ _
      | 2, hj => simp at hj; subst hj; exact .int _ _

omit [Glb] in
theorem op_next_over (hl : Loc w n0 S) (h : RelL (okOf base S) w S tm a.tmps) {x : Operand} (ho : o.op = .next x true) {b : Nat} (hx : evo tm x = some (.itr b)) {s : ByteArray} {pos : Nat} (hes : H[b]? = some (.sit s pos)) (hK : Known (okOf base S) w S H b) (hp : ¬ pos < s.size) :
    OpVal P base nobody S w H a.eval o (.tup [.bool false]) H := by
  have hrx := evo_rel h hx
  generalize hxx : a.eval x = xx at hrx
  obtain ⟨e, kk, hb, hh, hB⟩ := hK
  rw [hes] at hh; obtain rfl := Option.some.inj hh
  obtain ⟨hfx, hro, r, hloc, hheap⟩ := hB
  cases hrx with
  | @itr _ _ e2 r2 h1 hfx2 hl2 =>
    rw [hb] at h1; obtain rfl := Option.some.inj h1
    rw [hloc] at hl2; simp only [Option.some.injEq, Prod.mk.injEq, and_true] at hl2; subst hl2
    refine .pure hl (x := .tuple #[.bool false]) ?_ (.tup rfl (fun j c hj => ?_))
    · simp only [execOp, ho, hxx, Instr.next, Sem.run_bind, run_getObj' hheap, Result.andThen_ok, if_neg hp, Sem.run_pure]
    · match j, hj with
      | 0, hj => simp at hj; subst hj; exact .bool false
end
end Go.Ev
