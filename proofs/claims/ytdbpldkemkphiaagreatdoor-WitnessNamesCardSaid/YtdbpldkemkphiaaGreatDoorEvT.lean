/- append; panic, recover, defer. -/
import Derived.Test.YtdbpldkemkphiaaGreatDoorEvS
import Derived.Deep.Upon
namespace Go.Ev
variable [Glb]
open Go.RowKit Go.MapKept

section
variable {P : Program} {E : Env} {base : Nat → Prop} {n0 : Nat} {w : World} {S : Sig} {H : Heap} {a : Act} {tm : List V} {o : Oper}

omit [Glb] in
/-- What is appended. -/
theorem src_rel {ok : Nat → Prop} {n : Nat} {v : V} {x : Value} (hn : 0 < n) (hr : Rel ok w S v x) {m : Nat} {new : List V} (hs : sliceCells H n v = some (m, new)) (hk : ∀ b g off len, v = .sl b g off len → len ≠ 0 → Known ok w S H b) {t e' : TypeId} (ht : P.underlying t = some (.slice e')) :
    ∃ ks : List Value, Src P n t x m ks w ∧ ks.length = new.length ∧ new.length = m * n ∧ (∀ j c, new[j]? = some c → Rel ok w S c (ks.getD j default)) ∧ (∀ c ∈ new, V.one c = true) ∧ (Builtin.lenOf x = Sem.pure m) := by
  have base0 : ∀ A c, x = .slice A 0 c → new = [] → m = 0 → ∃ ks : List Value, Src P n t x m ks w ∧ ks.length = new.length ∧ new.length = m * n ∧ (∀ j c, new[j]? = some c → Rel ok w S c (ks.getD j default)) ∧ (∀ c ∈ new, V.one c = true) ∧ (Builtin.lenOf x = Sem.pure m) := by
    rintro A c rfl rfl rfl
    refine ⟨[], ?_, rfl, by simp, fun j c hj => by simp at hj, fun c hc => (List.not_mem_nil hc).elim, rfl⟩
    cases A with
    | none => exact Src.ofNil w ht c
    | some ad => exact Src.ofSlice w ht ad 0 c [] (by simp) (fun j u hj => by simp at hj) (fun u hu => (List.not_mem_nil hu).elim)
  unfold sliceCells at hs
  split at hs
  · simp only [Option.some.injEq, Prod.mk.injEq] at hs
    obtain ⟨rfl, rfl⟩ := hs
    cases hr
    exact base0 _ _ rfl rfl rfl
  · rename_i k cs
    split at hs
    · rename_i hlen
      simp only [Option.some.injEq, Prod.mk.injEq] at hs
      obtain ⟨rfl, rfl⟩ := hs
      cases hr with
      | @list _ _ A c _ hc h1 r o' hr' hcell he =>
        by_cases h0 : cs = []
        · have hk0 : k = 0 := by
            rw [h0] at hlen
            simp only [List.length_nil] at hlen
            rcases Nat.mul_eq_zero.1 hlen.symm with h | h
            · exact h
            · omega
          subst hk0
          exact base0 _ _ rfl h0 rfl
        · obtain ⟨rfl, hok⟩ := hr' h0
          have hget : ∀ j, j < cs.length → (cs.zipIdx.map fun p => (w.cell? ⟨r, o' + p.2, none⟩).getD default)[j]? = some ((w.cell? ⟨r, o' + j, none⟩).getD default) := fun j hj => by
            simp [List.getElem?_map, List.getElem?_zipIdx, hj]
          refine ⟨cs.zipIdx.map fun p => (w.cell? ⟨r, o' + p.2, none⟩).getD default, Src.ofSlice w ht ⟨r, o', none⟩ k c _ (by simpa using hlen) (fun j u hj => ?_) (fun u hu => ?_), by simp, hlen, fun j c hj => ?_, fun c hc => (h1 c hc).1, rfl⟩
          · have hjl : j < cs.length := by simpa using (List.getElem?_eq_some_iff.1 hj).1
            rw [hget j hjl] at hj
            obtain rfl := Option.some.inj hj
            rw [addr_add]
            obtain ⟨y, hy⟩ := Option.isSome_iff_exists.1 (hcell j _ (List.getElem?_eq_getElem hjl))
            rw [hy]; rfl
          · obtain ⟨j, hj⟩ := List.getElem?_of_mem hu
            have hjl : j < cs.length := by simpa using (List.getElem?_eq_some_iff.1 hj).1
            rw [hget j hjl] at hj
            obtain rfl := Option.some.inj hj
            exact (he j _ (List.getElem?_eq_getElem hjl)).one (h1 _ (List.getElem_mem hjl)).1
          · have hjl := (List.getElem?_eq_some_iff.1 hj).1
            rw [List.getD_eq_getElem?_getD, hget j hjl]
            exact (he j c hj).pure (h1 c (List.mem_of_getElem? hj)).2
    · cases hs
  · rename_i b g off len
    split at hs
    · rename_i h0
      simp only [Option.some.injEq, Prod.mk.injEq] at hs
      obtain ⟨rfl, rfl⟩ := hs
      subst h0
      cases hr
      exact base0 _ _ rfl rfl rfl
    · rename_i h0
      obtain ⟨e, k, hb, hh, hB⟩ := hk b g off len rfl h0
      rw [hh] at hs
      split at hs
      · rename_i ro g' es cs heq
        obtain rfl := Option.some.inj heq
        split at hs
        · rename_i hg
          subst hg
          cases ht' : takeAt cs off (len * n) with
          | none => rw [ht'] at hs; cases hs
          | some l =>
            rw [ht'] at hs
            simp only [Option.map_some, Option.some.injEq, Prod.mk.injEq] at hs
            obtain ⟨rfl, rfl⟩ := hs
            obtain ⟨hll, hget⟩ := takeAt_get ht'
            obtain ⟨_, hg2, _, _, r, o', arr, ty, hloc, hheap, hcap, hsz, hone, hrel⟩ := hB
            cases hr with
            | @sl _ _ e2 _ _ _ A c h1 hg3 hc hA hl =>
              rw [hb] at h1; obtain rfl := Option.some.inj h1
              have hsl := hl hg2.symm
              unfold SlOk at hsl
              rw [hloc] at hsl
              simp only at hsl
              obtain rfl := hsl.1 h0
              have hin : ∀ j, j < l.length → o' + off + j < arr.size ∧ cs[off + j]? = some (l.getD j default) := fun j hj => by
                have := hget j _ (List.getElem?_eq_getElem hj)
                have h2 := (List.getElem?_eq_some_iff.1 this).1
                exact ⟨by omega, by rw [this, List.getD_eq_getElem?_getD, List.getElem?_eq_getElem hj]; rfl⟩
              have hg4 : ∀ j, j < l.length → (l.zipIdx.map fun p => arr.getD (o' + off + p.2) default)[j]? = some (arr.getD (o' + off + j) default) := fun j hj => by
                simp [List.getElem?_map, List.getElem?_zipIdx, hj]
              refine ⟨l.zipIdx.map fun p => arr.getD (o' + off + p.2) default, Src.ofSlice w ht ⟨r, o' + off, none⟩ len c _ (by simpa using hll) (fun j u hj => ?_) (fun u hu => ?_), by simp, hll, fun j c hj => ?_, fun c hc => ?_, rfl⟩
              · have hjl : j < l.length := by simpa using (List.getElem?_eq_some_iff.1 hj).1
                rw [hg4 j hjl] at hj
                obtain rfl := Option.some.inj hj
                rw [addr_add]
                exact cell_arr_get hheap (hin j hjl).1
              · obtain ⟨j, hj⟩ := List.getElem?_of_mem hu
                have hjl : j < l.length := by simpa using (List.getElem?_eq_some_iff.1 hj).1
                rw [hg4 j hjl] at hj
                obtain rfl := Option.some.inj hj
                have := hrel _ _ (hin j hjl).2
                rw [← Nat.add_assoc] at this
                exact this.one (hone _ (List.mem_of_getElem? (hin j hjl).2))
              · have hjl := (List.getElem?_eq_some_iff.1 hj).1
                rw [List.getD_eq_getElem?_getD, hg4 j hjl]
                have := hrel _ _ (hget j c hj)
                rw [← Nat.add_assoc] at this
                exact this
              · obtain ⟨j, hj⟩ := List.getElem?_of_mem hc
                exact hone c (List.mem_of_getElem? (hget j c hj))
        · cases hs
      · cases hs
  · cases hs

theorem run_append_grow (hE : EnvOk P E) {t ty e : TypeId} (ht : P.underlying t = some (.slice e)) {n by_ : Nat} {z : List V} (hsz : E.size e = some n) (hz : E.zero e = some z) (hby : E.bytes e = some by_) (hzl : z.length = n) (w : World) (ba : Option Addr) (sLen sCap : Nat) (olds : List Value)
    (hold : (Builtin.firstCells n sLen (.slice ba sLen sCap)).run P w.drew = .ok olds.toArray w.drew) (x : Value) (m : Nat) (news : List Value) (hs : Src P n t x m news w)
    (hg : sCap < sLen + m) (h1 : (sLen + m) * by_ ≤ 2 ^ 40) (h2 : sLen + m ≤ 2 ^ 40) :
    ∃ c zc, sLen + m ≤ c ∧ zc = (c - (sLen + m)) * n ∧ ∃ rest : Array Value, rest.size = zc ∧ (Builtin.append_ #[t, t] ty #[.slice ba sLen sCap, x]).run P w = .ok (.slice (some ⟨w.heap.size, 0, none⟩) (sLen + m) c) (w.drew.alloc (.cells (olds.toArray ++ news.toArray ++ rest) e)) := by
  obtain ⟨i, hi, his⟩ := hE.size e n hsz
  obtain ⟨i', hi', hib⟩ := hE.bytes e by_ hby
  rw [hi] at hi'; obtain rfl := Option.some.inj hi'
  obtain ⟨zv, hzv, hzs, _⟩ := hE.zero e z hz
  have hn : ¬ (sLen + m ≤ sCap) := by omega
  have h63' : ¬ (9223372036854775807 < ((sLen : Int) + (m : Int))) := by omega
  have hfit : Builtin.nextslicecap (sLen + m) sCap * i.bytes ≤ 281474976710656 := growslice_fits hg (by rw [hib]; omega)
  have h48' : ¬ (281474976710656 < Builtin.nextslicecap (sLen + m) sCap * i.bytes) := by omega
  have hq : (Question.appendCap (sLen + m) sCap e).forced = false := rfl
  have hge := grownCap_ge w (sLen + m) sCap e
  refine ⟨grownCap w (sLen + m) sCap e, _, hge, rfl, Builtin.zeroCells zv.cells (grownCap w (sLen + m) sCap e - (sLen + m)), by rw [size_zeroCells, hzs, hzl], ?_⟩
  subst his
  rcases hs.kind with ⟨e', hk⟩ | hk
  · simp [Builtin.append_, run_underlying ht, sizeOf, typeInfo, hi, hzv, hs.len, hn, h63', h48', hq, hold, hs.cellsD, newRow, grownCap, askRoom]
    congr 2
    apply Array.ext'
    simp [List.append_assoc]
  · rw [ht] at hk; cases hk

omit [Glb] in
theorem StepR.widen {W W1 : Nat → Prop} {S' : Sig} {w' : World} {H' : Heap} (hl : Loc w n0 S) (x : StepR base W S w H S' w' H') (h1 : ∀ b, W b → W1 b) (h2 : ∀ b, W1 b → (S b).isSome → ¬ W b → Known (okOf base S) w S H b) : StepR base W1 S w H S' w' H' :=
  ⟨x.ext.weaken h1, fun z ez hz hw => by
    by_cases hzW : W z
    · exact x.blk z ez hz (.inl hzW)
    · cases hs : S z with
      | none => exact x.blk z ez hz (.inr hs)
      | some e1 =>
        rcases hw with hw | hw
        · obtain ⟨e0, k0, hs0, hk0, hbr0⟩ := h2 z hw (by simp [hs]) hzW
          obtain ⟨hz', hbr'⟩ := x.blk_old hl hs0 hzW hbr0
          rw [hz] at hz'; obtain rfl := Option.some.inj hz'
          exact ⟨k0, by rw [x.keep z (List.getElem?_eq_some_iff.1 hk0).1 hzW]; exact hk0, hbr'⟩
        · exact absurd (hw.symm.trans hs) (by simp), x.loc, x.inj, x.dom, fun z hz hw => x.keep z hz (fun h => hw (h1 z h)), x.len⟩

omit [Glb] in
theorem getD_append_left {l r : List Value} {j : Nat} (h : j < l.length) : (l ++ r).getD j default = l.getD j default := by
  rw [List.getD_eq_getElem?_getD, List.getElem?_append_left h, List.getD_eq_getElem?_getD]
omit [Glb] in
theorem getD_append_right {l r : List Value} {j : Nat} (h : l.length ≤ j) : (l ++ r).getD j default = r.getD (j - l.length) default := by
  rw [List.getD_eq_getElem?_getD, List.getElem?_append_right h, List.getD_eq_getElem?_getD]
omit [Glb] in
theorem getD_toArr (l : List Value) (j : Nat) : l.toArray.getD j default = l.getD j default := by simp [Array.getD_eq_getD_getElem?, List.getD_eq_getElem?_getD]
omit [Glb] in
theorem getD_arr (x : Array Value) (j : Nat) : x.getD j default = x.toList.getD j default := by simp [Array.getD_eq_getD_getElem?, List.getD_eq_getElem?_getD]

theorem op_append (hE : EnvOk P E) (hl : Loc w n0 S) (hn : S H.length = none) (h : RelL (okOf base S) w S tm a.tmps) {c : Call} (ho : o.op = .call c) (hc : c.callee = .builtin .append) {s x : V} (hx : evos tm c.args.toList = some [s, x]) {t : TypeId} (ht : c.argTypes.toList = [t, t]) {e : TypeId} (hs : E.slc t = some e)
    {n by_ : Nat} {z : List V} (hsz : E.size e = some n) (hby : E.bytes e = some by_) (hz : E.zero e = some z) (hpos : 0 < n) (hzl : z.length = n) {r : OR} (hr : appendV H n by_ s x = some r) (hkx : ∀ b g off len, x = .sl b g off len → len ≠ 0 → Known (okOf base S) w S H b) (hks : ∀ b g off len, s = .sl b g off len → Known (okOf base S) w S H b) :
    ∃ v H', r = .val v H' ∧ OpVal P base (fun q => ∃ g off len, s = .sl q g off len) S w H a.eval o v H' := by
  obtain ⟨ss, xx, hp, hrs, hrx⟩ := relL_two (evos_relL h hx)
  have hts : c.argTypes = #[t, t] := by
    have := congrArg List.toArray ht
    simpa using this
  have hu := hE.slc t e hs
  have hin : (execOp a.eval o).run P w = ((Builtin.append_ #[t, t] o.type #[ss, xx]).run P w).andThen fun v w' => .ok (.value v) w' := by
    simp only [execOp, ho, Sem.run_bind, resolve_builtin hc, Result.andThen_ok, invoke, builtin, hp, hts, Sem.run_pure]
  unfold appendV at hr
  split at hr
  · cases hr
  · rename_i m new hsc
    obtain ⟨ks, hsrc, hkl, hnl, hrel, hone, _⟩ := src_rel (P := P) hpos hrx hsc hkx hu
    obtain ⟨i, hi, his⟩ := hE.size e n hsz
    have nothing : ∀ ba sl sc, ss = .slice ba sl sc → sl ≤ sc → m = 0 → (Builtin.append_ #[t, t] o.type #[ss, xx]).run P w = .ok ss w := fun ba sl sc he hle h0 => by
      subst he h0
      have : ks = [] := List.eq_nil_of_length_eq_zero (by rw [hkl, hnl]; simp)
      subst this
      subst his
      exact run_append_nothing w t t o.type e i hu hi ba sl sc hle xx hsrc
    have same : m = 0 → (∃ ba sl sc, ss = .slice ba sl sc ∧ sl ≤ sc) → OpVal P base (fun q => ∃ g off len, s = .sl q g off len) S w H a.eval o s H := fun h0 he => by
      obtain ⟨ba, sl, sc, he, hle⟩ := he
      have x1 : StepR base nobody S w H S w H := StepR.refl base nobody S w H (fun _ _ h => h.elim) hl
      refine ⟨ss, w, S, by rw [hin, nothing ba sl sc he hle h0]; rfl, hrs, x1.widen hl (fun b h => h.elim) (fun b hb _ _ => ?_)⟩
      obtain ⟨g, off, len, he⟩ := hb
      exact hks b g off len he
    -- a new row
    have grown : ∀ (ba : Option Addr) (sl sc : Nat) (olds : List Value) (oldv : List V), ss = .slice ba sl sc → sc < sl + m → oldv.length = sl * n → olds.length = oldv.length → (∀ j c, oldv[j]? = some c → Rel (okOf base S) w S c (olds.getD j default)) →
        (Builtin.firstCells n sl (.slice ba sl sc)).run P w.drew = .ok olds.toArray w.drew → (sl + m) * by_ ≤ 2 ^ 40 → sl + m ≤ 2 ^ 40 →
        ∃ (cp : Nat) (arr : Array Value), sl + m ≤ cp ∧ (Builtin.append_ #[t, t] o.type #[ss, xx]).run P w = .ok (.slice (some ⟨w.heap.size, 0, none⟩) (sl + m) cp) (w.drew.alloc (.cells arr e)) ∧ arr.size = cp * n ∧
          ∀ j c, (oldv ++ new)[j]? = some c → Rel (okOf base S) w S c (arr.getD j default) := fun ba sl sc olds oldv he hlt ho1 ho2 hor hfc hb1 hb2 => by
      subst he
      obtain ⟨cp, zc, hcp, rfl, rest, hrest, hrun⟩ := run_append_grow hE hu hsz hz hby hzl w ba sl sc olds hfc xx m ks hsrc hlt hb1 hb2 (ty := o.type)
      refine ⟨cp, _, hcp, hrun, ?_, fun j c hj => ?_⟩
      · simp only [Array.size_append, List.size_toArray, hrest, ho2, ho1, hkl, hnl, ← Nat.add_mul]
        congr 1
        omega
      · rw [getD_arr]
        simp only [Array.toList_append]
        have hlen1 : olds.length = oldv.length := ho2
        have hjl := (List.getElem?_eq_some_iff.1 hj).1
        rw [List.length_append] at hjl
        rw [List.append_assoc]
        by_cases h1 : j < oldv.length
        · rw [getD_append_left (by omega)]
          rw [List.getElem?_append_left h1] at hj
          exact hor j c hj
        · rw [getD_append_right (by omega), getD_append_left (by omega)]
          rw [List.getElem?_append_right (by omega)] at hj
          rw [ho2]
          exact hrel _ c hj
    split at hr
    · -- s is nil
      have hse : ∃ A, ss = .slice A 0 0 := by cases hrs; exact ⟨_, rfl⟩
      obtain ⟨A, hse⟩ := hse
      split at hr
      · rename_i h0
        obtain rfl := Option.some.inj hr
        exact ⟨_, _, rfl, same h0 ⟨A, 0, 0, hse, Nat.le_refl _⟩⟩
      · rename_i h0
        split at hr
        · rename_i hb
          obtain rfl := Option.some.inj hr
          have hfc : (Builtin.firstCells n 0 (.slice A 0 0)).run P w.drew = .ok ([] : List Value).toArray w.drew := by
            cases A with
            | none => exact run_firstCells_none w.drew n 0 0 0
            | some ad => exact run_firstCells_some w.drew n 0 ad 0 0 [] (by simp) (fun j u hj => by simp at hj)
          obtain ⟨cp, arr, hcp, hrun, harr, hrr⟩ := grown A 0 0 [] [] hse (by omega) (by simp) rfl (fun j c hj => by simp at hj) hfc (by rw [Nat.zero_add]; exact hb.1) (by omega)
          simp only [Nat.zero_add, List.nil_append] at hcp hrun hrr
          obtain ⟨S', x1, hr1⟩ := new_slice (base := base) (w := w.drew) (H := H) hl.drew hn 1 n cp m e hcp (by omega) (by rw [hnl]; exact Nat.mul_le_mul_right _ hcp) hone (fun j c hj => (hrr j c hj).mono calm_drew (SigLe.refl _))
          exact ⟨_, _, rfl, _, _, S', by rw [hin, hrun]; rfl, hr1, (x1.of_drew).widen hl (fun b h => h.elim) (fun b hb _ _ => by obtain ⟨g, off, len, he⟩ := hb; cases he)⟩
        · cases hr
    · rename_i b g len
      obtain ⟨eb, kb, hb, hh, hB⟩ := hks b g 0 len rfl
      have hblt : b < H.length := (List.getElem?_eq_some_iff.1 hh).1
      have hWiff : ∀ q, (∃ g' off' len', V.sl b g 0 len = V.sl q g' off' len') ↔ q = b := fun q => ⟨fun ⟨_, _, _, he⟩ => by injection he with h1; exact h1.symm, fun he => ⟨g, 0, len, by rw [he]⟩⟩
      have hWw : ∀ {S' : Sig} {w' : World} {H' : Heap}, StepR base (fun q => q = b) S w H S' w' H' → StepR base (fun q => ∃ g' off' len', V.sl b g 0 len = V.sl q g' off' len') S w H S' w' H' := fun x => x.weaken (fun q hq => (hWiff q).2 hq) (fun q hq _ => (hWiff q).1 hq)
      rw [hh] at hr
      cases hrs with
      | @sl _ _ e2 _ _ _ A cp0 h1 hg3 hcle hA hsl =>
        rw [hb] at h1; obtain rfl := Option.some.inj h1
        split at hr
        · -- a nil slice's block
          rename_i heq
          obtain rfl := Option.some.inj heq
          obtain ⟨hfx, hg0, hro, hloc⟩ := hB
          split at hr
          · rename_i hgl
            obtain ⟨rfl, rfl⟩ := hgl
            split at hr
            · rename_i h0
              obtain rfl := Option.some.inj hr
              exact ⟨_, _, rfl, same h0 ⟨_, _, _, rfl, hcle⟩⟩
            · rename_i h0
              split at hr
              · rename_i hbd
                obtain rfl := Option.some.inj hr
                have hc0 : cp0 = 0 := by
                  have := hsl hg0.symm
                  unfold SlOk at this
                  rw [hloc] at this
                  exact this
                subst hc0
                have hfc : (Builtin.firstCells n 0 (.slice A 0 0)).run P w.drew = .ok ([] : List Value).toArray w.drew := by
                  cases A with
                  | none => exact run_firstCells_none w.drew n 0 0 0
                  | some ad => exact run_firstCells_some w.drew n 0 ad 0 0 [] (by simp) (fun j u hj => by simp at hj)
                obtain ⟨cp, arr, hcp, hrun, harr, hrr⟩ := grown A 0 0 [] [] rfl (by omega) (by simp) rfl (fun j c hj => by simp at hj) hfc (by rw [Nat.zero_add]; exact hbd.1) (by omega)
                simp only [Nat.zero_add, List.nil_append] at hcp hrun hrr
                have x1 := StepR.moved (base := base) (H := H) (w' := w.drew.alloc (.cells arr e)) (e' := ⟨false, 1, false, n, cp * n, some (w.heap.size, 0)⟩) hl hb hro hblt (by rw [hg0]; exact Nat.lt_succ_self 0) hfx (.cells arr e) rfl rfl rfl rfl rfl (.cells false 1 n new)
                  (fun hs hk => ⟨rfl, rfl, rfl, rfl, w.heap.size, 0, arr, e, rfl, heap_alloc_new w.drew _, by rw [hnl]; exact Nat.mul_le_mul_right _ hcp, by rw [harr]; simp, hone, fun j c hj => by rw [Nat.zero_add]; exact (hrr j c hj).mono hk hs⟩)
                refine ⟨_, _, rfl, _, _, _, by rw [hin, hrun]; rfl, ?_, hWw x1⟩
                exact .sl (Sig.put_same _ _ _) (Nat.le_refl _) hcp (fun _ => ⟨_, _, rfl⟩) (fun _ => by simp [SlOk])
              · cases hr
          · cases hr
        · -- a row
          rename_i g' es cs heq
          obtain rfl := Option.some.inj heq
          obtain ⟨hfx, hge, hro, hes, r0, o0, arr0, ty0, hloc, hheap, hcap, hasz, hone0, hrel0⟩ := hB
          split at hr
          · rename_i hgl
            obtain ⟨rfl, rfl, hcl⟩ := hgl
            have hslo := hsl hge.symm
            unfold SlOk at hslo
            rw [hloc] at hslo
            simp only at hslo
            obtain ⟨hAe, hcs⟩ := hslo.2 trivial
            rw [hes] at hcs
            split at hr
            · rename_i h0
              obtain rfl := Option.some.inj hr
              exact ⟨_, _, rfl, same h0 ⟨_, _, _, rfl, hcle⟩⟩
            · rename_i h0
              split at hr
              · rename_i hbd
                obtain rfl := Option.some.inj hr
                subst hAe
                by_cases hroom : len + m ≤ cp0
                · -- in place
                  have hmul : len * es + m * es ≤ cp0 * es := by rw [← Nat.add_mul]; exact Nat.mul_le_mul_right _ hroom
                  obtain ⟨w', arr', hst, hh2, hsz2, hget, hoth, hs2, q1, q2, q3, q4⟩ := run_storeCells_mid (P := P) r0 ty0 ⟨r0, o0 + len * es, none⟩ ⟨rfl, rfl⟩ ks 0 arr0 w hheap (by rw [hkl, hnl]; simp only [Nat.add_zero]; omega) hsrc.one
                  have hrun : (Builtin.append_ #[t, t] o.type #[.slice (some ⟨r0, o0, none⟩) len cp0, xx]).run P w = .ok (.slice (some ⟨r0, o0, none⟩) (len + m) cp0) w' := by
                    subst his
                    rcases hsrc.kind with ⟨e', hk⟩ | hk
                    · simp [Builtin.append_, run_underlying hu, sizeOf, typeInfo, hi, hsrc.len, hroom, hsrc.cells, addr_add, hst]
                    · rw [hu] at hk; cases hk
                  have x1 := StepR.turn (base := base) (H := H) (w' := w') (e' := { eb with g := g + 1 }) hl hb hro hloc hblt (by show eb.g ≤ g + 1; omega) (fun hq => by exfalso; have : eb.g = g + 1 := hq; omega) (fun hq => by rw [hfx] at hq; cases hq) ⟨o0, hloc⟩ q1 q2 q3 hs2 hoth (.cells false (g + 1) es (cs ++ new))
                    (fun hs hk => ⟨hfx, rfl, hro, hes, r0, o0, arr', ty0, hloc, hh2, by rw [List.length_append, ← hcl, hnl]; show _ ≤ eb.cap; omega, by rw [hsz2]; exact hasz, fun c hcm => by
                        rcases List.mem_append.1 hcm with hcm | hcm
                        · exact hone0 c hcm
                        · exact hone c hcm, fun j c hj => by
                        rw [Array.getD_eq_getD_getElem?, hget]
                        simp only [Nat.add_zero]
                        by_cases hjl : j < cs.length
                        · rw [List.getElem?_append_left hjl] at hj
                          rw [if_neg (by omega), ← Array.getD_eq_getD_getElem?]
                          exact (hrel0 j c hj).mono hk hs
                        · rw [List.getElem?_append_right (by omega)] at hj
                          have hjk := (List.getElem?_eq_some_iff.1 hj).1
                          rw [if_pos (by omega), ← List.getD_eq_getElem?_getD]
                          have := (hrel _ c hj).mono hk hs
                          have e1 : o0 + j - (o0 + len * es) = j - cs.length := by omega
                          rw [e1]; exact this⟩)
                  refine ⟨_, _, rfl, _, _, _, by rw [hin, hrun]; rfl, ?_, hWw x1⟩
                  exact .sl (Sig.put_same _ _ _) (Nat.le_refl _) hroom (fun _ => ⟨_, _, rfl⟩) (fun _ => by simp only [SlOk, hloc]; exact ⟨fun _ => rfl, fun _ => ⟨trivial, by rw [hes]; exact hcs⟩⟩)
                · have hget0 : ∀ j, j < cs.length → (cs.zipIdx.map fun p => arr0.getD (o0 + p.2) default)[j]? = some (arr0.getD (o0 + j) default) := fun j hj => by
                    simp [List.getElem?_map, List.getElem?_zipIdx, hj]
                  have hfc : (Builtin.firstCells es len (.slice (some ⟨r0, o0, none⟩) len cp0)).run P w.drew = .ok (cs.zipIdx.map fun p => arr0.getD (o0 + p.2) default).toArray w.drew :=
                    run_firstCells_some w.drew es len ⟨r0, o0, none⟩ len cp0 _ (by simpa using hcl.symm) (fun j u hj => by
                      have hjl : j < cs.length := by simpa using (List.getElem?_eq_some_iff.1 hj).1
                      rw [hget0 j hjl] at hj
                      obtain rfl := Option.some.inj hj
                      rw [addr_add]
                      exact cell_arr_get (w := w.drew) hheap (by omega))
                  obtain ⟨cp, arr, hcp, hrun, harr, hrr⟩ := grown _ len cp0 _ cs rfl (by omega) hcl.symm (by simp) (fun j c hj => by
                    have hjl := (List.getElem?_eq_some_iff.1 hj).1
                    rw [List.getD_eq_getElem?_getD, hget0 j hjl]
                    exact hrel0 j c hj) hfc hbd.1 hbd.2
                  have x1 := StepR.moved (base := base) (H := H) (w' := w.drew.alloc (.cells arr e)) (e' := ⟨false, g + 1, false, es, cp * es, some (w.heap.size, 0)⟩) hl hb hro hblt (by show eb.g < g + 1; omega) hfx (.cells arr e) rfl rfl rfl rfl rfl (.cells false (g + 1) es (cs ++ new))
                    (fun hs hk => ⟨rfl, rfl, rfl, rfl, w.heap.size, 0, arr, e, rfl, heap_alloc_new w.drew _, by rw [List.length_append, ← hcl, hnl, ← Nat.add_mul]; exact Nat.mul_le_mul_right _ hcp, by rw [harr]; simp, fun c hcm => by
                        rcases List.mem_append.1 hcm with hcm | hcm
                        · exact hone0 c hcm
                        · exact hone c hcm, fun j c hj => by rw [Nat.zero_add]; exact (hrr j c hj).mono hk hs⟩)
                  refine ⟨_, _, rfl, _, _, _, by rw [hin, hrun]; rfl, ?_, hWw x1⟩
                  exact .sl (Sig.put_same _ _ _) (Nat.le_refl _) hcp (fun _ => ⟨_, _, rfl⟩) (fun _ => by simp [SlOk])
              · cases hr
          · cases hr
        · cases hr
    · cases hr
end
end Go.Ev
