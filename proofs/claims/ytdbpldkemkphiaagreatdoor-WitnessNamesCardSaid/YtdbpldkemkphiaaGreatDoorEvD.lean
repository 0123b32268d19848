/- Operations on memory. -/
import Derived.Test.YtdbpldkemkphiaaGreatDoorEvC
namespace Go.Ev
variable [Glb]
open Go.RowKit

/-- What is known of a block. -/
def Known (ok : Nat → Prop) (w : World) (S : Sig) (H : Heap) (b : Nat) : Prop := ∃ e k, S b = some e ∧ H[b]? = some k ∧ BRel ok w S e k

omit [Glb] in
theorem HRel.known {ok : Nat → Prop} {w : World} {n0 : Nat} {S : Sig} {H : Heap} (h : HRel ok w n0 S H) {b : Nat} (hb : (S b).isSome) : Known ok w S H b := by
  obtain ⟨e, he⟩ := Option.isSome_iff_exists.1 hb
  obtain ⟨k, hk, hr⟩ := h.blk b e he
  exact ⟨e, k, he, hk, hr⟩

omit [Glb] in
theorem takeAt_get {cs l : List V} {off n : Nat} (h : takeAt cs off n = some l) : l.length = n ∧ ∀ j c, l[j]? = some c → cs[off + j]? = some c := by
  unfold takeAt at h
  split at h
  · rename_i hle
    obtain rfl := Option.some.inj h
    refine ⟨by simp; omega, fun j c hj => ?_⟩
    rw [List.getElem?_take] at hj
    split at hj
    · simpa using hj
    · cases hj
  · cases h

section
variable {P : Program} {E : Env} {ok : Nat → Prop} {w : World} {S : Sig} {H : Heap}

omit [Glb] in
theorem cell_arr {r : Nat} {arr : Array Value} {t : TypeId} (hh : w.heap[r]? = some (.cells arr t (0, 0))) (j : Nat) : w.cell? ⟨r, j, none⟩ = arr[j]? := by simp [World.cell?, hh]

omit [Glb] in
theorem cell_arr_get {r : Nat} {arr : Array Value} {t : TypeId} (hh : w.heap[r]? = some (.cells arr t (0, 0))) {j : Nat} (hj : j < arr.size) : w.cell? ⟨r, j, none⟩ = some (arr.getD j default) := by
  rw [cell_arr hh, Array.getD_eq_getD_getElem?, Array.getElem?_eq_getElem hj]; rfl

omit [Glb] in
/-- Cells that a pointer leads to. -/
theorem readAt_rel {p : V} {x : Value} {n : Nat} {cs : List V} (h : readAt H p n = some cs) (hp : Rel ok w S p x) (hk : ∀ b g off, p = .ptr b g off → Known ok w S H b) :
    ∃ r o, x = .pointer (some ⟨r, o, none⟩) ∧ cs.length = n ∧ ∀ j c, cs[j]? = some c → ∃ v, w.cell? ⟨r, o + j, none⟩ = some v ∧ Rel ok w S c v ∧ V.one c = true := by
  unfold readAt at h
  split at h
  · rename_i b g off
    split at h
    · rename_i ro g' es cells hb
      split at h
      · rename_i hg
        subst hg
        obtain ⟨e, k, hs, hk1, hr⟩ := hk b g off rfl
        rw [hb] at hk1
        obtain rfl := Option.some.inj hk1
        obtain ⟨hf, hg, hro, hes, r, o, arr, t, hl, hh, hc, ha, h1, he⟩ := hr
        obtain ⟨hlen, hget⟩ := takeAt_get h
        cases hp with
        | ptr h0 hg0 hl0 =>
          rw [hs] at h0
          obtain rfl := Option.some.inj h0
          obtain ⟨r', o', hl', rfl⟩ := hl0 hg.symm
          rw [hl] at hl'
          simp only [Option.some.injEq, Prod.mk.injEq] at hl'
          obtain ⟨rfl, rfl⟩ := hl'
          refine ⟨r, o + off, rfl, hlen, fun j c hj => ?_⟩
          have hj' := hget j c hj
          have hlt : off + j < cells.length := (List.getElem?_eq_some_iff.1 hj').1
          refine ⟨_, by rw [show o + off + j = o + (off + j) from by omega]; exact cell_arr_get hh (by omega), he _ c hj', h1 c (List.mem_of_getElem? hj')⟩
      · cases h
    · cases h
  · rename_i cells off
    obtain ⟨hlen, hget⟩ := takeAt_get h
    cases hp with
    | @pp _ r o _ _ hr h1 hc he =>
      refine ⟨r, o + off, rfl, hlen, fun j c hj => ?_⟩
      have hj' := hget j c hj
      have hcell := hc _ c hj'
      obtain ⟨v, hv⟩ := Option.isSome_iff_exists.1 hcell
      have hrel := he _ c hj'
      rw [hv] at hrel
      exact ⟨v, by rw [show o + off + j = o + (off + j) from by omega]; exact hv, hrel.pure (h1 c (List.mem_of_getElem? hj')).2, (h1 c (List.mem_of_getElem? hj')).1⟩
  · cases h

omit [Glb] in
theorem addr_add (r o j : Nat) : Addr.add ⟨r, o, none⟩ j = ⟨r, o + j, none⟩ := by
  unfold Addr.add
  split
  · rename_i h; subst h; rfl
  · rfl

omit [Glb] in
/-- The cells, loaded. -/
theorem loadCells_rel {r o n : Nat} {cs : List V} (hn : cs.length = n) (h : ∀ j c, cs[j]? = some c → ∃ v, w.cell? ⟨r, o + j, none⟩ = some v ∧ Rel ok w S c v ∧ V.one c = true) :
    ∃ vs : Array Value, (loadCells ⟨r, o, none⟩ n).run P w = .ok vs w ∧ RelL ok w S cs vs := by
  refine ⟨((List.range n).map fun j => (w.cell? ⟨r, o + j, none⟩).getD default).toArray, run_loadCells w _ n _ (fun j hj => ?_), by simp [hn], fun j c hj => ?_⟩
  · obtain ⟨v, hv, _⟩ := h j (cs[j]'(by omega)) (List.getElem?_eq_getElem (by omega))
    rw [addr_add, hv]; rfl
  · obtain ⟨v, hv, hr, _⟩ := h j c hj
    have hlt : j < n := by rw [← hn]; exact (List.getElem?_eq_some_iff.1 hj).1
    have : (((List.range n).map fun j => (w.cell? ⟨r, o + j, none⟩).getD default).toArray).getD j default = v := by
      simp [Array.getD_eq_getD_getElem?, hlt, hv]
    rw [this]; exact hr

theorem loadVar_rel (hE : EnvOk P E) {t : TypeId} {p v : V} {x : Value} (h : loadV E H t p = some v) (hp : Rel ok w S p x) (hk : ∀ b g off, p = .ptr b g off → Known ok w S H b) :
    ∃ ad y, x = .pointer (some ad) ∧ (loadVar t ad).run P w = .ok y w ∧ Rel ok w S v y := by
  unfold loadV at h
  split at h
  · rename_i n ha hn
    cases hr : readAt H p n with
    | none => rw [hr] at h; cases h
    | some cs =>
      rw [hr] at h
      obtain rfl := Option.some.inj h
      obtain ⟨r, o, rfl, hlen, hc⟩ := readAt_rel hr hp hk
      obtain ⟨vs, hvs, hrel⟩ := loadCells_rel (P := P) hlen hc
      obtain ⟨i, hi, hs⟩ := hE.size t n hn
      refine ⟨_, .agg vs, rfl, ?_, .agg (fun c hcm => ?_) hrel.1 hrel.2⟩
      · simp only [loadVar, Sem.run_bind, hE.agg t true ha, Result.andThen_ok, if_true, sizeOf, run_typeInfo w hi, Sem.run_pure, hs, hvs]
      · obtain ⟨j, hj⟩ := List.getElem?_of_mem hcm
        obtain ⟨_, _, _, h1⟩ := hc j c hj
        exact h1
  · rename_i ha
    split at h
    · rename_i c hr
      obtain rfl := Option.some.inj h
      obtain ⟨r, o, rfl, hlen, hc⟩ := readAt_rel hr hp hk
      obtain ⟨v, hv, hrel, _⟩ := hc 0 c rfl
      refine ⟨_, v, rfl, ?_, hrel⟩
      simp only [Nat.add_zero] at hv
      simp [loadVar, hE.agg t false ha, hv]
    · cases h
  · cases h

theorem op_load {base : Nat → Prop} {n0 : Nat} {a : Act} {tm : List V} {o : Oper} (hE : EnvOk P E) (hl : Loc w n0 S) (h : RelL (okOf base S) w S tm a.tmps) {t : TypeId} {x : Operand} (ho : o.op = .load t x) {p v : V} (hx : evo tm x = some p)
    (hv : loadV E H t p = some v) (hk : ∀ b g off, p = .ptr b g off → Known (okOf base S) w S H b) : OpVal P base nobody S w H a.eval o v H := by
  obtain ⟨ad, y, hx', hrun, hr⟩ := loadVar_rel hE hv (evo_rel h hx) hk
  exact .pure hl (by simp [execOp, ho, Instr.loadAt, hx', Instr.sureAddr, hrun]) hr

/-! ### stores -/
omit [Glb] in
/-- Values stored one behind the other. -/
theorem run_storeCells_mid (r : Nat) (t : TypeId) (ad : Addr) (had : ad.block = r ∧ ad.spot = none) : ∀ (vs : List Value) (i : Nat) (arr : Array Value) (w : World), w.heap[r]? = some (.cells arr t (0, 0)) → ad.off + i + vs.length ≤ arr.size → (∀ v ∈ vs, v.oneCell' = true) →
    ∃ w' arr', (storeCells ad vs i).run P w = .ok () w' ∧ w'.heap[r]? = some (.cells arr' t (0, 0)) ∧ arr'.size = arr.size ∧ (∀ k, arr'[k]? = if ad.off + i ≤ k ∧ k < ad.off + i + vs.length then vs[k - (ad.off + i)]? else arr[k]?) ∧
      (∀ q, q ≠ r → w'.heap[q]? = w.heap[q]?) ∧ w'.heap.size = w.heap.size ∧ w'.os = w.os ∧ w'.tape = w.tape ∧ w'.output = w.output ∧ w'.drawn = w.drawn := by
  intro vs
  induction vs with
  | nil =>
    intro i arr w hh hle h1
    refine ⟨w, arr, by simp [storeCells], hh, rfl, fun k => ?_, fun _ _ => rfl, rfl, rfl, rfl, rfl, rfl⟩
    rw [if_neg (by simp only [List.length_nil]; omega)]
  | cons v vs ih =>
    intro i arr w hh hle h1
    obtain ⟨b, off, spot⟩ := ad
    obtain ⟨rfl, rfl⟩ := had
    have hle : off + i + (vs.length + 1) ≤ arr.size := hle
    have hcell : w.cell? ⟨b, off + i, none⟩ = some (arr.getD (off + i) default) := cell_arr_get hh (by omega)
    have hfr : w.frozen? ⟨b, off + i, none⟩ = false := by simp [World.frozen?, hh]
    have hrun : (store (Addr.add ⟨b, off, none⟩ i) v).run P w = .ok () (w.setCell ⟨b, off + i, none⟩ v) := by
      rw [addr_add, run_store P w _ v _ (h1 v (List.mem_cons_self ..))]
      simp only [hcell, hfr, Bool.false_eq_true, if_false]
    have hh' : (w.setCell ⟨b, off + i, none⟩ v).heap[b]? = some (.cells (arr.setIfInBounds (off + i) v) t (0, 0)) := by
      rw [show (w.setCell ⟨b, off + i, none⟩ v).heap = _ from rfl]
      simp [World.setCell, Array.getElem?_modify, hh]
    obtain ⟨w', arr', hr, hh2, hsz, hget, hoth, hs2, a1, a2, a3, a4⟩ := ih (i + 1) (arr.setIfInBounds (off + i) v) _ hh' (by simp only [Array.size_setIfInBounds]; omega) (fun x hx => h1 x (List.mem_cons_of_mem _ hx))
    refine ⟨w', arr', ?_, hh2, by rw [hsz]; simp, fun k => ?_, fun q hq => ?_, by rw [hs2]; simp, a1.trans rfl, a2.trans rfl, a3.trans rfl, a4.trans rfl⟩
    · simp only [storeCells, Sem.run_bind, hrun, Result.andThen_ok, hr]
    · rw [hget k]
      show (if off + (i + 1) ≤ k ∧ k < off + (i + 1) + vs.length then vs[k - (off + (i + 1))]? else _) = if off + i ≤ k ∧ k < off + i + (vs.length + 1) then (v :: vs)[k - (off + i)]? else _
      by_cases hk1 : k = off + i
      · subst hk1
        rw [if_neg (by omega), if_pos (by omega), Nat.sub_self]
        simp [Array.getElem?_setIfInBounds, show off + i < arr.size by omega]
      · by_cases hk2 : off + (i + 1) ≤ k ∧ k < off + (i + 1) + vs.length
        · rw [if_pos hk2, if_pos (by omega), show k - (off + i) = (k - (off + (i + 1))) + 1 by omega]; rfl
        · rw [if_neg hk2, if_neg (by omega), Array.getElem?_setIfInBounds, if_neg (by omega)]
    · exact (hoth q hq).trans (heap_setCell_other w ⟨b, off + i, none⟩ q v hq)

omit [Glb] in
theorem putAt_get {cs vs : List V} {off : Nat} (h : off + vs.length ≤ cs.length) (j : Nat) : (putAt cs off vs)[j]? = if off ≤ j ∧ j < off + vs.length then vs[j - off]? else cs[j]? := by
  unfold putAt
  by_cases h1 : j < off
  · rw [List.getElem?_append_left (by simp; omega), if_neg (by omega), List.getElem?_take, if_pos h1]
  · rw [List.getElem?_append_right (by simp; omega)]
    simp only [List.length_take, Nat.min_eq_left (show off ≤ cs.length by omega)]
    by_cases h2 : j < off + vs.length
    · rw [List.getElem?_append_left (by omega), if_pos (by omega)]
    · rw [List.getElem?_append_right (by omega), if_neg (by omega), List.getElem?_drop]
      congr 1
      omega

omit [Glb] in
theorem putAt_length {cs vs : List V} {off : Nat} (h : off + vs.length ≤ cs.length) : (putAt cs off vs).length = cs.length := by unfold putAt; simp; omega

omit [Glb] in
theorem lift_len (cs : List V) (H : Heap) : H.length ≤ (lift cs H).2.length ∧ (lift cs H).1.length = cs.length ∧ ∀ b, b < H.length → (lift cs H).2[b]? = H[b]? := by
  induction cs generalizing H with
  | nil => exact ⟨Nat.le_refl _, rfl, fun _ _ => rfl⟩
  | cons c cs ih =>
    by_cases he : c = .nils
    · subst he
      obtain ⟨h1, h2, h3⟩ := ih (H ++ [.nilb])
      simp only [List.length_append, List.length_singleton] at h1
      exact ⟨by simp only [lift]; omega, by simp only [lift, List.length_cons, h2], fun b hb => by
        simp only [lift]; rw [h3 b (by simp; omega), List.getElem?_append_left hb]⟩
    · have hlift : lift (c :: cs) H = (c :: (lift cs H).1, (lift cs H).2) := by cases c <;> first | rfl | exact absurd rfl he
      obtain ⟨h1, h2, h3⟩ := ih H
      rw [hlift]
      exact ⟨h1, by simp [h2], h3⟩

omit [Glb] in
theorem dom_of {S : Sig} {H : Heap} (hn : ∀ b, H.length ≤ b → S b = none) : ∀ b, (S b).isSome → b < H.length := fun b hb => by
  rcases Nat.lt_or_ge b H.length with h | h
  · exact h
  · rw [hn b h] at hb; cases hb

theorem op_store {base : Nat → Prop} {n0 : Nat} {a : Act} {tm : List V} {o : Oper} (hE : EnvOk P E) (hl : Loc w n0 S) (hn : ∀ b, H.length ≤ b → S b = none) (h : RelL (okOf base S) w S tm a.tmps) {t : TypeId} {x y : Operand} (ho : o.op = .store t x y) {p v : V}
    (hx : evo tm x = some p) (hy : evo tm y = some v) (hm : v.may = true) {n : Nat} (hsz : E.size t = some n) (hvl : v.cells.length = n) {H' : Heap} (hw : writeAt (lift v.cells H).2 p (lift v.cells H).1 = some H')
    {W : Nat → Prop} (hW : ∀ b g off, p = .ptr b g off → W b) (hW2 : ∀ b, W b → Known (okOf base S) w S H b) : OpSkip P base W S w H a.eval o H' := by
  unfold writeAt at hw
  split at hw
  case h_2 => cases hw
  rename_i b g off
  split at hw
  case h_2 => cases hw
  rename_i g' es cells hb
  split at hw
  case isFalse => cases hw
  rename_i hcond
  obtain ⟨rfl, hle⟩ := hcond
  obtain rfl := Option.some.inj hw
  obtain ⟨hc, h1⟩ := (evo_rel h hy).cells hm
  obtain ⟨S1, x1, hn1, hr1, h11⟩ := lift_rel (base := base) v.cells (a.eval y).cells.toList S H hl hn ⟨by simpa using hc.1, fun j c hj => by
    have := hc.2 j c hj
    simpa [Array.getD_eq_getD_getElem?, List.getD_eq_getElem?_getD] using this⟩ h1
  obtain ⟨e, k, hs, hk1, hbr⟩ := hW2 b (hW b g off rfl)
  have hblt : b < H.length := (List.getElem?_eq_some_iff.1 hk1).1
  obtain ⟨hll, hlc, hlk⟩ := lift_len v.cells H
  rw [hlk b hblt, hk1] at hb
  obtain rfl := Option.some.inj hb
  have hb1 := x1.blk_old hl hs (fun h => h) hbr
  obtain ⟨hs1, hf, hg, hro, hes, r, o', arr, ty, hloc, hh, hcap, ha, hone, hel⟩ := hb1
  have hp := x1.ext.rel (base := base) (evo_rel h hx)
  generalize hq : a.eval x = px at hp
  cases hp with
  | ptr h0 hg0 hl0 =>
    rw [hs1] at h0
    obtain rfl := Option.some.inj h0
    obtain ⟨r', o'', hl', rfl⟩ := hl0 hg.symm
    rw [hloc] at hl'
    simp only [Option.some.injEq, Prod.mk.injEq] at hl'
    obtain ⟨rfl, rfl⟩ := hl'
    have hvs : (a.eval y).cells.toList.length = (lift v.cells H).1.length := by rw [hlc]; simpa using hc.1
    have h1v : ∀ y' ∈ (a.eval y).cells.toList, y'.oneCell' = true := fun y' hy' => by
      obtain ⟨j, hj⟩ := List.getElem?_of_mem hy'
      have hjlt : j < (lift v.cells H).1.length := by rw [← hvs]; exact (List.getElem?_eq_some_iff.1 hj).1
      have hrj := hr1.2 j _ (List.getElem?_eq_getElem hjlt)
      have : ((a.eval y).cells.toList.getD j default) = y' := by rw [List.getD_eq_getElem?_getD, hj]; rfl
      rw [this] at hrj
      exact hrj.one (h11 _ (List.getElem_mem hjlt))
    obtain ⟨w', arr', hrun, hh2, hsz2, hget, hoth, hs2, q1, q2, q3, q4⟩ := run_storeCells_mid (P := P) r ty ⟨r, o' + off, none⟩ ⟨rfl, rfl⟩ (a.eval y).cells.toList 0 arr w hh (by rw [hvs]; simp only [Nat.add_zero]; omega) h1v
    have x2 := StepR.turn (base := base) (H := (lift v.cells H).2) (x1.locs hl) hs1 hro hloc (by omega) (Nat.le_refl _) (fun _ => ⟨rfl, rfl, rfl⟩) (fun _ => rfl) ⟨o', hloc⟩ q1 q2 q3 hs2 hoth (.cells false g es (putAt cells off (lift v.cells H).1))
      (fun hsig hcalm => ⟨hf, hg, hro, hes, r, o', arr', ty, hloc, hh2, by rw [putAt_length hle]; exact hcap, by rw [hsz2]; exact ha, fun c hcm => by
          obtain ⟨j, hj⟩ := List.getElem?_of_mem hcm
          rw [putAt_get hle] at hj
          split at hj
          · exact h11 c (List.mem_of_getElem? hj)
          · exact hone c (List.mem_of_getElem? hj), fun j c hj => by
          rw [putAt_get hle] at hj
          rw [Array.getD_eq_getD_getElem?, hget]
          simp only [Nat.add_zero]
          by_cases hin : off ≤ j ∧ j < off + (lift v.cells H).1.length
          · rw [if_pos hin] at hj
            rw [if_pos (by omega), show o' + j - (o' + off) = j - off by omega]
            have := (hr1.2 _ c hj).mono hcalm hsig
            rwa [List.getD_eq_getElem?_getD] at this
          · rw [if_neg hin] at hj
            rw [if_neg (by omega), ← Array.getD_eq_getD_getElem?]
            exact (hel j c hj).mono hcalm hsig⟩)
    have x3 := (StepR.trans hl (dom_of hn) x1 x2).weaken (W1 := fun x => x = b) (fun b h => by rcases h with h | h <;> first | exact h.elim | exact h) (fun b h _ => .inr h)
    obtain ⟨i, hi, his⟩ := hE.size t n hsz
    have x4 : StepR base W S w H (S1.put b e) w' ((lift v.cells H).2.set b (.cells false g es (putAt cells off (lift v.cells H).1))) :=
      ⟨x3.ext.weaken (fun z hz => by subst hz; exact hW _ _ _ rfl), fun z ez hz hw => by
        by_cases hzb : z = b
        · exact x3.blk z ez hz (.inl hzb)
        · rcases hw with hw | hw
          · obtain ⟨e0, k0, hs0, hk0, hbr0⟩ := hW2 z hw
            obtain ⟨hz', hbr'⟩ := x3.blk_old hl hs0 hzb hbr0
            rw [hz] at hz'; obtain rfl := Option.some.inj hz'
            exact ⟨k0, by rw [x3.keep z (List.getElem?_eq_some_iff.1 hk0).1 hzb]; exact hk0, hbr'⟩
          · exact x3.blk z ez hz (.inr hw), x3.loc, x3.inj, x3.dom, fun z hz hw => x3.keep z hz (fun h => hw (by subst h; exact hW _ _ _ rfl)), x3.len⟩
    refine ⟨w', _, ?_, x4⟩
    have hcs : (a.eval y).cells.size = n := by rw [hc.1, hvl]
    simp only [execOp, ho, Instr.storeAt, hq, Instr.sureAddr, Sem.run_bind, Sem.run_pure, Result.andThen_ok, storeVar, sizeOf, run_typeInfo w hi, his, hcs, ne_eq, not_true_eq_false, if_false, Sem.run_ite, hrun]
end
end Go.Ev
