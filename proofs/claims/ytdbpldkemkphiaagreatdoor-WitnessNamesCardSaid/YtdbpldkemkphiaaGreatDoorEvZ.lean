/- Regions whose order is drawn: all orders come to the same. -/
import Derived.Test.YtdbpldkemkphiaaGreatDoorEvY
namespace Go.Ev
variable [Glb]
open Go.RowKit Go.MapKept

/-- One operation of the evaluator's run. -/
def Tr (E : Env) (call : CallH) (ops : Array Oper) (s : St) (o : Oper) (s' : St) : Prop :=
  (want ops s.tm o = some false ∧ s' = { s with tm := put s.tm o.dst (.tup []) }) ∨ (want ops s.tm o = some true ∧ ∃ v H, Came_ E call s o v H ∧ s' = { s with tm := put s.tm o.dst v, H := H })

omit [Glb] in
theorem trace_of {E : Env} {call : CallH} {ops : Array Oper} {nd : Bool} : ∀ (l : List Oper) (i : Nat) (s : St) (rs : List Rec) (x : X) (s' : St) (rs' : List Rec), evOps E call ops true nd l i s rs = some (x, s', rs') →
    x = .nrm ∧ (∀ r ∈ rs, r ∈ rs') ∧ ∃ f : Nat → St, f 0 = s ∧ f l.length = s' ∧ ∀ j o, l[j]? = some o → Tr E call ops (f j) o (f (j + 1)) ∧ (want ops (f j).tm o = some true → recOf (f j) o (i + j) ∈ rs')
  | [], i, s, rs, x, s', rs', h => by
    simp only [evOps, Option.some.injEq, Prod.mk.injEq] at h
    obtain ⟨rfl, rfl, rfl⟩ := h
    exact ⟨rfl, fun _ h => h, fun _ => s, rfl, rfl, fun j o hj => by simp at hj⟩
  | o :: l, i, s, rs, x, s', rs', h => by
    have go : ∀ {s1 : St} {rs1 : List Rec}, Tr E call ops s o s1 → (∀ r ∈ rs, r ∈ rs1) → (want ops s.tm o = some true → recOf s o i ∈ rs1) → evOps E call ops true nd l (i + 1) s1 rs1 = some (x, s', rs') →
        x = .nrm ∧ (∀ r ∈ rs, r ∈ rs') ∧ ∃ f : Nat → St, f 0 = s ∧ f (o :: l).length = s' ∧ ∀ j o', (o :: l)[j]? = some o' → Tr E call ops (f j) o' (f (j + 1)) ∧ (want ops (f j).tm o' = some true → recOf (f j) o' (i + j) ∈ rs') := fun {s1 rs1} htr hsub hrec hev => by
      obtain ⟨h1, h2, f, h3, h4, h5⟩ := trace_of l (i + 1) s1 rs1 x s' rs' hev
      refine ⟨h1, fun r hr => h2 r (hsub r hr), fun j => match j with | 0 => s | j + 1 => f j, rfl, h4, fun j o' hj => ?_⟩
      cases j with
      | zero =>
        simp only [List.getElem?_cons_zero, Option.some.injEq] at hj
        subst hj
        exact ⟨by simp only [h3]; exact htr, fun hw => h2 _ (hrec hw)⟩
      | succ j =>
        obtain ⟨h6, h7⟩ := h5 j o' (by simpa using hj)
        exact ⟨h6, fun hw => by have := h7 hw; rwa [show i + 1 + j = i + (j + 1) by omega] at this⟩
    simp only [evOps] at h
    split at h
    · cases h
    · rename_i hw
      exact go (.inl ⟨hw, rfl⟩) (fun _ h => h) (fun hw' => by rw [hw] at hw'; cases hw') h
    · rename_i hw
      split at h
      · cases h
      · rename_i v H hop
        exact go (.inr ⟨hw, v, H, .inl hop, rfl⟩) (fun r hr => by simp [hr]) (fun _ => by simp) h
      · rename_i H hop
        exact go (.inr ⟨hw, .tup [], H, .inr ⟨hop, rfl⟩, rfl⟩) (fun r hr => by simp [hr]) (fun _ => by simp) h
      · simp at h
      · simp at h
      · simp at h

omit [Glb] in
theorem recs_pair {ops : Array Oper} : ∀ {rs : List Rec}, recsOk ops rs = true → ∀ a ∈ rs, a.bad = false ∧ ∀ b ∈ rs, a.at_ ≠ b.at_ → recOk ops a b = true ∨ recOk ops b a = true
  | [], _, a, ha => (List.not_mem_nil ha).elim
  | r :: rs, h, a, ha => by
    simp only [recsOk, Bool.and_eq_true, Bool.not_eq_true', List.all_eq_true] at h
    obtain ⟨⟨h1, h2⟩, h3⟩ := h
    rcases List.mem_cons.1 ha with rfl | ha2
    · refine ⟨h1, fun b hb hne => ?_⟩
      rcases List.mem_cons.1 hb with rfl | hb
      · exact absurd rfl hne
      · exact .inl (h2 b hb)
    · obtain ⟨h4, h5⟩ := recs_pair h3 a ha2
      refine ⟨h4, fun b hb hne => ?_⟩
      rcases List.mem_cons.1 hb with rfl | hb
      · exact .inr (h2 a ha2)
      · exact h5 b hb hne

omit [Glb] in
theorem disj_spec {a b : List Nat} (h : disj a b = true) {x : Nat} (h1 : x ∈ a) (h2 : x ∈ b) : False := by
  have := List.all_eq_true.1 h x h1
  simp [h2] at this

omit [Glb] in
theorem recOk_ord {ops : Array Oper} {a b : Rec} (h : recOk ops a b = true) {x : Nat} (hx : (x ∈ a.wr ∧ (x ∈ b.rd ∨ x ∈ b.wr)) ∨ (x ∈ a.rd ∧ x ∈ b.wr)) : Ord ops a.at_ b.at_ := by
  simp only [recOk, Bool.or_eq_true, Bool.and_eq_true] at h
  rcases h with ⟨⟨h1, h2⟩, h3⟩ | h
  · rcases hx with ⟨h4, h5 | h5⟩ | ⟨h4, h5⟩
    · exact (disj_spec h2 h4 h5).elim
    · exact (disj_spec h1 h4 h5).elim
    · exact (disj_spec h3 h4 h5).elim
  · exact h

section
variable {P : Program} {E : Env} {call : CallH} {base : Nat → Prop} {n0 : Nat} {ops : Array Oper} {f : Nat → St} {w0 : World} {S0 : Sig}

/-- The blocks that operation j reads, and writes. -/
def accs (ops : Array Oper) (f : Nat → St) (j : Nat) : List Nat × List Nat :=
  match ops[j]? with
  | some o => if want ops (f j).tm o = some true then (accOf (f j) o).getD ([], []) else ([], [])
  | none => ([], [])

def Wr (ops : Array Oper) (f : Nat → St) (j b : Nat) : Prop := b ∈ (accs ops f j).2 ∨ ((f j).H.length ≤ b ∧ b < (f (j + 1)).H.length)

/-- What is known of the evaluator's run. -/
structure RunOk (E : Env) (call : CallH) (ops : Array Oper) (f : Nat → St) (S0 : Sig) : Prop where
  reg : RegOk ops
  tr : ∀ j o, ops[j]? = some o → Tr E call ops (f j) o (f (j + 1))
  acc : ∀ j o, ops[j]? = some o → want ops (f j).tm o = some true → accOf (f j) o = some (accs ops f j)
  ord : ∀ i j, i ≠ j → ∀ x, x ∈ (accs ops f i).2 → (x ∈ (accs ops f j).1 ∨ x ∈ (accs ops f j).2) → Ord ops i j
  len : ∀ j, j < ops.size → (f j).H.length ≤ (f (j + 1)).H.length
  keep : ∀ j, j < ops.size → ∀ b, b < (f j).H.length → b ∉ (accs ops f j).2 → (f (j + 1)).H[b]? = (f j).H[b]?
  refs : ∀ j, j ≤ ops.size → ∀ b ∈ refsL (f j).tm, b < (f j).H.length
  known : ∀ j, j < ops.size → ∀ b, (b ∈ (accs ops f j).1 ∨ b ∈ (accs ops f j).2) → b < (f j).H.length ∧ (∀ k, (f j).H[b]? = some k → ∀ c ∈ k.refs, c < (f j).H.length) ∧ (b < (f 0).H.length → (S0 b).isSome)
  dom0 : ∀ b, (S0 b).isSome → b < (f 0).H.length

omit [Glb] in
theorem RunOk.mono (h : RunOk E call ops f S0) : ∀ {i j : Nat}, i ≤ j → j ≤ ops.size → (f i).H.length ≤ (f j).H.length
  | i, 0, hij, _ => by have : i = 0 := by omega
                       subst this; exact Nat.le_refl _
  | i, j + 1, hij, hj => by
    rcases Nat.lt_or_ge i (j + 1) with h1 | h1
    · exact Nat.le_trans (h.mono (show i ≤ j by omega) (by omega)) (h.len j (by omega))
    · have : i = j + 1 := by omega
      subst this; exact Nat.le_refl _

omit [Glb] in
theorem RunOk.chain (h : RunOk E call ops f S0) {b : Nat} : ∀ {i j : Nat}, i ≤ j → j ≤ ops.size → (∀ q, i ≤ q → q < j → ¬ Wr ops f q b) → (f j).H[b]? = (f i).H[b]?
  | i, 0, hij, _, _ => by have : i = 0 := by omega
                          subst this; rfl
  | i, j + 1, hij, hj, hw => by
    rcases Nat.lt_or_ge i (j + 1) with h1 | h1
    · rw [← h.chain (show i ≤ j by omega) (by omega) (fun q h1 h2 => hw q h1 (by omega))]
      have hn := hw j (by omega) (by omega)
      by_cases hb : b < (f j).H.length
      · exact h.keep j (by omega) b hb (fun hm => hn (.inl hm))
      · have : ¬ b < (f (j + 1)).H.length := fun hlt => hn (.inr ⟨by omega, hlt⟩)
        rw [List.getElem?_eq_none (by omega), List.getElem?_eq_none (by omega)]
    · have : i = j + 1 := by omega
      subst this; rfl

omit [Glb] in
theorem Tr.tm {s s' : St} {o : Oper} (h : Tr E call ops s o s') : ∃ v, s'.tm = put s.tm o.dst v := by
  rcases h with ⟨_, rfl⟩ | ⟨_, v, H, _, rfl⟩
  · exact ⟨_, rfl⟩
  · exact ⟨_, rfl⟩

omit [Glb] in
theorem put_other {tm : List V} {dst : Option Tmp} {v : V} {t : Nat} (h : dst ≠ some t) : (put tm dst v)[t]? = tm[t]? := by
  cases dst with
  | none => rfl
  | some d => simp only [put]; rw [List.getElem?_set_ne (fun hd => h (by rw [hd]))]

omit [Glb] in
theorem put_length (tm : List V) (dst : Option Tmp) (v : V) : (put tm dst v).length = tm.length := by cases dst <;> simp [put]

omit [Glb] in
theorem RunOk.tmlen (h : RunOk E call ops f S0) : ∀ {j : Nat}, j ≤ ops.size → (f j).tm.length = (f 0).tm.length
  | 0, _ => rfl
  | j + 1, hj => by
    obtain ⟨v, hv⟩ := (h.tr j (ops[j]'(by omega)) (Array.getElem?_eq_getElem (by omega))).tm
    rw [hv, put_length, h.tmlen (by omega)]

omit [Glb] in
theorem RunOk.chainT (h : RunOk E call ops f S0) {t : Nat} : ∀ {i j : Nat}, i ≤ j → j ≤ ops.size → (∀ q o, i ≤ q → q < j → ops[q]? = some o → o.dst ≠ some t) → (f j).tm[t]? = (f i).tm[t]?
  | i, 0, hij, _, _ => by have : i = 0 := by omega
                          subst this; rfl
  | i, j + 1, hij, hj, hw => by
    rcases Nat.lt_or_ge i (j + 1) with h1 | h1
    · rw [← h.chainT (show i ≤ j by omega) (by omega) (fun q o h1 h2 => hw q o h1 (by omega))]
      have hjo : ops[j]? = some (ops[j]'(by omega)) := Array.getElem?_eq_getElem (by omega)
      obtain ⟨v, hv⟩ := (h.tr j _ hjo).tm
      rw [hv, put_other (hw j _ (by omega) (by omega) hjo)]
    · have : i = j + 1 := by omega
      subst this; rfl

omit [Glb] in
/-- A block has one maker. -/
theorem RunOk.maker (h : RunOk E call ops f S0) {b i j : Nat} (hi : i < ops.size) (hj : j < ops.size) (h1 : (f i).H.length ≤ b ∧ b < (f (i + 1)).H.length) (h2 : (f j).H.length ≤ b ∧ b < (f (j + 1)).H.length) : i = j := by
  rcases Nat.lt_trichotomy i j with hlt | heq | hgt
  · have := h.mono (show i + 1 ≤ j by omega) (by omega); omega
  · exact heq
  · have := h.mono (show j + 1 ≤ i by omega) (by omega); omega

/-- What holds when the operations of D have been taken. -/
structure Inv (base : Nat → Prop) (n0 : Nat) (ops : Array Oper) (f : Nat → St) (w0 : World) (S0 : Sig) (df : List Deferred) (D : Nat → Prop) (a : Act) (w : World) (S : Sig) : Prop where
  closed : Closed ops D
  loc : Loc w n0 S
  bok : BaseOk base w S
  ext : Ext (domS S0) S0 w0 S w
  far : ∀ b e r o, S b = some e → e.loc = some (r, o) → (∃ e0 o0, S0 b = some e0 ∧ e0.loc = some (r, o0) ∧ (e.ro = false → e0.ro = false)) ∨ (w0.heap.size ≤ r ∧ r < w.heap.size)
  di : ∀ b, (S b).isSome → (S0 b).isSome ∨ ∃ j, j < ops.size ∧ D j ∧ (f j).H.length ≤ b ∧ b < (f (j + 1)).H.length
  wi : ∀ j, D j → ∀ b ∈ (accs ops f j).2, (S b).isSome
  vb : ∀ b e, S b = some e → ∀ j, j ≤ ops.size → (∀ i, i < ops.size → Wr ops f i b → (D i ↔ i < j)) → ∃ k, (f j).H[b]? = some k ∧ BRel (okOf base S) w S e k
  sz : a.tmps.size = (f 0).tm.length
  tm : ∀ t c j, j ≤ ops.size → (∀ i o, ops[i]? = some o → o.dst = some t → (D i ↔ i < j)) → (f j).tm[t]? = some c → Rel (okOf base S) w S c (a.tmps.getD t default)
  df : a.defers = df

variable {D : Nat → Prop} {a : Act} {w : World} {S : Sig} {df : List Deferred}

omit [Glb] in
/-- Who is ordered with an operation that may be taken now. -/
theorem ready_iff (hD : Closed ops D) {i j : Nat} {o : Oper} (hio : ops[i]? = some o) (hr : ∀ e ∈ o.after, Region.binds .any e = true → D e.on) (hnd : ¬ D i) (hne : j ≠ i) (ho : Ord ops j i) : D j ↔ j < i := by
  rcases Nat.lt_or_ge j i with h | h
  · exact ⟨fun _ => h, fun _ => ho.ready hD hio hr h⟩
  · have hlt : i < j := by omega
    exact ⟨fun hj => absurd (ho.symm.early hD hlt hj) hnd, fun h' => by omega⟩

theorem names_agree (hR : RunOk E call ops f S0) (hI : Inv base n0 ops f w0 S0 df D a w S) {i : Nat} {o : Oper} (hio : ops[i]? = some o) (hr : ∀ e ∈ o.after, Region.binds .any e = true → D e.on) (hnd : ¬ D i) {t : Nat} (ht : t ∈ namesOf ops o) :
    ∀ j o', ops[j]? = some o' → o'.dst = some t → (D j ↔ j < i) := fun j o' hj hd => by
  by_cases hne : j = i
  · subst hne; exact ⟨fun h => absurd h hnd, fun h => by omega⟩
  · exact ready_iff hI.closed hio hr hnd hne (hR.reg.tmps j i o' o t hj hio hne hd ht)

theorem names_rel (hR : RunOk E call ops f S0) (hI : Inv base n0 ops f w0 S0 df D a w S) {i : Nat} {o : Oper} (hio : ops[i]? = some o) (hr : ∀ e ∈ o.after, Region.binds .any e = true → D e.on) (hnd : ¬ D i) {t : Nat} (ht : t ∈ namesOf ops o) {c : V} (hc : (f i).tm[t]? = some c) :
    Rel (okOf base S) w S c (a.tmps.getD t default) :=
  hI.tm t c i (Nat.le_of_lt (Array.getElem?_eq_some_iff.1 hio).1) (names_agree hR hI hio hr hnd ht) hc

theorem relL_keep (hR : RunOk E call ops f S0) (hI : Inv base n0 ops f w0 S0 df D a w S) {i : Nat} {o : Oper} (hio : ops[i]? = some o) (hr : ∀ e ∈ o.after, Region.binds .any e = true → D e.on) (hnd : ¬ D i) {ts : List Tmp} (hts : ∀ t ∈ ts, t ∈ namesOf ops o) :
    RelL (okOf base S) w S (keepT ts (f i).tm) a.tmps :=
  ⟨by simp [keepT, hI.sz, hR.tmlen (Nat.le_of_lt (Array.getElem?_eq_some_iff.1 hio).1)], fun j c hj => by
    rw [keepT_get] at hj
    cases hc : (f i).tm[j]? with
    | none => rw [hc] at hj; cases hj
    | some c0 =>
      rw [hc] at hj
      simp only [Option.map_some, Option.some.injEq] at hj
      subst hj
      split
      · rename_i h; exact names_rel hR hI hio hr hnd (hts j (by simpa using h)) hc
      · exact .undef _⟩

omit [Glb] in
theorem want_keepT {tm : List V} {o : Oper} {ts : List Tmp} (h : ∀ t, t ∈ (match o.guard with | some (j, _) => ((ops[j]?).bind (·.dst)).toList | none => ([] : List Tmp)) → t ∈ ts) : want ops (keepT ts tm) o = want ops tm o := by
  unfold want
  split
  · rfl
  · rename_i j c hg
    split
    · rfl
    · rename_i d hd
      have : ts.contains d = true := by
        simp only [List.contains_iff_mem]
        exact h d (by rw [hg]; simp [hd])
      have e1 : (keepT ts tm).getD d .undef = tm.getD d .undef := by
        rw [List.getD_eq_getElem?_getD, List.getD_eq_getElem?_getD, keepT_get, this]
        cases tm[d]? <;> simp
      rw [e1]

/-- An operation may be taken: its blocks are as the evaluator saw them. -/
theorem blocks_agree (hR : RunOk E call ops f S0) (hI : Inv base n0 ops f w0 S0 df D a w S) {i : Nat} {o : Oper} (hio : ops[i]? = some o) (hr : ∀ e ∈ o.after, Region.binds .any e = true → D e.on) (hnd : ¬ D i) {b : Nat} (hb : b ∈ (accs ops f i).1 ∨ b ∈ (accs ops f i).2) (hs : (S b).isSome) :
    ∀ j, j < ops.size → Wr ops f j b → (D j ↔ j < i) := fun j hj hw => by
  have hi := (Array.getElem?_eq_some_iff.1 hio).1
  by_cases hne : j = i
  · subst hne; exact ⟨fun h => absurd h hnd, fun h => by omega⟩
  · rcases hw with hw | hw
    · exact ready_iff hI.closed hio hr hnd hne (hR.ord j i hne b hw hb)
    · have hbl := (hR.known i hi b hb).1
      rcases Nat.lt_or_ge j i with h | h
      · refine ⟨fun _ => h, fun _ => ?_⟩
        rcases hI.di b hs with h1 | ⟨j', hj', hD', h1⟩
        · have := hR.dom0 b h1
          have := hR.mono (Nat.zero_le j) (by omega)
          omega
        · rw [hR.maker hj hj' hw h1]; exact hD'
      · have := hR.mono h (by omega); omega

theorem Known.of_inv (hI : Inv base n0 ops f w0 S0 df D a w S) {b i : Nat} (hi : i ≤ ops.size) (hs : (S b).isSome) (hag : ∀ j, j < ops.size → Wr ops f j b → (D j ↔ j < i)) : Known (okOf base S) w S (f i).H b := by
  obtain ⟨e, he⟩ := Option.isSome_iff_exists.1 hs
  obtain ⟨k, hk, hB⟩ := hI.vb b e he i hi hag
  exact ⟨e, k, he, hk, hB⟩

theorem inv_step (hE : EnvOk P E) (hC : CallOk P call) (hR : RunOk E call ops f S0) (hI : Inv base n0 ops f w0 S0 df D a w S) (hl0 : Loc w0 n0 S0) {i : Nat} {o : Oper} (hio : ops[i]? = some o) (hr : ∀ e ∈ o.after, Region.binds .any e = true → D e.on) (hnd : ¬ D i) (b : Frame) (k : List Item) (cs : List Frame) (rest : List Nat) :
    ∃ a' w' S', Inv base n0 ops f w0 S0 df (fun q => D q ∨ q = i) a' w' S' ∧ Go_ P (lone (b.atR a (.inRegion ops (i :: rest) :: k)) cs w) (lone (b.atR a' (.inRegion ops rest :: k)) cs w') := by
  have hi := (Array.getElem?_eq_some_iff.1 hio).1
  have hi1 : i ≤ ops.size := Nat.le_of_lt hi
  have hgn : ∀ t, t ∈ (match o.guard with | some (j, _) => ((ops[j]?).bind (·.dst)).toList | none => ([] : List Tmp)) → t ∈ namesOf ops o := fun t ht => by
    unfold namesOf
    exact List.mem_append_right _ (List.mem_append_right _ ht)
  have hon : ∀ t, t ∈ tmpsOf o.op.operands.toList → t ∈ namesOf ops o := fun t ht => by
    unfold namesOf
    exact List.mem_append_right _ (List.mem_append_left _ ht)
  have hdn : ∀ t, o.dst = some t → t ∈ namesOf ops o := fun t ht => by
    unfold namesOf
    exact List.mem_append_left _ (by simp [ht])
  -- what it comes to
  have key : ∃ v x w' S', (f (i + 1)).tm = put (f i).tm o.dst v ∧ Rel (okOf base S') w' S' v x ∧ StepR base (fun b => b ∈ (accs ops f i).2) S w (f i).H S' w' (f (i + 1)).H ∧ (∀ b ∈ (accs ops f i).2, (S b).isSome) ∧
      Go_ P (lone (b.atR a (.inRegion ops (i :: rest) :: k)) cs w) (lone (b.atR (a.put o.dst x) (.inRegion ops rest :: k)) cs w') := by
    rcases hR.tr i o hio with ⟨hw, hf1⟩ | ⟨hw, v, H', hcame, hf1⟩
    · have hacc : accs ops f i = ([], []) := by unfold accs; rw [hio]; simp [hw]
      have hw' := want_rel (relL_keep hR hI hio hr hnd (fun t ht => ht)) (by rw [want_keepT hgn]; exact hw)
      refine ⟨.tup [], undef, w, S, by rw [hf1], rel_undef, ?_, by rw [hacc]; simp, ?_⟩
      · rw [hf1, hacc]
        exact StepR.refl base _ S w _ (fun b e h => by simp at h) hI.loc
      · have := stepR_op_skip (P := P) (b := b) (a := a) (k := k) (cs := cs) (w := w) (ops := ops) (i := i) (rest := rest) (by simp [hio, hw'])
        rw [hio, Option.bind_some] at this
        exact .one trivial this
    · have hw' := want_rel (relL_keep hR hI hio hr hnd (fun t ht => ht)) (by rw [want_keepT hgn]; exact hw)
      have hacc := hR.acc i o hio hw
      obtain ⟨rd, wr, hrw⟩ : ∃ rd wr, accs ops f i = (rd, wr) := ⟨_, _, rfl⟩
      rw [hrw] at hacc
      have hH' : (f (i + 1)).H = H' := by rw [hf1]
      have hop : ∀ t c, t ∈ tmpsOf o.op.operands.toList → (f i).tm[t]? = some c → Rel (okOf base S) w S c (a.tmps.getD t default) ∧ ∀ b ∈ c.refs, b < (f i).H.length := fun t c ht hc =>
        ⟨names_rel hR hI hio hr hnd (hon t ht) hc, fun b hb => hR.refs i hi1 b (refsL_mem hc hb)⟩
      have hcg : ∀ x ∈ o.op.operands.toList, evo (keepT (tmpsOf o.op.operands.toList) (f i).tm) x = evo (f i).tm x := fun x hx => evo_keepT hx
      have hkeep := relL_keep hR hI hio hr hnd (ts := tmpsOf o.op.operands.toList) hon
      have hag : ∀ b, (b ∈ rd ∨ b ∈ wr) → (S b).isSome → ∀ j, j < ops.size → Wr ops f j b → (D j ↔ j < i) := fun b hb hs => blocks_agree hR hI hio hr hnd (by rw [hrw]; exact hb) hs
      have hsome : ∀ b, (b ∈ rd ∨ b ∈ wr) → (S b).isSome := by
        by_cases hcall : ∃ c g, o.op = .call c ∧ c.callee = .value g
        · obtain ⟨c, g, ho, hc⟩ := hcall
          cases hf : evo (f i).tm g with
          | none => simp [accOf, ho, hc, hf] at hacc
          | some fv =>
            cases hargs : evos (f i).tm c.args.toList with
            | none => simp [accOf, ho, hc, hf, hargs] at hacc
            | some args =>
              have hreach : rd = [] ∧ reach (f i).H (fv.refs ++ refsL args) = some wr := by
                simp only [accOf, ho, hc, hf, hargs] at hacc
                cases hrc : reach (f i).H (fv.refs ++ refsL args) with
                | none => rw [hrc] at hacc; cases hacc
                | some l => rw [hrc] at hacc; simp only [Option.map_some, Option.some.injEq, Prod.mk.injEq] at hacc; exact ⟨hacc.1.symm, by rw [hacc.2]⟩
              obtain ⟨h1, h2, h3⟩ := reach_spec hreach.2
              have hgmem : g ∈ o.op.operands.toList := by rw [ho]; exact call_operands.2 g hc
              have hfr : Rel (okOf base S) w S fv (a.eval g) := evo_rel hkeep (by rw [hcg g hgmem]; exact hf)
              have har : RelL (okOf base S) w S args (c.args.map a.eval) := evos_relL hkeep (by
                rw [evos_congr (fun x hx => hcg x (by rw [ho]; exact call_operands.1 x hx))]; exact hargs)
              have hall := h3 (fun b => (S b).isSome) (fun b hb => by
                rcases List.mem_append.1 hb with hb | hb
                · exact hfr.known b hb
                · exact har.known b hb) (fun b hb hs q hq => by
                obtain ⟨e, k, _, hk, hB⟩ := Known.of_inv hI hi1 hs (hag b (.inr hb) hs)
                simp only [blkRefs, hk] at hq
                exact hB.known q hq)
              intro b hb
              rcases hb with hb | hb
              · rw [hreach.1] at hb; simp at hb
              · exact hall b hb
        · have hnc : ∀ c g, o.op = .call c → c.callee ≠ .value g := fun c g h1 h2 => hcall ⟨c, g, h1, h2⟩
          exact acc_known (s := { f i with tm := keepT (tmpsOf o.op.operands.toList) (f i).tm }) hkeep hnc (by rw [accOf_congr hcg]; exact hacc)
      obtain ⟨x, w', S', h1, h2, h3⟩ := op_virtual hE hC hcame hacc hI.loc hI.bok (by rw [hI.sz, hR.tmlen hi1]) hop
        (fun b hb => Known.of_inv hI hi1 (hsome b hb) (hag b hb (hsome b hb)))
        (fun b k hb hk => (hR.known i hi b (by rw [hrw]; exact hb)).2.1 k hk)
        (fun b hb1 hb2 => by
          cases hs : S b with
          | none => rfl
          | some e =>
            exfalso
            rw [← hH'] at hb2
            rcases hI.di b (by simp [hs]) with h4 | ⟨j, hj, hDj, h4⟩
            · have := hR.dom0 b h4
              have := hR.mono (Nat.zero_le i) hi1
              omega
            · have := hR.maker hi hj ⟨hb1, hb2⟩ h4
              subst this
              exact hnd hDj) ⟨b, k, cs, ops, i, rest⟩
      refine ⟨v, x, w', S', by rw [hf1], h2, ?_, ?_, h1 hio hw'⟩
      · rw [hrw, hH']; exact h3
      · rw [hrw]; exact fun b hb => hsome b (.inr hb)
  obtain ⟨v, x, w', S', htm, hrel, hstep, hwS, hgo⟩ := key
  refine ⟨a.put o.dst x, w', S', ?_, hgo⟩
  have hcalm := hstep.ext.calm base
  have hsig := hstep.ext.sig
  have hrelS : ∀ {c : V} {y : Value}, Rel (okOf base S) w S c y → Rel (okOf base S') w' S' c y := fun h => h.mono hcalm hsig
  have hwS0 : ∀ b, b ∈ (accs ops f i).2 → ∀ e, S0 b = some e → True := fun _ _ _ _ => trivial
  refine ⟨?_, hstep.locs hI.loc, hI.bok.next hstep, ?_, ?_, ?_, ?_, ?_, ?_, ?_, by rw [put_defers]; exact hI.df⟩
  · intro j o' hj ho' e he hb
    rcases hj with hj | rfl
    · exact .inl (hI.closed j o' hj ho' e he hb)
    · rw [hio] at ho'; obtain rfl := Option.some.inj ho'
      exact .inl (hr e he hb)
  · refine ⟨hstep.ext.os.trans hI.ext.os, hstep.ext.tape.trans hI.ext.tape, hstep.ext.output.trans hI.ext.output, Nat.le_trans hI.ext.size hstep.ext.size, hI.ext.sig.trans hsig, fun q hq hn => ?_, fun q hq => ?_, fun b e hb hw => ?_⟩
    · refine (hstep.ext.old q (Nat.lt_of_lt_of_le hq hI.ext.size) (fun b e o' _ hb hro hloc => ?_)).trans (hI.ext.old q hq hn)
      rcases hI.far b e q o' hb hloc with ⟨e0, o0, h0, hl0', hr0⟩ | h1
      · exact hn b e0 o0 (by simp [domS, h0]) h0 (hr0 hro) hl0'
      · omega
    · rcases hstep.ext.own q hq with hq | hq
      · exact hI.ext.own q hq
      · exact .inr (Nat.le_trans hI.ext.size hq)
    · have hro : e.ro = true := by
        rcases hw with hw | hw
        · exact absurd (by simp [domS, hb]) hw
        · exact hw
      exact hstep.ext.keep b e (hI.ext.keep b e hb (.inr hro)) (.inr hro)
  · intro b e r o' hb hloc
    rcases hstep.loc b e r o' hb hloc with ⟨e1, o1, h1, hl1, hr1⟩ | h1
    · rcases hI.far b e1 r o1 h1 hl1 with ⟨e0, o0, h0, hl0', hr0⟩ | h2
      · exact .inl ⟨e0, o0, h0, hl0', fun q => hr0 (hr1 q)⟩
      · exact .inr ⟨h2.1, Nat.lt_of_lt_of_le h2.2 hstep.ext.size⟩
    · exact .inr ⟨Nat.le_trans hI.ext.size h1.1, h1.2⟩
  · intro b hb
    rcases hstep.dom b hb with h1 | h1
    · rcases hI.di b h1 with h2 | ⟨j, hj, hDj, h2⟩
      · exact .inl h2
      · exact .inr ⟨j, hj, .inl hDj, h2⟩
    · exact .inr ⟨i, hi, .inr rfl, h1⟩
  · intro j hj b hb
    have : (S b).isSome := by
      rcases hj with hj | rfl
      · exact hI.wi j hj b hb
      · exact hwS b hb
    obtain ⟨e, he⟩ := Option.isSome_iff_exists.1 this
    obtain ⟨e', he', _⟩ := hsig b e he
    simp [he']
  · intro b e hbe j hj hag
    by_cases hwi : Wr ops f i b
    · have hji : i < j := (hag i hi hwi).1 (.inr rfl)
      have hch : (f j).H[b]? = (f (i + 1)).H[b]? := hR.chain (by omega) hj (fun q hq1 hq2 hwq => by
        have hDq : D q := by
          rcases (hag q (by omega) hwq).2 hq2 with h | h
          · exact h
          · omega
        rcases hwq with hwq | hwq
        · rcases hwi with hwi | hwi
          · exact hnd ((hR.ord i q (by omega) b hwi (.inr hwq)).early hI.closed (by omega) hDq)
          · have hS := hI.wi q hDq b hwq
            rcases hI.di b hS with h4 | ⟨j', hj', hDj', h4⟩
            · have := hR.dom0 b h4
              have := hR.mono (Nat.zero_le i) hi1
              omega
            · have := hR.maker hi hj' hwi h4
              subst this
              exact hnd hDj'
        · rcases hwi with hwi | hwi
          · have := (hR.known i hi b (.inr hwi)).1
            have := hR.mono (show i ≤ q by omega) (by omega)
            omega
          · have := hR.maker hi (by omega) hwi hwq; omega)
      rw [hch]
      refine hstep.blk b e hbe ?_
      rcases hwi with hwi | hwi
      · exact .inl hwi
      · right
        cases hs : S b with
        | none => rfl
        | some e0 =>
          exfalso
          rcases hI.di b (by simp [hs]) with h4 | ⟨j', hj', hDj', h4⟩
          · have := hR.dom0 b h4
            have := hR.mono (Nat.zero_le i) hi1
            omega
          · have := hR.maker hi hj' hwi h4
            subst this
            exact hnd hDj'
    · have hag' : ∀ q, q < ops.size → Wr ops f q b → (D q ↔ q < j) := fun q hq hwq => by
        have := hag q hq hwq
        have hne : q ≠ i := fun h => hwi (h ▸ hwq)
        exact ⟨fun h => this.1 (.inl h), fun h => (this.2 h).elim id (fun h => absurd h hne)⟩
      cases hs : S b with
      | none =>
        exfalso
        rcases hstep.dom b (by simp [hbe]) with h1 | h1
        · rw [hs] at h1; cases h1
        · exact hwi (.inr h1)
      | some e0 =>
        obtain ⟨k, hk, hB⟩ := hI.vb b e0 hs j hj hag'
        obtain ⟨h1, h2⟩ := hstep.blk_old hI.loc hs (fun h => hwi (.inl h)) hB
        rw [hbe] at h1
        obtain rfl := Option.some.inj h1
        exact ⟨k, hk, h2⟩
  · cases hd : o.dst with
    | none => exact hI.sz
    | some d => simp [Act.put, hI.sz]
  · intro t c j hj hag hc
    by_cases hd : o.dst = some t
    · have hji : i < j := (hag i o hio hd).1 (.inr rfl)
      have hch : (f j).tm[t]? = (f (i + 1)).tm[t]? := hR.chainT (by omega) hj (fun q o' hq1 hq2 hqo hqd => by
        have hDq : D q := by
          rcases (hag q o' hqo hqd).2 hq2 with h | h
          · exact h
          · omega
        exact hnd (Ord.early (hR.reg.tmps i q o o' t hio hqo (by omega) hd (by unfold namesOf; exact List.mem_append_left _ (by simp [hqd]))) hI.closed (by omega) hDq))
      rw [hch, htm, hd] at hc
      simp only [put] at hc
      have hlt : t < (f i).tm.length := by have := (List.getElem?_eq_some_iff.1 hc).1; simpa using this
      rw [List.getElem?_set_self hlt] at hc
      obtain rfl := Option.some.inj hc
      rw [hd]
      simp only [Act.put]
      rw [Array.getD_eq_getD_getElem?, Array.getElem?_setIfInBounds_self_of_lt (by rw [hI.sz, ← hR.tmlen hi1]; exact hlt)]
      exact hrel
    · have hag' : ∀ q o', ops[q]? = some o' → o'.dst = some t → (D q ↔ q < j) := fun q o' hqo hqd => by
        have := hag q o' hqo hqd
        have hne : q ≠ i := fun h => by subst h; rw [hio] at hqo; obtain rfl := Option.some.inj hqo; exact hd hqd
        exact ⟨fun h => this.1 (.inl h), fun h => (this.2 h).elim id (fun h => absurd h hne)⟩
      have h1 := hrelS (hI.tm t c j hj hag' hc)
      have : (a.put o.dst x).tmps.getD t default = a.tmps.getD t default := by
        cases hdd : o.dst with
        | none => rfl
        | some d =>
          simp only [Act.put]
          rw [Array.getD_eq_getD_getElem?, Array.getElem?_setIfInBounds_ne (fun h => hd (by rw [hdd, h])), ← Array.getD_eq_getD_getElem?]
      rw [this]; exact h1
end
end Go.Ev
