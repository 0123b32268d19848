/- How the evaluator's values lie in memory. -/
import Derived.Test.YtdbpldkemkphiaaGreatDoorEvA
import Derived.CallsIn
import Derived.Below
import Derived.WalkKit
namespace Go.Ev
open Go.RowKit

/-- What stands for a local block: never changed (what is no cells), generation, read-only, elements' cells, how many cells, the real block and where in it. -/
structure Ent where
  fix : Bool
  g : Nat
  ro : Bool
  es : Nat
  cap : Nat
  loc : Option (Nat × Nat)

abbrev Sig := Nat → Option Ent

def none_ : Sig := fun _ => none

/-- A real block that is written: no plain data lie in it. -/
def own (S : Sig) (k : Nat) : Prop := ∃ b e o, S b = some e ∧ e.ro = false ∧ e.loc = some (k, o)

def SlOk (e : Ent) (off len : Nat) (A : Option Addr) (c : Nat) : Prop :=
  match e.loc with
  | none => c = 0
  | some (r, o) => (len ≠ 0 → A = some ⟨r, o + off, none⟩) ∧ (off = 0 → A = some ⟨r, o, none⟩ ∧ c * e.es ≤ e.cap)

inductive Rel (ok : Nat → Prop) (w : World) : Sig → V → Value → Prop
  | undef {S} (v) : Rel ok w S .undef v
  | bool {S} (b) : Rel ok w S (.bool b) (.bool b)
  | int {S} (k n) : Rel ok w S (.int k n) (.int k n)
  | str {S} (s) : Rel ok w S (.str s) (.string s)
  | nilp {S} : Rel ok w S .nilp (.pointer none)
  | ptr {S b e g off a} (h : S b = some e) (hg : g ≤ e.g) (hl : g = e.g → ∃ r o, e.loc = some (r, o) ∧ a = ⟨r, o + off, none⟩) : Rel ok w S (.ptr b g off) (.pointer (some a))
  | pp {S r o off} {cells : List V} (hr : cells ≠ [] → ok r) (h1 : ∀ c ∈ cells, V.one c = true ∧ V.refs c = []) (hc : ∀ j c, cells[j]? = some c → (w.cell? ⟨r, o + j, none⟩).isSome)
      (he : ∀ j c, cells[j]? = some c → Rel ok w none_ c ((w.cell? ⟨r, o + j, none⟩).getD default)) : Rel ok w S (.pp cells off) (.pointer (some ⟨r, o + off, none⟩))
  | nils {S} (A) : Rel ok w S .nils (.slice A 0 0)
  | sl {S b e g off len A c} (h : S b = some e) (hg : g ≤ e.g) (hc : len ≤ c) (hA : len ≠ 0 → ∃ r o, A = some ⟨r, o, none⟩) (hl : g = e.g → SlOk e off len A c) : Rel ok w S (.sl b g off len) (.slice A len c)
  | list {S n A c} {cells : List V} (hc : n ≤ c) (h1 : ∀ c ∈ cells, V.one c = true ∧ V.refs c = []) (r o : Nat) (hr : cells ≠ [] → A = some ⟨r, o, none⟩ ∧ ok r)
      (hs : ∀ j c, cells[j]? = some c → (w.cell? ⟨r, o + j, none⟩).isSome)
      (he : ∀ j c, cells[j]? = some c → Rel ok w none_ c ((w.cell? ⟨r, o + j, none⟩).getD default)) : Rel ok w S (.list n cells) (.slice A n c)
  | agg {S} {cs : List V} {vs : Array Value} (h1 : ∀ c ∈ cs, V.one c = true) (hs : vs.size = cs.length) (he : ∀ j c, cs[j]? = some c → Rel ok w S c (vs.getD j default)) : Rel ok w S (.agg cs) (.agg vs)
  | tup {S} {cs : List V} {vs : Array Value} (hs : vs.size = cs.length) (he : ∀ j c, cs[j]? = some c → Rel ok w S c (vs.getD j default)) : Rel ok w S (.tup cs) (.tuple vs)
  | fn {S f} {a c : List V} {va vc : Array Value} (ha : va.size = a.length) (hea : ∀ j x, a[j]? = some x → Rel ok w S x (va.getD j default)) (hc : vc.size = c.length) (hec : ∀ j x, c[j]? = some x → Rel ok w S x (vc.getD j default)) :
      Rel ok w S (.fn (.func f) a c) (.func (.func f) va vc)
  | nilf {S} : Rel ok w S .nilf .nilFunc
  | nili {S} : Rel ok w S .nili .nilIface
  | ifc {S t x v} (h : Rel ok w S x v) : Rel ok w S (.ifc t x) (.iface t v)
  | nilm {S} : Rel ok w S .nilm (.map none)
  | map {S b e r} (h : S b = some e) (hf : e.fix = true) (hl : e.loc = some (r, 0)) : Rel ok w S (.map b) (.map (some r))
  | itr {S b e r} (h : S b = some e) (hf : e.fix = true) (hl : e.loc = some (r, 0)) : Rel ok w S (.itr b) (.pointer (some ⟨r, 0, none⟩))
  | yld {S b e r} (h : S b = some e) (hf : e.fix = true) (hl : e.loc = some (r, 0)) : Rel ok w S (.yld b) (.func (.yield r) #[] #[])

/-- Lists of values, place by place. -/
def RelL (ok : Nat → Prop) (w : World) (S : Sig) (cs : List V) (vs : Array Value) : Prop :=
  vs.size = cs.length ∧ ∀ j c, cs[j]? = some c → Rel ok w S c (vs.getD j default)

/-- S' is later than S. -/
def SigLe (S S' : Sig) : Prop := ∀ b e, S b = some e → ∃ e', S' b = some e' ∧ e.g ≤ e'.g ∧ (e.g = e'.g → e'.loc = e.loc ∧ e'.cap = e.cap ∧ e'.es = e.es) ∧ (e.fix = true → e' = e)

theorem SigLe.refl (S : Sig) : SigLe S S := fun _ e h => ⟨e, h, Nat.le_refl _, fun _ => ⟨rfl, rfl, rfl⟩, fun _ => rfl⟩
theorem SigLe.trans {A B C : Sig} (h : SigLe A B) (k : SigLe B C) : SigLe A C := fun b e hb => by
  obtain ⟨e1, h1, g1, q1, f1⟩ := h b e hb
  obtain ⟨e2, h2, g2, q2, f2⟩ := k b e1 h1
  refine ⟨e2, h2, Nat.le_trans g1 g2, fun hg => ?_, fun hf => ?_⟩
  · have : e.g = e1.g := by omega
    obtain ⟨a1, a2, a3⟩ := q1 this
    obtain ⟨b1, b2, b3⟩ := q2 (by omega)
    exact ⟨b1.trans a1, b2.trans a2, b3.trans a3⟩
  · have := f1 hf
    subst this
    exact f2 hf

theorem SigLe.none (S : Sig) : SigLe none_ S := fun _ _ h => by cases h

/-- Plain data lie where they lay. -/
def Calm (ok ok' : Nat → Prop) (w w' : World) : Prop := ∀ k, k < w.heap.size → ok k → ok' k ∧ w'.heap[k]? = w.heap[k]?

theorem Calm.cell {ok ok' : Nat → Prop} {w w' : World} (h : Calm ok ok' w w') {r o : Nat} (hr : ok r) (hs : (w.cell? ⟨r, o, none⟩).isSome) : ok' r ∧ w'.cell? ⟨r, o, none⟩ = w.cell? ⟨r, o, none⟩ := by
  have hlt : r < w.heap.size := by
    simp only [World.cell?] at hs
    cases hh : w.heap[r]? with
    | none => simp [hh] at hs
    | some x => exact (Array.getElem?_eq_some_iff.1 hh).1
  obtain ⟨h1, h2⟩ := h r hlt hr
  exact ⟨h1, World.cell?_of_block (w := w) h2⟩

theorem SlOk.later {e e' : Ent} {off len : Nat} {A : Option Addr} {c : Nat} (h : SlOk e off len A c) (hl : e'.loc = e.loc) (hc : e'.cap = e.cap) (hs : e'.es = e.es) : SlOk e' off len A c := by
  unfold SlOk at *
  rw [hl]
  cases hq : e.loc with
  | none => simpa [hq] using h
  | some p => simp only [hq] at h ⊢; rw [hc, hs]; exact h

theorem Rel.mono {ok ok' : Nat → Prop} {w w' : World} (hk : Calm ok ok' w w') {S : Sig} {v : V} {x : Value} (h : Rel ok w S v x) : ∀ {S' : Sig}, SigLe S S' → Rel ok' w' S' v x := by
  induction h with
  | undef v => intro S' _; exact .undef v
  | bool b => intro S' _; exact .bool b
  | int k n => intro S' _; exact .int k n
  | str s => intro S' _; exact .str s
  | nilp => intro S' _; exact .nilp
  | ptr h hg hl =>
    intro S' hS
    obtain ⟨e', h', g', q, _⟩ := hS _ _ h
    exact .ptr h' (by omega) (fun e1 => by
      obtain ⟨q1, _, _⟩ := q (by omega)
      rw [q1]; exact hl (by omega))
  | @pp S r o off cells hr h1 hc he ih =>
    intro S' _
    have key : ∀ j c, cells[j]? = some c → ok' r ∧ w'.cell? ⟨r, o + j, none⟩ = w.cell? ⟨r, o + j, none⟩ := fun j c hj =>
      hk.cell (hr (by rintro rfl; simp at hj)) (hc j c hj)
    refine .pp (fun hne => ?_) h1 (fun j c hj => ?_) (fun j c hj => ?_)
    · cases cells with
      | nil => exact absurd rfl hne
      | cons c cs => exact (key 0 c rfl).1
    · rw [(key j c hj).2]; exact hc j c hj
    · rw [(key j c hj).2]; exact ih j c hj (SigLe.refl _)
  | nils A => intro S' _; exact .nils A
  | sl h hg hc hA hl =>
    intro S' hS
    obtain ⟨e', h', g', q, _⟩ := hS _ _ h
    exact .sl h' (by omega) hc hA (fun e1 => by
      obtain ⟨q1, q2, q3⟩ := q (by omega)
      exact (hl (by omega)).later q1 q2 q3)
  | @list S n A c cells hc h1 r o hr hs he ih =>
    intro S' _
    have key : ∀ j c, cells[j]? = some c → ok' r ∧ w'.cell? ⟨r, o + j, none⟩ = w.cell? ⟨r, o + j, none⟩ := fun j c hj =>
      hk.cell (hr (by rintro rfl; simp at hj)).2 (hs j c hj)
    refine .list hc h1 r o (fun hne => ⟨(hr hne).1, ?_⟩) (fun j c hj => ?_) (fun j c hj => ?_)
    · cases cells with
      | nil => exact absurd rfl hne
      | cons c cs => exact (key 0 c rfl).1
    · rw [(key j c hj).2]; exact hs j c hj
    · rw [(key j c hj).2]; exact ih j c hj (SigLe.refl _)
  | agg h1 hs he ih => intro S' hS; exact .agg h1 hs (fun j c hj => ih j c hj hS)
  | tup hs he ih => intro S' hS; exact .tup hs (fun j c hj => ih j c hj hS)
  | fn ha hea hc hec iha ihc => intro S' hS; exact .fn ha (fun j c hj => iha j c hj hS) hc (fun j c hj => ihc j c hj hS)
  | nilf => intro S' _; exact .nilf
  | nili => intro S' _; exact .nili
  | ifc h ih => intro S' hS; exact .ifc (ih hS)
  | nilm => intro S' _; exact .nilm
  | map h hf hl => intro S' hS; obtain ⟨e', h', _, _, q⟩ := hS _ _ h; obtain rfl := q hf; exact .map h' hf hl
  | itr h hf hl => intro S' hS; obtain ⟨e', h', _, _, q⟩ := hS _ _ h; obtain rfl := q hf; exact .itr h' hf hl
  | yld h hf hl => intro S' hS; obtain ⟨e', h', _, _, q⟩ := hS _ _ h; obtain rfl := q hf; exact .yld h' hf hl

theorem refsL_nil {cs : List V} (h : refsL cs = []) {j : Nat} {c : V} (hj : cs[j]? = some c) : c.refs = [] := by
  induction cs generalizing j with
  | nil => simp at hj
  | cons a r ih =>
    simp only [refsL, List.append_eq_nil_iff] at h
    cases j with
    | zero => simp at hj; subst hj; exact h.1
    | succ j => exact ih h.2 (by simpa using hj)

theorem refsL_mem {cs : List V} {j : Nat} {c : V} (hj : cs[j]? = some c) {b : Nat} (hb : b ∈ c.refs) : b ∈ refsL cs := by
  induction cs generalizing j with
  | nil => simp at hj
  | cons a r ih =>
    simp only [refsL, List.mem_append]
    cases j with
    | zero => simp at hj; subst hj; exact .inl hb
    | succ j => exact .inr (ih (by simpa using hj))

/-- What names blocks of S' alone is the same under S'. -/
theorem Rel.move {ok : Nat → Prop} {w : World} {S : Sig} {v : V} {x : Value} (h : Rel ok w S v x) : ∀ {S' : Sig}, (∀ b, b ∈ v.refs → S' b = S b) → Rel ok w S' v x := by
  induction h with
  | undef v => intro S' _; exact .undef v
  | bool b => intro S' _; exact .bool b
  | int k n => intro S' _; exact .int k n
  | str s => intro S' _; exact .str s
  | nilp => intro S' _; exact .nilp
  | ptr h hg hl => intro S' hS; exact .ptr ((hS _ (by simp [V.refs])).trans h) hg hl
  | pp hr h1 hc he ih => intro S' _; exact .pp hr h1 hc he
  | nils A => intro S' _; exact .nils A
  | sl h hg hc hA hl => intro S' hS; exact .sl ((hS _ (by simp [V.refs])).trans h) hg hc hA hl
  | list hc h1 r o hr hs he ih => intro S' _; exact .list hc h1 r o hr hs he
  | agg h1 hs he ih => intro S' hS; exact .agg h1 hs (fun j c hj => ih j c hj (fun b hb => hS b (by simp only [V.refs]; exact refsL_mem hj hb)))
  | tup hs he ih => intro S' hS; exact .tup hs (fun j c hj => ih j c hj (fun b hb => hS b (by simp only [V.refs]; exact refsL_mem hj hb)))
  | fn ha hea hc hec iha ihc =>
    intro S' hS
    exact .fn ha (fun j c hj => iha j c hj (fun b hb => hS b (by simp only [V.refs, List.mem_append]; exact .inl (refsL_mem hj hb)))) hc
      (fun j c hj => ihc j c hj (fun b hb => hS b (by simp only [V.refs, List.mem_append]; exact .inr (refsL_mem hj hb))))
  | nilf => intro S' _; exact .nilf
  | nili => intro S' _; exact .nili
  | ifc h ih => intro S' hS; exact .ifc (ih (fun b hb => hS b (by simpa only [V.refs] using hb)))
  | nilm => intro S' _; exact .nilm
  | map h hf hl => intro S' hS; exact .map ((hS _ (by simp [V.refs])).trans h) hf hl
  | itr h hf hl => intro S' hS; exact .itr ((hS _ (by simp [V.refs])).trans h) hf hl
  | yld h hf hl => intro S' hS; exact .yld ((hS _ (by simp [V.refs])).trans h) hf hl

theorem Rel.pure {ok : Nat → Prop} {w : World} {S S' : Sig} {v : V} {x : Value} (h : Rel ok w S v x) (hp : v.refs = []) : Rel ok w S' v x := h.move (fun b hb => by rw [hp] at hb; cases hb)

/-- All blocks that a value names are known. -/
theorem Rel.known {ok : Nat → Prop} {w : World} {S : Sig} {v : V} {x : Value} (h : Rel ok w S v x) : ∀ b, b ∈ v.refs → (S b).isSome := by
  have hL : ∀ (S : Sig) (cs : List V), (∀ (j : Nat) (c : V), cs[j]? = some c → ∀ b, b ∈ c.refs → (S b).isSome) → ∀ b, b ∈ refsL cs → (S b).isSome := by
    intro S cs
    induction cs with
    | nil => intro _ b hb; simp [refsL] at hb
    | cons a r ih =>
      intro h b hb
      simp only [refsL, List.mem_append] at hb
      rcases hb with hb | hb
      · exact h 0 a rfl b hb
      · exact ih (fun j c hj => h (j + 1) c (by simpa using hj)) b hb
  induction h with
  | ptr h hg hl => intro b hb; simp [V.refs] at hb; subst hb; simp [h]
  | sl h hg hc hA hl => intro b hb; simp [V.refs] at hb; subst hb; simp [h]
  | agg h1 hs he ih => intro b hb; exact hL _ _ ih b (by simpa only [V.refs] using hb)
  | tup hs he ih => intro b hb; exact hL _ _ ih b (by simpa only [V.refs] using hb)
  | fn ha hea hc hec iha ihc =>
    intro b hb
    simp only [V.refs, List.mem_append] at hb
    rcases hb with hb | hb
    · exact hL _ _ iha b hb
    · exact hL _ _ ihc b hb
  | ifc h ih => intro b hb; exact ih b (by simpa only [V.refs] using hb)
  | map h hf hl => intro b hb; simp [V.refs] at hb; subst hb; simp [h]
  | itr h hf hl => intro b hb; simp [V.refs] at hb; subst hb; simp [h]
  | yld h hf hl => intro b hb; simp [V.refs] at hb; subst hb; simp [h]
  | _ => intro b hb; simp [V.refs] at hb

theorem Rel.of_ofV {ok : Nat → Prop} {w : World} {S : Sig} {x : Value} {v : V} (h : ofV x = some v) : Rel ok w S v x := by
  unfold ofV at h
  split at h <;> first
    | (cases h; done)
    | (obtain rfl := Option.some.inj h; constructor)

/-- A block in memory. -/
def BRel (ok : Nat → Prop) (w : World) (S : Sig) (e : Ent) : Blk → Prop
  | .cells ro g es cs => e.fix = false ∧ e.g = g ∧ e.ro = ro ∧ e.es = es ∧ ∃ r o arr t, e.loc = some (r, o) ∧ w.heap[r]? = some (.cells arr t (0, 0)) ∧ cs.length ≤ e.cap ∧ o + e.cap ≤ arr.size ∧
      (∀ c ∈ cs, V.one c = true) ∧ ∀ j c, cs[j]? = some c → Rel ok w S c (arr.getD (o + j) default)
  | .nilb => e.fix = false ∧ e.g = 0 ∧ e.ro = false ∧ e.loc = none
  | .map es => e.fix = true ∧ e.ro = false ∧ ∃ r ents clock, e.loc = some (r, 0) ∧ w.heap[r]? = some (.map ents clock) ∧ ents.size = es.length ∧
      ∀ j kv, es[j]? = some kv → isKey kv.1 = true ∧ Rel ok w S kv.1 (ents.getD j default).key ∧ Rel ok w S kv.2 (ents.getD j default).val
  | .sit s pos => e.fix = true ∧ e.ro = false ∧ ∃ r, e.loc = some (r, 0) ∧ w.heap[r]? = some (.stringIter s pos)
  | .loop st pend fn tm ps a b db => e.fix = true ∧ e.ro = false ∧ ∃ r d ed tmps, e.loc = some (r, 0) ∧
      w.heap[r]? = some (.loop { state := st, pending := pend, fn := fn, tmps := tmps, params := ps, assign := a, body := b, defers := d }) ∧ RelL ok w S tm tmps ∧ S db = some ed ∧ ed.fix = true ∧ ed.ro = false ∧ ed.loc = some (d, 0) ∧ codeRegs a = true ∧ codeRegs b = true
  | .defs => e.fix = true ∧ e.ro = false ∧ ∃ r, e.loc = some (r, 0) ∧ w.heap[r]? = some (.deferred (some []))
  | .gone => e.fix = true ∧ e.ro = false ∧ ∃ r, e.loc = some (r, 0)

/-- Where blocks lie. -/
structure Loc (w : World) (n0 : Nat) (S : Sig) : Prop where
  inj : ∀ b b' e e' r o o', S b = some e → S b' = some e' → e.loc = some (r, o) → e'.loc = some (r, o') → b = b'
  new : ∀ b e r o, S b = some e → e.loc = some (r, o) → n0 ≤ r ∧ r < w.heap.size
  n0 : n0 ≤ w.heap.size

structure HRel (ok : Nat → Prop) (w : World) (n0 : Nat) (S : Sig) (H : Heap) : Prop where
  blk : ∀ b e, S b = some e → ∃ k, H[b]? = some k ∧ BRel ok w S e k
  loc : Loc w n0 S

/-- What becomes of the world: of old blocks those alone turn that stand for a block in W. -/
structure Ext (W : Nat → Prop) (S : Sig) (w : World) (S' : Sig) (w' : World) : Prop where
  os : w'.os = w.os
  tape : w'.tape = w.tape
  output : w'.output = w.output
  size : w.heap.size ≤ w'.heap.size
  sig : SigLe S S'
  old : ∀ k, k < w.heap.size → (∀ b e o, W b → S b = some e → e.ro = false → e.loc ≠ some (k, o)) → w'.heap[k]? = w.heap[k]?
  own : ∀ k, Ev.own S' k → Ev.own S k ∨ w.heap.size ≤ k
  keep : ∀ b e, S b = some e → (¬ W b ∨ e.ro = true) → S' b = some e

theorem Ext.refl (W : Nat → Prop) (S : Sig) (w : World) : Ext W S w S w :=
  ⟨rfl, rfl, rfl, Nat.le_refl _, SigLe.refl S, fun _ _ _ => rfl, fun _ h => .inl h, fun _ _ h _ => h⟩

theorem Ext.drew (W : Nat → Prop) (S : Sig) (w : World) : Ext W S w S { w with drawn := w.drawn + 1 } :=
  ⟨rfl, rfl, rfl, Nat.le_refl _, SigLe.refl S, fun _ _ _ => rfl, fun _ h => .inl h, fun _ _ h _ => h⟩

/-- Where plain data may lie. -/
def okOf (base : Nat → Prop) (S : Sig) (k : Nat) : Prop := base k ∧ ¬ own S k

theorem Ext.calm {W : Nat → Prop} {S S' : Sig} {w w' : World} (x : Ext W S w S' w') (base : Nat → Prop) : Calm (okOf base S) (okOf base S') w w' := fun k hk ho =>
  ⟨⟨ho.1, fun h => (x.own k h).elim ho.2 (fun h => by omega)⟩, x.old k hk (fun b e o _ hb hro hl => ho.2 ⟨b, e, o, hb, hro, hl⟩)⟩

theorem Ext.rel {W : Nat → Prop} {S S' : Sig} {w w' : World} (x : Ext W S w S' w') {base : Nat → Prop} {v : V} {y : Value} (h : Rel (okOf base S) w S v y) : Rel (okOf base S') w' S' v y := h.mono (x.calm base) x.sig

theorem RelL.mono {ok ok' : Nat → Prop} {w w' : World} {S S' : Sig} (hk : Calm ok ok' w w') (hS : SigLe S S') {cs : List V} {vs : Array Value} (h : RelL ok w S cs vs) : RelL ok' w' S' cs vs :=
  ⟨h.1, fun j c hj => (h.2 j c hj).mono hk hS⟩

theorem Ext.relL {W : Nat → Prop} {S S' : Sig} {w w' : World} (x : Ext W S w S' w') {base : Nat → Prop} {cs : List V} {vs : Array Value} (h : RelL (okOf base S) w S cs vs) : RelL (okOf base S') w' S' cs vs := h.mono (x.calm base) x.sig

/-- A block that does not turn. -/
theorem BRel.mono {ok ok' : Nat → Prop} {w w' : World} {S S' : Sig} (hk : Calm ok ok' w w') (hS : SigLe S S') {e : Ent} {b : Blk} (h : BRel ok w S e b)
    (hr : ∀ r o, e.loc = some (r, o) → w'.heap[r]? = w.heap[r]?) : BRel ok' w' S' e b := by
  cases b with
  | cells ro g es cs =>
    obtain ⟨h1, h2, h3, h4, r, o, arr, t, hl, hh, hc, ha, ho, he⟩ := h
    exact ⟨h1, h2, h3, h4, r, o, arr, t, hl, (hr r o hl).trans hh, hc, ha, ho, fun j c hj => (he j c hj).mono hk hS⟩
  | nilb => exact h
  | map es =>
    obtain ⟨h1, h2, r, ents, clock, hl, hh, hs, he⟩ := h
    exact ⟨h1, h2, r, ents, clock, hl, (hr r 0 hl).trans hh, hs, fun j kv hj => ⟨(he j kv hj).1, (he j kv hj).2.1.mono hk hS, (he j kv hj).2.2.mono hk hS⟩⟩
  | sit s pos => obtain ⟨h1, h2, r, hl, hh⟩ := h; exact ⟨h1, h2, r, hl, (hr r 0 hl).trans hh⟩
  | loop st pend fn tm ps a b db =>
    obtain ⟨h1, h2, r, d, ed, tmps, hl, hh, ht, hd, hf, hdr, hdl, hc1, hc2⟩ := h
    obtain ⟨ed', hd', _, _, q⟩ := hS db ed hd
    obtain rfl := q hf
    exact ⟨h1, h2, r, d, _, tmps, hl, (hr r 0 hl).trans hh, ht.mono hk hS, hd', hf, hdr, hdl, hc1, hc2⟩
  | defs => obtain ⟨h1, h2, r, hl, hh⟩ := h; exact ⟨h1, h2, r, hl, (hr r 0 hl).trans hh⟩
  | gone => exact h

def Sig.put (S : Sig) (b : Nat) (e : Ent) : Sig := fun x => if x = b then some e else S x
theorem Sig.put_same (S : Sig) (b : Nat) (e : Ent) : S.put b e b = some e := by simp [Sig.put]
theorem Sig.put_other (S : Sig) {b x : Nat} (e : Ent) (h : x ≠ b) : S.put b e x = S x := by simp [Sig.put, h]

/-- One step, of the blocks and of memory. W: what is written of the blocks that were. -/
structure StepR (base : Nat → Prop) (W : Nat → Prop) (S : Sig) (w : World) (H : Heap) (S' : Sig) (w' : World) (H' : Heap) : Prop where
  ext : Ext W S w S' w'
  blk : ∀ b e, S' b = some e → (W b ∨ S b = none) → ∃ k, H'[b]? = some k ∧ BRel (okOf base S') w' S' e k
  loc : ∀ b e r o, S' b = some e → e.loc = some (r, o) → (∃ e0 o0, S b = some e0 ∧ e0.loc = some (r, o0) ∧ (e.ro = false → e0.ro = false)) ∨ (w.heap.size ≤ r ∧ r < w'.heap.size)
  inj : ∀ b b' e e' r o o', S' b = some e → S' b' = some e' → e.loc = some (r, o) → e'.loc = some (r, o') → w.heap.size ≤ r → b = b'
  dom : ∀ b, (S' b).isSome → (S b).isSome ∨ (H.length ≤ b ∧ b < H'.length)
  keep : ∀ b, b < H.length → ¬ W b → H'[b]? = H[b]?
  len : H.length ≤ H'.length

section
variable {base : Nat → Prop} {w w' : World} {n0 : Nat} {S S' : Sig} {H H' : Heap} {W : Nat → Prop}

theorem HRel.lt {ok : Nat → Prop} (h : HRel ok w n0 S H) {b : Nat} {e : Ent} (hb : S b = some e) : b < H.length := by
  obtain ⟨k, hk, _⟩ := h.blk b e hb
  exact (List.getElem?_eq_some_iff.1 hk).1

theorem HRel.none_len {ok : Nat → Prop} (h : HRel ok w n0 S H) {b : Nat} (hb : H.length ≤ b) : S b = none := by
  cases hs : S b with
  | none => rfl
  | some e => have := h.lt hs; omega

theorem StepR.locs (x : StepR base W S w H S' w' H') (h : Loc w n0 S) : Loc w' n0 S' := by
  refine ⟨fun b b' e e' r o o' hb hb' hl hl' => ?_, fun b e r o hb hl => ?_, Nat.le_trans h.n0 x.ext.size⟩
  · rcases x.loc b e r o hb hl with ⟨e0, o0, h0, hl0, _⟩ | hr
    · rcases x.loc b' e' r o' hb' hl' with ⟨e1, o1, h1, hl1, _⟩ | hr
      · exact h.inj b b' e0 e1 r o0 o1 h0 h1 hl0 hl1
      · exact x.inj b b' e e' r o o' hb hb' hl hl' hr.1
    · exact x.inj b b' e e' r o o' hb hb' hl hl' hr.1
  · rcases x.loc b e r o hb hl with ⟨e0, o0, h0, hl0, _⟩ | hr
    · have := h.new b e0 r o0 h0 hl0; exact ⟨this.1, Nat.lt_of_lt_of_le this.2 x.ext.size⟩
    · exact ⟨Nat.le_trans h.n0 hr.1, hr.2⟩

/-- A block that is not written lies as it lay. -/
theorem StepR.same (x : StepR base W S w H S' w' H') (h : Loc w n0 S) {b : Nat} {e : Ent} (hb : S b = some e) (hw : ¬ W b) {r o : Nat} (hl : e.loc = some (r, o)) : w'.heap[r]? = w.heap[r]? :=
  x.ext.old r (h.new b e r o hb hl).2 (fun b' e' o' hw' hb' _ hl' => hw (h.inj b' b e' e r o' o hb' hb hl' hl ▸ hw'))

theorem StepR.blk_old (x : StepR base W S w H S' w' H') (h : Loc w n0 S) {b : Nat} {e : Ent} {k : Blk} (hb : S b = some e) (hw : ¬ W b) (hr : BRel (okOf base S) w S e k) : S' b = some e ∧ BRel (okOf base S') w' S' e k :=
  ⟨x.ext.keep b e hb (.inl hw), hr.mono (x.ext.calm base) x.ext.sig (fun _ _ hl => x.same h hb hw hl)⟩

theorem HRel.next (h : HRel (okOf base S) w n0 S H) (x : StepR base W S w H S' w' H') : HRel (okOf base S') w' n0 S' H' := by
  refine ⟨fun b e hb => ?_, x.locs h.loc⟩
  by_cases hw : W b
  · exact x.blk b e hb (.inl hw)
  · cases hs : S b with
    | none => exact x.blk b e hb (.inr hs)
    | some e0 =>
      obtain ⟨k, hk, hr⟩ := h.blk b e0 hs
      obtain ⟨a, hr'⟩ := x.blk_old h.loc hs hw hr
      rw [hb] at a; obtain rfl := Option.some.inj a
      exact ⟨k, by rw [x.keep b (h.lt hs) hw]; exact hk, hr'⟩

theorem StepR.refl (base : Nat → Prop) (W : Nat → Prop) (S : Sig) (w : World) (H : Heap) (hw : ∀ b e, W b → S b = some e → ∃ k, H[b]? = some k ∧ BRel (okOf base S) w S e k) (h : Loc w n0 S) : StepR base W S w H S w H :=
  ⟨Ext.refl W S w, fun b e hb hw' => hw'.elim (fun hw' => hw b e hw' hb) (fun hn => by rw [hn] at hb; cases hb), fun b e r o hb hl => .inl ⟨e, o, hb, hl, id⟩,
   fun b b' e e' r o o' hb hb' hl hl' _ => h.inj b b' e e' r o o' hb hb' hl hl', fun b hb => .inl hb, fun _ _ _ => rfl, Nat.le_refl _⟩

theorem Ext.weaken {W1 : Nat → Prop} (x : Ext W S w S' w') (hw : ∀ b, W b → W1 b) : Ext W1 S w S' w' :=
  ⟨x.os, x.tape, x.output, x.size, x.sig, fun k hk h => x.old k hk (fun b e o hb => h b e o (hw b hb)), x.own, fun b e hb h => x.keep b e hb (h.imp (fun h hb => h (hw b hb)) id)⟩

theorem StepR.trans {W1 W2 : Nat → Prop} {S2 : Sig} {w2 : World} {H2 : Heap} (h : Loc w n0 S) (hdom : ∀ b, (S b).isSome → b < H.length)
    (x : StepR base W1 S w H S' w' H') (y : StepR base W2 S' w' H' S2 w2 H2) : StepR base (fun b => W1 b ∨ W2 b) S w H S2 w2 H2 := by
  have h' := x.locs h
  have hdom' : ∀ b, (S' b).isSome → b < H'.length := fun b hb => by
    rcases x.dom b hb with hb | hb
    · exact Nat.lt_of_lt_of_le (hdom b hb) x.len
    · exact hb.2
  have hlocs : ∀ b e r o, S2 b = some e → e.loc = some (r, o) → (∃ e0 o0, S b = some e0 ∧ e0.loc = some (r, o0) ∧ (e.ro = false → e0.ro = false)) ∨ (w.heap.size ≤ r ∧ r < w2.heap.size) := fun b e r o hb hl => by
    rcases y.loc b e r o hb hl with ⟨e1, o1, h1, hl1, hr1⟩ | hr
    · rcases x.loc b e1 r o1 h1 hl1 with ⟨e0, o0, h0, hl0, hr0⟩ | hr
      · exact .inl ⟨e0, o0, h0, hl0, fun a => hr0 (hr1 a)⟩
      · exact .inr ⟨hr.1, Nat.lt_of_lt_of_le hr.2 y.ext.size⟩
    · exact .inr ⟨Nat.le_trans x.ext.size hr.1, hr.2⟩
  refine ⟨⟨y.ext.os.trans x.ext.os, y.ext.tape.trans x.ext.tape, y.ext.output.trans x.ext.output, Nat.le_trans x.ext.size y.ext.size, x.ext.sig.trans y.ext.sig, fun q hq hn => ?_, fun q hq => ?_, fun b e hb hw => ?_⟩,
    fun b e hb hw => ?_, hlocs, fun b b' e e' r o o' hb hb' hl hl' hr => ?_, fun b hb => ?_, fun b hb hw => ?_, Nat.le_trans x.len y.len⟩
  · have e1 := x.ext.old q hq (fun b e o hw hb hro hl => hn b e o (.inl hw) hb hro hl)
    refine (y.ext.old q (Nat.lt_of_lt_of_le hq x.ext.size) (fun b e o hw hb hro hl => ?_)).trans e1
    rcases x.loc b e q o hb hl with ⟨e0, o0, h0, hl0, hr0⟩ | hr
    · exact hn b e0 o0 (.inr hw) h0 (hr0 hro) hl0
    · omega
  · rcases y.ext.own q hq with hq | hq
    · exact x.ext.own q hq
    · exact .inr (Nat.le_trans x.ext.size hq)
  · exact y.ext.keep b e (x.ext.keep b e hb (hw.imp (fun hn h1 => hn (.inl h1)) id)) (hw.imp (fun hn h2 => hn (.inr h2)) id)
  · by_cases hw2 : W2 b
    · exact y.blk b e hb (.inl hw2)
    · cases hs : S' b with
      | none => exact y.blk b e hb (.inr hs)
      | some e1 =>
        have hw1 : W1 b ∨ S b = none := by
          rcases hw with (hw | hw) | hw
          · exact .inl hw
          · exact absurd hw hw2
          · exact .inr hw
        obtain ⟨k, hk, hr⟩ := x.blk b e1 hs hw1
        obtain ⟨a, hr'⟩ := y.blk_old h' hs hw2 hr
        rw [hb] at a; obtain rfl := Option.some.inj a
        exact ⟨k, by rw [y.keep b (hdom' b (by simp [hs])) hw2]; exact hk, hr'⟩
  · exact (y.locs h').inj b b' e e' r o o' hb hb' hl hl'
  · rcases y.dom b hb with hb | hb
    · rcases x.dom b hb with hb | hb
      · exact .inl hb
      · exact .inr ⟨hb.1, Nat.lt_of_lt_of_le hb.2 y.len⟩
    · exact .inr ⟨Nat.le_trans x.len hb.1, hb.2⟩
  · rw [y.keep b (Nat.lt_of_lt_of_le hb x.len) (fun h => hw (.inr h)), x.keep b hb (fun h => hw (.inl h))]

/-- A new block that stands for nothing yet. -/
theorem StepR.pushNil (h : Loc w n0 S) (hn : S H.length = none) : StepR base (fun _ => False) S w H (S.put H.length ⟨false, 0, false, 0, 0, none⟩) w (H ++ [.nilb]) := by
  have q : ∀ {b : Nat} {e : Ent} {r o : Nat}, S.put H.length ⟨false, 0, false, 0, 0, none⟩ b = some e → e.loc = some (r, o) → S b = some e := fun {b e r o} hb hl => by
    by_cases he : b = H.length
    · subst he; rw [Sig.put_same] at hb; obtain rfl := Option.some.inj hb; cases hl
    · rwa [Sig.put_other _ _ he] at hb
  have hne : ∀ {b : Nat} {e : Ent}, S b = some e → b ≠ H.length := fun {b e} hb he => by rw [he, hn] at hb; cases hb
  have hsig : SigLe S (S.put H.length ⟨false, 0, false, 0, 0, none⟩) := fun b e hb => ⟨e, by rw [Sig.put_other _ _ (hne hb)]; exact hb, Nat.le_refl _, fun _ => ⟨rfl, rfl, rfl⟩, fun _ => rfl⟩
  refine ⟨⟨rfl, rfl, rfl, Nat.le_refl _, hsig, fun _ _ _ => rfl, ?_, fun b e hb _ => by rw [Sig.put_other _ _ (hne hb)]; exact hb⟩, fun b e hb hw => ?_, fun b e r o hb hl => .inl ⟨e, o, q hb hl, hl, id⟩,
    fun b b' e e' r o o' hb hb' hl hl' _ => h.inj b b' e e' r o o' (q hb hl) (q hb' hl') hl hl', fun b hb => ?_, fun b hb _ => List.getElem?_append_left hb, by simp⟩
  · rintro k ⟨b, e, o, hb, hro, hl⟩
    exact .inl ⟨b, e, o, q hb hl, hro, hl⟩
  · by_cases he : b = H.length
    · subst he; rw [Sig.put_same] at hb; obtain rfl := Option.some.inj hb
      exact ⟨.nilb, by simp, rfl, rfl, rfl, rfl⟩
    · rw [Sig.put_other _ _ he] at hb
      rcases hw with hw | hw
      · exact hw.elim
      · rw [hw] at hb; cases hb
  · by_cases he : b = H.length
    · subst he; exact .inr ⟨Nat.le_refl _, by simp⟩
    · rw [Sig.put_other _ _ he] at hb; exact .inl hb

/-- A new block of memory. -/
theorem StepR.push (h : Loc w n0 S) (hn : S H.length = none) (e : Ent) (k : Blk) (obj : Obj) (hl : e.loc = some (w.heap.size, 0))
    (hB : SigLe S (S.put H.length e) → Calm (okOf base S) (okOf base (S.put H.length e)) w (w.alloc obj) → BRel (okOf base (S.put H.length e)) (w.alloc obj) (S.put H.length e) e k) :
    StepR base (fun _ => False) S w H (S.put H.length e) (w.alloc obj) (H ++ [k]) := by
  have hne : ∀ {b : Nat} {e : Ent}, S b = some e → b ≠ H.length := fun {b e} hb he => by rw [he, hn] at hb; cases hb
  have hsig : SigLe S (S.put H.length e) := fun b e0 hb => ⟨e0, by rw [Sig.put_other _ _ (hne hb)]; exact hb, Nat.le_refl _, fun _ => ⟨rfl, rfl, rfl⟩, fun _ => rfl⟩
  have hold : ∀ q, q < w.heap.size → (w.alloc obj).heap[q]? = w.heap[q]? := fun q hq => Below.heap_alloc w obj q hq
  have hsz : (w.alloc obj).heap.size = w.heap.size + 1 := by simp
  have hx : Ext (fun _ => False) S w (S.put H.length e) (w.alloc obj) :=
    ⟨rfl, rfl, rfl, by omega, hsig, fun q hq _ => hold q hq, fun q hq => by
      obtain ⟨b, e1, o, hb, hro, hl1⟩ := hq
      by_cases he : b = H.length
      · subst he; rw [Sig.put_same] at hb; obtain rfl := Option.some.inj hb
        rw [hl] at hl1; simp only [Option.some.injEq, Prod.mk.injEq] at hl1; exact .inr (by omega)
      · rw [Sig.put_other _ _ he] at hb; exact .inl ⟨b, e1, o, hb, hro, hl1⟩,
     fun b e0 hb _ => by rw [Sig.put_other _ _ (hne hb)]; exact hb⟩
  refine ⟨hx, fun b e1 hb hw => ?_, fun b e1 r o hb h1 => ?_, fun b b' e1 e2 r o o' hb hb' h1 h2 hr => ?_, fun b hb => ?_, fun b hb _ => List.getElem?_append_left hb, by simp⟩
  · by_cases he : b = H.length
    · subst he; rw [Sig.put_same] at hb; obtain rfl := Option.some.inj hb
      exact ⟨k, by simp, hB hx.sig (hx.calm base)⟩
    · rw [Sig.put_other _ _ he] at hb
      rcases hw with hw | hw
      · exact hw.elim
      · rw [hw] at hb; cases hb
  · by_cases he : b = H.length
    · subst he; rw [Sig.put_same] at hb; obtain rfl := Option.some.inj hb
      rw [hl] at h1; simp only [Option.some.injEq, Prod.mk.injEq] at h1; exact .inr (by omega)
    · rw [Sig.put_other _ _ he] at hb; exact .inl ⟨e1, o, hb, h1, id⟩
  · have q : ∀ {b : Nat} {e1 : Ent} {o : Nat}, S.put H.length e b = some e1 → e1.loc = some (r, o) → b = H.length := fun {b e1 o} hb h1 => by
      by_cases he : b = H.length
      · exact he
      · rw [Sig.put_other _ _ he] at hb; have := (h.new b e1 r o hb h1).2; omega
    rw [q hb h1, q hb' h2]
  · by_cases he : b = H.length
    · subst he; exact .inr ⟨Nat.le_refl _, by simp⟩
    · rw [Sig.put_other _ _ he] at hb; exact .inl hb

/-- A block is turned in place: its real block holds another object. -/
theorem StepR.turn (h : Loc w n0 S) {b : Nat} {e e' : Ent} {r o : Nat} (hb : S b = some e) (hro : e.ro = false) (hl : e.loc = some (r, o)) (hlt : b < H.length)
    (hg : e.g ≤ e'.g) (hq : e.g = e'.g → e'.loc = e.loc ∧ e'.cap = e.cap ∧ e'.es = e.es) (hf : e.fix = true → e' = e) (hl' : ∃ o', e'.loc = some (r, o'))
    (hos : w'.os = w.os) (htp : w'.tape = w.tape) (hout : w'.output = w.output) (hsz : w'.heap.size = w.heap.size) (hold : ∀ q, q ≠ r → w'.heap[q]? = w.heap[q]?) (k : Blk)
    (hB : SigLe S (S.put b e') → Calm (okOf base S) (okOf base (S.put b e')) w w' → BRel (okOf base (S.put b e')) w' (S.put b e') e' k) :
    StepR base (fun x => x = b) S w H (S.put b e') w' (H.set b k) := by
  obtain ⟨o', hl'⟩ := hl'
  have hsig : SigLe S (S.put b e') := fun x e0 hx => by
    by_cases hxb : x = b
    · subst hxb; rw [hb] at hx; obtain rfl := Option.some.inj hx
      exact ⟨e', Sig.put_same _ _ _, hg, hq, hf⟩
    · exact ⟨e0, by rw [Sig.put_other _ _ hxb]; exact hx, Nat.le_refl _, fun _ => ⟨rfl, rfl, rfl⟩, fun _ => rfl⟩
  have hx : Ext (fun x => x = b) S w (S.put b e') w' :=
    ⟨hos, htp, hout, by omega, hsig, fun q hq hn => hold q (fun he => hn b e o rfl hb hro (he ▸ hl)), fun q hq => by
      obtain ⟨x, e1, o1, hx, hr1, hl1⟩ := hq
      by_cases hxb : x = b
      · subst hxb; rw [Sig.put_same] at hx; obtain rfl := Option.some.inj hx
        rw [hl'] at hl1; simp only [Option.some.injEq, Prod.mk.injEq] at hl1; exact .inl ⟨x, e, o, hb, hro, by rw [hl, hl1.1]⟩
      · rw [Sig.put_other _ _ hxb] at hx; exact .inl ⟨x, e1, o1, hx, hr1, hl1⟩,
     fun x e0 hx hw => by
      by_cases hxb : x = b
      · subst hxb; rw [hb] at hx; obtain rfl := Option.some.inj hx; rcases hw with hw | hw
        · exact absurd rfl hw
        · rw [hro] at hw; cases hw
      · rw [Sig.put_other _ _ hxb]; exact hx⟩
  refine ⟨hx, fun x e1 hx1 hw => ?_, fun x e1 r1 o1 hx1 h1 => ?_, fun x x' e1 e2 r1 o1 o2 hx1 hx2 h1 h2 hr => ?_, fun x hx1 => ?_, fun x hx1 hw => by rw [List.getElem?_set_ne (fun h => hw h.symm)], by simp⟩
  · by_cases hxb : x = b
    · subst hxb; rw [Sig.put_same] at hx1; obtain rfl := Option.some.inj hx1
      exact ⟨k, by simp [hlt], hB hx.sig (hx.calm base)⟩
    · rw [Sig.put_other _ _ hxb] at hx1
      rcases hw with hw | hw
      · exact absurd hw hxb
      · rw [hw] at hx1; cases hx1
  · by_cases hxb : x = b
    · subst hxb; rw [Sig.put_same] at hx1; obtain rfl := Option.some.inj hx1
      rw [hl'] at h1; simp only [Option.some.injEq, Prod.mk.injEq] at h1; exact .inl ⟨e, o, hb, by rw [hl, h1.1], fun _ => hro⟩
    · rw [Sig.put_other _ _ hxb] at hx1; exact .inl ⟨e1, o1, hx1, h1, id⟩
  · have q : ∀ {x : Nat} {e1 : Ent} {o1 : Nat}, S.put b e' x = some e1 → e1.loc = some (r1, o1) → r1 < w.heap.size := fun {x e1 o1} hx1 h1 => by
      by_cases hxb : x = b
      · subst hxb; rw [Sig.put_same] at hx1; obtain rfl := Option.some.inj hx1
        rw [hl'] at h1; simp only [Option.some.injEq, Prod.mk.injEq] at h1; rw [← h1.1]; exact (h.new x e r o hb hl).2
      · rw [Sig.put_other _ _ hxb] at hx1; exact (h.new x e1 r1 o1 hx1 h1).2
    have := q hx1 h1; omega
  · by_cases hxb : x = b
    · subst hxb; exact .inl (by simp [hb])
    · rw [Sig.put_other _ _ hxb] at hx1; exact .inl hx1

/-- A block moves into a new object. -/
theorem StepR.moved (h : Loc w n0 S) {b : Nat} {e e' : Ent} (hb : S b = some e) (hro : e.ro = false) (hlt : b < H.length) (hg : e.g < e'.g) (hf : e.fix = false) (obj : Obj) (hl' : e'.loc = some (w.heap.size, 0))
    (hos : w'.os = w.os) (htp : w'.tape = w.tape) (hout : w'.output = w.output) (hhp : w'.heap = w.heap.push obj) (k : Blk)
    (hB : SigLe S (S.put b e') → Calm (okOf base S) (okOf base (S.put b e')) w w' → BRel (okOf base (S.put b e')) w' (S.put b e') e' k) :
    StepR base (fun x => x = b) S w H (S.put b e') w' (H.set b k) := by
  have hsig : SigLe S (S.put b e') := fun x e0 hx => by
    by_cases hxb : x = b
    · subst hxb; rw [hb] at hx; obtain rfl := Option.some.inj hx
      exact ⟨e', Sig.put_same _ _ _, Nat.le_of_lt hg, fun hc => by omega, fun hc => by rw [hf] at hc; cases hc⟩
    · exact ⟨e0, by rw [Sig.put_other _ _ hxb]; exact hx, Nat.le_refl _, fun _ => ⟨rfl, rfl, rfl⟩, fun _ => rfl⟩
  have hsz : w'.heap.size = w.heap.size + 1 := by rw [hhp]; simp
  have hx : Ext (fun x => x = b) S w (S.put b e') w' :=
    ⟨hos, htp, hout, by omega, hsig, fun q hq _ => by rw [hhp, Array.getElem?_push, if_neg (by omega)], fun q hq => by
      obtain ⟨x, e1, o1, hx, hr1, hl1⟩ := hq
      by_cases hxb : x = b
      · subst hxb; rw [Sig.put_same] at hx; obtain rfl := Option.some.inj hx
        rw [hl'] at hl1; simp only [Option.some.injEq, Prod.mk.injEq] at hl1; exact .inr (by omega)
      · rw [Sig.put_other _ _ hxb] at hx; exact .inl ⟨x, e1, o1, hx, hr1, hl1⟩,
     fun x e0 hx hw => by
      by_cases hxb : x = b
      · subst hxb; rw [hb] at hx; obtain rfl := Option.some.inj hx; rcases hw with hw | hw
        · exact absurd rfl hw
        · rw [hro] at hw; cases hw
      · rw [Sig.put_other _ _ hxb]; exact hx⟩
  refine ⟨hx, fun x e1 hx1 hw => ?_, fun x e1 r1 o1 hx1 h1 => ?_, fun x x' e1 e2 r1 o1 o2 hx1 hx2 h1 h2 hr => ?_, fun x hx1 => ?_, fun x hx1 hw => by rw [List.getElem?_set_ne (fun h => hw h.symm)], by simp⟩
  · by_cases hxb : x = b
    · subst hxb; rw [Sig.put_same] at hx1; obtain rfl := Option.some.inj hx1
      exact ⟨k, by simp [hlt], hB hx.sig (hx.calm base)⟩
    · rw [Sig.put_other _ _ hxb] at hx1
      rcases hw with hw | hw
      · exact absurd hw hxb
      · rw [hw] at hx1; cases hx1
  · by_cases hxb : x = b
    · subst hxb; rw [Sig.put_same] at hx1; obtain rfl := Option.some.inj hx1
      rw [hl'] at h1; simp only [Option.some.injEq, Prod.mk.injEq] at h1; exact .inr (by omega)
    · rw [Sig.put_other _ _ hxb] at hx1; exact .inl ⟨e1, o1, hx1, h1, id⟩
  · have q : ∀ {x : Nat} {e1 : Ent} {o1 : Nat}, S.put b e' x = some e1 → e1.loc = some (r1, o1) → x = b := fun {x e1 o1} hx1 h1 => by
      by_cases hxb : x = b
      · exact hxb
      · rw [Sig.put_other _ _ hxb] at hx1; have := (h.new x e1 r1 o1 hx1 h1).2; omega
    rw [q hx1 h1, q hx2 h2]
  · by_cases hxb : x = b
    · subst hxb; exact .inl (by simp [hb])
    · rw [Sig.put_other _ _ hxb] at hx1; exact .inl hx1
end
end Go.Ev
