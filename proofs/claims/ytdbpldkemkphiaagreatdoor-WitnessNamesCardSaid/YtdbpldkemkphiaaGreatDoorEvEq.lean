/- '==' of structs whose fields are bools, whole numbers, texts, each one cell. -/
import Derived.Test.YtdbpldkemkphiaaGreatDoorEvEn
namespace Go.Ev
variable [Glb]
open Go.RowKit Go.MapKept

/-- Fields of given kinds, one cell each, from cell 'off' on. -/
def flatFields (P : Program) : Nat → List Field → List UK → Bool
  | _, [], [] => true
  | off, f :: fs, k :: ks => f.name != "_" && f.offset == off && (match P.underlying f.type, k with
      | some .bool, .bool => true
      | some (.int a), .int b => a == b
      | some .string, .str => true
      | _, _ => false) && flatFields P (off + 1) fs ks
  | _, _, _ => false

section
variable {P : Program}

omit [Glb] in
theorem equal_sca {d : Nat} {t : TypeId} {k : UK} {x y : V} {u v : Value} {b : Bool} (w : World) (hk : (match P.underlying t, k with
      | some .bool, .bool => true
      | some (.int a), .int b => a == b
      | some .string, .str => true
      | _, _ => false) = true) (hx : fitsK [k] [x] = true) (hy : fitsK [k] [y] = true) (hu : ofV u = some x) (hv : ofV v = some y) (he : eqCells [x] [y] = some b) : (Op.equalIn (d + 1) t u v).run P w = .ok b w := by
  have inv : ∀ {z : Value} {q : V}, ofV z = some q → (∀ b, q = .bool b → z = .bool b) ∧ (∀ k n, q = .int k n → z = .int k n) ∧ (∀ s, q = .str s → z = .string s) := fun {z q} h => by
    unfold ofV at h
    split at h <;> first
      | (cases h; done)
      | (obtain rfl := Option.some.inj h; refine ⟨?_, ?_, ?_⟩ <;> intros <;> simp_all)
  split at hk
  · rename_i hd
    cases x <;> first | (simp [fitsK] at hx; done) | skip
    cases y <;> first | (simp [fitsK] at hy; done) | skip
    rw [(inv hu).1 _ rfl, (inv hv).1 _ rfl]
    simp only [eqCells, Option.some.injEq, Bool.and_true] at he
    subst he
    simp only [Op.equalIn, Sem.run_bind, run_underlying hd, Result.andThen_ok, Sem.run_pure]
  · rename_i a c hd
    cases x <;> first | (simp [fitsK] at hx; done) | skip
    cases y <;> first | (simp [fitsK] at hy; done) | skip
    rw [(inv hu).2.1 _ _ rfl, (inv hv).2.1 _ _ rfl]
    simp only [fitsK, Bool.and_true, beq_iff_eq] at hx hy
    subst hx; subst hy
    simp only [eqCells, if_true, Option.some.injEq, Bool.and_true] at he
    subst he
    simp only [Op.equalIn, Sem.run_bind, run_underlying hd, Result.andThen_ok, if_true, Sem.run_pure]
  · rename_i hd
    cases x <;> first | (simp [fitsK] at hx; done) | skip
    cases y <;> first | (simp [fitsK] at hy; done) | skip
    rename_i s1 s2
    rw [(inv hu).2.2 _ rfl, (inv hv).2.2 _ rfl]
    simp only [eqCells, Option.some.injEq, Bool.and_true] at he
    subst he
    exact run_equalIn_string w d t s1 s2 hd
  · cases hk

omit [Glb] in
theorem part_flat {t : TypeId} {k : UK} {vx : Array Value} {off : Nat} (w : World) (hk : (match P.underlying t, k with
      | some .bool, .bool => true
      | some (.int a), .int b => a == b
      | some .string, .str => true
      | _, _ => false) = true) (hlt : off < vx.size) : (Go.part t vx off).run P w = .ok (vx.getD off default) w := by
  have hag : (isAgg t).run P w = .ok false w := by
    split at hk <;> first
      | (rename_i hd; simp [isAgg, run_underlying hd]; done)
      | (rename_i hd _; simp [isAgg, run_underlying hd]; done)
      | (cases hk; done)
      | (rename_i a c hd; simp [isAgg, run_underlying hd])
  have hg : vx[off]? = some (vx.getD off default) := by rw [Array.getD_eq_getD_getElem?, Array.getElem?_eq_getElem hlt]; rfl
  simp only [Go.part, Sem.run_bind, hag, Result.andThen_ok, Bool.false_eq_true, if_false, hg, Sem.run_pure]

omit [Glb] in
theorem fitsK_cons {k : UK} {ks : List UK} {x : V} {xs : List V} (h : fitsK (k :: ks) (x :: xs) = true) : fitsK [k] [x] = true ∧ fitsK ks xs = true := by
  cases k <;> cases x <;> simp_all [fitsK]

omit [Glb] in
theorem fitsK_len : ∀ {ks : List UK} {xs : List V}, fitsK ks xs = true → xs.length = ks.length
  | [], [], _ => rfl
  | [], _ :: _, h => by simp [fitsK] at h
  | k :: ks, [], h => by cases k <;> simp [fitsK] at h
  | k :: ks, x :: xs, h => by simp [fitsK_len (fitsK_cons h).2]

omit [Glb] in
theorem eqFields_ok (d : Nat) (w : World) {vx vy : Array Value} : ∀ (fs : List Field) (ks : List UK) (xs ys : List V) (off : Nat) (b : Bool), flatFields P off fs ks = true → fitsK ks xs = true → fitsK ks ys = true → eqCells xs ys = some b →
    (∀ j c, xs[j]? = some c → ofV (vx.getD (off + j) default) = some c ∧ off + j < vx.size) → (∀ j c, ys[j]? = some c → ofV (vy.getD (off + j) default) = some c ∧ off + j < vy.size) → (Op.eqFields (d + 1) vx vy fs).run P w = .ok b w
  | [], [], [], [], off, b, _, _, _, he, _, _ => by simp only [eqCells, Option.some.injEq] at he; subst he; rfl
  | [], [], _ :: _, _, _, _, _, h, _, _, _, _ => by simp [fitsK] at h
  | [], [], [], _ :: _, _, _, _, _, h, _, _, _ => by simp [fitsK] at h
  | [], _ :: _, _, _, _, _, h, _, _, _, _, _ => by simp [flatFields] at h
  | _ :: _, [], _, _, _, _, h, _, _, _, _, _ => by simp [flatFields] at h
  | _ :: _, _ :: _, [], _, _, _, _, h, _, _, _, _ => by have := fitsK_len h; simp at this
  | _ :: _, _ :: _, _ :: _, [], _, _, _, _, h, _, _, _ => by have := fitsK_len h; simp at this
  | f :: fs, k :: ks, x :: xs, y :: ys, off, b, hf, hx, hy, he, h1, h2 => by
    simp only [flatFields, Bool.and_eq_true, bne_iff_ne, ne_eq, beq_iff_eq] at hf
    obtain ⟨⟨⟨hn, ho⟩, hk⟩, hrest⟩ := hf
    obtain ⟨hx1, hx2⟩ := fitsK_cons hx
    obtain ⟨hy1, hy2⟩ := fitsK_cons hy
    obtain ⟨u1, u2⟩ := h1 0 x rfl
    obtain ⟨v1, v2⟩ := h2 0 y rfl
    simp only [Nat.add_zero] at u1 u2 v1 v2
    have hsplit : ∃ p q, eqCells [x] [y] = some p ∧ eqCells xs ys = some q ∧ b = (p && q) := by
      simp only [eqCells] at he ⊢
      split at he
      · rename_i p q e1 e2
        exact ⟨p, q, by rw [e1]; simp, e2, (Option.some.inj he).symm⟩
      · cases he
    obtain ⟨p, q, e1, e2, rfl⟩ := hsplit
    have hp := equal_sca (d := d) w hk hx1 hy1 u1 v1 e1
    have ih := eqFields_ok d w fs ks xs ys (off + 1) q hrest hx2 hy2 e2 (fun j c hj => by
      have := h1 (j + 1) c (by simpa using hj)
      rwa [show off + (j + 1) = off + 1 + j by omega] at this) (fun j c hj => by
      have := h2 (j + 1) c (by simpa using hj)
      rwa [show off + (j + 1) = off + 1 + j by omega] at this)
    simp only [Op.eqFields, ne_eq, hn, not_false_eq_true, if_true, Sem.run_bind, ho, part_flat w hk u2, part_flat w hk v2, Result.andThen_ok, hp]
    cases p
    · simp
    · simpa using ih

omit [Glb] in
theorem eqLaw_struct {t : TypeId} {fs : Array Field} {ks : List UK} (hu : P.underlying t = some (.struct fs)) (hp : P.stoodInHeld t = false) (hf : flatFields P 0 fs.toList ks = true) : EqLaw P t ks := by
  intro xs ys vx vy b w hx hy he hsx hsy h1 h2
  have hfo : P.fieldsOf t = fs := by simp [Program.fieldsOf, hu]
  show (Op.equalIn (9998 + 1 + 1) t (.agg vx) (.agg vy)).run P w = _
  rw [run_equalIn_struct w (9998 + 1) t vx vy (by rw [hfo]; exact hu) hp, hfo]
  exact eqFields_ok 9998 w fs.toList ks xs ys 0 b hf hx hy he (fun j c hj => ⟨by rw [Nat.zero_add]; exact h1 j c hj, by rw [Nat.zero_add, hsx]; exact (List.getElem?_eq_some_iff.1 hj).1⟩) (fun j c hj => ⟨by rw [Nat.zero_add]; exact h2 j c hj, by rw [Nat.zero_add, hsy]; exact (List.getElem?_eq_some_iff.1 hj).1⟩)
end
end Go.Ev
