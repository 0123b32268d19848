/- Operations that turn no memory. -/
import Derived.Test.YtdbpldkemkphiaaGreatDoorEvD
namespace Go.Ev
variable [Glb]
open Go.RowKit

/-- The model's value of a bool, a whole number, a text. -/
def valOf : V → Value
  | .bool b => .bool b
  | .int k n => .int k n
  | .str s => .string s
  | _ => undef

def V.sca : V → Bool
  | .bool _ | .int _ _ | .str _ => true
  | _ => false

section
variable {P : Program} {E : Env} {base : Nat → Prop} {n0 : Nat} {w : World} {S : Sig} {H : Heap} {a : Act} {tm : List V} {o : Oper}

omit [Glb] in
theorem rel_valOf {ok : Nat → Prop} {v : V} (h : v.sca = true) : Rel ok w S v (valOf v) := by cases v <;> first | (cases h; done) | constructor

omit [Glb] in
theorem Rel.int_inv {ok : Nat → Prop} {k : IntKind} {n : Int} {x : Value} (h : Rel ok w S (.int k n) x) : x = .int k n := by cases h; rfl
omit [Glb] in
theorem Rel.bool_inv {ok : Nat → Prop} {b : Bool} {x : Value} (h : Rel ok w S (.bool b) x) : x = .bool b := by cases h; rfl
omit [Glb] in
theorem Rel.str_inv {ok : Nat → Prop} {s : ByteArray} {x : Value} (h : Rel ok w S (.str s) x) : x = .string s := by cases h; rfl

omit [Glb] in
theorem op_nilCheck (hl : Loc w n0 S) (h : RelL (okOf base S) w S tm a.tmps) {x : Operand} (ho : o.op = .nilCheck x) {v : V} (hv : evo tm x = some v)
    (hf : (∃ b g off, v = .ptr b g off) ∨ (∃ cs off, v = .pp cs off) ∨ (∃ f p q, v = .fn (.func f) p q)) : OpVal P base nobody S w H a.eval o v H := by
  have hr := evo_rel h hv
  refine .pure hl (x := a.eval x) ?_ hr
  generalize hy : a.eval x = y at hr
  rcases hf with ⟨b, g, off, rfl⟩ | ⟨cs, off, rfl⟩ | ⟨f, p, q, rfl⟩ <;> cases hr <;> simp [execOp, ho, hy]

omit [Glb] in
theorem intOp_run {op : BinOp} {t : TypeId} {k : IntKind} {x y : Int} {v : V} (h : intOp op k x y = some v) (hs : op ≠ .shl ∧ op ≠ .shr) : v.sca = true ∧ (binOp op t (.int k x) (.int k y)).run P w = .ok (valOf v) w := by
  cases op <;> simp only [intOp] at h <;> first
    | (exact absurd rfl hs.1)
    | (exact absurd rfl hs.2)
    | (split at h
       · cases h
       · obtain rfl := Option.some.inj h
         exact ⟨rfl, by simp [binOp, Op.intDiv, valOf, *]⟩)
    | (obtain rfl := Option.some.inj h
       exact ⟨rfl, by simp [binOp, Op.intArith, Op.intBits, Op.intCmp, valOf]⟩)

omit [Glb] in
theorem shiftOp_run {op : BinOp} {t : TypeId} {k k' : IntKind} {x y : Int} {v : V} (h : shiftOp op k x y = some v) : v.sca = true ∧ (binOp op t (.int k x) (.int k' y)).run P w = .ok (valOf v) w := by
  unfold shiftOp at h
  split at h
  · cases h
  · rename_i hy
    cases op <;> simp only at h <;> first
      | (cases h; done)
      | (obtain rfl := Option.some.inj h; exact ⟨rfl, by simp [binOp, Op.shift, valOf, hy]⟩)

omit [Glb] in
theorem strOp_run {op : BinOp} {t : TypeId} {x y : ByteArray} {v : V} (h : strOp op x y = some v) : v.sca = true ∧ (binOp op t (.string x) (.string y)).run P w = .ok (valOf v) w := by
  cases op <;> simp only [strOp] at h <;> first
    | (cases h; done)
    | (split at h
       · rename_i hc
         obtain rfl := Option.some.inj h
         refine ⟨rfl, ?_⟩
         have : ¬ (((x.size + y.size : Nat) : Int) > IntKind.i64.max) := by
           have : IntKind.i64.max = 9223372036854775807 := by decide
           omega
         simp only [binOp, Op.stringOp, if_neg this]
         rfl
       · cases h)
    | (obtain rfl := Option.some.inj h
       exact ⟨rfl, by simp [binOp, Op.stringOp, valOf]⟩)

omit [Glb] in
theorem run_equal_bool {t : TypeId} {x y : Bool} (h : P.underlying t = some .bool) : (Op.equal t (.bool x) (.bool y)).run P w = .ok (x == y) w := run_equalIn_bool' w 9999 t x y h

omit [Glb] in
theorem eqGuard_plain {op : BinOp} {t : TypeId} {x y : Operand} {u v : Value} (h : (∀ p, u ≠ .agg p) ∨ (∀ p, v ≠ .agg p)) (h2 : u ≠ .nilIface ∨ v ≠ .nilIface) : (eqGuard op t x y u v).run P w = .ok () w := by
  cases u <;> cases v <;> first
    | (exfalso; rcases h2 with h2 | h2; exact h2 rfl; exact h2 rfl)
    | (exfalso; rcases h with h | h; exact h _ rfl; exact h _ rfl)
    | (cases op <;> simp [eqGuard])

omit [Glb] in
theorem eqGuard_nil {op : BinOp} {t : TypeId} {x y : Operand} (h : Region.isConst x = true ∨ Region.isConst y = true) : (eqGuard op t x y .nilIface .nilIface).run P w = .ok () w := by
  cases op <;> cases x <;> cases y <;> first
    | (exfalso; rcases h with h | h <;> cases h; done)
    | (simp [eqGuard]; done)

omit [Glb] in
theorem run_equalIn_held_nil (n : Nat) {t u : TypeId} {ms : Array (String × TypeId)} {v : Value} (h : P.underlying t = some (.interface ms)) : (Op.equalIn (n + 1) t (.iface u v) .nilIface).run P w = .ok false w := by
  simp only [Op.equalIn, Sem.run_bind, run_underlying h, Result.andThen_ok, Sem.run_pure]
omit [Glb] in
theorem run_equalIn_nil_held (n : Nat) {t u : TypeId} {ms : Array (String × TypeId)} {v : Value} (h : P.underlying t = some (.interface ms)) : (Op.equalIn (n + 1) t .nilIface (.iface u v)).run P w = .ok false w := by
  simp only [Op.equalIn, Sem.run_bind, run_underlying h, Result.andThen_ok, Sem.run_pure]
omit [Glb] in
theorem run_equalIn_nil2 (n : Nat) {t : TypeId} {ms : Array (String × TypeId)} (h : P.underlying t = some (.interface ms)) : (Op.equalIn (n + 1) t .nilIface .nilIface).run P w = .ok true w := by
  simp only [Op.equalIn, Sem.run_bind, run_underlying h, Result.andThen_ok, Sem.run_pure]
omit [Glb] in
theorem run_equal_held_nil {t u : TypeId} {ms : Array (String × TypeId)} {v : Value} (h : P.underlying t = some (.interface ms)) : (Op.equal t (.iface u v) .nilIface).run P w = .ok false w := run_equalIn_held_nil 9999 h
omit [Glb] in
theorem run_equal_nil_held {t u : TypeId} {ms : Array (String × TypeId)} {v : Value} (h : P.underlying t = some (.interface ms)) : (Op.equal t .nilIface (.iface u v)).run P w = .ok false w := run_equalIn_nil_held 9999 h
omit [Glb] in
theorem run_equal_nil2 {t : TypeId} {ms : Array (String × TypeId)} (h : P.underlying t = some (.interface ms)) : (Op.equal t .nilIface .nilIface).run P w = .ok true w := run_equalIn_nil2 9999 h

omit [Glb] in
theorem binOp_eql {t : TypeId} {x y : Value} {b : Bool} (h : (Op.equal t x y).run P w = .ok b w) (hx : (∃ p, x = .agg p ∧ ∃ q, y = .agg q) ∨ (∃ p, x = .bool p ∧ ∃ q, y = .bool q) ∨ (x = .nilIface) ∨ (∃ u v, x = .iface u v)) :
    (binOp .eql t x y).run P w = .ok (.bool b) w ∧ (binOp .neq t x y).run P w = .ok (.bool (!b)) w := by
  rcases hx with ⟨p, rfl, q, rfl⟩ | ⟨p, rfl, q, rfl⟩ | rfl | ⟨u, v, rfl⟩ <;> constructor <;> first
    | (simp [binOp, h]; done)
    | (cases y <;> simp [binOp, h])

omit [Glb] in
theorem eqCells_sca : ∀ {xs ys : List V} {b : Bool}, eqCells xs ys = some b → (∀ c ∈ xs, c.sca = true) ∧ (∀ c ∈ ys, c.sca = true) ∧ xs.length = ys.length
  | [], [], _, _ => ⟨fun _ h => (List.not_mem_nil h).elim, fun _ h => (List.not_mem_nil h).elim, rfl⟩
  | [], _ :: _, _, h => by cases h
  | _ :: _, [], _, h => by cases h
  | x :: xs, y :: ys, b, h => by
    simp only [eqCells] at h
    split at h
    · rename_i p q h1 h2
      obtain ⟨a1, a2, a3⟩ := eqCells_sca h2
      have hxy : x.sca = true ∧ y.sca = true := by
        split at h1 <;> first | exact ⟨rfl, rfl⟩ | cases h1
      exact ⟨fun c hc => by rcases List.mem_cons.1 hc with rfl | hc; exact hxy.1; exact a1 c hc, fun c hc => by rcases List.mem_cons.1 hc with rfl | hc; exact hxy.2; exact a2 c hc, by simp [a3]⟩
    · cases h

omit [Glb] in
theorem Rel.ofV {ok : Nat → Prop} {v : V} {x : Value} (h : Rel ok w S v x) (hs : v.sca = true) : ofV x = some v := by
  cases h <;> first | (cases hs; done) | rfl

theorem op_binOp (hE : EnvOk P E) (hl : Loc w n0 S) (h : RelL (okOf base S) w S tm a.tmps) {op : BinOp} {t t' : TypeId} {x y : Operand} (ho : o.op = .binOp op t x y t') {u v r : V} (hx : evo tm x = some u) (hy : evo tm y = some v)
    (hr : binop E op t u v = some r) : OpVal P base nobody S w H a.eval o r H := by
  have hru := evo_rel h hx
  have hrv := evo_rel h hy
  generalize hxx : a.eval x = xx at hru
  generalize hyy : a.eval y = yy at hrv
  have fin : ∀ z, (eqGuard op t x y xx yy).run P w = .ok () w → (binOp op t xx yy).run P w = .ok z w → Rel (okOf base S) w S r z → OpVal P base nobody S w H a.eval o r H := fun z h1 h2 h3 =>
    .pure hl (x := z) (by simp [execOp, ho, hxx, hyy, h1, h2]) h3
  unfold binop at hr
  split at hr
  · obtain rfl := hru.int_inv
    obtain rfl := hrv.int_inv
    have hg := eqGuard_plain (P := P) (w := w) (op := op) (t := t) (x := x) (y := y) (u := .int ‹_› ‹_›) (v := .int ‹_› ‹_›) (.inl (fun p hp => by cases hp)) (.inl (fun hp => by cases hp))
    split at hr
    · obtain ⟨h1, h2⟩ := shiftOp_run (P := P) (w := w) (t := t) hr
      exact fin _ (eqGuard_plain (.inl (fun p hp => by cases hp)) (.inl (fun hp => by cases hp))) h2 (rel_valOf h1)
    · obtain ⟨h1, h2⟩ := shiftOp_run (P := P) (w := w) (t := t) hr
      exact fin _ (eqGuard_plain (.inl (fun p hp => by cases hp)) (.inl (fun hp => by cases hp))) h2 (rel_valOf h1)
    · rename_i hn1 hn2
      split at hr
      · rename_i hk
        subst hk
        obtain ⟨h1, h2⟩ := intOp_run (P := P) (w := w) (t := t) hr ⟨fun he => hn1 he, fun he => hn2 he⟩
        exact fin _ (eqGuard_plain (.inl (fun p hp => by cases hp)) (.inl (fun hp => by cases hp))) h2 (rel_valOf h1)
      · cases hr
  · obtain rfl := hru.str_inv
    obtain rfl := hrv.str_inv
    obtain ⟨h1, h2⟩ := strOp_run (P := P) (w := w) (t := t) hr
    exact fin _ (eqGuard_plain (.inl (fun p hp => by cases hp)) (.inl (fun hp => by cases hp))) h2 (rel_valOf h1)
  · obtain rfl := hru.bool_inv
    obtain rfl := hrv.bool_inv
    split at hr
    · rename_i p q hk
      have hu := hE.kind t _ hk
      obtain ⟨e1, e2⟩ := binOp_eql (run_equal_bool (w := w) (x := p) (y := q) hu) (.inr (.inl ⟨p, rfl, q, rfl⟩))
      have hg := fun op => eqGuard_plain (P := P) (w := w) (op := op) (t := t) (x := x) (y := y) (u := .bool p) (v := .bool q) (.inl (fun p hp => by cases hp)) (.inl (fun hp => by cases hp))
      split at hr
      · obtain rfl := Option.some.inj hr; exact fin _ (hg _) e1 (.bool _)
      · obtain rfl := Option.some.inj hr; exact fin _ (hg _) e2 (.bool _)
      · cases hr
    · cases hr
  · split at hr
    · rename_i xs ys _ ks ht
      split at hr
      case isFalse => cases hr
      rename_i hfit
      simp only [Bool.and_eq_true] at hfit
      obtain ⟨hm, hlaw⟩ := hE.eqt t ks ht
      have hu' := hru
      have hv' := hrv
      cases hu' with
      | @agg _ _ vx h1 hs he =>
        cases hv' with
        | @agg _ _ vy h1' hs' he' =>
          have key : ∀ b, eqCells xs ys = some b → (Op.equal t (.agg vx) (.agg vy)).run P w = .ok b w := fun b hb => by
            obtain ⟨c1, c2, _⟩ := eqCells_sca hb
            exact hlaw xs ys _ _ b w hfit.1 hfit.2 hb hs hs' (fun j c hj => (he j c hj).ofV (c1 c (List.mem_of_getElem? hj))) (fun j c hj => (he' j c hj).ofV (c2 c (List.mem_of_getElem? hj)))
          have hg := fun op => run_eqGuard_agg w op t x y vx vy hm
          split at hr
          · cases hb : eqCells xs ys with
            | none => rw [hb] at hr; cases hr
            | some b => rw [hb] at hr; obtain rfl := Option.some.inj hr; exact fin _ (hg _) (binOp_eql (key b hb) (.inl ⟨_, rfl, _, rfl⟩)).1 (.bool _)
          · cases hb : eqCells xs ys with
            | none => rw [hb] at hr; cases hr
            | some b => rw [hb] at hr; obtain rfl := Option.some.inj hr; exact fin _ (hg _) (binOp_eql (key b hb) (.inl ⟨_, rfl, _, rfl⟩)).2 (.bool _)
          · cases hr
    · cases hr
  · split at hr
    · rename_i t1 v1 hi
      obtain ⟨d, hd, hms⟩ := hE.iface t true hi
      obtain ⟨ms, rfl⟩ := hms.2 rfl
      cases hru
      cases hrv
      rename_i v1' _
      have hg := fun op => eqGuard_plain (P := P) (w := w) (op := op) (t := t) (x := x) (y := y) (u := .nilIface) (v := .iface t1 v1') (.inl (fun p hp => by cases hp)) (.inr (fun hp => by cases hp))
      obtain ⟨e1, e2⟩ := binOp_eql (run_equal_nil_held (w := w) (u := t1) (v := v1') hd) (.inr (.inr (.inl rfl)))
      split at hr
      · obtain rfl := Option.some.inj hr; exact fin _ (hg _) e1 (.bool _)
      · obtain rfl := Option.some.inj hr; exact fin _ (hg _) e2 (.bool _)
      · cases hr
    · cases hr
  · split at hr
    · rename_i t1 v1 hi
      obtain ⟨d, hd, hms⟩ := hE.iface t true hi
      obtain ⟨ms, rfl⟩ := hms.2 rfl
      cases hru
      cases hrv
      rename_i v1' _
      have hg := fun op => eqGuard_plain (P := P) (w := w) (op := op) (t := t) (x := x) (y := y) (u := .iface t1 v1') (v := .nilIface) (.inl (fun p hp => by cases hp)) (.inl (fun hp => by cases hp))
      obtain ⟨e1, e2⟩ := binOp_eql (run_equal_held_nil (w := w) (u := t1) (v := v1') hd) (.inr (.inr (.inr ⟨_, _, rfl⟩)))
      split at hr
      · obtain rfl := Option.some.inj hr; exact fin _ (hg _) e1 (.bool _)
      · obtain rfl := Option.some.inj hr; exact fin _ (hg _) e2 (.bool _)
      · cases hr
    · cases hr
  · cases hr

theorem op_binOp_nil (hE : EnvOk P E) (hl : Loc w n0 S) (h : RelL (okOf base S) w S tm a.tmps) {op : BinOp} {t t' : TypeId} {x y : Operand} (ho : o.op = .binOp op t x y t') {r : V} (hx : evo tm x = some .nili) (hy : evo tm y = some .nili)
    (hi : E.iface t = some true) (hc : Region.isConst x = true ∨ Region.isConst y = true) (hr : (op = .eql ∧ r = .bool true) ∨ (op = .neq ∧ r = .bool false)) : OpVal P base nobody S w H a.eval o r H := by
  have hru := evo_rel h hx
  have hrv := evo_rel h hy
  generalize hxx : a.eval x = xx at hru
  generalize hyy : a.eval y = yy at hrv
  cases hru
  cases hrv
  obtain ⟨d, hd, hms⟩ := hE.iface t true hi
  obtain ⟨ms, rfl⟩ := hms.2 rfl
  obtain ⟨e1, e2⟩ := binOp_eql (run_equal_nil2 (w := w) hd) (.inr (.inr (.inl rfl)))
  have hg := fun op => eqGuard_nil (P := P) (w := w) (op := op) (t := t) hc
  rcases hr with ⟨rfl, rfl⟩ | ⟨rfl, rfl⟩
  · exact .pure hl (x := .bool true) (by simp [execOp, ho, hxx, hyy, hg, e1]) (.bool _)
  · exact .pure hl (x := .bool false) (by simp [execOp, ho, hxx, hyy, hg, e2]) (.bool _)

omit [Glb] in
theorem op_unOp (hl : Loc w n0 S) (h : RelL (okOf base S) w S tm a.tmps) {op : UnOp} {t : TypeId} {x : Operand} (ho : o.op = .unOp op t x) {u r : V} (hx : evo tm x = some u) (hr : unop op u = some r) : OpVal P base nobody S w H a.eval o r H := by
  have hru := evo_rel h hx
  generalize hxx : a.eval x = xx at hru
  unfold unop at hr
  split at hr
  · obtain rfl := Option.some.inj hr
    obtain rfl := hru.int_inv
    exact .pure hl (x := .int _ _) (by simp [execOp, ho, hxx, Op.unary, Op.intArith]) (.int _ _)
  · obtain rfl := Option.some.inj hr
    obtain rfl := hru.bool_inv
    exact .pure hl (x := .bool _) (by simp [execOp, ho, hxx, Op.unary]) (.bool _)
  · cases hr

theorem op_convert (hE : EnvOk P E) (hl : Loc w n0 S) (h : RelL (okOf base S) w S tm a.tmps) {s d : TypeId} {x : Operand} (ho : o.op = .convert s d x) {u r : V} (hx : evo tm x = some u) (hr : conv E s d u = some r) : OpVal P base nobody S w H a.eval o r H := by
  have hru := evo_rel h hx
  generalize hxx : a.eval x = xx at hru
  unfold conv at hr
  split at hr
  · rename_i ks k q n hs hd
    obtain rfl := Option.some.inj hr
    obtain rfl := hru.int_inv
    obtain ⟨ds, hds⟩ := hE.kinds s _ hs
    have hdd := hE.kind d _ hd
    simp only at hdd
    exact .pure hl (x := .int k (k.wrap n)) (by simp [execOp, ho, hxx, convert, run_underlying hds, run_underlying hdd, Conv.intToInt]) (.int _ _)
  · rename_i ks s' hs hd
    obtain rfl := Option.some.inj hr
    obtain rfl := hru.str_inv
    obtain ⟨ds, hds⟩ := hE.kinds s _ hs
    have hdd := hE.kind d _ hd
    simp only at hdd
    exact .pure hl (x := .string s') (by simp [execOp, ho, hxx, convert, run_underlying hds, run_underlying hdd]) (.str _)
  · rename_i ks q n hs hd
    obtain rfl := Option.some.inj hr
    obtain rfl := hru.int_inv
    obtain ⟨ds, hds⟩ := hE.kinds s _ hs
    have hdd := hE.kind d _ hd
    simp only at hdd
    exact .pure hl (x := .string (Utf8.encode n)) (by simp [execOp, ho, hxx, convert, run_underlying hds, run_underlying hdd, Conv.intToString]) (.str _)
  · cases hr

theorem op_makeIface (hE : EnvOk P E) (hl : Loc w n0 S) (h : RelL (okOf base S) w S tm a.tmps) {t : TypeId} {x : Operand} (ho : o.op = .makeInterface t x) {u : V} (hx : evo tm x = some u) (hi : E.iface t = some false) : OpVal P base nobody S w H a.eval o (.ifc t u) H := by
  obtain ⟨d, hd, hms⟩ := hE.iface t false hi
  have hn : ∀ ms, d ≠ .interface ms := fun ms he => by have := hms.1 ⟨ms, he⟩; cases this
  refine .pure hl (x := .iface t (a.eval x)) ?_ (.ifc (evo_rel h hx))
  cases d <;> first
    | (exact absurd rfl (hn _))
    | (simp [execOp, ho, Instr.makeInterface, run_underlying hd])

omit [Glb] in
theorem op_makeFunc (hl : Loc w n0 S) (h : RelL (okOf base S) w S tm a.tmps) {f : FuncId} {p c : Array Operand} (ho : o.op = .makeFunc (.func f) p c) {vp vc : List V} (hp : evos tm p.toList = some vp) (hc : evos tm c.toList = some vc) :
    OpVal P base nobody S w H a.eval o (.fn (.func f) vp vc) H :=
  .pure hl (x := .func (.func f) (p.map a.eval) (c.map a.eval)) (by simp [execOp, ho, Instr.makeFunc]) (.fn (evos_relL h hp).1 (evos_relL h hp).2 (evos_relL h hc).1 (evos_relL h hc).2)

theorem size_run (hE : EnvOk P E) {t : TypeId} {n : Nat} (h : E.size t = some n) (w : World) : (sizeOf t).run P w = .ok n w := by
  obtain ⟨i, hi, rfl⟩ := hE.size t n h
  simp [sizeOf, run_typeInfo w hi]

omit [Glb] in
theorem addOff_rel {ok : Nat → Prop} {p q : V} {x : Value} {n : Nat} (hp : Rel ok w S p x) (h : addOff p n = some q) (hs : ∀ cs off, p = .pp cs off → True) : ∃ ad, x = .pointer (some ad) ∧ Rel ok w S q (.pointer (some (ad.add n))) := by
  unfold addOff at h
  split at h
  · obtain rfl := Option.some.inj h
    cases hp with
    | @ptr _ _ e _ _ ad h1 hg hl =>
      refine ⟨ad, rfl, .ptr h1 hg (fun he => ?_)⟩
      obtain ⟨r, o, hlo, rfl⟩ := hl he
      exact ⟨r, o, hlo, by rw [addr_add, Nat.add_assoc]⟩
  · obtain rfl := Option.some.inj h
    cases hp with
    | pp hr h1 hc he =>
      refine ⟨_, rfl, ?_⟩
      rw [addr_add, Nat.add_assoc]
      exact .pp hr h1 hc he
  · cases h

theorem op_fieldAddr (hE : EnvOk P E) (hl : Loc w n0 S) (h : RelL (okOf base S) w S tm a.tmps) {t : TypeId} {x : Operand} {f : Nat} (ho : o.op = .fieldAddr t x f) {p q : V} (hx : evo tm x = some p) {off : Nat} {ft : TypeId} (hf : E.fld t f = some (off, ft)) {n : Nat} (hn : E.size ft = some n) (hpos : 0 < n)
    (hq : addOff p off = some q) : OpVal P base nobody S w H a.eval o q H := by
  obtain ⟨fs, fd, hu, hfs, rfl, rfl⟩ := hE.fld t f off ft hf
  obtain ⟨ad, hx', hr⟩ := addOff_rel (evo_rel h hx) hq (fun _ _ _ => trivial)
  refine .pure hl (x := .pointer (some (ad.add fd.offset))) ?_ hr
  have hsz := size_run hE hn
  simp only [execOp, ho, hx', Instr.fieldAt, Sem.run_bind, run_underlying hu, Result.andThen_ok, hfs, Instr.sureAddr, Sem.run_pure, fieldPlace, hsz, Sem.run_ite, if_neg (show ¬ n = 0 by omega)]

omit [Glb] in
theorem op_extract (hl : Loc w n0 S) (h : RelL (okOf base S) w S tm a.tmps) {x : Operand} {i : Nat} (ho : o.op = .extract x i) {vs : List V} (hx : evo tm x = some (.tup vs)) {v : V} (hv : vs[i]? = some v) : OpVal P base nobody S w H a.eval o v H := by
  have hr := evo_rel h hx
  generalize hxx : a.eval x = xx at hr
  cases hr with
  | @tup _ _ xs hs he =>
    have hlt : i < xs.size := by rw [hs]; exact (List.getElem?_eq_some_iff.1 hv).1
    refine .pure hl (x := xs.getD i default) ?_ (he i v hv)
    have : xs[i]? = some (xs.getD i default) := by rw [Array.getElem?_eq_getElem hlt, Array.getD_eq_getD_getElem?, Array.getElem?_eq_getElem hlt]; rfl
    simp only [execOp, ho, hxx, Instr.extract, this, Sem.run_bind, Sem.run_pure, Result.andThen_ok]

/-- A part of a value. -/
theorem part_rel (hE : EnvOk P E) {ok : Nat → Prop} {t : TypeId} {cs : List V} {vs : Array Value} {off : Nat} {v : V} (hs : vs.size = cs.length) (he : ∀ j c, cs[j]? = some c → Rel ok w S c (vs.getD j default)) (h1 : ∀ c ∈ cs, V.one c = true) (h : Ev.part E t cs off = some v) :
    ∃ y, (Go.part t vs off).run P w = .ok y w ∧ Rel ok w S v y := by
  unfold Ev.part at h
  split at h
  · rename_i n ha hn
    cases ht : takeAt cs off n with
    | none => rw [ht] at h; cases h
    | some l =>
      rw [ht] at h
      obtain rfl := Option.some.inj h
      obtain ⟨hlen, hget⟩ := takeAt_get ht
      have hle : off + n ≤ cs.length := by
        unfold takeAt at ht; split at ht
        · assumption
        · cases ht
      refine ⟨.agg (vs.extract off (off + n)), by simp only [Go.part, Sem.run_bind, hE.agg t true ha, Result.andThen_ok, if_true, size_run hE hn, Sem.run_pure], .agg (fun c hc => ?_) ?_ (fun j c hj => ?_)⟩
      · obtain ⟨j, hj⟩ := List.getElem?_of_mem hc
        exact h1 c (List.mem_of_getElem? (hget j c hj))
      · simp only [Array.size_extract]; omega
      · have hj' := hget j c hj
        have hlt : j < n := by rw [← hlen]; exact (List.getElem?_eq_some_iff.1 hj).1
        have : (vs.extract off (off + n)).getD j default = vs.getD (off + j) default := by
          simp only [Array.getD_eq_getD_getElem?, Array.getElem?_extract]
          rw [if_pos (by omega)]
        rw [this]; exact he _ c hj'
  · rename_i ha
    have hlt : off < vs.size := by rw [hs]; exact (List.getElem?_eq_some_iff.1 h).1
    refine ⟨vs.getD off default, ?_, he off v h⟩
    have : vs[off]? = some (vs.getD off default) := by rw [Array.getElem?_eq_getElem hlt, Array.getD_eq_getD_getElem?, Array.getElem?_eq_getElem hlt]; rfl
    simp only [Go.part, Sem.run_bind, hE.agg t false ha, Result.andThen_ok, Bool.false_eq_true, if_false, this, Sem.run_pure]
  · cases h

theorem op_field (hE : EnvOk P E) (hl : Loc w n0 S) (h : RelL (okOf base S) w S tm a.tmps) {t : TypeId} {x : Operand} {f : Nat} (ho : o.op = .field t x f) {cs : List V} (hx : evo tm x = some (.agg cs)) {off : Nat} {ft : TypeId} (hf : E.fld t f = some (off, ft)) {v : V} (hv : Ev.part E ft cs off = some v) :
    OpVal P base nobody S w H a.eval o v H := by
  obtain ⟨fs, fd, hu, hfs, rfl, rfl⟩ := hE.fld t f off ft hf
  have hr := evo_rel h hx
  generalize hxx : a.eval x = xx at hr
  cases hr with
  | agg h1 hs he =>
    obtain ⟨y, hy, hrel⟩ := part_rel hE hs he h1 hv
    exact .pure hl (x := y) (by simp only [execOp, ho, hxx, Instr.field, Sem.run_bind, run_underlying hu, Result.andThen_ok, hfs, asAgg, Sem.run_pure, hy]) hrel

theorem op_index_agg (hE : EnvOk P E) (hl : Loc w n0 S) (h : RelL (okOf base S) w S tm a.tmps) {t : TypeId} {x i : Operand} (ho : o.op = .index t x i) {cs : List V} (hx : evo tm x = some (.agg cs)) {k : IntKind} {j : Int} (hi : evo tm i = some (.int k j)) {m n : Nat} {el : TypeId} (ha : E.arr t = some (m, el))
    (hn : E.size el = some n) (h0 : 0 ≤ j) (h1 : j < m) {v : V} (hv : Ev.part E el cs (j.toNat * n) = some v) : OpVal P base nobody S w H a.eval o v H := by
  have hu := hE.arr t m el ha
  have hri := (evo_rel h hi).int_inv
  have hr := evo_rel h hx
  generalize hxx : a.eval x = xx at hr
  cases hr with
  | agg h1' hs he =>
    obtain ⟨y, hy, hrel⟩ := part_rel hE hs he h1' hv
    exact .pure hl (x := y) (by simp only [execOp, ho, hxx, hri, Instr.index, asIntOf, Sem.run_bind, Sem.run_pure, run_underlying hu, Result.andThen_ok, Sem.run_ite, if_pos (show 0 ≤ j ∧ j < (m : Int) from ⟨h0, h1⟩), size_run hE hn, hy]) hrel

theorem op_index_str (hE : EnvOk P E) (hl : Loc w n0 S) (h : RelL (okOf base S) w S tm a.tmps) {t : TypeId} {x i : Operand} (ho : o.op = .index t x i) {s : ByteArray} (hx : evo tm x = some (.str s)) {k : IntKind} {j : Int} (hi : evo tm i = some (.int k j)) (hk : E.kind t = some .str) (h0 : 0 ≤ j) {b : UInt8} (hb : s[j.toNat]? = some b) :
    OpVal P base nobody S w H a.eval o (.int .u8 b.toNat) H := by
  have hu := hE.kind t _ hk
  simp only at hu
  have hri := (evo_rel h hi).int_inv
  have hrx := (evo_rel h hx).str_inv
  exact .pure hl (x := .int .u8 b.toNat) (by simp only [execOp, ho, hrx, hri, Instr.index, asIntOf, Sem.run_bind, Sem.run_pure, run_underlying hu, Result.andThen_ok, if_pos h0, hb]) (.int _ _)
end
end Go.Ev
