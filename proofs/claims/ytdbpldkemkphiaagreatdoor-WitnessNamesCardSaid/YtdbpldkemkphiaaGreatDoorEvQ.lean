/- More operations: places in slices, parts of slices and texts, dynamic types, lengths. -/
import Derived.Test.YtdbpldkemkphiaaGreatDoorEvO
import Derived.Deep.AppendSrc
import Derived.RangeFuncOwn
namespace Go.Ev
variable [Glb]
open Go.RowKit

omit [Glb] in
theorem run_getObj' {P : Program} {w : World} {r : Nat} {o : Obj} (h : w.heap[r]? = some o) (hc : o.isCells = false := by rfl) : (getObj r).run P w = .ok o w := by
  cases o <;> first | (cases hc; done) | simp [getObj, Sem.run, h]
omit [Glb] in
theorem run_setObj' {P : Program} {w : World} {r : Nat} {o o' : Obj} (h : w.heap[r]? = some o) (hc : o.isCells = false := by rfl) : (setObj r o').run P w = .ok () { w with heap := w.heap.setIfInBounds r o' } := by
  cases o <;> first | (cases hc; done) | simp [setObj, Sem.run, h]

section
variable {P : Program} {E : Env} {base : Nat → Prop} {n0 : Nat} {w : World} {S : Sig} {H : Heap} {a : Act} {tm : List V} {o : Oper}

theorem op_indexAddr_arr (hE : EnvOk P E) (hl : Loc w n0 S) (h : RelL (okOf base S) w S tm a.tmps) {t : TypeId} {x i : Operand} (ho : o.op = .indexAddr t x i) {v q : V} (hx : evo tm x = some v) {k : IntKind} {j : Int} (hi : evo tm i = some (.int k j)) {m n : Nat} {el : TypeId}
    (ha : E.arr t = some (m, el)) (hn : E.size el = some n) (hq : indexP n (some m) v j = some q) : OpVal P base nobody S w H a.eval o q H := by
  have hu := hE.arr t m el ha
  have hri := (evo_rel h hi).int_inv
  unfold indexP at hq
  split at hq
  · cases hq
  · rename_i hj
    simp only at hq
    split at hq
    · rename_i hlt
      obtain ⟨ad, hx', hr⟩ := addOff_rel (evo_rel h hx) hq (fun _ _ _ => trivial)
      have hb : 0 ≤ j ∧ j < (m : Int) := ⟨by omega, by omega⟩
      refine .pure hl (x := .pointer (some (ad.add (j.toNat * n)))) ?_ hr
      simp only [execOp, ho, hx', hri, Instr.indexAt, asIntOf, Sem.run_bind, Sem.run_pure, run_underlying hu, Result.andThen_ok, Instr.sureAddr, Sem.run_ite, if_pos hb, size_run hE hn]
    · cases hq

theorem op_indexAddr_slc (hE : EnvOk P E) (hl : Loc w n0 S) (h : RelL (okOf base S) w S tm a.tmps) {t : TypeId} {x i : Operand} (ho : o.op = .indexAddr t x i) {v q : V} (hx : evo tm x = some v) {k : IntKind} {j : Int} (hi : evo tm i = some (.int k j)) {n : Nat} {el : TypeId}
    (ha : E.slc t = some el) (hn : E.size el = some n) (hq : indexP n none v j = some q) : OpVal P base nobody S w H a.eval o q H := by
  have hu := hE.slc t el ha
  have hri := (evo_rel h hi).int_inv
  have hrx := evo_rel h hx
  generalize hxx : a.eval x = xx at hrx
  unfold indexP at hq
  split at hq
  · cases hq
  · rename_i hj
    have fin : ∀ (ad : Addr) (len c : Nat), xx = .slice (some ad) len c → j.toNat < len → Rel (okOf base S) w S q (.pointer (some (ad.add (j.toNat * n)))) → OpVal P base nobody S w H a.eval o q H := fun ad len c he hlt hr => by
      have hb : 0 ≤ j ∧ j < (len : Int) := ⟨by omega, by omega⟩
      refine .pure hl (x := .pointer (some (ad.add (j.toNat * n)))) ?_ hr
      simp only [execOp, ho, hxx, he, hri, Instr.indexAt, asIntOf, Sem.run_bind, Sem.run_pure, run_underlying hu, Result.andThen_ok, Sem.run_ite, if_pos hb, size_run hE hn]
    split at hq
    · rename_i heq; cases heq
    · rename_i b g off len _
      split at hq
      · rename_i hlt
        obtain rfl := Option.some.inj hq
        cases hrx with
        | @sl _ _ e _ _ _ A c h1 hg hc hA hs =>
          obtain ⟨r, o', hA'⟩ := hA (by omega)
          subst hA'
          refine fin _ _ _ rfl hlt (.ptr h1 hg (fun he => ?_))
          have := hs he
          unfold SlOk at this
          cases hloc : e.loc with
          | none => rw [hloc] at this; simp only at this; omega
          | some p =>
            rw [hloc] at this
            obtain ⟨r2, o2⟩ := p
            simp only at this
            have hh := this.1 (by omega)
            simp only [Option.some.injEq, Addr.mk.injEq, and_true] at hh
            obtain ⟨rfl, rfl⟩ := hh
            exact ⟨_, o2, rfl, by rw [addr_add, Nat.add_assoc]⟩
      · cases hq
    · rename_i len cs _
      split at hq
      · rename_i hlt
        obtain rfl := Option.some.inj hq
        obtain ⟨hlt, hpos, hlen⟩ := hlt
        cases hrx with
        | @list _ _ A c _ hc h1 r o' hr hs he =>
          have hne : cs ≠ [] := by
            intro hcs
            subst hcs
            have : 0 < len * n := Nat.mul_pos (by omega) hpos
            simp at hlen
            omega
          obtain ⟨hA, hok⟩ := hr hne
          subst hA
          refine fin _ _ _ rfl hlt ?_
          rw [addr_add]
          exact .pp (fun _ => hok) h1 hs he
      · cases hq
    · cases hq

theorem op_typeAssert_val (hE : EnvOk P E) (hl : Loc w n0 S) (h : RelL (okOf base S) w S tm a.tmps) {x : Operand} {xt t : TypeId} {ok : Bool} (ho : o.op = .typeAssert x xt t ok) {v : V} (hx : evo tm x = some (.ifc t v)) (hi : E.iface t = some false) :
    OpVal P base nobody S w H a.eval o (if ok then .tup [v, .bool true] else v) H := by
  obtain ⟨d, hd, hms⟩ := hE.iface t false hi
  have hn : ∀ ms, d ≠ .interface ms := fun ms he => by have := hms.1 ⟨ms, he⟩; cases this
  have hrx := evo_rel h hx
  generalize hxx : a.eval x = xx at hrx
  cases hrx with
  | @ifc _ _ _ v' hv =>
    refine .pure hl (x := if ok then .tuple #[v', .bool true] else v') ?_ ?_
    · cases d <;> first
        | (exact absurd rfl (hn _))
        | (cases ok <;> simp [execOp, ho, hxx, Instr.typeAssert, run_underlying hd])
    · cases ok
      · exact hv
      · exact .tup rfl (fun j c hj => by
          match j, hj with
          | 0, hj => simp at hj; subst hj; exact hv
          | 1, hj => simp at hj; subst hj; exact .bool true)

/-- A type's zero value. -/
theorem zero_val (hE : EnvOk P E) {t : TypeId} {z : List V} (hz : E.zero t = some z) {ag : Bool} (ha : E.agg t = some ag) {v : V} (hv : (if ag then some (V.agg z) else z[0]?) = some v) (h1 : ag = true → z.all V.one = true) {ok : Nat → Prop} {w : World} {S : Sig} :
    ∃ x, (∀ w, (zeroValue t).run P w = .ok x w) ∧ Rel ok w S v x := by
  obtain ⟨x, hx, hs, hc, h3, h4⟩ := hE.zero t z hz
  refine ⟨x, hx, ?_⟩
  cases ag with
  | true =>
    simp only [if_true, Option.some.injEq] at hv
    subst hv
    rw [h3 ha]
    exact .agg (fun c hc => List.all_eq_true.1 (h1 rfl) c hc) hs (fun j c hj => .of_ofV (hc j c hj))
  | false =>
    simp only [Bool.false_eq_true, if_false] at hv
    have := hc 0 v hv
    have h5 := h4 ha
    have : x.cells.getD 0 default = x := by
      have h6 : x.cells = #[x] := by cases x <;> first | rfl | cases h5
      rw [h6]; rfl
    exact .of_ofV (by rw [← this]; exact hc 0 v hv)

omit [Glb] in
theorem foldInt_run {ok : Nat → Prop} (f : Int → Int → Bool) (op2 : Value → Value → Sem Value) (hop : ∀ k x k' y w, (op2 (.int k x) (.int k' y)).run P w = .ok (.int k (if f y x then y else x)) w) :
    ∀ (vs : List V) (xs : List Value) (k : IntKind) (x : Int) (v : V), foldInt f k x vs = some v → xs.length = vs.length → (∀ j c, vs[j]? = some c → Rel ok w S c (xs.getD j default)) →
      ∃ k' y, v = .int k' y ∧ (xs.foldlM op2 (.int k x)).run P w = .ok (.int k' y) w
  | [], [], k, x, v, h, _, _ => by simp only [foldInt, Option.some.injEq] at h; exact ⟨k, x, h.symm, rfl⟩
  | [], _ :: _, _, _, _, _, hl, _ => by simp at hl
  | _ :: _, [], _, _, _, _, hl, _ => by simp at hl
  | c :: vs, y :: xs, k, x, v, h, hl, hr => by
    have hc : Rel ok w S c y := by simpa using hr 0 c rfl
    cases c with
    | int k' b =>
      simp only [foldInt] at h
      split at h
      · obtain rfl := hc.int_inv
        obtain ⟨k2, z, hv, hrun⟩ := foldInt_run f op2 hop vs xs k _ v h (by simpa using hl) (fun j c hj => by simpa using hr (j + 1) c (by simpa using hj))
        refine ⟨k2, z, hv, ?_⟩
        simp only [List.foldlM_cons, Sem.run_bind, hop, Result.andThen_ok]
        exact hrun
      · cases h
    | _ => simp [foldInt] at h

omit [Glb] in
theorem resolve_builtin {c : Call} {b : Builtin} {ty : TypeId} (hc : c.callee = .builtin b) : (resolve a.eval c ty).run P w = .ok { target := .builtin b c.argTypes ty (c.args.map fun | .const _ => true | _ => false), args := c.args.map a.eval } w := by
  unfold resolve
  rw [hc]
  rfl

omit [Glb] in
theorem relL_two {ok : Nat → Prop} {x y : V} {vs : Array Value} (h : RelL ok w S [x, y] vs) : ∃ p q, vs = #[p, q] ∧ Rel ok w S x p ∧ Rel ok w S y q := by
  obtain ⟨hs, he⟩ := h
  obtain ⟨l⟩ := vs
  match l, hs with
  | [p, q], _ => exact ⟨p, q, rfl, by simpa using he 0 x rfl, by simpa using he 1 y rfl⟩

omit [Glb] in
theorem relL_single {ok : Nat → Prop} {x : V} {vs : Array Value} (h : RelL ok w S [x] vs) : ∃ p, vs = #[p] ∧ Rel ok w S x p := by
  obtain ⟨hs, he⟩ := h
  obtain ⟨l⟩ := vs
  match l, hs with
  | [p], _ => exact ⟨p, rfl, by simpa using he 0 x rfl⟩

omit [Glb] in
theorem op_min (hl : Loc w n0 S) (h : RelL (okOf base S) w S tm a.tmps) {c : Call} (ho : o.op = .call c) (hc : c.callee = .builtin .min) {vs : List V} (hx : evos tm c.args.toList = some vs) {v : V} (hv : minV vs = some v) : OpVal P base nobody S w H a.eval o v H := by
  have hr := evos_relL h hx
  unfold minV at hv
  split at hv
  · rename_i k x r
    obtain ⟨hs, he⟩ := hr
    generalize hxs : c.args.map a.eval = xs at hs he
    obtain ⟨l⟩ := xs
    cases l with
    | nil => simp at hs
    | cons y ys =>
      have h0 : Rel (okOf base S) w S (.int k x) y := by simpa using he 0 _ rfl
      obtain rfl := h0.int_inv
      obtain ⟨k', z, rfl, hrun⟩ := foldInt_run (P := P) (w := w) (S := S) (ok := okOf base S) (fun b a => decide (b < a)) Builtin.min2 (fun k x k' y w => by simp [Builtin.min2]) r ys k x v (by simpa using hv) (by simpa using hs) (fun j c hj => by simpa using he (j + 1) c (by simpa using hj))
      refine .pure hl (x := .int k' z) ?_ (.int _ _)
      simp only [execOp, ho, Sem.run_bind, resolve_builtin hc, Result.andThen_ok, invoke, builtin, Builtin.min_, hxs, hrun, Sem.run_pure]
  · cases hv

omit [Glb] in
theorem op_max (hl : Loc w n0 S) (h : RelL (okOf base S) w S tm a.tmps) {c : Call} (ho : o.op = .call c) (hc : c.callee = .builtin .max) {vs : List V} (hx : evos tm c.args.toList = some vs) {v : V} (hv : maxV vs = some v) : OpVal P base nobody S w H a.eval o v H := by
  have hr := evos_relL h hx
  unfold maxV at hv
  split at hv
  · rename_i k x r
    obtain ⟨hs, he⟩ := hr
    generalize hxs : c.args.map a.eval = xs at hs he
    obtain ⟨l⟩ := xs
    cases l with
    | nil => simp at hs
    | cons y ys =>
      have h0 : Rel (okOf base S) w S (.int k x) y := by simpa using he 0 _ rfl
      obtain rfl := h0.int_inv
      obtain ⟨k', z, rfl, hrun⟩ := foldInt_run (P := P) (w := w) (S := S) (ok := okOf base S) (fun b a => decide (b > a)) Builtin.max2 (fun k x k' y w => by simp [Builtin.max2]) r ys k x v (by simpa using hv) (by simpa using hs) (fun j c hj => by simpa using he (j + 1) c (by simpa using hj))
      refine .pure hl (x := .int k' z) ?_ (.int _ _)
      simp only [execOp, ho, Sem.run_bind, resolve_builtin hc, Result.andThen_ok, invoke, builtin, Builtin.max_, hxs, hrun, Sem.run_pure]
  · cases hv

theorem op_len (hE : EnvOk P E) (hl : Loc w n0 S) (h : RelL (okOf base S) w S tm a.tmps) {c : Call} (ho : o.op = .call c) (hc : c.callee = .builtin .len) {x : V} (hx : evos tm c.args.toList = some [x]) {t : TypeId} (ht : c.argTypes.toList = [t]) {n : Nat} (hv : lenV E H t x = some n)
    (hk : ∀ b, x = .map b → Known (okOf base S) w S H b) : OpVal P base nobody S w H a.eval o (.int .i64 n) H := by
  obtain ⟨p, hp, hr⟩ := relL_single (evos_relL h hx)
  have hts : c.argTypes = #[t] := by
    have := congrArg List.toArray ht
    simpa using this
  have fin : (Builtin.len_ #[t] o.type #[p]).run P w = .ok (.int .i64 n) w → OpVal P base nobody S w H a.eval o (.int .i64 n) H := fun hrun =>
    .pure hl (x := .int .i64 n) (by simp only [execOp, ho, Sem.run_bind, resolve_builtin hc, Result.andThen_ok, invoke, builtin, hp, hts, hrun, Sem.run_pure]) (.int _ _)
  apply fin
  unfold lenV at hv
  split at hv
  · rename_i m el ha
    obtain rfl := Option.some.inj hv
    have hu := hE.arr t _ el ha
    cases p <;> simp [Builtin.len_, run_underlying hu, goInt]
  · split at hv
    · rename_i el ha
      have hu := hE.slc t el ha
      split at hv <;> first
        | (cases hv; done)
        | (obtain rfl := Option.some.inj hv; cases hr <;> simp [Builtin.len_, run_underlying hu, goInt])
    · split at hv
      · rename_i kt hm
        have hu := hE.mapk t kt.1 kt.2 hm
        split at hv
        · obtain rfl := Option.some.inj hv; cases hr; simp [Builtin.len_, run_underlying hu, goInt]
        · rename_i b
          obtain ⟨e, k, hb, hh, hB⟩ := hk b rfl
          rw [hh] at hv
          split at hv
          · rename_i es hes
            obtain rfl := Option.some.inj hv
            obtain rfl := Option.some.inj hes
            obtain ⟨_, _, r, ents, clock, hloc, hheap, hsz, _⟩ := hB
            cases hr with
            | @map _ _ e2 r2 h1 hf hl2 =>
              rw [hb] at h1; obtain rfl := Option.some.inj h1
              rw [hloc] at hl2; simp only [Option.some.injEq, Prod.mk.injEq, and_true] at hl2; subst hl2
              simp [Builtin.len_, run_underlying hu, goInt, run_getObj' hheap, hsz]
          · cases hv
        · cases hv
      · split at hv
        · rename_i hk'
          have hu := hE.kind t _ hk'
          simp only at hu
          split at hv
          · obtain rfl := Option.some.inj hv; cases hr; simp [Builtin.len_, run_underlying hu, goInt]
          · cases hv
        · cases hv
end
end Go.Ev
