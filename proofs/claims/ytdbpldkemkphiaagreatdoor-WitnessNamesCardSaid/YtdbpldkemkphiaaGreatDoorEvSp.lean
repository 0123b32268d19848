/- Contracts by running: calls on plain data are run in an empty memory of their own, level by level. -/
import Derived.Test.YtdbpldkemkphiaaGreatDoorEvF
namespace Go.Ev
variable [Glb]
open Go

/-- May a value be handed to a run of its own? -/
def V.fine : Nat → V → Bool
  | 0, _ => false
  | k + 1, v => match v with
    | .bool _ | .int _ _ | .str _ | .nilp | .nils | .nilf | .nili | .nilm => true
    | .list _ cs => cs.all (V.fine k)
    | .agg cs | .tup cs => cs.all (V.fine k)
    | .ifc _ v => V.fine k v
    | .fn (.func _) a c => a.all (V.fine k) && c.all (V.fine k)
    | _ => false


noncomputable section
/-! ### values seen to the ground: so that one call is one term -/
def forceNat {α : Type} (n : Nat) (k : Nat → α) : α := Nat.rec (k 0) (fun m _ => k (Nat.succ m)) n
def forceInt {α : Type} (n : Int) (k : Int → α) : α := Int.rec (fun n => forceNat n fun m => k (.ofNat m)) (fun n => forceNat n fun m => k (.negSucc m)) n
def forceKind {α : Type} (q : IntKind) (k : IntKind → α) : α := match q with
  | .i8 => k .i8 | .i16 => k .i16 | .i32 => k .i32 | .i64 => k .i64 | .u8 => k .u8 | .u16 => k .u16 | .u32 => k .u32 | .u64 => k .u64
def forceBytes {α : Type} (l : List UInt8) (k : List UInt8 → α) : α := List.rec (fun k => k []) (fun u _ ih k => forceNat u.toNat fun n => ih fun r => k (UInt8.ofNat n :: r)) l k
def forceStr {α : Type} (s : ByteArray) (k : ByteArray → α) : α := forceBytes s.data.toList fun l => k ⟨⟨l⟩⟩
def forceAll {α : Type} (f : V → (V → α) → α) (l : List V) (k : List V → α) : α := List.rec (fun k => k []) (fun v _ ih k => f v fun u => ih fun r => k (u :: r)) l k
def forceV {α : Type} : Nat → V → (V → α) → α
  | 0 => fun v k => k v
  | d + 1 => fun v k => match v with
    | .bool b => Bool.rec (k (.bool false)) (k (.bool true)) b
    | .int q n => forceKind q fun q => forceInt n fun n => k (.int q n)
    | .str s => forceStr s fun s => k (.str s)
    | .list n cs => forceNat n fun n => forceAll (forceV d) cs fun cs => k (.list n cs)
    | .agg cs => forceAll (forceV d) cs fun cs => k (.agg cs)
    | .tup cs => forceAll (forceV d) cs fun cs => k (.tup cs)
    | .ifc t v => forceNat t fun t => forceV d v fun v => k (.ifc t v)
    | .fn (.func f) a c => forceNat f fun f => forceAll (forceV d) a fun a => forceAll (forceV d) c fun c => k (.fn (.func f) a c)
    | v => k v

omit [Glb] in
theorem forceNat_eq {α : Type} (n : Nat) (k : Nat → α) : forceNat n k = k n := by cases n <;> rfl
omit [Glb] in
theorem forceInt_eq {α : Type} (n : Int) (k : Int → α) : forceInt n k = k n := by cases n with
  | ofNat n => exact forceNat_eq (α := α) n (fun m => k (.ofNat m))
  | negSucc n => exact forceNat_eq (α := α) n (fun m => k (.negSucc m))
omit [Glb] in
theorem forceKind_eq {α : Type} (q : IntKind) (k : IntKind → α) : forceKind q k = k q := by cases q <;> rfl
omit [Glb] in
theorem forceBytes_eq {α : Type} : ∀ (l : List UInt8) (k : List UInt8 → α), forceBytes l k = k l
  | [], _ => rfl
  | u :: l, k => by
    show forceNat u.toNat (fun n => forceBytes l fun r => k (UInt8.ofNat n :: r)) = _
    rw [forceNat_eq, forceBytes_eq l]
    simp
omit [Glb] in
theorem forceStr_eq {α : Type} (s : ByteArray) (k : ByteArray → α) : forceStr s k = k s := by
  unfold forceStr
  rw [forceBytes_eq]
omit [Glb] in
theorem forceAll_eq {α : Type} {f : V → (V → α) → α} (hf : ∀ v k, f v k = k v) : ∀ (l : List V) (k : List V → α), forceAll f l k = k l
  | [], _ => rfl
  | v :: l, k => by
    show f v (fun u => forceAll f l fun r => k (u :: r)) = _
    rw [hf, forceAll_eq hf l]
omit [Glb] in
theorem forceV_eq {α : Type} : ∀ (d : Nat) (v : V) (k : V → α), forceV d v k = k v
  | 0, _, _ => rfl
  | d + 1, v, k => by
    have ih := forceV_eq (α := α) d
    unfold forceV
    split
    · rename_i b; cases b <;> rfl
    · rw [forceKind_eq, forceInt_eq]
    · rw [forceStr_eq]
    · rw [forceNat_eq, forceAll_eq ih]
    · rw [forceAll_eq ih]
    · rw [forceAll_eq ih]
    · rw [forceNat_eq, ih]
    · rw [forceNat_eq, forceAll_eq ih, forceAll_eq ih]
    · rfl

/-- A call on plain data, run. -/
def runIn (E : Env) (N n : Nat) (f : FuncId) (args : List V) : Option V :=
  if args.all (V.fine depth) then
    match fFn E (fCall E N n) N .normal f args [] with
    | some (.ret r, H, _) => let q := frz H 0 false depth r; if V.fine depth q then forceV depth q some else none
    | _ => none
  else none

section
variable {P : Program}
theorem pure_of_runIn {E : Env} (hE : EnvOk P E) {N n : Nat} {f : FuncId} {args : List V} {r : V} (h : runIn E N n f args = some r) : Pure P f args r ∧ ∃ g, P.funcs[f]? = some g ∧ g.body.isSome = true := by
  unfold runIn at h
  rw [fFn_eq, fCall_eq] at h
  split at h
  · split at h
    · rename_i r0 H pn heq
      simp only at h
      split at h
      · rw [forceV_eq] at h
        refine ⟨pure_of_frz hE heq (Option.some.inj h), ?_⟩
        unfold evFn at heq
        split at heq
        · cases heq
        · rename_i fn hfn
          split at heq
          · cases heq
          · rename_i c hc
            exact ⟨fn, (hE.fn f fn hfn).1, by rw [hc]; rfl⟩
      · cases h
    · cases h
  · cases h

/-- Levels of runs: 'own' tells which functions are run so. -/
def spL (P : Program) (eqs : TypeId → Option (List UK)) (base : FuncId → List V → Option V) (own : FuncId → Bool) (N n : Nat) : Nat → FuncId → List V → Option V
  | 0 => base
  | k + 1 => fun f args => match base f args with
    | some r => some r
    | none => if own f then forceNat f fun f => forceAll (forceV depth) args fun args => runIn (envOf P eqs (spL P eqs base own N n k)) N n f args else none

def SpecOk (P : Program) (spec : FuncId → List V → Option V) : Prop := ∀ f args r, spec f args = some r → Pure P f args r ∧ ∃ g, P.funcs[f]? = some g ∧ g.body.isSome = true

theorem spL_ok {eqs : TypeId → Option (List UK)} {base : FuncId → List V → Option V} {own : FuncId → Bool} {N n : Nat} (hfs : funcsOk P = true) (hmix : P.follows .mixedOrders = true) (heq : ∀ t ks, eqs t = some ks → P.eqGuardType P.depth t = false ∧ EqLaw P t ks)
    (hb : SpecOk P base) : ∀ k, SpecOk P (spL P eqs base own N n k)
  | 0 => hb
  | k + 1 => fun f args r h => by
    simp only [spL] at h
    split at h
    · rename_i r' h1
      obtain rfl := Option.some.inj h
      exact hb f args _ h1
    · split at h
      · rw [forceNat_eq, forceAll_eq (forceV_eq depth)] at h
        exact pure_of_runIn (envOf_ok hfs hmix heq (spL_ok hfs hmix heq hb k)) h
      · cases h
end
end
end Go.Ev
