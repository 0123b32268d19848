/- The Witness laws' program: its tables, and the contracts of Go's library that the evaluator is handed. -/
import Derived.Test.YtdbpldkemkphiaaGreatDoorEvSp
import Derived.Shelf.LaysM
import Derived.Shelf.Strings.Search3
import Derived.Shelf.Vars
import Derived.Ground.NamesProg
import Derived.Test.YtdbpldkemkphiaaGreatDoorChecked
import Derived.KernelRfl
namespace Go.Ev.W4
open Go Go.Ev Go.Proofs Go.Shelf Go.RowKit

instance glb : Glb := ⟨[0]⟩

theorem funcs_ok : funcsOk Tryz.prog = true := by kernel_rfl
theorem mixed_ok : Tryz.prog.follows .mixedOrders = true := by kernel_rfl

/-- Struct types that are compared: Span, Token. -/
def eqs (t : TypeId) : Option (List UK) := if t = 34 then some [.int .i64, .bool, .int .i64, .bool, .bool] else if t = 102 then some [.int .u8, .str, .int .i64] else none
theorem eqs_ok : ∀ t ks, eqs t = some ks → Tryz.prog.eqGuardType Tryz.prog.depth t = false ∧ EqLaw Tryz.prog t ks := fun t ks h => by
  unfold eqs at h
  split at h
  · rename_i ht; subst ht; obtain rfl := Option.some.inj h
    exact ⟨by kernel_rfl, eqLaw_struct (Tryz.underlying34) (by kernel_rfl) (by kernel_rfl)⟩
  · split at h
    · rename_i ht; subst ht; obtain rfl := Option.some.inj h
      exact ⟨by kernel_rfl, eqLaw_struct (Tryz.underlying102) (by kernel_rfl) (by kernel_rfl)⟩
    · cases h

/-! ### the library -/
def ren : Ren := { f := fun | 144 => 101 | 143 => 119 | 219 => 139 | 217 => 143 | 225 => 127 | 224 => 126 | 267 => 156 | 266 => 167 | 314 => 171 | n => n, t := fun | 9 => 9 | 4 => 4 | 3 => 3 | 5 => 5 | 46 => 170 | 146 => 214 | 51 => 213 | n => n, g := fun | 1 => 0 | n => n }
theorem lays : Lays.n144 Tryz.prog ren :=
  { mixed := by kernel_rfl, f143 := Tryz.func119.trans (congrArg some (by kernel_rfl)), f144 := Tryz.func101.trans (congrArg some (by kernel_rfl)), f217 := Tryz.func143.trans (congrArg some (by kernel_rfl)), f219 := Tryz.func139.trans (congrArg some (by kernel_rfl)),
    f224 := Tryz.func126.trans (congrArg some (by kernel_rfl)), f225 := Tryz.func127.trans (congrArg some (by kernel_rfl)), f266 := Tryz.func167.trans (congrArg some (by kernel_rfl)), f267 := Tryz.func156.trans (congrArg some (by kernel_rfl)), f314 := Tryz.func171.trans (congrArg some (by kernel_rfl)),
    t3 := Tryz.underlying3, a3 := Tryz.isAgg3, z3 := Tryz.sizeOf3, v3 := Tryz.zeroValue3, t4 := Tryz.underlying4, a4 := Tryz.isAgg4, z4 := Tryz.sizeOf4, v4 := Tryz.zeroValue4, t5 := Tryz.underlying5, a5 := Tryz.isAgg5, z5 := Tryz.sizeOf5,
    v5 := Tryz.zeroValue5, t9 := Tryz.underlying9, a9 := Tryz.isAgg9, z9 := Tryz.sizeOf9, v9 := Tryz.zeroValue9, t46 := Tryz.underlying170, a46 := Tryz.isAgg170, z46 := Tryz.sizeOf170, v46 := Tryz.zeroValue170,
    t51 := Tryz.underlying213, a51 := Tryz.isAgg213, z51 := Tryz.sizeOf213, v51 := Tryz.zeroValue213, t146 := Tryz.underlying214, a146 := Tryz.isAgg214, z146 := Tryz.sizeOf214, v146 := Tryz.zeroValue214, g1 := by kernel_rfl }

theorem vals2 {A : Nat → Prop} {w : World} {a b : V} {x y : Value} {vals : Array Value} (h : RelL A w none_ [a, b] vals) (ha : ∀ u, Rel A w none_ a u → u = x) (hb : ∀ u, Rel A w none_ b u → u = y) : vals = #[x, y] := by
  obtain ⟨hs, he⟩ := h
  have h0 := ha _ (he 0 a rfl)
  have h1 := hb _ (he 1 b rfl)
  obtain ⟨l⟩ := vals
  match l, hs, h0, h1 with
  | [u, v], _, h0, h1 =>
    simp [Array.getD] at h0 h1
    rw [h0, h1]

/-- Library functions of two arguments that leave the world alone. -/
theorem pure_two {f : FuncId} {a b r : V} {x y v : Value} (ha : ∀ (A : Nat → Prop) (w : World) (u : Value), Rel A w none_ a u → u = x) (hb : ∀ (A : Nat → Prop) (w : World) (u : Value), Rel A w none_ b u → u = y) (hr : ofV v = some r)
    (h : ∀ w, GlobOk w → Calls Tryz.prog f #[x, y] w fun e w' => e = .returned v ∧ w' = w) : Pure Tryz.prog f [a, b] r := by
  intro A w vals hrel hA hg
  obtain rfl := vals2 hrel (ha A w) (hb A w)
  refine (h w hg).mono fun e w' ⟨he, hw⟩ => ?_
  subst hw
  exact ⟨v, he, Rel.of_ofV hr, Below.refl _ _⟩

def base (f : FuncId) (args : List V) : Option V :=
  match f, args with
  | 101, [.str a, .str b] => if a.size < 4294967281 then some (.bool (Lib.contains a.data.toList b.data.toList)) else none
  | 143, [.str a, .int .u8 c] => some (.int .i64 (Lib.indexByte a.data.toList c.toNat.toUInt8))
  | _, _ => none

theorem base_ok : SpecOk Tryz.prog base := fun f args r h => by
  unfold base at h
  split at h
  · rename_i a b
    split at h
    · rename_i hs
      obtain rfl := Option.some.inj h
      refine ⟨pure_two (x := .string a) (y := .string b) (v := .bool _) (fun A w u h => h.str_inv) (fun A w u h => h.str_inv) rfl (fun w hg => ?_), _, Tryz.func101, by kernel_rfl⟩
      obtain ⟨m, hm⟩ := hg 0 (List.mem_singleton.2 rfl)
      exact Any.strings_Contains lays a b m w hs hm
    · cases h
  · rename_i a c
    obtain rfl := Option.some.inj h
    refine ⟨pure_two (x := .string a) (y := .int .u8 c) (v := .int .i64 _) (fun A w u h => h.str_inv) (fun A w u h => h.int_inv) rfl (fun w _ => ?_), _, Tryz.func143, by kernel_rfl⟩
    exact Any.stringslite_IndexByte { lays with } a c w
  · cases h

/-- Functions that are run in a memory of their own: all but those that hand back functions, or what is written later. -/
def own (f : FuncId) : Bool := !([49, 30, 45, 59, 88, 135, 148].contains f)
noncomputable def sp (k : Nat) : FuncId → List V → Option V := spL Tryz.prog eqs base own 10000 60 k
theorem sp_ok (k : Nat) : SpecOk Tryz.prog (sp k) := spL_ok funcs_ok mixed_ok eqs_ok base_ok k
end Go.Ev.W4
