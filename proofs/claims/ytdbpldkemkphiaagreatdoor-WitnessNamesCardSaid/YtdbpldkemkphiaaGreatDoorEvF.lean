/- The evaluator once more, made for the kernel: the same answers, by fewer steps. -/
import Derived.Test.YtdbpldkemkphiaaGreatDoorEvEq
namespace Go.Ev
open Go

noncomputable section
def nth (l : List V) : Nat → V := List.rec (fun _ => .undef) (fun v _ ih n => Nat.rec v (fun m _ => ih m) n) l
theorem nth_eq : ∀ (l : List V) (n : Nat), nth l n = l.getD n .undef
  | [], n => by simp [nth]
  | v :: l, 0 => rfl
  | v :: l, n + 1 => by show nth l n = _; rw [nth_eq l n]; simp
def setN {α : Type} (l : List α) (i : Nat) (v : α) : List α := List.rec (fun _ => []) (fun u r ih n => Nat.rec (v :: r) (fun m _ => u :: ih m) n) l i
theorem setN_eq {α : Type} (v : α) : ∀ (l : List α) (i : Nat), setN l i v = l.set i v
  | [], i => by simp [setN]
  | u :: l, 0 => rfl
  | u :: l, i + 1 => by show u :: setN l i v = _; rw [setN_eq v l i]; rfl
def hget (H : Heap) : Nat → Option Blk := List.rec (fun _ => none) (fun v _ ih n => Nat.rec (some v) (fun m _ => ih m) n) H
theorem hget_eq : ∀ (H : Heap) (n : Nat), hget H n = H[n]?
  | [], n => by simp [hget]
  | v :: l, 0 => rfl
  | v :: l, n + 1 => by show hget l n = _; rw [hget_eq l n]; simp

def ob {α β : Type} (o : Option α) (f : α → Option β) : Option β := Option.rec none f o

def fo (tm : List V) (x : Operand) : Option V := Operand.rec (fun t => some (nth tm t)) ofV (fun _ => none) (fun f => some (.fn (.func f) [] [])) x
theorem fo_eq (tm : List V) (x : Operand) : fo tm x = evo tm x := by
  cases x <;> first | rfl | (simp only [fo, evo, nth_eq])
def fos (tm : List V) (l : List Operand) : Option (List V) := List.rec (some []) (fun x _ ih => ob (fo tm x) fun v => ob ih fun vs => some (v :: vs)) l
theorem fos_eq (tm : List V) : ∀ (l : List Operand), fos tm l = evos tm l
  | [] => rfl
  | x :: l => by
    show ob (fo tm x) (fun v => ob (fos tm l) fun vs => some (v :: vs)) = _
    rw [fos_eq tm l, fo_eq]
    simp only [evos]
    cases evo tm x <;> cases evos tm l <;> rfl

/-- What operations have in common. -/
abbrev OpF := Env → CallH → List V → Heap → Option OR

def cellAt (cs : List V) : Nat → Option V := List.rec (fun _ => none) (fun v _ ih n => Nat.rec (some v) (fun m _ => ih m) n) cs
theorem cellAt_eq : ∀ (cs : List V) (n : Nat), cellAt cs n = cs[n]?
  | [], n => by simp [cellAt]
  | v :: l, 0 => rfl
  | v :: l, n + 1 => by show cellAt l n = _; rw [cellAt_eq l n]; simp

theorem takeAt_one (cs : List V) (off : Nat) : takeAt cs off 1 = (cs[off]?).map fun v => [v] := by
  unfold takeAt
  split
  · rename_i h
    rw [List.getElem?_eq_getElem (by omega)]
    have : List.drop off cs = cs[off] :: List.drop (off + 1) cs := List.drop_eq_getElem_cons (by omega)
    rw [this]
    rfl
  · rename_i h
    rw [List.getElem?_eq_none (by omega)]
    rfl

/-- One cell from a pointer on. -/
def read1 (H : Heap) (p : V) : Option V :=
  match p with
  | .ptr b g off => ob (hget H b) fun k => match k with
    | .cells _ g' _ cs => Bool.rec none (cellAt cs off) (Nat.beq g g')
    | _ => none
  | .pp cs off => cellAt cs off
  | _ => none
theorem read1_eq (H : Heap) (p : V) : (read1 H p).map (fun v => [v]) = readAt H p 1 := by
  unfold read1 readAt
  split
  · rw [hget_eq]
    rename_i b g off
    simp only
    cases hb : H[b]? with
    | none => rfl
    | some k =>
      simp only [ob]
      cases k <;> try rfl
      rename_i ro g' es cs
      simp only [cellAt_eq]
      by_cases h : g = g'
      · subst h
        have : Nat.beq g g = true := by simp
        rw [if_pos rfl, takeAt_one, this]
      · have : Nat.beq g g' = false := by
          cases hq : Nat.beq g g' with
          | false => rfl
          | true => exact absurd (Nat.eq_of_beq_eq_true hq) h
        rw [if_neg h, this]; rfl
  · simp only [cellAt_eq, takeAt_one]
  · rename_i h1 h2
    cases p <;> first | rfl | exact absurd rfl (h1 _ _ _) | exact absurd rfl (h2 _ _)

def loadF (E : Env) (H : Heap) (t : TypeId) (p : V) : Option V :=
  ob (E.agg t) fun a => Bool.rec (read1 H p) (ob (E.size t) fun n => ob (readAt H p n) fun c => some (.agg c)) a
theorem loadF_eq (E : Env) (H : Heap) (t : TypeId) (p : V) : loadF E H t p = loadV E H t p := by
  unfold loadF loadV
  cases E.agg t with
  | none => rfl
  | some a =>
    cases a with
    | true =>
      simp only [ob]
      cases E.size t with
      | none => rfl
      | some n => simp only; cases readAt H p n <;> rfl
    | false =>
      simp only [ob]
      rw [← read1_eq]
      cases read1 H p <;> rfl


def writeF (H : Heap) (p : V) (vs : List V) : Option Heap :=
  match p with
  | .ptr b g off => ob (hget H b) fun k => match k with
    | .cells ro g' es cs => Bool.rec (if g = g' ∧ off + vs.length ≤ cs.length then some (setN H b (.cells false g' es (putAt cs off vs))) else none) none ro
    | _ => none
  | _ => none
theorem writeF_eq (H : Heap) (p : V) (vs : List V) : writeF H p vs = writeAt H p vs := by
  unfold writeF writeAt
  split
  · rename_i b g off
    rw [hget_eq]
    simp only
    cases hb : H[b]? with
    | none => rfl
    | some k =>
      cases k <;> try rfl
      rename_i ro g' es cs
      cases ro <;> simp only [ob, setN_eq]
  · rename_i h
    cases p <;> first | rfl | exact absurd rfl (h _ _ _)

def opMove (x : Operand) (tm : List V) (H : Heap) : Option OR := ob (fo tm x) fun v => some (.val v H)
def asgF (v : V) (H : Heap) : Option OR := match v with
  | .nils => some (.val (.sl H.length 0 0 0) (H ++ [.nilb]))
  | v => some (.val v H)
def opAssign (x : Operand) (tm : List V) (H : Heap) : Option OR := ob (fo tm x) fun v => asgF v H
def pickF (c a b : V) (H : Heap) : Option OR := match c with
  | .bool c => some (.val (Bool.rec b a c) H)
  | _ => none
def opPick (c a b : Operand) (tm : List V) (H : Heap) : Option OR := ob (fo tm c) fun c => ob (fo tm a) fun a => ob (fo tm b) fun b => pickF c a b H
def opLoad (t : TypeId) (a : Operand) (E : Env) (tm : List V) (H : Heap) : Option OR := ob (fo tm a) fun p => ob (loadF E H t p) fun v => some (.val v H)
def storeF (t : TypeId) (E : Env) (H : Heap) (p v : V) : Option OR := ob (E.size t) fun n =>
  let q := lift v.cells H
  if v.may = true ∧ v.cells.length = n then ob (writeF q.2 p q.1) fun h => some (.skip h) else none
def opStore (t : TypeId) (a x : Operand) (E : Env) (tm : List V) (H : Heap) : Option OR := ob (fo tm a) fun p => ob (fo tm x) fun v => storeF t E H p v
def binF (E : Env) (op : BinOp) (t : TypeId) (cst : Bool) (a b : V) (H : Heap) : Option OR := match a, b with
    | .nili, .nili => if E.iface t = some true ∧ cst = true then (match op with
        | .eql => some (.val (.bool true) H)
        | .neq => some (.val (.bool false) H)
        | _ => none) else none
    | a, b => ob (binop E op t a b) fun v => some (.val v H)
def opBin (op : BinOp) (t : TypeId) (x y : Operand) (E : Env) (tm : List V) (H : Heap) : Option OR := ob (fo tm x) fun a => ob (fo tm y) fun b => binF E op t (Region.isConst x || Region.isConst y) a b H
def opUn (op : UnOp) (x : Operand) (tm : List V) (H : Heap) : Option OR := ob (fo tm x) fun a => ob (unop op a) fun v => some (.val v H)
def opConv (a b : TypeId) (x : Operand) (E : Env) (tm : List V) (H : Heap) : Option OR := ob (fo tm x) fun v => ob (conv E a b v) fun v => some (.val v H)
def extF (v : V) (i : Nat) (H : Heap) : Option OR := match v with
  | .tup vs => ob (cellAt vs i) fun v => some (.val v H)
  | _ => none
def opExtract (t : Operand) (i : Nat) (tm : List V) (H : Heap) : Option OR := ob (fo tm t) fun v => extF v i H
def opFieldAddr (t : TypeId) (x : Operand) (f : Nat) (E : Env) (tm : List V) (H : Heap) : Option OR := ob (fo tm x) fun p => ob (E.fld t f) fun q => ob (E.size q.2) fun n => if 0 < n then ob (addOff p q.1) fun v => some (.val v H) else none
def idxF (t : TypeId) (E : Env) (v i : V) (H : Heap) : Option OR := match i with
  | .int _ i => (match E.arr t, E.slc t with
      | some (m, el), none => ob (E.size el) fun n => ob (indexP n (some m) v i) fun v => some (.val v H)
      | none, some el => ob (E.size el) fun n => ob (indexP n none v i) fun v => some (.val v H)
      | _, _ => none)
  | _ => none
def opIndexAddr (t : TypeId) (x i : Operand) (E : Env) (tm : List V) (H : Heap) : Option OR := ob (fo tm x) fun v => ob (fo tm i) fun i => idxF t E v i H
def boxF (v : V) (H : Heap) : Option OR := if v.may then let p := lift v.cells H; newBlk p.2 (.cells false 0 0 p.1) (.ptr p.2.length 0 0) else none
def opBox (x : Operand) (tm : List V) (H : Heap) : Option OR := ob (fo tm x) fun v => boxF v H
def opBuild (t : TypeId) (ps : Array (Nat × Operand)) (E : Env) (tm : List V) (H : Heap) : Option OR := ob (fos tm (ps.toList.map (·.2))) fun vs => ob (buildV E t ((ps.toList.map (·.1)).zip vs)) fun v => some (.val v H)
def callF (call : CallH) (args : List V) (H : Heap) (fv : V) : Option OR := ob (call .normal fv args H) fun q => CR.rec (fun v => some (.val v q.2.1)) (fun v => some (.pan v q.2.1)) q.1
def opCall (f : Operand) (c : Call) (call : CallH) (tm : List V) (H : Heap) : Option OR := ob (fos tm c.args.toList) fun args => ob (fo tm f) fun fv => callF call args H fv

/-- One operation. -/
def fOp (E : Env) (call : CallH) (s : St) (o : Oper) : Option OR :=
  match o.op with
  | .move x => opMove x s.tm s.H
  | .assign x => opAssign x s.tm s.H
  | .pick c a b => opPick c a b s.tm s.H
  | .load t a => opLoad t a E s.tm s.H
  | .store t a x => opStore t a x E s.tm s.H
  | .binOp op t x y _ => opBin op t x y E s.tm s.H
  | .unOp op _ x => opUn op x s.tm s.H
  | .convert a b x => opConv a b x E s.tm s.H
  | .extract t i => opExtract t i s.tm s.H
  | .fieldAddr t x f => opFieldAddr t x f E s.tm s.H
  | .indexAddr t x i => opIndexAddr t x i E s.tm s.H
  | .box _ x => opBox x s.tm s.H
  | .build t ps => opBuild t ps E s.tm s.H
  | .call c => (match c.callee with
    | .value f => opCall f c call s.tm s.H
    | _ => evOp E call s o)
  | _ => evOp E call s o

theorem fOp_eq (E : Env) (call : CallH) (s : St) (o : Oper) : fOp E call s o = evOp E call s o := by
  unfold fOp
  split
  · rename_i x h; simp only [evOp, h, opMove, fo_eq]; cases evo s.tm x <;> rfl
  · rename_i x h; simp only [evOp, h, opAssign, fo_eq]; cases evo s.tm x with
    | none => rfl
    | some v => cases v <;> rfl
  · rename_i c a b h; simp only [evOp, h, opPick, fo_eq]
    cases evo s.tm c with
    | none => rfl
    | some c =>
      cases evo s.tm a with
      | none => cases c <;> rfl
      | some a => cases evo s.tm b with
        | none => cases c <;> rfl
        | some b => cases c <;> first | rfl | (rename_i q; cases q <;> rfl)
  · rename_i t a h; simp only [evOp, h, opLoad, fo_eq, loadF_eq]
    cases evo s.tm a with
    | none => rfl
    | some p => simp only [ob]; cases loadV E s.H t p <;> rfl
  · rename_i t a x h; simp only [evOp, h, opStore, fo_eq, storeF, writeF_eq]
    cases evo s.tm a with
    | none => rfl
    | some p => cases evo s.tm x with
      | none => rfl
      | some v => cases E.size t with
        | none => rfl
        | some n =>
          simp only [ob]
          split
          · cases writeAt (lift v.cells s.H).2 p (lift v.cells s.H).1 <;> rfl
          · rfl
  · rename_i op t x y z h; simp only [evOp, h, opBin, fo_eq]
    cases evo s.tm x with
    | none => rfl
    | some a => cases evo s.tm y with
      | none => cases a <;> rfl
      | some b =>
        simp only [ob]
        have key : ∀ b, (a = .nili → b = .nili → False) → binF E op t (Region.isConst x || Region.isConst y) a b s.H = (binop E op t a b).map (.val · s.H) := fun b hab => by
          unfold binF
          split
          · exact absurd rfl (hab rfl)
          · simp only [ob]; cases binop E op t a b <;> rfl
        by_cases ha : a = .nili
        · subst ha
          by_cases hb : b = .nili
          · subst hb
            simp only [binF]
            by_cases hc : E.iface t = some true ∧ (Region.isConst x = true ∨ Region.isConst y = true)
            · rw [if_pos hc, if_pos (by simpa using hc)]; cases op <;> rfl
            · rw [if_neg hc, if_neg (by simpa using hc)]
          · rw [key b (fun _ h => hb h)]
            cases b <;> first | rfl | exact absurd rfl hb
        · rw [key b (fun h => absurd h ha)]
          cases a <;> first | rfl | exact absurd rfl ha
  · rename_i op t x h; simp only [evOp, h, opUn, fo_eq]
    cases evo s.tm x with
    | none => rfl
    | some a => simp only [ob]; cases unop op a <;> rfl
  · rename_i a b x h; simp only [evOp, h, opConv, fo_eq]
    cases evo s.tm x with
    | none => rfl
    | some v => simp only [ob]; cases conv E a b v <;> rfl
  · rename_i t i h; simp only [evOp, h, opExtract, fo_eq, extF, cellAt_eq]
    cases evo s.tm t with
    | none => rfl
    | some v =>
      cases v <;> try rfl
      rename_i vs
      simp only [ob]
      cases vs[i]? <;> rfl
  · rename_i t x f h; simp only [evOp, h, opFieldAddr, fo_eq]
    cases evo s.tm x with
    | none => rfl
    | some p => cases E.fld t f with
      | none => rfl
      | some q =>
        simp only [ob]
        cases E.size q.2 with
        | none => rfl
        | some n =>
          simp only
          split
          · cases addOff p q.1 <;> rfl
          · rfl
  · rename_i t x i h; simp only [evOp, h, opIndexAddr, fo_eq, idxF]
    cases evo s.tm x with
    | none => rfl
    | some v => cases evo s.tm i with
      | none => rfl
      | some i =>
        simp only [ob]
        cases i <;> try rfl
        rename_i k i
        simp only
        cases E.arr t with
        | none => cases E.slc t with
          | none => rfl
          | some el =>
            simp only
            cases E.size el with
            | none => rfl
            | some n => simp only; cases indexP n none v i <;> rfl
        | some q => cases E.slc t with
          | some el => rfl
          | none =>
            simp only
            cases E.size q.2 with
            | none => rfl
            | some n => simp only; cases indexP n (some q.1) v i <;> rfl
  · rename_i t x h; simp only [evOp, h, opBox, fo_eq, boxF]
    cases evo s.tm x <;> rfl
  · rename_i t ps h; simp only [evOp, h, opBuild, fos_eq]
    cases evos s.tm (ps.toList.map (·.2)) with
    | none => rfl
    | some vs => simp only [ob]; cases buildV E t ((ps.toList.map (·.1)).zip vs) <;> rfl
  · rename_i c h
    split
    · rename_i f hf
      simp only [evOp, h, opCall, fos_eq, fo_eq, hf]
      cases evos s.tm c.args.toList with
      | none => rfl
      | some args =>
        simp only [ob, callF]
        cases evo s.tm f with
        | none => rfl
        | some fv =>
          simp only
          cases call .normal fv args s.H with
          | none => rfl
          | some q => obtain ⟨q, H', pn⟩ := q; cases q <;> rfl
    · rfl
  · rfl

/-! ### regions -/
def putF (tm : List V) (dst : Option Tmp) (v : V) : List V := Option.rec tm (fun d => setN tm d v) dst
theorem putF_eq (tm : List V) (dst : Option Tmp) (v : V) : putF tm dst v = put tm dst v := by
  cases dst with
  | none => rfl
  | some d => exact setN_eq v tm d

def Rec.keep (r : Rec) : Bool := r.bad || !(r.rd.isEmpty && r.wr.isEmpty)
def recF (r : Rec) (rs : List Rec) : List Rec := Bool.rec rs (r :: rs) r.keep
theorem recF_eq (r : Rec) (rs : List Rec) : recF r (rs.filter Rec.keep) = (r :: rs).filter Rec.keep := by
  unfold recF
  rw [List.filter_cons]
  cases r.keep <;> rfl

theorem recOk_idle {ops : Array Oper} {a b : Rec} (h : a.rd = [] ∧ a.wr = [] ∨ b.rd = [] ∧ b.wr = []) : recOk ops a b = true := by
  have h0 : ∀ l : List Nat, disj l [] = true := fun l => by simp [disj]
  have h1 : ∀ l : List Nat, disj [] l = true := fun l => rfl
  rcases h with ⟨h2, h3⟩ | ⟨h2, h3⟩ <;> simp [recOk, h2, h3, h0, h1]
theorem keep_false {r : Rec} (h : r.keep = false) : r.bad = false ∧ r.rd = [] ∧ r.wr = [] := by
  simp only [Rec.keep, Bool.or_eq_false_iff, Bool.not_eq_false', Bool.and_eq_true, List.isEmpty_iff] at h
  exact ⟨h.1, h.2.1, h.2.2⟩
theorem recsOk_filter (ops : Array Oper) : ∀ rs : List Rec, recsOk ops (rs.filter Rec.keep) = recsOk ops rs
  | [] => rfl
  | a :: r => by
    have ih := recsOk_filter ops r
    have hall : ∀ a : Rec, (r.filter Rec.keep).all (recOk ops a) = r.all (recOk ops a) := fun a => by
      rw [List.all_filter]
      congr 1
      funext b
      cases hb : b.keep with
      | true => simp
      | false => simp [recOk_idle (ops := ops) (a := a) (b := b) (.inr (keep_false hb).2)]
    rw [List.filter_cons]
    cases hk : a.keep with
    | true => simp only [if_true, recsOk, ih, hall]
    | false =>
      obtain ⟨h1, h2⟩ := keep_false hk
      simp only [recsOk, h1, Bool.false_eq_true, if_false, Bool.not_false, Bool.true_and, ih]
      have : r.all (recOk ops a) = true := List.all_eq_true.2 fun b _ => recOk_idle (.inl h2)
      rw [this, Bool.true_and]

def guardF (ops : Array Oper) (tm : List V) (o : Oper) : Option Bool := Option.rec (some true) (fun g => want ops tm o) o.guard
theorem guardF_eq (ops : Array Oper) (tm : List V) (o : Oper) : guardF ops tm o = want ops tm o := by
  unfold guardF want
  cases o.guard <;> rfl

/-- How a region goes on behind an operation. -/
def goF (dr nd : Bool) (o : Oper) (i : Nat) (s : St) (rs : List Rec) (k : St → List Rec → Option (X × St × List Rec)) : OR → Option (X × St × List Rec)
  | .val v H => k { s with tm := putF s.tm o.dst v, H } (Bool.rec rs (recF (recOf s o i) rs) dr)
  | .skip H => k { s with tm := putF s.tm o.dst (.tup []), H } (Bool.rec rs (recF (recOf s o i) rs) dr)
  | .dfr d H => if dr || !nd then none else k { s with tm := put s.tm o.dst (.tup []), H, df := d :: s.df } rs
  | .rcv v pn H => if dr then none else k { s with tm := put s.tm o.dst v, H, pn } rs
  | .pan v H => if dr then none else some (.pan v, { s with H }, rs)

def fOps (E : Env) (call : CallH) (ops : Array Oper) (dr nd : Bool) (l : List Oper) : Nat → St → List Rec → Option (X × St × List Rec) :=
  List.rec (fun _ s rs => some (.nrm, s, rs)) (fun o _ ih i s rs =>
    ob (guardF ops s.tm o) fun g => Bool.rec (ih (i + 1) { s with tm := putF s.tm o.dst (.tup []) } rs) (ob (fOp E call s o) (goF dr nd o i s rs (ih (i + 1)))) g) l

theorem fOps_eq (E : Env) (call : CallH) (ops : Array Oper) (dr nd : Bool) : ∀ (l : List Oper) (i : Nat) (s : St) (rs : List Rec),
    fOps E call ops dr nd l i s (rs.filter Rec.keep) = (evOps E call ops dr nd l i s rs).map fun q => (q.1, q.2.1, q.2.2.filter Rec.keep)
  | [], i, s, rs => rfl
  | o :: l, i, s, rs => by
    show ob (guardF ops s.tm o) (fun g => Bool.rec (fOps E call ops dr nd l (i + 1) { s with tm := putF s.tm o.dst (.tup []) } (rs.filter Rec.keep)) (ob (fOp E call s o) (goF dr nd o i s (rs.filter Rec.keep) (fOps E call ops dr nd l (i + 1)))) g) = _
    simp only [evOps, guardF_eq, fOp_eq, putF_eq]
    cases want ops s.tm o with
    | none => rfl
    | some g =>
      cases g with
      | false => exact fOps_eq E call ops dr nd l (i + 1) _ rs
      | true =>
        simp only [ob]
        cases evOp E call s o with
        | none => rfl
        | some r =>
          have hrec : (Bool.rec (rs.filter Rec.keep) (recF (recOf s o i) (rs.filter Rec.keep)) dr : List Rec) = (if dr = true then recOf s o i :: rs else rs).filter Rec.keep := by
            cases dr with
            | false => rfl
            | true => exact recF_eq _ _
          cases r with
          | val v H => simp only [goF, putF_eq, hrec]; exact fOps_eq E call ops dr nd l (i + 1) _ _
          | skip H => simp only [goF, putF_eq, hrec]; exact fOps_eq E call ops dr nd l (i + 1) _ _
          | dfr d H =>
            simp only [goF]
            split
            · rfl
            · exact fOps_eq E call ops dr nd l (i + 1) _ rs
          | rcv v pn H =>
            simp only [goF]
            split
            · rfl
            · exact fOps_eq E call ops dr nd l (i + 1) _ rs
          | pan v H =>
            simp only [goF]
            split <;> rfl

def fRegion (E : Env) (call : CallH) (ops : Array Oper) (dr nd : Bool) (s : St) : Option (X × St) :=
  ob (fOps E call ops dr nd ops.toList 0 s []) fun q => Bool.rec (some (q.1, q.2.1)) (Bool.rec none (some (q.1, q.2.1)) (recsOk ops q.2.2)) dr
theorem fRegion_eq (E : Env) (call : CallH) (ops : Array Oper) (dr nd : Bool) (s : St) : fRegion E call ops dr nd s = evRegion E call ops dr nd s := by
  unfold fRegion evRegion
  have := fOps_eq E call ops dr nd ops.toList 0 s []
  rw [List.filter_nil] at this
  rw [this]
  cases evOps E call ops dr nd ops.toList 0 s [] with
  | none => rfl
  | some q =>
    obtain ⟨x, s', rs⟩ := q
    simp only [Option.map_some, ob, recsOk_filter]
    cases dr with
    | false => rfl
    | true => cases recsOk ops rs <;> rfl

/-! ### code -/
def loopF (f : St → Option (X × St)) (h0 : Nat) (n : Nat) : St → Option (X × St) :=
  Nat.rec (fun _ => none) (fun _ ih s => ob (f s) fun q => match q.1 with
    | .nrm => ih (trunc h0 q.2)
    | _ => some q) n
theorem loopF_eq (f : St → Option (X × St)) (h0 : Nat) : ∀ (n : Nat) (s : St), loopF f h0 n s = evLoop f h0 n s
  | 0, s => rfl
  | n + 1, s => by
    show ob (f s) (fun q => match q.1 with | .nrm => loopF f h0 n (trunc h0 q.2) | _ => some q) = _
    simp only [evLoop]
    cases f s with
    | none => rfl
    | some q =>
      obtain ⟨x, s'⟩ := q
      cases x with
      | nrm => exact loopF_eq f h0 n _
      | _ => rfl

def seqF (r : Option (X × St)) (k : St → Option (X × St)) : Option (X × St) := ob r fun q => match q.1 with
  | .nrm => k q.2
  | _ => some q
def condF (c : Option V) (a b : St → Option (X × St)) (s : St) : Option (X × St) := ob c fun v => match v with
  | .bool c => (Bool.rec b a c : St → Option (X × St)) s
  | _ => none
def blockF (id : Nat) (r : Option (X × St)) : Option (X × St) := ob r fun q => match q.1 with
  | .exit i => some (if i = id then .nrm else .exit i, q.2)
  | _ => some q

def fCode (E : Env) (call : CallH) (N : Nat) (fid : FuncId) (rd : Option Nat) (c : Code) : St → Option (X × St) :=
  Code.rec (fun s => some (.nrm, s)) (fun _ ops d s => fRegion E call ops d rd.isNone s) (fun _ _ a b s => seqF (a s) b) (fun c _ _ a b s => condF (fo s.tm c) a b s)
    (fun id _ b s => blockF id (b s)) (fun _ b s => loopF b s.H.length N s) (fun f ps asg body _ _ s => evCode E call N fid rd (.rangeFunc f ps asg body) s)
    (fun id s => some (.exit id, s)) (fun _ b s => b s) (fun _ s => some (.nrm, s)) (fun _ _ => none) (fun s => some (.ret, s)) (fun _ _ => none) c

theorem fCode_eq (E : Env) (call : CallH) (N : Nat) (fid : FuncId) (rd : Option Nat) (c : Code) : ∀ s, fCode E call N fid rd c s = evCode E call N fid rd c s := by
  induction c with
  | skip => intro s; rfl
  | region id ops d => intro s; exact fRegion_eq _ _ _ _ _ _
  | seq a b iha ihb =>
    intro s
    show seqF (fCode E call N fid rd a s) (fCode E call N fid rd b) = _
    rw [iha s, show fCode E call N fid rd b = evCode E call N fid rd b from funext ihb]
    simp only [evCode]
    cases evCode E call N fid rd a s with
    | none => rfl
    | some q => obtain ⟨x, s'⟩ := q; cases x <;> rfl
  | cond c a b iha ihb =>
    intro s
    show condF (fo s.tm c) (fCode E call N fid rd a) (fCode E call N fid rd b) s = _
    rw [show fCode E call N fid rd b = evCode E call N fid rd b from funext ihb, show fCode E call N fid rd a = evCode E call N fid rd a from funext iha, fo_eq]
    simp only [evCode]
    cases evo s.tm c with
    | none => rfl
    | some v => cases v <;> first | rfl | (rename_i q; cases q <;> rfl)
  | block id b ih =>
    intro s
    show blockF id (fCode E call N fid rd b s) = _
    rw [ih s]
    simp only [evCode]
    cases evCode E call N fid rd b s with
    | none => rfl
    | some q => obtain ⟨x, s'⟩ := q; cases x <;> rfl
  | loop b ih =>
    intro s
    show loopF (fCode E call N fid rd b) s.H.length N s = _
    rw [show fCode E call N fid rd b = evCode E call N fid rd b from funext ih, loopF_eq]
    rfl
  | rangeFunc f ps asg body _ _ => intro s; rfl
  | exit id => intro s; rfl
  | scope b ih => intro s; exact ih s
  | label l => intro s; rfl
  | goto l => intro s; rfl
  | ret => intro s; rfl
  | refuse w => intro s; rfl

/-- A function's body, run. -/
def fFn (E : Env) (call : CallH) (N : Nat) (pn : Pn) (f : FuncId) (args : List V) (H : Heap) : Option (CR × Heap × Pn) :=
  ob (E.fn f) fun fn => ob fn.body fun c =>
    ob (fCode E call N f none c { tm := args ++ List.replicate (fn.ntmps - args.length) (.tup []), df := [], H, pn }) fun q =>
      ob (match q.1 with | .nrm | .ret => some Md.ret | .pan v => some (Md.pan v) | .exit _ => none) fun m =>
        ob (unw call q.2.df m q.2.H) fun r => match r.1 with
          | .ret => ob (resVs E r.2 q.2.tm fn.results.toList) fun vs => some (.ret (oneOf vs), leave H.length (oneOf vs) q.2.pn r.2, q.2.pn)
          | .pan v => some (.pan v, r.2, q.2.pn)
theorem fFn_eq (E : Env) (call : CallH) (N : Nat) (pn : Pn) (f : FuncId) (args : List V) (H : Heap) : fFn E call N pn f args H = evFn E call N pn f args H := by
  unfold fFn evFn
  cases E.fn f with
  | none => rfl
  | some fn =>
    simp only [ob]
    cases fn.body with
    | none => rfl
    | some c =>
      simp only [fCode_eq]
      cases evCode E call N f none c { tm := args ++ List.replicate (fn.ntmps - args.length) (.tup []), df := [], H, pn } with
      | none => rfl
      | some q =>
        obtain ⟨x, s⟩ := q
        simp only
        have key : ∀ m : Md, (Option.rec none (fun r : Md × Heap => match r.1 with
            | .ret => Option.rec none (fun vs => some (CR.ret (oneOf vs), leave H.length (oneOf vs) s.pn r.2, s.pn)) (resVs E r.2 s.tm fn.results.toList)
            | .pan v => some (.pan v, r.2, s.pn)) (unw call s.df m s.H) : Option (CR × Heap × Pn)) = (match unw call s.df m s.H with
          | some (.ret, H') => (match resVs E H' s.tm fn.results.toList with
            | some vs => some (.ret (oneOf vs), leave H.length (oneOf vs) s.pn H', s.pn)
            | none => none)
          | some (.pan v, H') => some (.pan v, H', s.pn)
          | none => none) := fun m => by
          cases unw call s.df m s.H with
          | none => rfl
          | some r =>
            obtain ⟨m', H'⟩ := r
            cases m' with
            | ret => simp only; cases resVs E H' s.tm fn.results.toList <;> rfl
            | pan v => rfl
        cases x with
        | nrm => exact key .ret
        | ret => exact key .ret
        | pan v => exact key (.pan v)
        | exit i => rfl

/-- One round of a range-over-function loop. -/
def fRound (E : Env) (call : CallH) (N : Nat) (l : Nat) (args : List V) (H : Heap) : Option (CR × Heap × Pn) :=
  match H[l]? with
  | some (.loop .ready pend fid tm ps asg body db) =>
    if args.length = ps.size then
      match fCode E call N fid (some l) asg { tm := (ps.toList.zip args).foldl (fun t p => t.set p.1 p.2) tm, df := [], H, pn := .normal } with
      | some (.nrm, s1) =>
        (match s1.H[l]?, s1.df with
        | some (.loop .ready pend' fid' tm' ps' asg' body' db'), [] =>
          (match fCode E call N fid (some l) body { s1 with H := s1.H.set l (.loop .busy pend' fid' tm' ps' asg' body' db') } with
          | some (x, s2) =>
            (match s2.H[l]?, s2.df with
            | some (.loop _ _ f2 t2 p2 a2 b2 d2), [] =>
              (match x with
              | .nrm => let H2 := s2.H.set l (.loop .ready none f2 t2 p2 a2 b2 d2); some (.ret (.bool true), leave H.length (.bool true) .normal H2, .normal)
              | .ret => some (.ret (.bool false), s2.H.set l (.loop .done (some .ret) f2 t2 p2 a2 b2 d2), .normal)
              | .exit id => some (.ret (.bool false), s2.H.set l (.loop .done (some (.exit id)) f2 t2 p2 a2 b2 d2), .normal)
              | .pan _ => none)
            | _, _ => none)
          | none => none)
        | _, _ => none)
      | _ => none
    else none
  | _ => none
theorem fRound_eq (E : Env) (call : CallH) (N : Nat) (l : Nat) (args : List V) (H : Heap) : fRound E call N l args H = evRound E call N l args H := by
  unfold fRound evRound
  simp only [fCode_eq]
  rfl

def fCall (E : Env) (N : Nat) : Nat → CallH
  | 0 => fun _ _ _ _ => none
  | n + 1 => fun pn fv args H =>
    match fv with
    | .fn (.func f) first cap =>
      let full := first ++ args ++ cap
      (match (match pn with | .normal => E.spec f (full.map (frz H 0 false depth)) | _ => none) with
      | some r => if r.flat depth then some (.ret r, H, .normal) else (reach H (refsL full)).map fun l => (.ret r, shutAll H l, .normal)
      | none => fFn E (fCall E N n) N pn f full H)
    | .yld l => (match pn with | .normal => fRound E (fCall E N n) N l args H | _ => none)
    | _ => none
theorem fCall_eq (E : Env) (N : Nat) : ∀ n, fCall E N n = evCall E N n
  | 0 => rfl
  | n + 1 => by
    funext pn fv args H
    simp only [fCall, evCall, fCall_eq E N n, fFn_eq, fRound_eq]
    rfl
end
end Go.Ev
