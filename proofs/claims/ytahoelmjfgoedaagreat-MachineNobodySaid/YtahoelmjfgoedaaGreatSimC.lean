/- The operations of a region over the plain picture, and what a call is to tell. Of no program. -/
import Derived.Test.YtahoelmjfgoedaaGreatSimB
import Derived.Laws.Entries
import Derived.RangeFuncLeaves
import Derived.LoopNIn
import Derived.OrdersIn
import Derived.TacticsIn
namespace Go.Sim
open Go.RowKit Go.Proofs.YtahoelmjfgoedaaGreat.B

/-- Slots that hold something, and the rows. -/
structure St where
  slots : List (Nat × AV)
  regs : List Reg

/-- An operand. -/
inductive AX where
  | t (n : Nat)
  | k (x : Value)
  | f (i : Nat)

def St.ev (s : St) : AX → AV
  | .t n => lk s.slots n
  | .k x => .c (.p (.v x))
  | .f i => .c (.fn (.func i) [] [])

def St.put (s : St) : Option Nat → AV → St
  | some d, v => ⟨(d, v) :: s.slots, s.regs⟩
  | none, _ => s
def St.putr (s : St) (d : Option Nat) (v : AV) (regs : List Reg) : St := St.put ⟨s.slots, regs⟩ d v

/-- Operations on maps and channels. -/
inductive XOp where
  | mkmap
  | look (kk : Bool × List IntKind) (zero : PW) (ok : Bool)
  | upd (kk : Bool × List IntKind)
  | mlen
  | nilq (k : Nat) (neg : Bool)
  | mkch (bytes : Nat)
  | chlen
  | chcap

inductive AOp where
  | x (d : Option Nat) (k : XOp) (args : List AX)
  | mv (d : Option Nat) (x : AX)
  | bin (d : Option Nat) (op : BinOp) (x y : AX)
  | eqs (d : Option Nat) (neg : Bool) (t : Nat) (ks : List IntKind) (x y : AX)
  | beq (d : Option Nat) (neg : Bool) (x y : AX)
  | pick (d : Option Nat) (c a b : AX)
  | un (d : Option Nat) (op : UnOp) (x : AX)
  | cvi (d : Option Nat) (k : IntKind) (x : AX)
  | b2s (d : Option Nat) (x : AX)
  | alloc (d : Option Nat) (zs : List Value)
  | allocA (d : Option Nat) (sz n : Nat) (z : List Value)
  | box (d : Option Nat) (x : AX)
  | build (d : Option Nat) (zs : List Value) (parts : List (Nat × Nat × AX))
  | bsl (d : Option Nat) (sz len : Nat) (z : List Value) (parts : List (Nat × AX))
  | load (d : Option Nat) (n : Nat) (agg : Bool) (x : AX)
  | store (n : Nat) (a x : AX)
  | nilc (d : Option Nat) (x : AX)
  | fad (d : Option Nat) (off : Nat) (x : AX)
  | fld (d : Option Nat) (off n : Nat) (agg : Bool) (x : AX)
  | ixs (d : Option Nat) (sz : Nat) (x i : AX)
  | ixa (d : Option Nat) (len sz : Nat) (x i : AX)
  | ixv (d : Option Nat) (len sz : Nat) (agg : Bool) (x i : AX)
  | ixt (d : Option Nat) (x i : AX)
  | sls (d : Option Nat) (sz : Nat) (x : AX) (lo hi mx : Option AX)
  | sla (d : Option Nat) (n sz : Nat) (x : AX) (lo hi mx : Option AX)
  | mks (d : Option Nat) (sz bytes : Nat) (z : List Value) (len cap : AX)
  | mkf (d : Option Nat) (f : Fn) (first captured : List AX)
  | ext (d : Option Nat) (x : AX) (i : Nat)
  | len (d : Option Nat) (x : AX)
  | lens (d : Option Nat) (x : AX)
  | mm (d : Option Nat) (mx : Bool) (x y : AX)
  | app (d : Option Nat) (sz bytes : Nat) (s x : AX)
  | call (d : Option Nat) (f : Nat) (args : List AX)
  | callv (d : Option Nat) (x : AX) (args : List AX)
  | cally (d : Option Nat) (x : AX) (args : List AX)

def AOp.dst : AOp → Option Nat
  | .x d _ _ | .mv d _ | .bin d _ _ _ | .eqs d _ _ _ _ _ | .beq d _ _ _ | .pick d _ _ _ | .un d _ _ | .cvi d _ _ | .b2s d _ | .alloc d _ | .allocA d _ _ _ | .box d _ | .build d _ _ | .bsl d _ _ _ _
  | .load d _ _ _ | .nilc d _ | .fad d _ _ | .fld d _ _ _ _ | .ixs d _ _ _ | .ixa d _ _ _ _ | .ixv d _ _ _ _ _ | .ixt d _ _ | .sls d _ _ _ _ _ | .sla d _ _ _ _ _ _ | .mks d _ _ _ _ _
  | .mkf d _ _ _ | .ext d _ _ | .len d _ | .lens d _ | .mm d _ _ _ | .app d _ _ _ _ | .call d _ _ | .callv d _ _ | .cally d _ _ => d
  | .store _ _ _ => none

/-- Whole numbers, texts: what an operator tells. -/
def binW (op : BinOp) (x y : Value) (K : Value → Prop) : Prop :=
  match op, x, y with
  | .add, .int k a, .int k' b => k = k' ∧ K (.int k (k.wrap (a + b)))
  | .sub, .int k a, .int k' b => k = k' ∧ K (.int k (k.wrap (a - b)))
  | .mul, .int k a, .int k' b => k = k' ∧ K (.int k (k.wrap (a * b)))
  | .quo, .int k a, .int k' b => k = k' ∧ b ≠ 0 ∧ K (.int k (k.wrap (a.tdiv b)))
  | .rem, .int k a, .int k' b => k = k' ∧ b ≠ 0 ∧ K (.int k (a.tmod b))
  | .and, .int k a, .int k' b => k = k' ∧ K (.int k (bits .and k a b))
  | .or, .int k a, .int k' b => k = k' ∧ K (.int k (bits .or k a b))
  | .xor, .int k a, .int k' b => k = k' ∧ K (.int k (bits .xor k a b))
  | .andNot, .int k a, .int k' b => k = k' ∧ K (.int k (bits .andNot k a b))
  | .eql, .int k a, .int k' b => k = k' ∧ K (.bool (decide (a = b)))
  | .neq, .int k a, .int k' b => k = k' ∧ K (.bool (!decide (a = b)))
  | .lss, .int k a, .int k' b => k = k' ∧ K (.bool (decide (a < b)))
  | .leq, .int k a, .int k' b => k = k' ∧ K (.bool (decide (a ≤ b)))
  | .gtr, .int k a, .int k' b => k = k' ∧ K (.bool (decide (b < a)))
  | .geq, .int k a, .int k' b => k = k' ∧ K (.bool (decide (b ≤ a)))
  | .shl, .int k a, .int _ b => 0 ≤ b ∧ K (.int k (k.wrap (a * 2 ^ (min b.toNat k.bits))))
  | .shr, .int k a, .int _ b => 0 ≤ b ∧ K (.int k (a / 2 ^ (min b.toNat k.bits)))
  | .add, .string a, .string b => ((a.size + b.size : Nat) : Int) ≤ 9223372036854775807 ∧ K (.string (a ++ b))
  | .eql, .string a, .string b => K (.bool (a.toList == b.toList))
  | .neq, .string a, .string b => K (.bool (!(a.toList == b.toList)))
  | _, _, _ => False

/-- The whole numbers in a struct's cells, of these kinds. -/
def intsOf : List IntKind → List AC → Option (List Int)
  | [], [] => some []
  | k :: ks, .p (.v (.int k' n)) :: r => if k = k' then (intsOf ks r).map (n :: ·) else none
  | _, _ => none
def mkInts (ks : List IntKind) (ns : List Int) : List Value := List.zipWith Value.int ks ns

/-- A type whose values are whole numbers of these kinds, held against each other cell by cell. -/
def EqOk (P : Program) (t : Nat) (ks : List IntKind) : Prop :=
  P.eqGuardType P.depth t = false ∧ ∀ (w : World) (as bs : List Int), as.length = ks.length → bs.length = ks.length →
    (Op.equal t (.agg (mkInts ks as).toArray) (.agg (mkInts ks bs).toArray)).run P w = .ok (decide (as = bs)) w

def boolOf : AV → Option Bool
  | .c (.p (.v (.bool b))) => some b
  | _ => none
def intOf' : AV → Option (IntKind × Int)
  | .c (.p (.v (.int k n))) => some (k, n)
  | _ => none
def valOf : AV → Option Value
  | .c (.p (.v x)) => some x
  | _ => none
/-- The cells of a value; all of them known. -/
def cellsOf : AV → Option (List AC)
  | .c x => if x.known then some [x] else none
  | .agg l => some l
  | .tup _ => none
def pureOf : AC → Option PV
  | .p x => some x
  | _ => none
def puresOf : List AC → Option (List PV)
  | [] => some []
  | .p x :: r => (puresOf r).map (x :: ·)
  | _ :: _ => none
def faOf : AV → Option FA
  | .c (.p x) => some (.p x)
  | .c (.ptr id off) => some (.ptr id off)
  | _ => none
def allOf {α β : Type} (f : α → Option β) : List α → Option (List β)
  | [] => some []
  | a :: l => (f a).bind fun b => (allOf f l).map (b :: ·)
def avFA : FA → AV
  | .p x => .c (.p x)
  | .ptr id off => .c (.ptr id off)
/-- A slice's length. -/
def lenOf' : AV → Option Nat
  | .c (.p (.sl _ l)) => some l.length
  | .c (.tight _ l) => some l.length
  | .c (.own _ _ _ len _) => some len
  | .c (.p (.v (.slice none 0 0))) => some 0
  | _ => none
/-- A value's cells as one value. -/
def pack (agg : Bool) (l : List AC) : Option AV :=
  if agg then (if l.all AC.known then some (.agg l) else none) else match l with
    | [x] => some (.c x)
    | _ => none
/-- Parts laid into cells. -/
def fillA : List AC → List (Nat × Nat × AV) → Option (List AC)
  | cells, [] => some cells
  | cells, (off, sz, v) :: r => (cellsOf v).bind fun xs => if xs.length = sz ∧ off + sz ≤ cells.length then fillA (cells.take off ++ xs ++ cells.drop (off + sz)) r else none
/-- Elements laid into a row. -/
def fillE (sz : Nat) : List (List PV) → List (Nat × AV) → Option (List (List PV))
  | ls, [] => some ls
  | ls, (i, v) :: r => (cellsOf v).bind fun xs => (puresOf xs).bind fun ps => if ps.length = sz ∧ i < ls.length then fillE sz (ls.set i ps) r else none
/-- Cells, sz by sz. -/
def chunkL (sz : Nat) : Nat → List PV → List (List PV)
  | 0, _ => []
  | n + 1, l => l.take sz :: chunkL sz n (l.drop sz)
/-- A bound of a cut. -/
def natOf : Option AV → Nat → Option Int
  | none, n => some n
  | some v, _ => (intOf' v).map (·.2)
/-- The elements of a slice that is only read. -/
def elemsOf (regs : List Reg) : AV → Option (List (List PV))
  | .c (.p (.sl _ l)) => some l
  | .c (.tight _ l) => some l
  | .c (.p (.v (.slice none 0 0))) => some []
  | .c (.own id off sz len _) => match regs[id]? with
    | some (.pc sz' ls) => if sz' = sz then some ((ls.drop off).take len) else none
    | _ => none
  | _ => none
def szOf : AV → Option Nat
  | .c (.p (.sl sz _)) => some sz
  | .c (.tight sz _) => some sz
  | .c (.own _ _ sz _ _) => some sz
  | _ => none

/-- A function with a text of its own. -/
def FnOk (P : Program) (f : Nat) : Prop := ∃ fn, P.funcs[f]? = some fn ∧ (fn.name == "runtime.NumGoroutine") = false ∧ fn.body.isSome = true

/-- What a call tells, and leaves. -/
def FS (P : Program) (f : Nat) (args : List AV) (regs : List Reg) (K : AV → List Reg → Prop) : Prop :=
  FnOk P f ∧ ∀ (w : World) (fps : List Nat) (base : Nat → Prop) (env : Env) (vs : List Value), RS P w w fps base env regs → All2 (VRel w env (badOf base env regs)) args vs →
    Calls P f vs.toArray w fun e w' => ∃ v res regs' env', e = .returned v ∧ K res regs' ∧ RS P w w' fps base env' regs' ∧ VRel w' env' (badOf base env' regs') res v ∧ Ev w env (badOf base env regs) w' env' (badOf base env' regs')

theorem FS.mono {P : Program} {f : Nat} {args : List AV} {regs : List Reg} {K K' : AV → List Reg → Prop} (h : FS P f args regs K) (hk : ∀ r rg, K r rg → K' r rg) : FS P f args regs K' :=
  ⟨h.1, fun w fps base env vs h1 h2 => (h.2 w fps base env vs h1 h2).mono fun _ _ ⟨v, res, regs', env', e, k, r⟩ => ⟨v, res, regs', env', e, hk _ _ k, r⟩⟩

/-- The widest fence: in a function's own frame, or in a round of a loop over a function. -/
def Fw (ro : Option Nat) : Fence := { fn := fun _ => True, depth := none, alive := false, round := ro }
/-- What a call of a loop's yield tells, and leaves. -/
def YS (P : Program) (id : Nat) (args : List AV) (regs : List Reg) (K : AV → List Reg → Prop) : Prop :=
  ∀ (w : World) (fps : List Nat) (base : Nat → Prop) (env : Env) (vs : List Value), RS P w w fps base env regs → All2 (VRel w env (badOf base env regs)) args vs → ∀ l c, env.f id = some (l, c) →
    ∃ f tmps asg body, (Instr.yield l vs.toArray).run P w = .ok (.round l f tmps asg body) w ∧ ∀ ro n, RoundIn (Fw ro) n P l f tmps asg body w fun e w' =>
      ∃ v res regs' env', e = .returned v ∧ K res regs' ∧ RS P w w' fps base env' regs' ∧ VRel w' env' (badOf base env' regs') res v ∧ Ev w env (badOf base env regs) w' env' (badOf base env' regs')
theorem YS.mono {P : Program} {id : Nat} {args : List AV} {regs : List Reg} {K K' : AV → List Reg → Prop} (h : YS P id args regs K) (hk : ∀ r rg, K r rg → K' r rg) : YS P id args regs K' :=
  fun w fps base env vs h1 h2 l c hl => by
    obtain ⟨f, tmps, asg, body, hy, hr⟩ := h w fps base env vs h1 h2 l c hl
    exact ⟨f, tmps, asg, body, hy, fun ro n => (hr ro n).mono fun _ _ ⟨v, res, regs', env', e, k, r⟩ => ⟨v, res, regs', env', e, hk _ _ k, r⟩⟩

/-- Pure elements as elements. -/
def upL (ls : List (List PV)) : List (List AC) := ls.map fun l => l.map AC.p
def esOf : Reg → Option (Nat × List (List AC))
  | .pc sz ls => some (sz, upL ls)
  | .es sz ls => some (sz, ls)
  | _ => none
def elemsX (regs : List Reg) : AV → Option (List (List AC))
  | .c (.own id off sz len _) => match (regs[id]?).bind esOf with
    | some (sz', ls) => if sz' = sz then some ((ls.drop off).take len) else none
    | none => none
  | v => (elemsOf regs v).map upL
/-- Elements laid into a row, pure or not. -/
def fillX (sz : Nat) : List (List AC) → List (Nat × AV) → Option (List (List AC))
  | ls, [] => some ls
  | ls, (i, v) :: r => (cellsOf v).bind fun xs => if xs.length = sz ∧ i < ls.length then fillX sz (ls.set i xs) r else none
def storeE (n sz i j : Nat) (xs : List AC) (ls : List (List AC)) (K : List (List AC) → Prop) : Prop :=
  ∃ c, ls[i]? = some c ∧ xs.length = n ∧ j + n ≤ sz ∧ K (ls.set i (c.take j ++ xs ++ c.drop (j + n)))
/-- An append of pure elements. -/
def appW (regs : List Reg) (vx vy : AV) (sz bytes : Nat) (K : AV → List Reg → Prop) : Prop :=
  match elemsOf regs vy, lenOf' vy with
  | some ls, some n => n = ls.length ∧ (szOf vy = none ∨ szOf vy = some sz) ∧ match vx with
    | .c (.p (.v (.slice none 0 0))) => n ≤ 140737488355328 ∧ n * bytes ≤ 140737488355328 ∧ K (.c (.own regs.length 0 sz n .free)) (regs ++ [.pc sz ls])
    | .c (.own id 0 sz' len .free) => match regs[id]? with
      | some (.pc sz'' old) => sz = sz' ∧ sz = sz'' ∧ len ≤ old.length ∧ len + n ≤ 140737488355328 ∧ (len + n) * bytes ≤ 140737488355328 ∧
          K (.c (.own regs.length 0 sz (len + n) .free)) (regs.set id .dead ++ [.pc sz (old.take len ++ ls)])
      | _ => False
    | .c (.own id off sz' len (.ex k)) => match regs[id]? with
      | some (.pc sz'' old) => sz = sz' ∧ sz = sz'' ∧ off + len ≤ old.length ∧ k < len + n ∧ len + n ≤ 140737488355328 ∧ (len + n) * bytes ≤ 140737488355328 ∧
          K (.c (.own regs.length 0 sz (len + n) .free)) (regs ++ [.pc sz ((old.drop off).take len ++ ls)])
      | _ => False
    | .c (.tight sz' old) => sz = sz' ∧ 0 < n ∧ old.length + n ≤ 140737488355328 ∧ (old.length + n) * bytes ≤ 140737488355328 ∧
          K (.c (.own regs.length 0 sz (old.length + n) .free)) (regs ++ [.pc sz (old ++ ls)])
    | _ => False
  | _, _ => False
/-- An append of any elements. -/
def appE (regs : List Reg) (vx vy : AV) (sz bytes : Nat) (K : AV → List Reg → Prop) : Prop :=
  match elemsX regs vy, lenOf' vy with
  | some ls, some n => n = ls.length ∧ (szOf vy = none ∨ szOf vy = some sz) ∧ match vx with
    | .c (.p (.v (.slice none 0 0))) => n ≤ 140737488355328 ∧ n * bytes ≤ 140737488355328 ∧ K (.c (.own regs.length 0 sz n .free)) (regs ++ [.es sz ls])
    | .c (.own id 0 sz' len .free) => match (regs[id]?).bind esOf with
      | some (sz'', old) => sz = sz' ∧ sz = sz'' ∧ len ≤ old.length ∧ len + n ≤ 140737488355328 ∧ (len + n) * bytes ≤ 140737488355328 ∧
          K (.c (.own regs.length 0 sz (len + n) .free)) (regs.set id .dead ++ [.es sz (old.take len ++ ls)])
      | _ => False
    | .c (.own id off sz' len (.ex k)) => match (regs[id]?).bind esOf with
      | some (sz'', old) => sz = sz' ∧ sz = sz'' ∧ off + len ≤ old.length ∧ k < len + n ∧ len + n ≤ 140737488355328 ∧ (len + n) * bytes ≤ 140737488355328 ∧
          K (.c (.own regs.length 0 sz (len + n) .free)) (regs ++ [.es sz ((old.drop off).take len ++ ls)])
      | _ => False
    | _ => False
  | _, _ => False

def pwAV : PW → AV
  | (true, l) => .agg (l.map .p)
  | (false, [x]) => .c (.p x)
  | (false, _) => .c .any
def avPW : AV → Option PW
  | .agg l => (puresOf l).map fun ps => (true, ps)
  | .c (.p x) => some (false, [x])
  | _ => none
/-- The whole numbers that a key is; kk: is it a struct, and of which kinds. -/
def keyInts (kk : Bool × List IntKind) : PW → Option (List Int)
  | (true, l) => if kk.1 = true then intsOf kk.2 (l.map .p) else none
  | (false, [.v (.int k n)]) => if kk = (false, [k]) then some [n] else none
  | _ => none
def kEq (kk : Bool × List IntKind) (us : List Int) (p : PW × PW) : Bool := decide (keyInts kk p.1 = some us)
def mpGet (kk : Bool × List IntKind) (us : List Int) (l : List (PW × PW)) : Option PW := (l.find? (kEq kk us)).map (·.2)
def mpSet (kk : Bool × List IntKind) (us : List Int) (key val : PW) (l : List (PW × PW)) : List (PW × PW) :=
  if l.any (kEq kk us) = true then l.map (fun p => if kEq kk us p = true then (key, val) else p) else l ++ [(key, val)]
/-- All keys are whole numbers of these kinds, no two the same. -/
def keysOk (kk : Bool × List IntKind) (l : List (PW × PW)) : Prop := (∀ p ∈ l, (keyInts kk p.1).isSome = true) ∧ l.Pairwise (fun p q => keyInts kk p.1 ≠ keyInts kk q.1)
/-- Is a pointer (0), a slice (1), a map (2), a channel (3), a function (4) nil? -/
def nilOf : Nat → AV → Option Bool
  | 0, .c (.ptr _ _) | 0, .c (.ept _ _ _ _) | 0, .c (.rp _) => some false
  | 0, .c (.p (.v (.pointer none))) => some true
  | 1, .c (.p (.sl _ (_ :: _))) | 1, .c (.tight _ (_ :: _)) | 1, .c (.own _ _ _ (_ + 1) _) => some false
  | 1, .c (.p (.v (.slice none 0 0))) => some true
  | 2, .c (.hnd .mp _) => some false
  | 2, .c (.p (.v (.map none))) => some true
  | 3, .c (.hnd .ch _) => some false
  | 3, .c (.p (.v (.chan none))) => some true
  | 4, .c (.fn _ _ _) => some false
  | 4, .c (.p (.v .nilFunc)) => some true
  | _, _ => none
/-- What is cut out of a row; an empty cut may lie anywhere. -/
def cutV (id off sz : Nat) (lo hi : Int) (cap : Cap) : AC := if lo = 0 ∨ lo < hi then .own id (off + lo.toNat) sz (hi.toNat - lo.toNat) (if lo = 0 then cap else .unk) else .p (.sl sz [])
/-- An operation on a map or a channel. -/
def xW (k : XOp) (args : List AV) (regs : List Reg) (K : AV → List Reg → Prop) : Prop :=
  match k, args with
  | .mkmap, [] => K (.c (.hnd .mp regs.length)) (regs ++ [.ob (.mp [])])
  | .look ks z ok, [m, key] => match (avPW key).bind (keyInts ks), m with
    | some _, .c (.p (.v (.map none))) => K (if ok then .tup [pwAV z, .c (.p (.v (.bool false)))] else pwAV z) regs
    | some us, .c (.hnd .mp id) => match regs[id]? with
      | some (.ob (.mp l)) => keysOk ks l ∧ match mpGet ks us l with
        | some v => K (if ok then .tup [pwAV v, .c (.p (.v (.bool true)))] else pwAV v) regs
        | none => K (if ok then .tup [pwAV z, .c (.p (.v (.bool false)))] else pwAV z) regs
      | _ => False
    | _, _ => False
  | .upd ks, [m, key, val] => match m, avPW key, avPW val with
    | .c (.hnd .mp id), some pk, some pv => match regs[id]?, keyInts ks pk with
      | some (.ob (.mp l)), some us => keysOk ks l ∧ K (.tup []) (regs.set id (.ob (.mp (mpSet ks us pk pv l))))
      | _, _ => False
    | _, _, _ => False
  | .nilq k neg, [v] => match nilOf k v with
    | some b => K (.c (.p (.v (.bool (if neg then !b else b))))) regs
    | none => False
  | .mlen, [.c (.hnd .mp id)] => match regs[id]? with
    | some (.ob (.mp l)) => K (.c (.p (.v (.int .i64 l.length)))) regs
    | _ => False
  | .mlen, [.c (.p (.v (.map none)))] => K (.c (.p (.v (.int .i64 0)))) regs
  | .mkch bytes, [n] => match intOf' n with
    | some (_, n) => 0 ≤ n ∧ n ≤ 9223372036854775807 ∧ bytes * n ≤ 281474976710544 ∧ K (.c (.hnd .ch regs.length)) (regs ++ [.ob (.ch n.toNat [])])
    | none => False
  | .chlen, [.c (.hnd .ch id)] => match regs[id]? with
    | some (.ob (.ch _ q)) => K (.c (.p (.v (.int .i64 q.length)))) regs
    | _ => False
  | .chcap, [.c (.hnd .ch id)] => match regs[id]? with
    | some (.ob (.ch cap _)) => K (.c (.p (.v (.int .i64 cap)))) regs
    | _ => False
  | .chlen, [.c (.p (.v (.chan none)))] | .chcap, [.c (.p (.v (.chan none)))] => K (.c (.p (.v (.int .i64 0)))) regs
  | _, _ => False

/-- An operation over the picture. -/
def opW (P : Program) (o : AOp) (s : St) (K : St → Prop) : Prop :=
  match o with
  | .x d k args => xW k (args.map s.ev) s.regs fun v regs' => K (s.putr d v regs')
  | .mv d x => K (s.put d (s.ev x))
  | .bin d op x y => match valOf (s.ev x), valOf (s.ev y) with
    | some a, some b => binW op a b fun v => K (s.put d (.c (.p (.v v))))
    | _, _ => False
  | .eqs d neg t ks x y => match s.ev x, s.ev y with
    | .agg l, .agg l' => match intsOf ks l, intsOf ks l' with
      | some as, some bs => EqOk P t ks ∧ K (s.put d (.c (.p (.v (.bool (if neg then !decide (as = bs) else decide (as = bs)))))))
      | _, _ => False
    | _, _ => False
  | .beq d neg x y => match boolOf (s.ev x), boolOf (s.ev y) with
    | some a, some b => K (s.put d (.c (.p (.v (.bool (if neg then !(a == b) else (a == b)))))))
    | _, _ => False
  | .pick d c a b => match boolOf (s.ev c) with
    | some t => (t = true → K (s.put d (s.ev a))) ∧ (t = false → K (s.put d (s.ev b)))
    | none => False
  | .un d op x => match op, valOf (s.ev x) with
    | .not, some (.bool b) => K (s.put d (.c (.p (.v (.bool (!b))))))
    | .neg, some (.int k n) => K (s.put d (.c (.p (.v (.int k (k.wrap (0 - n)))))))
    | _, _ => False
  | .cvi d k x => match intOf' (s.ev x) with
    | some (_, n) => K (s.put d (.c (.p (.v (.int k (k.wrap n))))))
    | none => False
  | .alloc d zs => K (s.putr d (.c (.ptr s.regs.length 0)) (s.regs ++ [.ac (zs.map fun z => .p (.v z))]))
  | .allocA d sz n z => K (s.putr d (.c (.ept s.regs.length sz 0 0)) (s.regs ++ [.pc sz (List.replicate n (z.map .v))]))
  | .box d x => match cellsOf (s.ev x) with
    | some l => K (s.putr d (.c (.ptr s.regs.length 0)) (s.regs ++ [.ac l]))
    | none => False
  | .nilc d x => match s.ev x with
    | .c (.ptr id off) => K (s.put d (.c (.ptr id off)))
    | .c (.ept id sz i j) => K (s.put d (.c (.ept id sz i j)))
    | .c (.rp l) => K (s.put d (.c (.rp l)))
    | _ => False
  | .fad d off x => match s.ev x with
    | .c (.ptr id o) => K (s.put d (.c (.ptr id (o + off))))
    | .c (.ept id sz i j) => K (s.put d (.c (.ept id sz i (j + off))))
    | .c (.rp l) => K (s.put d (.c (.rp (l.drop off))))
    | _ => False
  | .fld d off n agg x => match s.ev x with
    | .agg l => ∃ v, off + n ≤ l.length ∧ pack agg ((l.drop off).take n) = some v ∧ K (s.put d v)
    | _ => False
  | .load d n agg x => match s.ev x with
    | .c (.ptr id off) => match s.regs[id]? with
      | some (.ac l) => ∃ v, off + n ≤ l.length ∧ pack agg ((l.drop off).take n) = some v ∧ K (s.put d v)
      | _ => False
    | .c (.ept id sz i j) => match s.regs[id]? with
      | some (.pc sz' ls) => sz = sz' ∧ ∃ c v, ls[i]? = some c ∧ j + n ≤ sz ∧ pack agg (((c.drop j).take n).map .p) = some v ∧ K (s.put d v)
      | some (.es sz' ls) => sz = sz' ∧ ∃ c v, ls[i]? = some c ∧ j + n ≤ sz ∧ pack agg ((c.drop j).take n) = some v ∧ K (s.put d v)
      | _ => False
    | .c (.rp l) => ∃ v, n ≤ l.length ∧ pack agg ((l.take n).map .p) = some v ∧ K (s.put d v)
    | _ => False
  | .store n a x => match s.ev a, cellsOf (s.ev x) with
    | .c (.ptr id off), some xs => match s.regs[id]? with
      | some (.ac l) => xs.length = n ∧ off + n ≤ l.length ∧ K ⟨s.slots, s.regs.set id (.ac (l.take off ++ xs ++ l.drop (off + n)))⟩
      | _ => False
    | .c (.ept id sz i j), some xs => match s.regs[id]? with
      | some (.pc sz' ls) => sz = sz' ∧ ((∃ c ps, ls[i]? = some c ∧ puresOf xs = some ps ∧ ps.length = n ∧ j + n ≤ sz ∧ K ⟨s.slots, s.regs.set id (.pc sz (ls.set i (c.take j ++ ps ++ c.drop (j + n))))⟩) ∨
          storeE n sz i j xs (upL ls) fun l => K ⟨s.slots, s.regs.set id (.es sz l)⟩)
      | some (.es sz' ls) => sz = sz' ∧ storeE n sz i j xs ls fun l => K ⟨s.slots, s.regs.set id (.es sz l)⟩
      | _ => False
    | _, _ => False
  | .ixs d sz x i => match intOf' (s.ev i), s.ev x with
    | some (_, i), .c (.p (.sl sz' l)) => sz = sz' ∧ 0 ≤ i ∧ ∃ c, l[i.toNat]? = some c ∧ K (s.put d (.c (.rp c)))
    | some (_, i), .c (.own id off sz' len _) => sz = sz' ∧ 0 ≤ i ∧ i < len ∧ K (s.put d (.c (.ept id sz (off + i.toNat) 0)))
    | _, _ => False
  | .ixa d len sz x i => match intOf' (s.ev i), s.ev x with
    | some (_, i), .c (.ept id sz' a 0) => sz = sz' ∧ 0 ≤ i ∧ i < len ∧ K (s.put d (.c (.ept id sz (a + i.toNat) 0)))
    | some (_, i), .c (.ptr id off) => 0 ≤ i ∧ i < len ∧ K (s.put d (.c (.ptr id (off + i.toNat * sz))))
    | some (_, i), .c (.rp l) => 0 ≤ i ∧ i < len ∧ K (s.put d (.c (.rp (l.drop (i.toNat * sz)))))
    | _, _ => False
  | .len d x => match lenOf' (s.ev x) with
    | some n => K (s.put d (.c (.p (.v (.int .i64 n)))))
    | none => False
  | .build d zs parts => match fillA (zs.map fun z => .p (.v z)) (parts.map fun (off, sz, x) => (off, sz, s.ev x)) with
    | some l => K (s.put d (.agg l))
    | none => False
  | .bsl d sz len z parts => match fillE sz (List.replicate len (z.map .v)) (parts.map fun (i, x) => (i, s.ev x)) with
    | some ls => K (s.putr d (.c (.own s.regs.length 0 sz len .free)) (s.regs ++ [.pc sz ls]))
    | none => match fillX sz (upL (List.replicate len (z.map .v))) (parts.map fun (i, x) => (i, s.ev x)) with
      | some ls => K (s.putr d (.c (.own s.regs.length 0 sz len .free)) (s.regs ++ [.es sz ls]))
      | none => False
  | .ixv d len sz agg x i => match intOf' (s.ev i), s.ev x with
    | some (_, i), .agg l => 0 ≤ i ∧ i < len ∧ ∃ v, i.toNat * sz + sz ≤ l.length ∧ pack agg ((l.drop (i.toNat * sz)).take sz) = some v ∧ K (s.put d v)
    | _, _ => False
  | .ixt d x i => match intOf' (s.ev i), valOf (s.ev x) with
    | some (_, i), some (.string b) => 0 ≤ i ∧ ∃ h : i.toNat < b.size, K (s.put d (.c (.p (.v (.int .u8 (b[i.toNat]'h).toNat)))))
    | _, _ => False
  | .mm d mx x y => match intOf' (s.ev x), intOf' (s.ev y) with
    | some (k, a), some (_, b) => K (s.put d (.c (.p (.v (.int k (if mx then (if a < b then b else a) else (if b < a then b else a)))))))
    | _, _ => False
  | .sls d sz x lo hi mx => match s.ev x with
    | .c (.p (.sl sz' l)) => match natOf (lo.map s.ev) 0, natOf (hi.map s.ev) l.length, mx.map s.ev with
      | some lo, some hi, none => sz = sz' ∧ 0 ≤ lo ∧ lo ≤ hi ∧ hi ≤ l.length ∧ K (s.put d (.c (.p (.sl sz ((l.take hi.toNat).drop lo.toNat)))))
      | some lo, some hi, some m => sz = sz' ∧ 0 ≤ lo ∧ lo ≤ hi ∧ hi ≤ l.length ∧ (intOf' m).map (·.2) = some hi ∧ K (s.put d (.c (.tight sz ((l.take hi.toNat).drop lo.toNat))))
      | _, _, _ => False
    | .c (.own id off sz' len cap) => match natOf (lo.map s.ev) 0, natOf (hi.map s.ev) len, mx.map s.ev with
      | some lo, some hi, none => sz = sz' ∧ 0 ≤ lo ∧ lo ≤ hi ∧ hi ≤ len ∧ (lo = 0 ∨ lo < hi ∨ 0 < sz) ∧ K (s.put d (.c (cutV id off sz lo hi cap)))
      | some lo, some hi, some m => sz = sz' ∧ 0 ≤ lo ∧ lo ≤ hi ∧ hi ≤ len ∧ (lo = 0 ∨ lo < hi) ∧ (intOf' m).map (·.2) = some hi ∧ K (s.put d (.c (.own id (off + lo.toNat) sz (hi.toNat - lo.toNat) (.ex (hi.toNat - lo.toNat)))))
      | _, _, _ => False
    | .c (.p (.v (.slice none 0 0))) => match natOf (lo.map s.ev) 0, natOf (hi.map s.ev) 0, mx.map s.ev with
      | some lo, some hi, none => lo = 0 ∧ hi = 0 ∧ K (s.put d (.c (.p (.v (.slice none 0 0)))))
      | some lo, some hi, some m => lo = 0 ∧ hi = 0 ∧ (intOf' m).map (·.2) = some hi ∧ K (s.put d (.c (.p (.v (.slice none 0 0)))))
      | _, _, _ => False
    | _ => False
  | .sla d n sz x lo hi mx => match s.ev x, mx with
    | .c (.ept id sz' i 0), none => match natOf (lo.map s.ev) 0, natOf (hi.map s.ev) n with
      | some lo, some hi => sz = sz' ∧ 0 ≤ lo ∧ lo ≤ hi ∧ hi ≤ n ∧ (lo = 0 ∨ lo < hi) ∧ K (s.put d (.c (.own id (i + lo.toNat) sz (hi.toNat - lo.toNat) (.ex (n - lo.toNat)))))
      | _, _ => False
    | .c (.rp l), none => match natOf (lo.map s.ev) 0, natOf (hi.map s.ev) n with
      | some lo, some hi => lo = 0 ∧ 0 ≤ hi ∧ hi ≤ n ∧ 0 < sz ∧ n ≤ 140737488351232 ∧ n * sz ≤ l.length ∧ K (s.put d (.c (.p (.sl sz (chunkL sz hi.toNat l)))))
      | _, _ => False
    | _, _ => False
  | .mks d sz bytes z len cap => match intOf' (s.ev len), intOf' (s.ev cap) with
    | some (_, n), some (_, c) => 0 ≤ n ∧ n ≤ c ∧ c ≤ 140737488355328 ∧ c * bytes ≤ 140737488355328 ∧ K (s.putr d (.c (.own s.regs.length 0 sz n.toNat .free)) (s.regs ++ [.pc sz (List.replicate n.toNat (z.map .v))]))
    | _, _ => False
  | .app d sz bytes x y => appW s.regs (s.ev x) (s.ev y) sz bytes (fun v rg => K (s.putr d v rg)) ∨ appE s.regs (s.ev x) (s.ev y) sz bytes (fun v rg => K (s.putr d v rg))
  | .b2s d x => match elemsOf s.regs (s.ev x), lenOf' (s.ev x) with
    | some ls, some n => n = ls.length ∧ (szOf (s.ev x) = none ∨ szOf (s.ev x) = some 1) ∧ ∃ bs : List Int, ls = bs.map (fun b => [.v (.int .u8 b)]) ∧ K (s.put d (.c (.p (.v (.string ⟨(bs.map fun b => UInt8.ofNat b.toNat).toArray⟩)))))
    | _, _ => False
  | .lens d x => match valOf (s.ev x) with
    | some (.string b) => K (s.put d (.c (.p (.v (.int .i64 b.size)))))
    | _ => False
  | .ext d x i => match s.ev x with
    | .tup l => ∃ v, l[i]? = some v ∧ K (s.put d v)
    | _ => False
  | .mkf d f first captured => match allOf (fun x => faOf (s.ev x)) first, allOf (fun x => faOf (s.ev x)) captured with
    | some a, some b => K (s.put d (.c (.fn f a b)))
    | _, _ => False
  | .call d f args => FS P f (args.map s.ev) s.regs fun res regs' => K (s.putr d res regs')
  | .cally d x args => match s.ev x with
    | .c (.fn (.func f) a b) => FS P f (a.map avFA ++ args.map s.ev ++ b.map avFA) s.regs fun res regs' => K (s.putr d res regs')
    | .c (.hnd .yl id) => YS P id (args.map s.ev) s.regs fun res regs' => K (s.putr d res regs')
    | _ => False
  | .callv d x args => match s.ev x with
    | .c (.fn (.func f) a b) => FS P f (a.map avFA ++ args.map s.ev ++ b.map avFA) s.regs fun res regs' => K (s.putr d res regs')
    | _ => False

end Go.Sim
