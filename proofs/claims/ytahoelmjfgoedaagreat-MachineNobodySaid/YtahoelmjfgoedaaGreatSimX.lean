/- The picture, run. Of no program. -/
import Derived.Test.YtahoelmjfgoedaaGreatSimWr
namespace Go.Sim
open Go.RowKit Go.Proofs.YtahoelmjfgoedaaGreat.B

/-- Whom a call is of: a function; a loop's yield. -/
inductive CK where
  | fn (f : Nat)
  | yl (id : Nat)
abbrev CallF := CK → List AV → List Reg → Option (AV × List Reg)
structure CallOk (P : Program) (call : CallF) : Prop where
  fn : ∀ f args regs r rg, call (.fn f) args regs = some (r, rg) → FS P f args regs fun r' rg' => r' = r ∧ rg' = rg
  yl : ∀ id args regs r rg, call (.yl id) args regs = some (r, rg) → YS P id args regs fun r' rg' => r' = r ∧ rg' = rg

def lkF : List (Nat × AV) → Nat → AV
  | [], _ => .c .any
  | (k, v) :: r, n => bif Nat.beq k n then v else lkF r n
theorem lkF_eq : ∀ (l : List (Nat × AV)) (n : Nat), lkF l n = lk l n
  | [], _ => rfl
  | (k, v) :: r, n => by
    simp only [lkF, lk]
    by_cases h : k = n
    · subst h
      rw [if_pos rfl, Nat.beq_refl]
      rfl
    · rw [if_neg h, ← lkF_eq r n]
      cases hb : Nat.beq k n with
      | true => exact absurd (Nat.eq_of_beq_eq_true hb) h
      | false => rfl
def evF (s : St) : AX → AV
  | .t n => lkF s.slots n
  | .k x => .c (.p (.v x))
  | .f i => .c (.fn (.func i) [] [])
theorem evF_eq (s : St) : evF s = s.ev := by
  funext x
  cases x with
  | t n => exact lkF_eq s.slots n
  | _ => rfl
def kIx : IntKind → Nat
  | .i8 => 0 | .i16 => 1 | .i32 => 2 | .i64 => 3 | .u8 => 4 | .u16 => 5 | .u32 => 6 | .u64 => 7
def kB (a b : IntKind) : Bool := Nat.beq (kIx a) (kIx b)
theorem kB_eq {a b : IntKind} (h : kB a b = true) : a = b := by
  cases a <;> cases b <;> first | rfl | (exact absurd h (by decide))

def binE (op : BinOp) (x y : Value) : Option Value :=
  match op, x, y with
  | .add, .int k a, .int k' b => if kB k k' = true then some (.int k (k.wrap (a + b))) else none
  | .sub, .int k a, .int k' b => if kB k k' = true then some (.int k (k.wrap (a - b))) else none
  | .mul, .int k a, .int k' b => if kB k k' = true then some (.int k (k.wrap (a * b))) else none
  | .quo, .int k a, .int k' b => if kB k k' = true ∧ b ≠ 0 then some (.int k (k.wrap (a.tdiv b))) else none
  | .rem, .int k a, .int k' b => if kB k k' = true ∧ b ≠ 0 then some (.int k (a.tmod b)) else none
  | .and, .int k a, .int k' b => if kB k k' = true then some (.int k (bits .and k a b)) else none
  | .or, .int k a, .int k' b => if kB k k' = true then some (.int k (bits .or k a b)) else none
  | .xor, .int k a, .int k' b => if kB k k' = true then some (.int k (bits .xor k a b)) else none
  | .andNot, .int k a, .int k' b => if kB k k' = true then some (.int k (bits .andNot k a b)) else none
  | .eql, .int k a, .int k' b => if kB k k' = true then some (.bool (decide (a = b))) else none
  | .neq, .int k a, .int k' b => if kB k k' = true then some (.bool (!decide (a = b))) else none
  | .lss, .int k a, .int k' b => if kB k k' = true then some (.bool (decide (a < b))) else none
  | .leq, .int k a, .int k' b => if kB k k' = true then some (.bool (decide (a ≤ b))) else none
  | .gtr, .int k a, .int k' b => if kB k k' = true then some (.bool (decide (b < a))) else none
  | .geq, .int k a, .int k' b => if kB k k' = true then some (.bool (decide (b ≤ a))) else none
  | .shl, .int k a, .int _ b => if 0 ≤ b then some (.int k (k.wrap (a * 2 ^ (min b.toNat k.bits)))) else none
  | .shr, .int k a, .int _ b => if 0 ≤ b then some (.int k (a / 2 ^ (min b.toNat k.bits))) else none
  | .add, .string a, .string b => if ((a.size + b.size : Nat) : Int) ≤ 9223372036854775807 then some (.string (a ++ b)) else none
  | .eql, .string a, .string b => some (.bool (a.toList == b.toList))
  | .neq, .string a, .string b => some (.bool (!(a.toList == b.toList)))
  | _, _, _ => none
theorem binE_W {op : BinOp} {x y v : Value} {K : Value → Prop} (h : binE op x y = some v) (hk : K v) : binW op x y K := by
  unfold binE at h
  split at h
  all_goals first
    | (split at h
       · rename_i hc
         cases h
         first | exact ⟨kB_eq hc, hk⟩ | exact ⟨kB_eq hc.1, hc.2, hk⟩ | exact ⟨hc, hk⟩
       · cases h)
    | (cases h; exact hk)
    | cases h

def byte1 : List PV → Option Int
  | [.v (.int .u8 b)] => some b
  | _ => none
theorem bytes_of : ∀ {ls : List (List PV)} {bs : List Int}, allOf byte1 ls = some bs → ls = bs.map fun b => [.v (.int .u8 b)]
  | [], bs, h => by cases h; rfl
  | l :: ls, bs, h => by
    simp only [allOf, Option.bind_eq_some_iff, Option.map_eq_some_iff] at h
    obtain ⟨b, hb, r, hr, rfl⟩ := h
    rw [List.map_cons, ← bytes_of hr]
    unfold byte1 at hb
    split at hb
    · cases hb; rfl
    · cases hb

def eqokB (P : Program) (t : Nat) (ks : List IntKind) : Bool :=
  (P.eqGuardType P.depth t == false) && (shape P 8 t == some ks) && (match P.underlying t with | some (.int _) => false | _ => true)
theorem eqokB_ok {P : Program} {t : Nat} {ks : List IntKind} (h : eqokB P t ks = true) : EqOk P t ks := by
  simp only [eqokB, Bool.and_eq_true, beq_iff_eq] at h
  exact EqOk_of (m := 7) (by decide) h.1.1 h.1.2 h.2

def keysB (kk : Bool × List IntKind) : List (PW × PW) → Bool
  | [] => true
  | p :: r => (keyInts kk p.1).isSome && (r.all (fun q => !decide (keyInts kk p.1 = keyInts kk q.1)) && keysB kk r)
theorem keysB_ok {kk : Bool × List IntKind} : ∀ {l : List (PW × PW)}, keysB kk l = true → keysOk kk l
  | [], _ => ⟨fun _ h => by simp at h, .nil⟩
  | p :: r, h => by
    simp only [keysB, Bool.and_eq_true, List.all_eq_true] at h
    obtain ⟨h1, h2, h3⟩ := h
    obtain ⟨k1, k2⟩ := keysB_ok h3
    refine ⟨fun q hq => ?_, List.pairwise_cons.2 ⟨fun q hq => ?_, k2⟩⟩
    · rcases List.mem_cons.1 hq with rfl | hq
      · exact h1
      · exact k1 q hq
    · have := h2 q hq
      simpa using this
def xE (k : XOp) (args : List AV) (regs : List Reg) : Option (AV × List Reg) :=
  match k, args with
  | .mkmap, [] => some (.c (.hnd .mp regs.length), regs ++ [.ob (.mp [])])
  | .look ks z ok, [m, key] => match (avPW key).bind (keyInts ks), m with
    | some _, .c (.p (.v (.map none))) => some (if ok then .tup [pwAV z, .c (.p (.v (.bool false)))] else pwAV z, regs)
    | some us, .c (.hnd .mp id) => match regs[id]? with
      | some (.ob (.mp l)) => if keysB ks l = true then (match mpGet ks us l with
        | some v => some (if ok then .tup [pwAV v, .c (.p (.v (.bool true)))] else pwAV v, regs)
        | none => some (if ok then .tup [pwAV z, .c (.p (.v (.bool false)))] else pwAV z, regs)) else none
      | _ => none
    | _, _ => none
  | .upd ks, [m, key, val] => match m, avPW key, avPW val with
    | .c (.hnd .mp id), some pk, some pv => match regs[id]?, keyInts ks pk with
      | some (.ob (.mp l)), some us => if keysB ks l = true then some (.tup [], regs.set id (.ob (.mp (mpSet ks us pk pv l)))) else none
      | _, _ => none
    | _, _, _ => none
  | .nilq k neg, [v] => match nilOf k v with
    | some b => some (.c (.p (.v (.bool (if neg then !b else b)))), regs)
    | none => none
  | .mlen, [.c (.hnd .mp id)] => match regs[id]? with
    | some (.ob (.mp l)) => some (.c (.p (.v (.int .i64 l.length))), regs)
    | _ => none
  | .mlen, [.c (.p (.v (.map none)))] => some (.c (.p (.v (.int .i64 0))), regs)
  | .mkch bytes, [n] => match intOf' n with
    | some (_, n) => if 0 ≤ n ∧ n ≤ 9223372036854775807 ∧ bytes * n ≤ 281474976710544 then some (.c (.hnd .ch regs.length), regs ++ [.ob (.ch n.toNat [])]) else none
    | none => none
  | .chlen, [.c (.hnd .ch id)] => match regs[id]? with
    | some (.ob (.ch _ q)) => some (.c (.p (.v (.int .i64 q.length))), regs)
    | _ => none
  | .chcap, [.c (.hnd .ch id)] => match regs[id]? with
    | some (.ob (.ch cap _)) => some (.c (.p (.v (.int .i64 cap))), regs)
    | _ => none
  | .chlen, [.c (.p (.v (.chan none)))] | .chcap, [.c (.p (.v (.chan none)))] => some (.c (.p (.v (.int .i64 0))), regs)
  | _, _ => none
theorem xE_W {k : XOp} {args : List AV} {regs rg : List Reg} {v : AV} {K : AV → List Reg → Prop} (h : xE k args regs = some (v, rg)) (hK : K v rg) : xW k args regs K := by
  unfold xE at h
  split at h
  · cases h; exact hK
  · simp only [xW]
    split at h
    · rename_i hk
      cases h
      simp only [hk]
      exact hK
    · rename_i hk
      simp only [hk]
      split at h
      · rename_i l hl
        simp only [hl]
        split at h
        · rename_i hok
          refine ⟨keysB_ok hok, ?_⟩
          split at h
          · rename_i v' hv
            simp only [hv]
            cases h
            exact hK
          · rename_i hv
            simp only [hv]
            cases h
            exact hK
        · cases h
      · cases h
    · cases h
  · simp only [xW]
    split at h
    · rename_i hk hv
      simp only [hk, hv]
      split at h
      · rename_i hl hu
        simp only [hl, hu]
        split at h
        · rename_i hok
          cases h
          exact ⟨keysB_ok hok, hK⟩
        · cases h
      · cases h
    · cases h
  · simp only [xW]
    split at h
    · rename_i hb
      simp only [hb]
      cases h
      exact hK
    · cases h
  · simp only [xW]
    split at h
    · rename_i hb
      simp only [hb]
      cases h
      exact hK
    · cases h
  · cases h; exact hK
  · simp only [xW]
    split at h
    · rename_i hb
      simp only [hb]
      split at h
      · rename_i hc
        cases h
        exact ⟨hc.1, hc.2.1, hc.2.2, hK⟩
      · cases h
    · cases h
  · simp only [xW]
    split at h
    · rename_i hb
      simp only [hb]
      cases h
      exact hK
    · cases h
  · simp only [xW]
    split at h
    · rename_i hb
      simp only [hb]
      cases h
      exact hK
    · cases h
  · cases h; exact hK
  · cases h; exact hK
  · cases h
def appVP (regs : List Reg) (vx vy : AV) (sz bytes : Nat) : Option (AV × List Reg) :=
  match elemsOf regs vy, lenOf' vy with
  | some ls, some n => if n = ls.length ∧ (szOf vy = none ∨ szOf vy = some sz) then match vx with
    | .c (.p (.v (.slice none 0 0))) => if n ≤ 140737488355328 ∧ n * bytes ≤ 140737488355328 then some (.c (.own regs.length 0 sz n .free), regs ++ [.pc sz ls]) else none
    | .c (.own id 0 sz' len .free) => match regs[id]? with
      | some (.pc sz'' old) => if sz = sz' ∧ sz = sz'' ∧ len ≤ old.length ∧ len + n ≤ 140737488355328 ∧ (len + n) * bytes ≤ 140737488355328 then some (.c (.own regs.length 0 sz (len + n) .free), regs.set id .dead ++ [.pc sz (old.take len ++ ls)]) else none
      | _ => none
    | .c (.own id off sz' len (.ex k)) => match regs[id]? with
      | some (.pc sz'' old) => if sz = sz' ∧ sz = sz'' ∧ off + len ≤ old.length ∧ k < len + n ∧ len + n ≤ 140737488355328 ∧ (len + n) * bytes ≤ 140737488355328 then some (.c (.own regs.length 0 sz (len + n) .free), regs ++ [.pc sz ((old.drop off).take len ++ ls)]) else none
      | _ => none
    | .c (.tight sz' old) => if sz = sz' ∧ 0 < n ∧ old.length + n ≤ 140737488355328 ∧ (old.length + n) * bytes ≤ 140737488355328 then some (.c (.own regs.length 0 sz (old.length + n) .free), regs ++ [.pc sz (old ++ ls)]) else none
    | _ => none
    else none
  | _, _ => none
theorem appVP_W {regs rg : List Reg} {vx vy v : AV} {sz bytes : Nat} {K : AV → List Reg → Prop} (h : appVP regs vx vy sz bytes = some (v, rg)) (hK : K v rg) : appW regs vx vy sz bytes K := by
  unfold appVP at h
  simp only [appW]
  split at h
  · rename_i ls n h1 h2
    simp only [h1, h2]
    split at h
    · rename_i hc
      refine ⟨hc.1, hc.2, ?_⟩
      split at h
      · split at h
        · rename_i hd
          cases h
          exact ⟨hd.1, hd.2, hK⟩
        · cases h
      · split at h
        · rename_i hr
          simp only [hr]
          split at h
          · rename_i hd
            cases h
            exact ⟨hd.1, hd.2.1, hd.2.2.1, hd.2.2.2.1, hd.2.2.2.2, hK⟩
          · cases h
        · cases h
      · split at h
        · rename_i hr
          simp only [hr]
          split at h
          · rename_i hd
            cases h
            exact ⟨hd.1, hd.2.1, hd.2.2.1, hd.2.2.2.1, hd.2.2.2.2.1, hd.2.2.2.2.2, hK⟩
          · cases h
        · cases h
      · split at h
        · rename_i hd
          cases h
          exact ⟨hd.1, hd.2.1, hd.2.2.1, hd.2.2.2, hK⟩
        · cases h
      · cases h
    · cases h
  · cases h
def appVE (regs : List Reg) (vx vy : AV) (sz bytes : Nat) : Option (AV × List Reg) :=
  match elemsX regs vy, lenOf' vy with
  | some ls, some n => if n = ls.length ∧ (szOf vy = none ∨ szOf vy = some sz) then match vx with
    | .c (.p (.v (.slice none 0 0))) => if n ≤ 140737488355328 ∧ n * bytes ≤ 140737488355328 then some (.c (.own regs.length 0 sz n .free), regs ++ [.es sz ls]) else none
    | .c (.own id 0 sz' len .free) => match (regs[id]?).bind esOf with
      | some (sz'', old) => if sz = sz' ∧ sz = sz'' ∧ len ≤ old.length ∧ len + n ≤ 140737488355328 ∧ (len + n) * bytes ≤ 140737488355328 then some (.c (.own regs.length 0 sz (len + n) .free), regs.set id .dead ++ [.es sz (old.take len ++ ls)]) else none
      | _ => none
    | .c (.own id off sz' len (.ex k)) => match (regs[id]?).bind esOf with
      | some (sz'', old) => if sz = sz' ∧ sz = sz'' ∧ off + len ≤ old.length ∧ k < len + n ∧ len + n ≤ 140737488355328 ∧ (len + n) * bytes ≤ 140737488355328 then some (.c (.own regs.length 0 sz (len + n) .free), regs ++ [.es sz ((old.drop off).take len ++ ls)]) else none
      | _ => none
    | _ => none
    else none
  | _, _ => none
theorem appVE_W {regs rg : List Reg} {vx vy v : AV} {sz bytes : Nat} {K : AV → List Reg → Prop} (h : appVE regs vx vy sz bytes = some (v, rg)) (hK : K v rg) : appE regs vx vy sz bytes K := by
  unfold appVE at h
  simp only [appE]
  split at h
  · rename_i ls n h1 h2
    simp only [h1, h2]
    split at h
    · rename_i hc
      refine ⟨hc.1, hc.2, ?_⟩
      split at h
      · split at h
        · rename_i hd
          cases h
          exact ⟨hd.1, hd.2, hK⟩
        · cases h
      · split at h
        · rename_i hr
          simp only [hr]
          split at h
          · rename_i hd
            cases h
            exact ⟨hd.1, hd.2.1, hd.2.2.1, hd.2.2.2.1, hd.2.2.2.2, hK⟩
          · cases h
        · cases h
      · split at h
        · rename_i hr
          simp only [hr]
          split at h
          · rename_i hd
            cases h
            exact ⟨hd.1, hd.2.1, hd.2.2.1, hd.2.2.2.1, hd.2.2.2.2.1, hd.2.2.2.2.2, hK⟩
          · cases h
        · cases h
      · cases h
    · cases h
  · cases h
/-- A store into a row's element. -/
def stE (n sz i j : Nat) (xs : List AC) (ls : List (List AC)) : Option (List (List AC)) :=
  (ls[i]?).bind fun c => if xs.length = n ∧ j + n ≤ sz then some (ls.set i (c.take j ++ xs ++ c.drop (j + n))) else none
theorem stE_W {n sz i j : Nat} {xs : List AC} {ls l : List (List AC)} {K : List (List AC) → Prop} (h : stE n sz i j xs ls = some l) (hK : K l) : storeE n sz i j xs ls K := by
  obtain ⟨c, hc, h⟩ := Option.bind_eq_some_iff.1 h
  split at h
  · rename_i hd
    cases h
    exact ⟨c, hc, hd.1, hd.2, hK⟩
  · cases h

def ev_x (d : Option Nat) (k : XOp) (args : List AX) (s : St) : Option St := (xE k (args.map (evF s)) s.regs).map fun p => s.putr d p.1 p.2
def ev_mv (d : Option Nat) (x : AX) (s : St) : Option St := some (s.put d (evF s x))
def ev_bin (d : Option Nat) (op : BinOp) (x : AX) (y : AX) (s : St) : Option St := match valOf (evF s x), valOf (evF s y) with
  | some a, some b => (binE op a b).map fun v => s.put d (.c (.p (.v v)))
  | _, _ => none
def ev_eqs (P : Program) (d : Option Nat) (neg : Bool) (t : Nat) (ks : List IntKind) (x : AX) (y : AX) (s : St) : Option St := match evF s x, evF s y with
  | .agg l, .agg l' => match intsOf ks l, intsOf ks l' with
    | some us, some vs => if eqokB P t ks = true then some (s.put d (.c (.p (.v (.bool (if neg then !decide (us = vs) else decide (us = vs))))))) else none
    | _, _ => none
  | _, _ => none
def ev_beq (d : Option Nat) (neg : Bool) (x : AX) (y : AX) (s : St) : Option St := match boolOf (evF s x), boolOf (evF s y) with
  | some a, some b => some (s.put d (.c (.p (.v (.bool (if neg then !(a == b) else (a == b)))))))
  | _, _ => none
def ev_pick (d : Option Nat) (c : AX) (a : AX) (b : AX) (s : St) : Option St := match boolOf (evF s c) with
  | some true => some (s.put d (evF s a))
  | some false => some (s.put d (evF s b))
  | none => none
def ev_un (d : Option Nat) (op : UnOp) (x : AX) (s : St) : Option St := match op, valOf (evF s x) with
  | .not, some (.bool b) => some (s.put d (.c (.p (.v (.bool (!b))))))
  | .neg, some (.int k n) => some (s.put d (.c (.p (.v (.int k (k.wrap (0 - n)))))))
  | _, _ => none
def ev_cvi (d : Option Nat) (k : IntKind) (x : AX) (s : St) : Option St := match intOf' (evF s x) with
  | some (_, n) => some (s.put d (.c (.p (.v (.int k (k.wrap n))))))
  | none => none
def ev_alloc (d : Option Nat) (zs : List Value) (s : St) : Option St := some (s.putr d (.c (.ptr s.regs.length 0)) (s.regs ++ [.ac (zs.map fun z => .p (.v z))]))
def ev_allocA (d : Option Nat) (sz : Nat) (n : Nat) (z : List Value) (s : St) : Option St := some (s.putr d (.c (.ept s.regs.length sz 0 0)) (s.regs ++ [.pc sz (List.replicate n (z.map .v))]))
def ev_box (d : Option Nat) (x : AX) (s : St) : Option St := match cellsOf (evF s x) with
  | some l => some (s.putr d (.c (.ptr s.regs.length 0)) (s.regs ++ [.ac l]))
  | none => none
def ev_nilc (d : Option Nat) (x : AX) (s : St) : Option St := match evF s x with
  | .c (.ptr id off) => some (s.put d (.c (.ptr id off)))
  | .c (.ept id sz i j) => some (s.put d (.c (.ept id sz i j)))
  | .c (.rp l) => some (s.put d (.c (.rp l)))
  | _ => none
def ev_fad (d : Option Nat) (off : Nat) (x : AX) (s : St) : Option St := match evF s x with
  | .c (.ptr id o) => some (s.put d (.c (.ptr id (o + off))))
  | .c (.ept id sz i j) => some (s.put d (.c (.ept id sz i (j + off))))
  | .c (.rp l) => some (s.put d (.c (.rp (l.drop off))))
  | _ => none
def ev_fld (d : Option Nat) (off : Nat) (n : Nat) (agg : Bool) (x : AX) (s : St) : Option St := match evF s x with
  | .agg l => if off + n ≤ l.length then (pack agg ((l.drop off).take n)).map fun v => s.put d v else none
  | _ => none
def ev_load (d : Option Nat) (n : Nat) (agg : Bool) (x : AX) (s : St) : Option St := match evF s x with
  | .c (.ptr id off) => match s.regs[id]? with
    | some (.ac l) => if off + n ≤ l.length then (pack agg ((l.drop off).take n)).map fun v => s.put d v else none
    | _ => none
  | .c (.ept id sz i j) => match s.regs[id]? with
    | some (.pc sz' ls) => if sz = sz' ∧ j + n ≤ sz then (ls[i]?).bind fun c => (pack agg (((c.drop j).take n).map .p)).map fun v => s.put d v else none
    | some (.es sz' ls) => if sz = sz' ∧ j + n ≤ sz then (ls[i]?).bind fun c => (pack agg ((c.drop j).take n)).map fun v => s.put d v else none
    | _ => none
  | .c (.rp l) => if n ≤ l.length then (pack agg ((l.take n).map .p)).map fun v => s.put d v else none
  | _ => none
def ev_store (n : Nat) (a : AX) (x : AX) (s : St) : Option St := match evF s a, cellsOf (evF s x) with
  | .c (.ptr id off), some xs => match s.regs[id]? with
    | some (.ac l) => if xs.length = n ∧ off + n ≤ l.length then some ⟨s.slots, s.regs.set id (.ac (l.take off ++ xs ++ l.drop (off + n)))⟩ else none
    | _ => none
  | .c (.ept id sz i j), some xs => match s.regs[id]? with
    | some (.pc sz' ls) => if sz = sz' then match puresOf xs with
        | some ps => if ps.length = n ∧ j + n ≤ sz then (ls[i]?).map fun c => ⟨s.slots, s.regs.set id (.pc sz (ls.set i (c.take j ++ ps ++ c.drop (j + n))))⟩ else none
        | none => (stE n sz i j xs (upL ls)).map fun l => ⟨s.slots, s.regs.set id (.es sz l)⟩ else none
    | some (.es sz' ls) => if sz = sz' then (stE n sz i j xs ls).map fun l => ⟨s.slots, s.regs.set id (.es sz l)⟩ else none
    | _ => none
  | _, _ => none
def ev_ixs (d : Option Nat) (sz : Nat) (x : AX) (i : AX) (s : St) : Option St := match intOf' (evF s i), evF s x with
  | some (_, i), .c (.p (.sl sz' l)) => if sz = sz' ∧ 0 ≤ i then (l[i.toNat]?).map fun c => s.put d (.c (.rp c)) else none
  | some (_, i), .c (.own id off sz' len _) => if sz = sz' ∧ 0 ≤ i ∧ i < len then some (s.put d (.c (.ept id sz (off + i.toNat) 0))) else none
  | _, _ => none
def ev_ixa (d : Option Nat) (len : Nat) (sz : Nat) (x : AX) (i : AX) (s : St) : Option St := match intOf' (evF s i), evF s x with
  | some (_, i), .c (.ept id sz' a 0) => if sz = sz' ∧ 0 ≤ i ∧ i < len then some (s.put d (.c (.ept id sz (a + i.toNat) 0))) else none
  | some (_, i), .c (.ptr id off) => if 0 ≤ i ∧ i < len then some (s.put d (.c (.ptr id (off + i.toNat * sz)))) else none
  | some (_, i), .c (.rp l) => if 0 ≤ i ∧ i < len then some (s.put d (.c (.rp (l.drop (i.toNat * sz))))) else none
  | _, _ => none
def ev_len (d : Option Nat) (x : AX) (s : St) : Option St := match lenOf' (evF s x) with
  | some n => some (s.put d (.c (.p (.v (.int .i64 n)))))
  | none => none
def ev_build (d : Option Nat) (zs : List Value) (parts : List (Nat × Nat × AX)) (s : St) : Option St := match fillA (zs.map fun z => .p (.v z)) (parts.map fun (off, sz, x) => (off, sz, evF s x)) with
  | some l => some (s.put d (.agg l))
  | none => none
def ev_bsl (d : Option Nat) (sz : Nat) (len : Nat) (z : List Value) (parts : List (Nat × AX)) (s : St) : Option St := match fillE sz (List.replicate len (z.map .v)) (parts.map fun (i, x) => (i, evF s x)) with
  | some ls => some (s.putr d (.c (.own s.regs.length 0 sz len .free)) (s.regs ++ [.pc sz ls]))
  | none => match fillX sz (upL (List.replicate len (z.map .v))) (parts.map fun (i, x) => (i, evF s x)) with
    | some ls => some (s.putr d (.c (.own s.regs.length 0 sz len .free)) (s.regs ++ [.es sz ls]))
    | none => none
def ev_ixv (d : Option Nat) (len : Nat) (sz : Nat) (agg : Bool) (x : AX) (i : AX) (s : St) : Option St := match intOf' (evF s i), evF s x with
  | some (_, i), .agg l => if 0 ≤ i ∧ i < len ∧ i.toNat * sz + sz ≤ l.length then (pack agg ((l.drop (i.toNat * sz)).take sz)).map fun v => s.put d v else none
  | _, _ => none
def ev_ixt (d : Option Nat) (x : AX) (i : AX) (s : St) : Option St := match intOf' (evF s i), valOf (evF s x) with
  | some (_, i), some (.string b) => if h : 0 ≤ i ∧ i.toNat < b.size then some (s.put d (.c (.p (.v (.int .u8 (b[i.toNat]'h.2).toNat))))) else none
  | _, _ => none
def ev_mm (d : Option Nat) (mx : Bool) (x : AX) (y : AX) (s : St) : Option St := match intOf' (evF s x), intOf' (evF s y) with
  | some (k, a), some (_, b) => some (s.put d (.c (.p (.v (.int k (if mx then (if a < b then b else a) else (if b < a then b else a)))))))
  | _, _ => none
def ev_sls (d : Option Nat) (sz : Nat) (x : AX) (lo : Option AX) (hi : Option AX) (mx : Option AX) (s : St) : Option St := match evF s x with
  | .c (.p (.sl sz' l)) => match natOf (lo.map (evF s)) 0, natOf (hi.map (evF s)) l.length, mx.map (evF s) with
    | some lo, some hi, none => if sz = sz' ∧ 0 ≤ lo ∧ lo ≤ hi ∧ hi ≤ l.length then some (s.put d (.c (.p (.sl sz ((l.take hi.toNat).drop lo.toNat))))) else none
    | some lo, some hi, some m => if sz = sz' ∧ 0 ≤ lo ∧ lo ≤ hi ∧ hi ≤ l.length ∧ (intOf' m).map (·.2) = some hi then some (s.put d (.c (.tight sz ((l.take hi.toNat).drop lo.toNat)))) else none
    | _, _, _ => none
  | .c (.own id off sz' len cap) => match natOf (lo.map (evF s)) 0, natOf (hi.map (evF s)) len, mx.map (evF s) with
    | some lo, some hi, none => if sz = sz' ∧ 0 ≤ lo ∧ lo ≤ hi ∧ hi ≤ len ∧ (lo = 0 ∨ lo < hi ∨ 0 < sz) then some (s.put d (.c (cutV id off sz lo hi cap))) else none
    | some lo, some hi, some m => if sz = sz' ∧ 0 ≤ lo ∧ lo ≤ hi ∧ hi ≤ len ∧ (lo = 0 ∨ lo < hi) ∧ (intOf' m).map (·.2) = some hi then some (s.put d (.c (.own id (off + lo.toNat) sz (hi.toNat - lo.toNat) (.ex (hi.toNat - lo.toNat))))) else none
    | _, _, _ => none
  | .c (.p (.v (.slice none 0 0))) => match natOf (lo.map (evF s)) 0, natOf (hi.map (evF s)) 0, mx.map (evF s) with
    | some lo, some hi, none => if lo = 0 ∧ hi = 0 then some (s.put d (.c (.p (.v (.slice none 0 0))))) else none
    | some lo, some hi, some m => if lo = 0 ∧ hi = 0 ∧ (intOf' m).map (·.2) = some hi then some (s.put d (.c (.p (.v (.slice none 0 0))))) else none
    | _, _, _ => none
  | _ => none
def ev_sla (d : Option Nat) (n : Nat) (sz : Nat) (x : AX) (lo : Option AX) (hi : Option AX) (mx : Option AX) (s : St) : Option St := match evF s x, mx with
  | .c (.ept id sz' i 0), none => match natOf (lo.map (evF s)) 0, natOf (hi.map (evF s)) n with
    | some lo, some hi => if sz = sz' ∧ 0 ≤ lo ∧ lo ≤ hi ∧ hi ≤ n ∧ (lo = 0 ∨ lo < hi) then some (s.put d (.c (.own id (i + lo.toNat) sz (hi.toNat - lo.toNat) (.ex (n - lo.toNat))))) else none
    | _, _ => none
  | .c (.rp l), none => match natOf (lo.map (evF s)) 0, natOf (hi.map (evF s)) n with
    | some lo, some hi => if lo = 0 ∧ 0 ≤ hi ∧ hi ≤ n ∧ 0 < sz ∧ n ≤ 140737488351232 ∧ n * sz ≤ l.length then some (s.put d (.c (.p (.sl sz (chunkL sz hi.toNat l))))) else none
    | _, _ => none
  | _, _ => none
def ev_mks (d : Option Nat) (sz : Nat) (bytes : Nat) (z : List Value) (len : AX) (cap : AX) (s : St) : Option St := match intOf' (evF s len), intOf' (evF s cap) with
  | some (_, n), some (_, c) => if 0 ≤ n ∧ n ≤ c ∧ c ≤ 140737488355328 ∧ c * bytes ≤ 140737488355328 then some (s.putr d (.c (.own s.regs.length 0 sz n.toNat .free)) (s.regs ++ [.pc sz (List.replicate n.toNat (z.map .v))])) else none
  | _, _ => none
def ev_app (d : Option Nat) (sz : Nat) (bytes : Nat) (x : AX) (y : AX) (s : St) : Option St := match appVP s.regs (evF s x) (evF s y) sz bytes with
  | some p => some (s.putr d p.1 p.2)
  | none => (appVE s.regs (evF s x) (evF s y) sz bytes).map fun p => s.putr d p.1 p.2
def ev_b2s (d : Option Nat) (x : AX) (s : St) : Option St := match elemsOf s.regs (evF s x), lenOf' (evF s x) with
  | some ls, some n => if n = ls.length ∧ (szOf (evF s x) = none ∨ szOf (evF s x) = some 1) then (allOf byte1 ls).map fun bs => s.put d (.c (.p (.v (.string ⟨(bs.map fun b => UInt8.ofNat b.toNat).toArray⟩)))) else none
  | _, _ => none
def ev_lens (d : Option Nat) (x : AX) (s : St) : Option St := match valOf (evF s x) with
  | some (.string b) => some (s.put d (.c (.p (.v (.int .i64 b.size)))))
  | _ => none
def ev_ext (d : Option Nat) (x : AX) (i : Nat) (s : St) : Option St := match evF s x with
  | .tup l => (l[i]?).map fun v => s.put d v
  | _ => none
def ev_mkf (d : Option Nat) (f : Fn) (first : List AX) (captured : List AX) (s : St) : Option St := match allOf (fun x => faOf (evF s x)) first, allOf (fun x => faOf (evF s x)) captured with
  | some a, some b => some (s.put d (.c (.fn f a b)))
  | _, _ => none
def ev_call (call : CallF) (d : Option Nat) (f : Nat) (args : List AX) (s : St) : Option St := (call (.fn f) (args.map (evF s)) s.regs).map fun p => s.putr d p.1 p.2
def ev_callv (call : CallF) (d : Option Nat) (x : AX) (args : List AX) (s : St) : Option St := match evF s x with
  | .c (.fn (.func f) a b) => (call (.fn f) (a.map avFA ++ args.map (evF s) ++ b.map avFA) s.regs).map fun p => s.putr d p.1 p.2
  | _ => none
def ev_cally (call : CallF) (d : Option Nat) (x : AX) (args : List AX) (s : St) : Option St := match evF s x with
  | .c (.fn (.func f) a b) => (call (.fn f) (a.map avFA ++ args.map (evF s) ++ b.map avFA) s.regs).map fun p => s.putr d p.1 p.2
  | .c (.hnd .yl id) => (call (.yl id) (args.map (evF s)) s.regs).map fun p => s.putr d p.1 p.2
  | _ => none
section
variable (P : Program) (call : CallF)
def evalOp (o : AOp) (s : St) : Option St :=
  match o with
  | .x d k args => ev_x d k args s
  | .mv d x => ev_mv d x s
  | .bin d op x y => ev_bin d op x y s
  | .eqs d neg t ks x y => ev_eqs P d neg t ks x y s
  | .beq d neg x y => ev_beq d neg x y s
  | .pick d c a b => ev_pick d c a b s
  | .un d op x => ev_un d op x s
  | .cvi d k x => ev_cvi d k x s
  | .alloc d zs => ev_alloc d zs s
  | .allocA d sz n z => ev_allocA d sz n z s
  | .box d x => ev_box d x s
  | .nilc d x => ev_nilc d x s
  | .fad d off x => ev_fad d off x s
  | .fld d off n agg x => ev_fld d off n agg x s
  | .load d n agg x => ev_load d n agg x s
  | .store n a x => ev_store n a x s
  | .ixs d sz x i => ev_ixs d sz x i s
  | .ixa d len sz x i => ev_ixa d len sz x i s
  | .len d x => ev_len d x s
  | .build d zs parts => ev_build d zs parts s
  | .bsl d sz len z parts => ev_bsl d sz len z parts s
  | .ixv d len sz agg x i => ev_ixv d len sz agg x i s
  | .ixt d x i => ev_ixt d x i s
  | .mm d mx x y => ev_mm d mx x y s
  | .sls d sz x lo hi mx => ev_sls d sz x lo hi mx s
  | .sla d n sz x lo hi mx => ev_sla d n sz x lo hi mx s
  | .mks d sz bytes z len cap => ev_mks d sz bytes z len cap s
  | .app d sz bytes x y => ev_app d sz bytes x y s
  | .b2s d x => ev_b2s d x s
  | .lens d x => ev_lens d x s
  | .ext d x i => ev_ext d x i s
  | .mkf d f first captured => ev_mkf d f first captured s
  | .call d f args => ev_call call d f args s
  | .callv d x args => ev_callv call d x args s
  | .cally d x args => ev_cally call d x args s
variable {P call}
theorem evalOp_W {o : AOp} {s s' : St} {K : St → Prop} (hcall : CallOk P call) (h : evalOp P call o s = some s') (hK : K s') : opW P o s K := by
  cases o <;> simp only [evalOp, evF_eq, ev_x, ev_mv, ev_bin, ev_eqs, ev_beq, ev_pick, ev_un, ev_cvi, ev_alloc, ev_allocA, ev_box, ev_nilc, ev_fad, ev_fld, ev_load, ev_store, ev_ixs, ev_ixa, ev_len, ev_build, ev_bsl, ev_ixv, ev_ixt, ev_mm, ev_sls, ev_sla, ev_mks, ev_app, ev_b2s, ev_lens, ev_ext, ev_mkf, ev_call, ev_callv, ev_cally] at h <;> simp only [opW]
  case x =>
    obtain ⟨p, hp, rfl⟩ := Option.map_eq_some_iff.1 h
    exact xE_W (v := p.1) (rg := p.2) hp hK
  case mv => cases h; exact hK
  case bin =>
    split at h
    · rename_i a b ha hb
      simp only [ha, hb]
      obtain ⟨v, hv, rfl⟩ := Option.map_eq_some_iff.1 h
      exact binE_W hv hK
    · cases h
  case eqs =>
    split at h
    · rename_i l l' hl hl'
      simp only [hl, hl']
      split at h
      · rename_i us vs hu hv
        simp only [hu, hv]
        split at h
        · rename_i he
          cases h
          exact ⟨eqokB_ok he, hK⟩
        · cases h
      · cases h
    · cases h
  case beq =>
    split at h
    · rename_i a b ha hb
      simp only [ha, hb]
      cases h
      exact hK
    · cases h
  case pick =>
    split at h
    · rename_i hc
      simp only [hc]
      cases h
      first | exact ⟨fun _ => hK, fun e => by cases e⟩ | simpa using hK
    · rename_i hc
      simp only [hc]
      cases h
      first | exact ⟨fun e => by cases e, fun _ => hK⟩ | simpa using hK
    · cases h
  case un =>
    split at h
    · rename_i b hb
      simp only [hb]
      cases h
      exact hK
    · rename_i b hb
      simp only [hb]
      cases h
      exact hK
    · cases h
  case cvi =>
    split at h
    · rename_i k n hn
      simp only [hn]
      cases h
      exact hK
    · cases h
  case alloc => cases h; exact hK
  case allocA => cases h; exact hK
  case box =>
    split at h
    · rename_i l hl
      simp only [hl]
      cases h
      exact hK
    · cases h
  case nilc =>
    split at h
    all_goals first
      | (cases h; done)
      | (rename_i hx; simp only [hx]; cases h; exact hK)
  case fad =>
    split at h
    all_goals first
      | (cases h; done)
      | (rename_i hx; simp only [hx]; cases h; exact hK)
  case fld =>
    split at h
    · rename_i l hl
      simp only [hl]
      split at h
      · rename_i hc
        obtain ⟨v, hv, rfl⟩ := Option.map_eq_some_iff.1 h
        exact ⟨v, hc, hv, hK⟩
      · cases h
    · cases h
  case load =>
    split at h
    · rename_i id off hx
      simp only [hx]
      split at h
      · rename_i l hl
        simp only [hl]
        split at h
        · rename_i hc
          obtain ⟨v, hv, rfl⟩ := Option.map_eq_some_iff.1 h
          exact ⟨v, hc, hv, hK⟩
        · cases h
      · cases h
    · rename_i id sz i j hx
      simp only [hx]
      split at h
      · rename_i sz' ls hl
        simp only [hl]
        split at h
        · rename_i hc
          obtain ⟨c, hcc, h⟩ := Option.bind_eq_some_iff.1 h
          obtain ⟨v, hv, rfl⟩ := Option.map_eq_some_iff.1 h
          exact ⟨hc.1, c, v, hcc, hc.2, hv, hK⟩
        · cases h
      · rename_i sz' ls hl
        simp only [hl]
        split at h
        · rename_i hc
          obtain ⟨c, hcc, h⟩ := Option.bind_eq_some_iff.1 h
          obtain ⟨v, hv, rfl⟩ := Option.map_eq_some_iff.1 h
          exact ⟨hc.1, c, v, hcc, hc.2, hv, hK⟩
        · cases h
      · cases h
    · rename_i l hx
      simp only [hx]
      split at h
      · rename_i hc
        obtain ⟨v, hv, rfl⟩ := Option.map_eq_some_iff.1 h
        exact ⟨v, hc, hv, hK⟩
      · cases h
    · cases h
  case store =>
    split at h
    · rename_i id off xs hx hxs
      simp only [hx, hxs]
      split at h
      · rename_i l hl
        simp only [hl]
        split at h
        · rename_i hc
          cases h
          exact ⟨hc.1, hc.2, hK⟩
        · cases h
      · cases h
    · rename_i id sz i j xs hx hxs
      simp only [hx, hxs]
      split at h
      · rename_i sz' ls hl
        simp only [hl]
        split at h
        · rename_i hsz
          refine ⟨hsz, ?_⟩
          split at h
          · rename_i ps hps
            split at h
            · rename_i hc
              obtain ⟨c, hcc, rfl⟩ := Option.map_eq_some_iff.1 h
              exact .inl ⟨c, ps, hcc, hps, hc.1, hc.2, hK⟩
            · cases h
          · obtain ⟨l, hl', rfl⟩ := Option.map_eq_some_iff.1 h
            exact .inr (stE_W hl' hK)
        · cases h
      · rename_i sz' ls hl
        simp only [hl]
        split at h
        · rename_i hsz
          obtain ⟨l, hl', rfl⟩ := Option.map_eq_some_iff.1 h
          exact ⟨hsz, stE_W hl' hK⟩
        · cases h
      · cases h
    · cases h
  case ixs =>
    split at h
    · rename_i i sz' l hi hx
      simp only [hi, hx]
      split at h
      · rename_i hc
        obtain ⟨c, hcc, rfl⟩ := Option.map_eq_some_iff.1 h
        exact ⟨hc.1, hc.2, c, hcc, hK⟩
      · cases h
    · rename_i i id off sz' len hi hx
      simp only [hi, hx]
      split at h
      · rename_i hc
        cases h
        exact ⟨hc.1, hc.2.1, hc.2.2, hK⟩
      · cases h
    · cases h
  case ixa =>
    split at h
    · rename_i hi hx
      simp only [hi, hx]
      split at h
      · rename_i hc
        cases h
        exact ⟨hc.1, hc.2.1, hc.2.2, hK⟩
      · cases h
    · rename_i hi hx
      simp only [hi, hx]
      split at h
      · rename_i hc
        cases h
        exact ⟨hc.1, hc.2, hK⟩
      · cases h
    · rename_i hi hx
      simp only [hi, hx]
      split at h
      · rename_i hc
        cases h
        exact ⟨hc.1, hc.2, hK⟩
      · cases h
    · cases h
  case len =>
    split at h
    · rename_i n hn
      simp only [hn]
      cases h
      exact hK
    · cases h
  case build =>
    split at h
    · rename_i l hl
      simp only [hl]
      cases h
      exact hK
    · cases h
  case bsl =>
    split at h
    · rename_i l hl
      simp only [hl]
      cases h
      exact hK
    · rename_i hl
      simp only [hl]
      split at h
      · rename_i l hl'
        simp only [hl']
        cases h
        exact hK
      · cases h
  case ixv =>
    split at h
    · rename_i hi hx
      simp only [hi, hx]
      split at h
      · rename_i hc
        obtain ⟨v, hv, rfl⟩ := Option.map_eq_some_iff.1 h
        exact ⟨hc.1, hc.2.1, v, hc.2.2, hv, hK⟩
      · cases h
    · cases h
  case ixt =>
    split at h
    · rename_i hi hx
      simp only [hi, hx]
      split at h
      · rename_i hc
        cases h
        exact ⟨hc.1, hc.2, hK⟩
      · cases h
    · cases h
  case mm =>
    split at h
    · rename_i hi hx
      simp only [hi, hx]
      cases h
      exact hK
    · cases h
  case sls =>
    split at h
    · rename_i hx
      simp only [hx]
      split at h
      · rename_i h1 h2 h3
        simp only [h1, h2, h3]
        split at h
        · rename_i hc
          cases h
          exact ⟨hc.1, hc.2.1, hc.2.2.1, hc.2.2.2, hK⟩
        · cases h
      · rename_i h1 h2 h3
        simp only [h1, h2, h3]
        split at h
        · rename_i hc
          cases h
          exact ⟨hc.1, hc.2.1, hc.2.2.1, hc.2.2.2.1, hc.2.2.2.2, hK⟩
        · cases h
      · cases h
    · rename_i hx
      simp only [hx]
      split at h
      · rename_i h1 h2 h3
        simp only [h1, h2, h3]
        split at h
        · rename_i hc
          cases h
          exact ⟨hc.1, hc.2.1, hc.2.2.1, hc.2.2.2.1, hc.2.2.2.2, hK⟩
        · cases h
      · rename_i h1 h2 h3
        simp only [h1, h2, h3]
        split at h
        · rename_i hc
          cases h
          exact ⟨hc.1, hc.2.1, hc.2.2.1, hc.2.2.2.1, hc.2.2.2.2.1, hc.2.2.2.2.2, hK⟩
        · cases h
      · cases h
    · rename_i hx
      simp only [hx]
      split at h
      · rename_i h1 h2 h3
        simp only [h1, h2, h3]
        split at h
        · rename_i hc
          cases h
          exact ⟨hc.1, hc.2, hK⟩
        · cases h
      · rename_i h1 h2 h3
        simp only [h1, h2, h3]
        split at h
        · rename_i hc
          cases h
          exact ⟨hc.1, hc.2.1, hc.2.2, hK⟩
        · cases h
      · cases h
    · cases h
  case sla =>
    split at h
    · rename_i hx
      simp only [hx]
      split at h
      · rename_i h1 h2
        simp only [h1, h2]
        split at h
        · rename_i hc
          cases h
          exact ⟨hc.1, hc.2.1, hc.2.2.1, hc.2.2.2.1, hc.2.2.2.2, hK⟩
        · cases h
      · cases h
    · rename_i hx
      simp only [hx]
      split at h
      · rename_i h1 h2
        simp only [h1, h2]
        split at h
        · rename_i hc
          cases h
          exact ⟨hc.1, hc.2.1, hc.2.2.1, hc.2.2.2.1, hc.2.2.2.2.1, hc.2.2.2.2.2, hK⟩
        · cases h
      · cases h
    · cases h
  case mks =>
    split at h
    · rename_i h1 h2
      simp only [h1, h2]
      split at h
      · rename_i hc
        cases h
        exact ⟨hc.1, hc.2.1, hc.2.2.1, hc.2.2.2, hK⟩
      · cases h
    · cases h
  case app =>
    split at h
    · rename_i p hp
      cases h
      exact .inl (appVP_W (v := p.1) (rg := p.2) hp hK)
    · obtain ⟨p, hp, rfl⟩ := Option.map_eq_some_iff.1 h
      exact .inr (appVE_W (v := p.1) (rg := p.2) hp hK)
  case b2s =>
    split at h
    · rename_i ls n h1 h2
      simp only [h1, h2]
      split at h
      · rename_i hc
        obtain ⟨bs, hbs, rfl⟩ := Option.map_eq_some_iff.1 h
        exact ⟨hc.1, hc.2, bs, bytes_of hbs, hK⟩
      · cases h
    · cases h
  case lens =>
    split at h
    · rename_i hx
      simp only [hx]
      cases h
      exact hK
    · cases h
  case ext =>
    split at h
    · rename_i hx
      simp only [hx]
      obtain ⟨v, hv, rfl⟩ := Option.map_eq_some_iff.1 h
      exact ⟨v, hv, hK⟩
    · cases h
  case mkf =>
    split at h
    · rename_i h1 h2
      simp only [h1, h2]
      cases h
      exact hK
    · cases h
  case call =>
    obtain ⟨p, hp, rfl⟩ := Option.map_eq_some_iff.1 h
    refine (hcall.fn _ _ _ p.1 p.2 hp).mono fun r rg e => ?_
    rw [e.1, e.2]
    exact hK
  case callv =>
    split at h
    · rename_i hx
      simp only [hx]
      obtain ⟨p, hp, rfl⟩ := Option.map_eq_some_iff.1 h
      refine (hcall.fn _ _ _ p.1 p.2 hp).mono fun r rg e => ?_
      rw [e.1, e.2]
      exact hK
    · cases h
  case cally =>
    split at h
    · rename_i hx
      simp only [hx]
      obtain ⟨p, hp, rfl⟩ := Option.map_eq_some_iff.1 h
      refine (hcall.fn _ _ _ p.1 p.2 hp).mono fun r rg e => ?_
      rw [e.1, e.2]
      exact hK
    · rename_i hx
      simp only [hx]
      obtain ⟨p, hp, rfl⟩ := Option.map_eq_some_iff.1 h
      refine (hcall.yl _ _ _ p.1 p.2 hp).mono fun r rg e => ?_
      rw [e.1, e.2]
      exact hK
    · cases h

def evalIt (P : Program) (call : CallF) (it : AIt) (s : St) : Option St :=
  match it.guard with
  | none => evalOp P call it.op s
  | some (t, want) => match lkF s.slots t with
    | .c (.p (.v (.bool b))) => if b = want then evalOp P call it.op s else some (s.put it.d (.tup []))
    | .tup [] => some (s.put it.d (.tup []))
    | _ => none
theorem evalIt_W {it : AIt} {s s' : St} {K : St → Prop} (hcall : CallOk P call) (h : evalIt P call it s = some s') (hK : K s') : itW P it s K := by
  unfold evalIt at h
  simp only [lkF_eq] at h
  unfold itW
  split at h
  · rename_i hg
    simp only [hg]
    exact evalOp_W hcall h hK
  · rename_i t want hg
    simp only [hg]
    split at h
    · rename_i b hb
      simp only [hb]
      split at h
      · rename_i hbw
        exact ⟨fun _ => evalOp_W hcall h hK, fun hn => absurd hbw hn⟩
      · rename_i hbw
        cases h
        exact ⟨fun e => absurd e hbw, fun _ => hK⟩
    · rename_i hb
      simp only [hb]
      cases h
      exact hK
    · cases h
def evalOps (P : Program) (call : CallF) : List AIt → St → Option St
  | [], s => some s
  | it :: r, s => (evalIt P call it s).bind (evalOps P call r)
theorem evalOps_W (hcall : CallOk P call) {K : St → Prop} : ∀ {l : List AIt} {s s' : St}, evalOps P call l s = some s' → K s' → opsW P K l s
  | [], s, s', h, hK => by cases h; exact hK
  | it :: r, s, s', h, hK => by
    obtain ⟨s1, h1, h2⟩ := Option.bind_eq_some_iff.1 h
    exact evalIt_W (K := opsW P K r) hcall h1 (evalOps_W hcall h2 hK)
end
end Go.Sim
