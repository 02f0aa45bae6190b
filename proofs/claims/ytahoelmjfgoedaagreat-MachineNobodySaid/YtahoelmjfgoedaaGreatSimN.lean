/- Operations are turned into the picture's by a program, and that is sound. Of no program. -/
import Derived.Test.YtahoelmjfgoedaaGreatSimMx
namespace Go.Sim
open Go.RowKit Go.Proofs.YtahoelmjfgoedaaGreat.B

def guardO (b : Bool) : Option Unit := if b then some () else none
theorem guardO_eq {b : Bool} {u : Unit} : guardO b = some u ↔ b = true := by cases b <;> simp [guardO]

/-- Flat values that are the same. -/
def feq : Value → Value → Bool
  | .bool a, .bool b => a == b
  | .int k a, .int k' b => decide (k = k') && decide (a = b)
  | .string a, .string b => a.size == 0 && b.size == 0
  | .nilFunc, .nilFunc | .nilIface, .nilIface => true
  | .pointer none, .pointer none | .slice none 0 0, .slice none 0 0 | .map none, .map none | .chan none, .chan none => true
  | _, _ => false
theorem feq_eq {a b : Value} (h : feq a b = true) : a = b := by
  unfold feq at h
  split at h
  · simp at h; rw [h]
  · simp at h; rw [h.1, h.2]
  · rename_i x y
    simp only [Bool.and_eq_true, beq_iff_eq] at h
    have hx : x.data = #[] := Array.eq_empty_of_size_eq_zero h.1
    have hy : y.data = #[] := Array.eq_empty_of_size_eq_zero h.2
    cases x
    cases y
    simp_all
  all_goals first | rfl | cases h
def feqs : List Value → List Value → Bool
  | [], [] => true
  | a :: l, b :: m => feq a b && feqs l m
  | _, _ => false
theorem feqs_eq : ∀ {l m : List Value}, feqs l m = true → l = m
  | [], [], _ => rfl
  | a :: l, b :: m, h => by
    simp only [feqs, Bool.and_eq_true] at h
    rw [feq_eq h.1, feqs_eq h.2]
  | [], _ :: _, h => by cases h
  | _ :: _, [], h => by cases h

/-- A type, and its zero cells. -/
def zeroT (P : Program) (t : TypeId) : Option (TypeInfo × Value) :=
  (P.info? t).bind fun i => i.zero.bind fun z => if z.cells.toList.all flatv = true ∧ z.cells.size = i.size then some (i, z) else none
theorem zeroT_eq {P : Program} {t : TypeId} {i : TypeInfo} {z : Value} (h : zeroT P t = some (i, z)) : P.info? t = some i ∧ i.zero = some z ∧ z.cells.toList.all flatv = true ∧ z.cells.size = i.size := by
  simp only [zeroT, Option.bind_eq_some_iff] at h
  obtain ⟨i', h1, z', h2, h3⟩ := h
  by_cases hc : z'.cells.toList.all flatv = true ∧ z'.cells.size = i'.size
  · rw [if_pos hc] at h3
    cases h3
    exact ⟨h1, h2, hc⟩
  · rw [if_neg hc] at h3
    cases h3

/-- Where the parts of a type's values lie. -/
def placesT (P : Program) (t : TypeId) : Option (Nat → Option (Nat × Nat)) :=
  match P.info? t, P.underlying t with
  | some it, some (.array _ e) =>
    match it.zero, P.info? e with
    | some _, some ie => some fun i => some (i * ie.size, ie.size)
    | _, _ => none
  | some it, some (.struct fields) =>
    match it.zero, fields.toList.mapM (fun f => (P.info? f.type).map fun i => (f.offset, i.size)) with
    | some _, some places => some (places.toArray[·]?)
    | _, _ => none
  | _, _ => none
theorem placesT_eq {P : Program} {t : TypeId} {pl : Nat → Option (Nat × Nat)} {i : TypeInfo} {z : Value} (h : placesT P t = some pl) (hi : P.info? t = some i) (hz : i.zero = some z) (vs : List (Nat × Value)) : P.built t vs = Instr.fill pl z.cells vs := by
  unfold placesT at h
  unfold Program.built
  rw [hi] at h ⊢
  split at h
  · rename_i it n e h1 h2
    cases h1
    simp only [h2, hz] at h ⊢
    cases h3 : P.info? e with
    | none => rw [h3] at h; cases h
    | some ie => rw [h3] at h; cases h; rfl
  · rename_i it fs h1 h2
    cases h1
    simp only [h2, hz] at h ⊢
    cases h3 : fs.toList.mapM (fun f => (P.info? f.type).map fun i => (f.offset, i.size)) with
    | none => rw [h3] at h; cases h
    | some ie => rw [h3] at h; cases h; rfl
  · cases h

theorem allOf_all2 {α β : Type} {f : α → Option β} {R : β → α → Prop} (hf : ∀ a b, f a = some b → R b a) : ∀ {l : List α} {m : List β}, allOf f l = some m → All2 R m l
  | [], _, h => by cases h; trivial
  | a :: l, m, h => by
    simp only [allOf, Option.bind_eq_some_iff, Option.map_eq_some_iff] at h
    obtain ⟨b, h1, m', h2, rfl⟩ := h
    exact ⟨hf _ _ h1, allOf_all2 hf h2⟩

/-- A comparison with nil. -/
def nilK : TypeDesc → Value → Option Nat
  | .pointer _, .pointer none => some 0
  | .slice _, .slice none 0 0 => some 1
  | .map _ _, .map none => some 2
  | .chan _ _, .chan none => some 3
  | .func _ _ _, .nilFunc => some 4
  | _, _ => none
def trNil (P : Program) (d : Option Nat) (op : BinOp) (t : TypeId) (x y : Operand) : Option AOp :=
  match y with
  | .const v => (trX x).bind fun ax => (P.underlying t).bind fun u => (nilK u v).bind fun k => match op with
    | .eql => some (.x d (.nilq k false) [ax])
    | .neq => some (.x d (.nilq k true) [ax])
    | _ => none
  | _ => none
def trBin (P : Program) (d : Option Nat) (op : BinOp) (t : TypeId) (x y : Operand) : Option AOp :=
  (trX x).bind fun ax => (trX y).bind fun ay => (P.underlying t).bind fun u =>
  match u with
  | .bool => match op with
    | .eql => some (.beq d false ax ay)
    | .neq => some (.beq d true ax ay)
    | _ => none
  | .struct _ | .array _ _ => (zeroT P t).bind fun z => (kindsOf z.2.cells.toList).bind fun ks => match op with
    | .eql => some (.eqs d false t ks ax ay)
    | .neq => some (.eqs d true t ks ax ay)
    | _ => none
  | _ => some (.bin d op ax ay)

def trConv (P : Program) (d : Option Nat) (t u : TypeId) (x : Operand) : Option AOp :=
  (trX x).bind fun ax => (P.underlying t).bind fun dt => (P.underlying u).bind fun du =>
  match dt, du with
  | .slice e, .string => (P.underlying e).bind fun de => match de with
    | .int .u8 => some (.b2s d ax)
    | _ => none
  | _, .int k => some (.cvi d k ax)
  | _, _ => none

def trAlloc (P : Program) (d : Option Nat) (t : TypeId) : Option AOp :=
  (P.underlying t).bind fun u => (zeroT P t).bind fun z =>
  match u with
  | .array n e => (zeroT P e).bind fun ze => match P.underlying e with
    | some (.int .u8) => if 0 < ze.1.size ∧ n ≤ 9223372036854775807 ∧ feqs z.2.cells.toList (List.replicate n ze.2.cells.toList).flatten = true then some (.allocA d ze.1.size n ze.2.cells.toList) else none
    | _ => some (.alloc d z.2.cells.toList)
  | _ => some (.alloc d z.2.cells.toList)

def trBuild (P : Program) (d : Option Nat) (t : TypeId) (parts : List (Nat × Operand)) : Option AOp :=
  (zeroT P t).bind fun z => (placesT P t).bind fun pl => (allOf (fun (p : Nat × Operand) => (pl p.1).bind fun q => (trX p.2).map fun ax => (q.1, q.2, ax)) parts).map fun ap => .build d z.2.cells.toList ap

def trBsl (P : Program) (d : Option Nat) (t : TypeId) (n : Nat) (parts : List (Nat × Operand)) : Option AOp :=
  (P.underlying t).bind fun u => match u with
  | .slice e => (zeroT P e).bind fun z => (allOf (fun (p : Nat × Operand) => (trX p.2).map fun ax => (p.1, ax)) parts).bind fun ap =>
    if 0 < z.1.size ∧ n * z.1.size ≤ 16777216 then some (.bsl d z.1.size n z.2.cells.toList ap) else none
  | _ => none

def trMks (P : Program) (d : Option Nat) (t : TypeId) (x y : Operand) : Option AOp :=
  (P.underlying t).bind fun u => match u with
  | .slice e => (zeroT P e).bind fun z => (trX x).bind fun ax => (trX y).bind fun ay => if 0 < z.1.size then some (.mks d z.1.size z.1.bytes z.2.cells.toList ax ay) else none
  | _ => none

def trSlice (P : Program) (d : Option Nat) (t : TypeId) (x : Operand) (lo hi mx : Option Operand) : Option AOp :=
  (P.underlying t).bind fun u => (trX x).bind fun ax => (trO lo).bind fun alo => (trO hi).bind fun ahi => (trO mx).bind fun amx => match u with
  | .slice e => (P.info? e).bind fun i => if mx.isSome = true → hi.isSome = true then some (.sls d i.size ax alo ahi amx) else none
  | .array n e => (P.info? e).bind fun i => match mx with
    | none => some (.sla d n i.size ax alo ahi none)
    | some _ => none
  | _ => none

def trIxa (P : Program) (d : Option Nat) (t : TypeId) (x y : Operand) : Option AOp :=
  (P.underlying t).bind fun u => (trX x).bind fun ax => (trX y).bind fun ay => match u with
  | .slice e => (P.info? e).bind fun i => some (.ixs d i.size ax ay)
  | .array n e => (P.info? e).bind fun i => some (.ixa d n i.size ax ay)
  | _ => none

def trIx (P : Program) (d : Option Nat) (t : TypeId) (x y : Operand) : Option AOp :=
  (P.underlying t).bind fun u => (trX x).bind fun ax => (trX y).bind fun ay => match u with
  | .string => some (.ixt d ax ay)
  | .array n e => (P.info? e).bind fun i => (P.underlying e).bind fun de => if aggD de = false → i.size = 1 then some (.ixv d n i.size (aggD de) ax ay) else none
  | _ => none

def trFad (P : Program) (d : Option Nat) (t : TypeId) (x : Operand) (k : Nat) : Option AOp :=
  (P.underlying t).bind fun u => (trX x).bind fun ax => match u with
  | .struct fs => (fs[k]?).bind fun f => (P.info? f.type).bind fun i => if i.size ≠ 0 then some (.fad d f.offset ax) else none
  | _ => none

def trFld (P : Program) (d : Option Nat) (t : TypeId) (x : Operand) (k : Nat) : Option AOp :=
  (P.underlying t).bind fun u => (trX x).bind fun ax => match u with
  | .struct fs => (fs[k]?).bind fun f => (P.info? f.type).bind fun i => (P.underlying f.type).bind fun de => if aggD de = false → i.size = 1 then some (.fld d f.offset i.size (aggD de) ax) else none
  | _ => none

def trApp (P : Program) (d : Option Nat) (x y : Operand) (t t' : TypeId) : Option AOp :=
  (P.underlying t).bind fun u => (trX x).bind fun ax => (trX y).bind fun ay => match u with
  | .slice e => (zeroT P e).bind fun z => if 0 < z.1.size ∧ t = t' then some (.app d z.1.size z.1.bytes ax ay) else none
  | _ => none

def trLen (P : Program) (d : Option Nat) (x : Operand) (t : TypeId) : Option AOp :=
  (P.underlying t).bind fun u => (trX x).bind fun ax => match u with
  | .slice _ => some (.len d ax)
  | .string => some (.lens d ax)
  | .map _ _ => some (.x d .mlen [ax])
  | .chan _ _ => some (.x d .chlen [ax])
  | _ => none

/-- The kinds of a key's whole numbers. -/
def keyKinds (P : Program) (t : TypeId) : Option (Bool × List IntKind) := (P.underlying t).bind fun u => (shape P 8 t).map fun ks => (aggD u, ks)
def pwZero (P : Program) (t : TypeId) : Option PW :=
  (zeroT P t).bind fun z => match z.2 with
    | .agg vs => if vs.toList.all flatv = true then some (true, vs.toList.map .v) else none
    | v => if flatv v = true then some (false, [.v v]) else none
def trLook (P : Program) (d : Option Nat) (t : TypeId) (m k : Operand) (ok : Bool) : Option AOp :=
  (P.underlying t).bind fun u => (trX m).bind fun am => (trX k).bind fun ak => match u with
  | .map kt e => (keyKinds P kt).bind fun ks => (pwZero P e).map fun z => .x d (.look ks z ok) [am, ak]
  | _ => none
def trUpd (P : Program) (t : TypeId) (m k v : Operand) : Option AOp :=
  (P.underlying t).bind fun u => (trX m).bind fun am => (trX k).bind fun ak => (trX v).bind fun av => match u with
  | .map kt _ => (keyKinds P kt).map fun ks => .x none (.upd ks) [am, ak, av]
  | _ => none
def trMkch (P : Program) (d : Option Nat) (t : TypeId) (n : Operand) : Option AOp :=
  (P.underlying t).bind fun u => (trX n).bind fun an => match u with
  | .chan _ e => (P.info? e).map fun i => .x d (.mkch i.bytes) [an]
  | _ => none

def trCall (P : Program) (d : Option Nat) : Call → Option AOp
  | ⟨.builtin .append, ⟨[x, y]⟩, ⟨[t, t']⟩⟩ => trApp P d x y t t'
  | ⟨.builtin .len, ⟨[x]⟩, ⟨[t]⟩⟩ => trLen P d x t
  | ⟨.builtin .cap, ⟨[x]⟩, ⟨[t]⟩⟩ => (P.underlying t).bind fun u => (trX x).bind fun ax => match u with
    | .chan _ _ => some (.x d .chcap [ax])
    | _ => none
  | ⟨.builtin .max, ⟨[x, y]⟩, _⟩ => (trX x).bind fun ax => (trX y).map fun ay => .mm d true ax ay
  | ⟨.builtin .min, ⟨[x, y]⟩, _⟩ => (trX x).bind fun ax => (trX y).map fun ay => .mm d false ax ay
  | ⟨.value (.func f), as, _⟩ => (allOf trX as.toList).map fun l => .call d f l
  | ⟨.value (.tmp t), as, _⟩ => (allOf trX as.toList).map fun l => .callv d (.t t) l
  | _ => none

def trOp (P : Program) (o : Oper) : Option AOp :=
  match o.op with
  | .move x | .assign x => (trX x).map (.mv o.dst)
  | .pick c x y => (trX c).bind fun ac => (trX x).bind fun ax => (trX y).map fun ay => .pick o.dst ac ax ay
  | .alloc t => trAlloc P o.dst t
  | .box _ x => (trX x).map (.box o.dst)
  | .build t ⟨parts⟩ => trBuild P o.dst t parts
  | .buildSlice t n ⟨parts⟩ => trBsl P o.dst t n parts
  | .load t x => (P.underlying t).bind fun d => (P.info? t).bind fun i => (trX x).map fun ax => .load o.dst i.size (aggD d) ax
  | .store t x y => (P.info? t).bind fun i => (trX x).bind fun ax => (trX y).bind fun ay => match o.dst with
    | none => some (.store i.size ax ay)
    | some _ => none
  | .nilCheck x => (trX x).map (.nilc o.dst)
  | .binOp op t x y _ => match trNil P o.dst op t x y with
    | some ao => some ao
    | none => trBin P o.dst op t x y
  | .unOp op _ x => (trX x).map (.un o.dst op)
  | .convert t u x => trConv P o.dst t u x
  | .makeFunc f ⟨fi⟩ ⟨ca⟩ => (trXs fi).bind fun a => (trXs ca).map fun b => .mkf o.dst f a b
  | .makeSlice t x y => trMks P o.dst t x y
  | .slice t x lo hi mx => trSlice P o.dst t x lo hi mx
  | .fieldAddr t x k => trFad P o.dst t x k
  | .field t x k => trFld P o.dst t x k
  | .indexAddr t x y => trIxa P o.dst t x y
  | .index t x y => trIx P o.dst t x y
  | .extract x k => (trX x).map fun ax => .ext o.dst ax k
  | .call c => trCall P o.dst c
  | .lookup t m k ok => trLook P o.dst t m k ok
  | .mapUpdate t m k v => match o.dst with
    | none => trUpd P t m k v
    | some _ => none
  | .makeMap t none => (P.underlying t).bind fun u => match u with
    | .map _ _ => some (.x o.dst .mkmap [])
    | _ => none
  | .makeChan t n => trMkch P o.dst t n
  | _ => none

/-- Operations that leave memory alone. -/
def XOp.pure : XOp → Bool
  | .mkmap | .mkch _ | .upd _ => false
  | _ => true
def AOp.pure : AOp → Bool
  | .x _ k _ => k.pure
  | .alloc .. | .allocA .. | .box .. | .bsl .. | .store .. | .mks .. | .app .. | .call .. | .callv .. | .cally .. => false
  | _ => true

/-- Operations that do not ask memory either. -/
def AOp.timeless : AOp → Bool
  | .mv .. | .bin .. | .beq .. | .pick .. | .un .. | .cvi .. | .nilc .. | .fad .. | .ext .. | .len .. | .lens .. | .fld .. | .ixs .. | .ixa .. | .mm .. | .ixt .. => true
  | _ => false

def SndT (P : Program) (o : Oper) (ao : AOp) : Prop :=
  ∀ {w0 w : World} {env0 : Env} {bad0 : Bs} {fps : List Nat} {base : Nat → Prop} {N : Nat} {s : St} {a : Act} {nx : Act → Prop} {K : St → Prop}, (∀ n, o.dst = some n → n < N) → opW P ao s K → R P w0 env0 bad0 fps base N s a w →
    (∀ s' a', K s' → R P w0 env0 bad0 fps base N s' a' w → nx a') → o.timeWp P a nx
def SndP (P : Program) (o : Oper) (ao : AOp) : Prop :=
  ∀ {w0 w : World} {env0 : Env} {bad0 : Bs} {fps : List Nat} {base : Nat → Prop} {N : Nat} {s : St} {a : Act} {nx : Act → Prop} {K : St → Prop}, (∀ n, o.dst = some n → n < N) → opW P ao s K → R P w0 env0 bad0 fps base N s a w →
    (∀ s' a', K s' → R P w0 env0 bad0 fps base N s' a' w → nx a') → o.pureWp P a w nx
def SndW (P : Program) (o : Oper) (ao : AOp) : Prop :=
  ∀ {w0 w : World} {env0 : Env} {bad0 : Bs} {fps : List Nat} {base : Nat → Prop} {N : Nat} {s : St} {a : Act} {next : Act → World → Prop} {Q : Exit → Act → World → Prop} {K : St → Prop}, (∀ n, o.dst = some n → n < N) → opW P ao s K → R P w0 env0 bad0 fps base N s a w →
    (∀ s' a' w', K s' → R P w0 env0 bad0 fps base N s' a' w' → next a' w') → o.wp P a w next Q
def Snd (P : Program) (o : Oper) (ao : AOp) : Prop := cond ao.timeless (SndT P o ao) (cond ao.pure (SndP P o ao) (SndW P o ao))

theorem Snd.time {P : Program} {o : Oper} {ao : AOp} (h : Snd P o ao) (hp : ao.timeless = true) : SndT P o ao := by
  unfold Snd at h
  rw [hp] at h
  exact h
theorem timeless_pure {ao : AOp} (h : ao.timeless = true) : ao.pure = true := by
  cases ao <;> first | rfl | cases h
theorem Snd.still {P : Program} {o : Oper} {ao : AOp} (h : Snd P o ao) (hp : ao.pure = true) : SndP P o ao := by
  cases ht : ao.timeless
  · unfold Snd at h
    rw [hp, ht] at h
    exact h
  · intro w0 w env0 bad0 fps base N s a nx K hd hw hR hK
    exact time_pure (h.time ht hd hw hR hK)
theorem Snd.wp {P : Program} {o : Oper} {ao : AOp} (h : Snd P o ao) : SndW P o ao := by
  cases hp : ao.pure
  · cases ht : ao.timeless
    · unfold Snd at h
      rw [hp, ht] at h
      exact h
    · rw [timeless_pure ht] at hp
      cases hp
  · intro w0 w env0 bad0 fps base N s a next Q K hd hw hR hK
    exact pure_wp (h.still hp hd hw hR fun s' a' k r => hK s' a' w k r)

section
variable {P : Program} {o : Oper} {ao : AOp}

theorem trBin_snd {op : BinOp} {t u : TypeId} {x y : Operand} (ho : o.op = .binOp op t x y u) (h : trBin P o.dst op t x y = some ao) : Snd P o ao := by
  simp only [trBin, Option.bind_eq_some_iff] at h
  obtain ⟨ax, hx, ay, hy, d, hd, h⟩ := h
  split at h
  · split at h
    · cases h; exact fun hd' h hR hK => sound_beq (neg := false) ho hd hx hy hd' h hR hK
    · cases h; exact fun hd' h hR hK => sound_beq (neg := true) ho hd hx hy hd' h hR hK
    · cases h
  · simp only [Option.bind_eq_some_iff] at h
    obtain ⟨z, hz, ks, hks, h⟩ := h
    split at h
    · cases h; exact fun hd' h hR hK => sound_eqs (b := false) ho hx hy hd' h hR hK
    · cases h; exact fun hd' h hR hK => sound_eqs (b := true) ho hx hy hd' h hR hK
    · cases h
  · simp only [Option.bind_eq_some_iff] at h
    obtain ⟨z, hz, ks, hks, h⟩ := h
    split at h
    · cases h; exact fun hd' h hR hK => sound_eqs (b := false) ho hx hy hd' h hR hK
    · cases h; exact fun hd' h hR hK => sound_eqs (b := true) ho hx hy hd' h hR hK
    · cases h
  · cases h; exact fun hd' h hR hK => sound_bin ho hx hy hd' h hR hK

theorem trConv_snd {t u : TypeId} {x : Operand} (ho : o.op = .convert t u x) (h : trConv P o.dst t u x = some ao) : Snd P o ao := by
  simp only [trConv, Option.bind_eq_some_iff] at h
  obtain ⟨ax, hx, dt, ht, du, hu, h⟩ := h
  split at h
  · simp only [Option.bind_eq_some_iff] at h
    obtain ⟨de, he, h⟩ := h
    split at h
    · cases h; exact fun hd' h hR hK => sound_b2s ho ht he hu hx hd' h hR hK
    · cases h
  · cases h; exact fun hd' h hR hK => sound_cvi ho hu ht hx hd' h hR hK
  · cases h

theorem trAlloc_snd {t : TypeId} (ho : o.op = .alloc t) (h : trAlloc P o.dst t = some ao) : Snd P o ao := by
  simp only [trAlloc, Option.bind_eq_some_iff] at h
  obtain ⟨d, hd, ⟨i, z⟩, hz, h⟩ := h
  obtain ⟨z1, z2, z3, z4⟩ := zeroT_eq hz
  split at h
  · simp only [Option.bind_eq_some_iff] at h
    obtain ⟨⟨ie, ze⟩, he, h⟩ := h
    obtain ⟨e1, e2, e3, e4⟩ := zeroT_eq he
    split at h
    · split at h
      · rename_i hc
        cases h
        exact fun hd' h hR hK => sound_allocA ho hd z1 z2 e1 e2 e3 e4 hc.1 (feqs_eq hc.2.2) hc.2.1 hd' h hR hK
      · cases h
    · cases h; exact fun hd' h hR hK => sound_alloc ho z1 z2 z3 hd' h hR hK
  · cases h; exact fun hd' h hR hK => sound_alloc ho z1 z2 z3 hd' h hR hK

theorem trBuild_snd {t : TypeId} {parts : List (Nat × Operand)} (ho : o.op = .build t parts.toArray) (h : trBuild P o.dst t parts = some ao) : Snd P o ao := by
  simp only [trBuild, Option.bind_eq_some_iff, Option.map_eq_some_iff] at h
  obtain ⟨⟨i, z⟩, hz, pl, hpl, ap, hap, rfl⟩ := h
  obtain ⟨z1, z2, z3, z4⟩ := zeroT_eq hz
  exact fun hd' h hR hK => sound_build ho (placesT_eq hpl z1 z2) z3 (allOf_all2 (fun p q hq => by
    simp only [Option.bind_eq_some_iff, Option.map_eq_some_iff] at hq
    obtain ⟨r, h1, ax, h2, rfl⟩ := hq
    exact ⟨h1, h2⟩) hap) hd' h hR hK

theorem trBsl_snd {t : TypeId} {n : Nat} {parts : List (Nat × Operand)} (ho : o.op = .buildSlice t n parts.toArray) (h : trBsl P o.dst t n parts = some ao) : Snd P o ao := by
  simp only [trBsl, Option.bind_eq_some_iff] at h
  obtain ⟨d, hd, h⟩ := h
  split at h
  · simp only [Option.bind_eq_some_iff] at h
    obtain ⟨⟨i, z⟩, hz, ap, hap, h⟩ := h
    obtain ⟨z1, z2, z3, z4⟩ := zeroT_eq hz
    split at h
    · rename_i hc
      cases h
      exact fun hd' h hR hK => sound_bsl ho hd z1 z2 z3 z4 hc.1 hc.2 (allOf_all2 (fun p q hq => by
        simp only [Option.map_eq_some_iff] at hq
        obtain ⟨ax, h2, rfl⟩ := hq
        exact ⟨rfl, h2⟩) hap) hd' h hR hK
    · cases h
  · cases h

theorem trMks_snd {t : TypeId} {x y : Operand} (ho : o.op = .makeSlice t x y) (h : trMks P o.dst t x y = some ao) : Snd P o ao := by
  simp only [trMks, Option.bind_eq_some_iff] at h
  obtain ⟨d, hd, h⟩ := h
  split at h
  · simp only [Option.bind_eq_some_iff] at h
    obtain ⟨⟨i, z⟩, hz, ax, hx, ay, hy, h⟩ := h
    obtain ⟨z1, z2, z3, z4⟩ := zeroT_eq hz
    split at h
    · rename_i hc
      cases h
      exact fun hd' h hR hK => sound_mks ho hd z1 z2 z3 z4 hc hx hy hd' h hR hK
    · cases h
  · cases h

theorem trSlice_snd {t : TypeId} {x : Operand} {lo hi mx : Option Operand} (ho : o.op = .slice t x lo hi mx) (h : trSlice P o.dst t x lo hi mx = some ao) : Snd P o ao := by
  simp only [trSlice, Option.bind_eq_some_iff] at h
  obtain ⟨d, hd, ax, hx, alo, hlo, ahi, hhi, amx, hmx, h⟩ := h
  split at h
  · simp only [Option.bind_eq_some_iff] at h
    obtain ⟨i, hi', h⟩ := h
    split at h
    · rename_i hc
      cases h
      exact fun hd' h hR hK => sound_sls ho hd hi' hx hlo hhi hmx hc hd' h hR hK
    · cases h
  · simp only [Option.bind_eq_some_iff] at h
    obtain ⟨i, hi', h⟩ := h
    split at h
    · cases h
      exact fun hd' h hR hK => sound_sla ho hd hi' hx hlo hhi hd' h hR hK
    · cases h
  · cases h

theorem trIxa_snd {t : TypeId} {x y : Operand} (ho : o.op = .indexAddr t x y) (h : trIxa P o.dst t x y = some ao) : Snd P o ao := by
  simp only [trIxa, Option.bind_eq_some_iff] at h
  obtain ⟨d, hd, ax, hx, ay, hy, h⟩ := h
  split at h
  · simp only [Option.bind_eq_some_iff] at h
    obtain ⟨i, hi', h⟩ := h
    cases h
    exact fun hd' h hR hK => sound_ixs ho hd hi' hx hy hd' h hR hK
  · simp only [Option.bind_eq_some_iff] at h
    obtain ⟨i, hi', h⟩ := h
    cases h
    exact fun hd' h hR hK => sound_ixa ho hd hi' hx hy hd' h hR hK
  · cases h

theorem trIx_snd {t : TypeId} {x y : Operand} (ho : o.op = .index t x y) (h : trIx P o.dst t x y = some ao) : Snd P o ao := by
  simp only [trIx, Option.bind_eq_some_iff] at h
  obtain ⟨d, hd, ax, hx, ay, hy, h⟩ := h
  split at h
  · cases h
    exact fun hd' h hR hK => sound_ixt ho hd hx hy hd' h hR hK
  · simp only [Option.bind_eq_some_iff] at h
    obtain ⟨i, hi', de, hde, h⟩ := h
    split at h
    · rename_i hc
      cases h
      exact fun hd' h hR hK => sound_ixv ho hd hi' hde hc hx hy hd' h hR hK
    · cases h
  · cases h

theorem trFad_snd {t : TypeId} {x : Operand} {k : Nat} (ho : o.op = .fieldAddr t x k) (h : trFad P o.dst t x k = some ao) : Snd P o ao := by
  simp only [trFad, Option.bind_eq_some_iff] at h
  obtain ⟨d, hd, ax, hx, h⟩ := h
  split at h
  · simp only [Option.bind_eq_some_iff] at h
    obtain ⟨f, hf, i, hi', h⟩ := h
    split at h
    · rename_i hc
      cases h
      exact fun hd' h hR hK => sound_fad ho hd hf hi' hc hx hd' h hR hK
    · cases h
  · cases h

theorem trFld_snd {t : TypeId} {x : Operand} {k : Nat} (ho : o.op = .field t x k) (h : trFld P o.dst t x k = some ao) : Snd P o ao := by
  simp only [trFld, Option.bind_eq_some_iff] at h
  obtain ⟨d, hd, ax, hx, h⟩ := h
  split at h
  · simp only [Option.bind_eq_some_iff] at h
    obtain ⟨f, hf, i, hi', de, hde, h⟩ := h
    split at h
    · rename_i hc
      cases h
      exact fun hd' h hR hK => sound_fld ho hd hf hi' hde hc hx hd' h hR hK
    · cases h
  · cases h

theorem trApp_snd {x y : Operand} {t t' : TypeId} (ho : o.op = .call ⟨.builtin .append, #[x, y], #[t, t']⟩) (h : trApp P o.dst x y t t' = some ao) : Snd P o ao := by
  simp only [trApp, Option.bind_eq_some_iff] at h
  obtain ⟨d, hd, ax, hx, ay, hy, h⟩ := h
  split at h
  · simp only [Option.bind_eq_some_iff] at h
    obtain ⟨⟨i, z⟩, hz, h⟩ := h
    obtain ⟨z1, z2, z3, z4⟩ := zeroT_eq hz
    split at h
    · rename_i hc
      cases h
      obtain ⟨hc, rfl⟩ := hc
      exact fun hd' h hR hK => sound_app ho hd z1 z2 z4 hc hx hy hd' h hR hK
    · cases h
  · cases h

theorem keyKinds_eq {kt : TypeId} {kk : Bool × List IntKind} (h : keyKinds P kt = some kk) : KeyType P kt kk := by
  simp only [keyKinds, Option.bind_eq_some_iff, Option.map_eq_some_iff] at h
  obtain ⟨u, hu, ks, hks, rfl⟩ := h
  exact ⟨u, hu, hks, rfl⟩
theorem all_flat {w : World} {bad : Nat → Prop} : ∀ {l : List Value}, l.all flatv = true → All2 (PRel w bad) (l.map PV.v) l
  | [], _ => trivial
  | x :: l, h => by
    simp only [List.all_cons, Bool.and_eq_true] at h
    exact ⟨.v h.1, all_flat h.2⟩
theorem pwZero_eq {t : TypeId} {z : PW} (h : pwZero P t = some z) : ∃ i zv, P.info? t = some i ∧ i.zero = some zv ∧ ∀ (w : World) (bad : Nat → Prop), WRel w bad z zv := by
  simp only [pwZero, Option.bind_eq_some_iff] at h
  obtain ⟨⟨i, zv⟩, hz, h⟩ := h
  obtain ⟨z1, z2, z3, z4⟩ := zeroT_eq hz
  refine ⟨i, zv, z1, z2, fun w bad => ?_⟩
  split at h
  · rename_i vs hv
    split at h
    · rename_i hf
      cases h
      have hv : zv = .agg vs := hv
      subst hv
      exact ⟨vs.toList, rfl, all_flat hf⟩
    · cases h
  · split at h
    · rename_i hf
      cases h
      exact .v hf
    · cases h
theorem trLook_snd {t : TypeId} {x y : Operand} {ok : Bool} (ho : o.op = .lookup t x y ok) (h : trLook P o.dst t x y ok = some ao) : Snd P o ao := by
  simp only [trLook, Option.bind_eq_some_iff] at h
  obtain ⟨d, hd, ax, hx, ay, hy, h⟩ := h
  split at h
  · simp only [Option.bind_eq_some_iff, Option.map_eq_some_iff] at h
    obtain ⟨kk, hkk, z, hz, rfl⟩ := h
    obtain ⟨i, zv, h1, h2, h3⟩ := pwZero_eq hz
    exact fun hd' h hR hK => sound_look ho hd (keyKinds_eq hkk) h1 h2 h3 hx hy hd' h hR hK
  · cases h
theorem trUpd_snd {t : TypeId} {x y z : Operand} (ho : o.op = .mapUpdate t x y z) (hdn : o.dst = none) (h : trUpd P t x y z = some ao) : Snd P o ao := by
  simp only [trUpd, Option.bind_eq_some_iff] at h
  obtain ⟨d, hd, ax, hx, ay, hy, az, hz, h⟩ := h
  split at h
  · simp only [Option.map_eq_some_iff] at h
    obtain ⟨kk, hkk, rfl⟩ := h
    exact fun hd' h hR hK => sound_upd ho hd (keyKinds_eq hkk) hx hy hz hdn h hR hK
  · cases h
theorem trMkch_snd {t : TypeId} {x : Operand} (ho : o.op = .makeChan t x) (h : trMkch P o.dst t x = some ao) : Snd P o ao := by
  simp only [trMkch, Option.bind_eq_some_iff] at h
  obtain ⟨d, hd, ax, hx, h⟩ := h
  split at h
  · simp only [Option.map_eq_some_iff] at h
    obtain ⟨i, hi, rfl⟩ := h
    exact fun hd' h hR hK => sound_mkch ho hd hi hx hd' h hR hK
  · cases h
theorem nilK_eq {u : TypeDesc} {v : Value} {k : Nat} {t : TypeId} (h : nilK u v = some k) (hu : P.underlying t = some u) : NilK P t k ∧ v = nilV k := by
  unfold nilK at h
  split at h <;> first
    | (cases h; exact ⟨⟨_, hu⟩, rfl⟩)
    | (cases h; exact ⟨⟨_, _, hu⟩, rfl⟩)
    | (cases h; exact ⟨⟨_, _, _, hu⟩, rfl⟩)
    | cases h
theorem trNil_snd {op : BinOp} {t u : TypeId} {x y : Operand} (ho : o.op = .binOp op t x y u) (h : trNil P o.dst op t x y = some ao) : Snd P o ao := by
  unfold trNil at h
  split at h
  · rename_i v
    simp only [Option.bind_eq_some_iff] at h
    obtain ⟨ax, hx, d, hd, k, hk, h⟩ := h
    obtain ⟨h1, rfl⟩ := nilK_eq hk hd
    split at h
    · cases h
      exact fun hd' h hR hK => sound_nilq (neg := false) ho h1 hx hd' h hR hK
    · cases h
      exact fun hd' h hR hK => sound_nilq (neg := true) ho h1 hx hd' h hR hK
    · cases h
  · cases h

theorem trLen_snd {x : Operand} {t : TypeId} (ho : o.op = .call ⟨.builtin .len, #[x], #[t]⟩) (h : trLen P o.dst x t = some ao) : Snd P o ao := by
  simp only [trLen, Option.bind_eq_some_iff] at h
  obtain ⟨d, hd, ax, hx, h⟩ := h
  split at h
  · cases h
    exact fun hd' h hR hK => sound_len ho hd hx hd' h hR hK
  · cases h
    exact fun hd' h hR hK => sound_lens ho hd hx hd' h hR hK
  · cases h
    exact fun hd' h hR hK => sound_mlen ho hd hx hd' h hR hK
  · cases h
    exact fun hd' h hR hK => sound_chlen ho hd hx hd' h hR hK
  · cases h

theorem trCall_snd {c : Call} (ho : o.op = .call c) (h : trCall P o.dst c = some ao) : Snd P o ao := by
  unfold trCall at h
  split at h
  · exact trApp_snd ho h
  · exact trLen_snd ho h
  · simp only [Option.bind_eq_some_iff] at h
    obtain ⟨d, hd, ax, hx, h⟩ := h
    split at h
    · cases h
      exact fun hd' h hR hK => sound_chcap ho hd hx hd' h hR hK
    · cases h
  · simp only [Option.bind_eq_some_iff, Option.map_eq_some_iff] at h
    obtain ⟨ax, hx, ay, hy, rfl⟩ := h
    exact fun hd' h hR hK => sound_mm (b := true) ho hx hy hd' h hR hK
  · simp only [Option.bind_eq_some_iff, Option.map_eq_some_iff] at h
    obtain ⟨ax, hx, ay, hy, rfl⟩ := h
    exact fun hd' h hR hK => sound_mm (b := false) ho hx hy hd' h hR hK
  · simp only [Option.map_eq_some_iff] at h
    obtain ⟨l, hl, rfl⟩ := h
    exact fun hd' h hR hK => sound_call ho hl hd' h hR hK
  · simp only [Option.map_eq_some_iff] at h
    obtain ⟨l, hl, rfl⟩ := h
    exact fun hd' h hR hK => sound_callv ho rfl hl hd' h hR hK
  · cases h

theorem trOp_snd (h : trOp P o = some ao) : Snd P o ao := by
  unfold trOp at h
  split at h
  · rename_i x ho
    simp only [Option.map_eq_some_iff] at h
    obtain ⟨ax, hx, rfl⟩ := h
    exact fun hd' h hR hK => sound_mv (.inl ho) hx hd' h hR hK
  · rename_i x ho
    simp only [Option.map_eq_some_iff] at h
    obtain ⟨ax, hx, rfl⟩ := h
    exact fun hd' h hR hK => sound_mv (.inr ho) hx hd' h hR hK
  · rename_i c x y ho
    simp only [Option.bind_eq_some_iff, Option.map_eq_some_iff] at h
    obtain ⟨ac, hc, ax, hx, ay, hy, rfl⟩ := h
    exact fun hd' h hR hK => sound_pick ho hc hx hy hd' h hR hK
  · rename_i t ho
    exact trAlloc_snd ho h
  · rename_i t x ho
    simp only [Option.map_eq_some_iff] at h
    obtain ⟨ax, hx, rfl⟩ := h
    exact fun hd' h hR hK => sound_box ho hx hd' h hR hK
  · rename_i t parts ho
    exact trBuild_snd ho h
  · rename_i t n parts ho
    exact trBsl_snd ho h
  · rename_i t x ho
    simp only [Option.bind_eq_some_iff, Option.map_eq_some_iff] at h
    obtain ⟨d, hd, i, hi, ax, hx, rfl⟩ := h
    exact fun hd' h hR hK => sound_load ho hd hi hx hd' h hR hK
  · rename_i t x y ho
    simp only [Option.bind_eq_some_iff] at h
    obtain ⟨i, hi, ax, hx, ay, hy, h⟩ := h
    split at h
    · rename_i hdn
      cases h
      exact fun hd' h hR hK => sound_store ho hi hx hy hdn h hR hK
    · cases h
  · rename_i x ho
    simp only [Option.map_eq_some_iff] at h
    obtain ⟨ax, hx, rfl⟩ := h
    exact fun hd' h hR hK => sound_nilc ho hx hd' h hR hK
  · rename_i op t x y u ho
    split at h
    · rename_i ao' hn
      cases h
      exact trNil_snd ho hn
    · exact trBin_snd ho h
  · rename_i op t x ho
    simp only [Option.map_eq_some_iff] at h
    obtain ⟨ax, hx, rfl⟩ := h
    exact fun hd' h hR hK => sound_un ho hx hd' h hR hK
  · rename_i t u x ho
    exact trConv_snd ho h
  · rename_i f fi ca ho
    simp only [Option.bind_eq_some_iff, Option.map_eq_some_iff] at h
    obtain ⟨l, hl, m, hm, rfl⟩ := h
    exact fun hd' h hR hK => sound_mkf ho hl hm hd' h hR hK
  · rename_i t x y ho
    exact trMks_snd ho h
  · rename_i t x lo hi mx ho
    exact trSlice_snd ho h
  · rename_i t x k ho
    exact trFad_snd ho h
  · rename_i t x k ho
    exact trFld_snd ho h
  · rename_i t x y ho
    exact trIxa_snd ho h
  · rename_i t x y ho
    exact trIx_snd ho h
  · rename_i x k ho
    simp only [Option.map_eq_some_iff] at h
    obtain ⟨ax, hx, rfl⟩ := h
    exact fun hd' h hR hK => sound_ext ho hx hd' h hR hK
  · rename_i c ho
    exact trCall_snd ho h
  · rename_i t x y ok ho
    exact trLook_snd ho h
  · rename_i t x y z ho
    split at h
    · rename_i hdn
      exact trUpd_snd ho hdn h
    · cases h
  · rename_i t ho
    simp only [Option.bind_eq_some_iff] at h
    obtain ⟨u, hu, h⟩ := h
    split at h
    · cases h
      exact fun hd' h hR hK => sound_mkmap ho hu hd' h hR hK
    · cases h
  · rename_i t x ho
    exact trMkch_snd ho h
  · cases h
end
end Go.Sim
