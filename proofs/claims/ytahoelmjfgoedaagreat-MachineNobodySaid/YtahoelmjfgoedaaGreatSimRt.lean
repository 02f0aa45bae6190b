/- Rules by which a text's run is rewritten. Of no program. -/
import Derived.Test.YtahoelmjfgoedaaGreatSimRs
namespace Go.Sim
open Go.RowKit Go.Proofs.YtahoelmjfgoedaaGreat.B
set_option linter.unusedVariables false
set_option linter.unusedSectionVars false

attribute [simp] cont_some cont2_some cont0_some contS_some contX_some contV_some contY_some mkfn_some gdk_tt gdk_ff gdk_tf gdk_ft gdk_t gdk_tf0 gdk_ft0 gdk_t0
attribute [simp ↓] ops_nil ops_mv ops_bin ops_eqs ops_beq ops_pick ops_un ops_cvi ops_nilc ops_fad ops_fld ops_load ops_ixs ops_ixa ops_len ops_lens ops_ext ops_mm ops_ixv ops_alloc ops_allocA ops_box ops_store ops_build ops_bsl ops_app ops_call ops_call0 ops_callv ops_cally ops_cally0 ops_mkf ops_x ops_x0 ops_sls ops_sla ops_mks ops_b2s ops_ixt ops_guard ops_guard0

/-! ### values -/
theorem kB_self (k : IntKind) : kB k k = true := by cases k <;> rfl
section
variable (k : IntKind) (a b : Int)
@[simp] theorem vbin_add : vbin .add (I k a) (I k b) = some (I k (k.wrap (a + b))) := by cases k <;> rfl
@[simp] theorem vbin_sub : vbin .sub (I k a) (I k b) = some (I k (k.wrap (a - b))) := by cases k <;> rfl
@[simp] theorem vbin_mul : vbin .mul (I k a) (I k b) = some (I k (k.wrap (a * b))) := by cases k <;> rfl
@[simp] theorem vbin_quo (h : b ≠ 0) : vbin .quo (I k a) (I k b) = some (I k (k.wrap (a.tdiv b))) := by
  show Option.map (fun v => AV.c (AC.p (PV.v v))) (if kB k k = true ∧ b ≠ 0 then some (Value.int k (k.wrap (a.tdiv b))) else none) = _
  rw [if_pos ⟨kB_self k, h⟩]
  rfl
@[simp] theorem vbin_rem (h : b ≠ 0) : vbin .rem (I k a) (I k b) = some (I k (a.tmod b)) := by
  show Option.map (fun v => AV.c (AC.p (PV.v v))) (if kB k k = true ∧ b ≠ 0 then some (Value.int k (a.tmod b)) else none) = _
  rw [if_pos ⟨kB_self k, h⟩]
  rfl
@[simp] theorem vbin_and : vbin .and (I k a) (I k b) = some (I k (bits .and k a b)) := by cases k <;> rfl
@[simp] theorem vbin_or : vbin .or (I k a) (I k b) = some (I k (bits .or k a b)) := by cases k <;> rfl
@[simp] theorem vbin_xor : vbin .xor (I k a) (I k b) = some (I k (bits .xor k a b)) := by cases k <;> rfl
@[simp] theorem vbin_andNot : vbin .andNot (I k a) (I k b) = some (I k (bits .andNot k a b)) := by cases k <;> rfl
@[simp] theorem vbin_eql : vbin .eql (I k a) (I k b) = some (Bo (decide (a = b))) := by cases k <;> rfl
@[simp] theorem vbin_neq : vbin .neq (I k a) (I k b) = some (Bo (!decide (a = b))) := by cases k <;> rfl
@[simp] theorem vbin_lss : vbin .lss (I k a) (I k b) = some (Bo (decide (a < b))) := by cases k <;> rfl
@[simp] theorem vbin_leq : vbin .leq (I k a) (I k b) = some (Bo (decide (a ≤ b))) := by cases k <;> rfl
@[simp] theorem vbin_gtr : vbin .gtr (I k a) (I k b) = some (Bo (decide (b < a))) := by cases k <;> rfl
@[simp] theorem vbin_geq : vbin .geq (I k a) (I k b) = some (Bo (decide (b ≤ a))) := by cases k <;> rfl
@[simp] theorem vbin_shl (k' : IntKind) (h : 0 ≤ b) : vbin .shl (I k a) (I k' b) = some (I k (k.wrap (a * 2 ^ (min b.toNat k.bits)))) := by
  show Option.map (fun v => AV.c (AC.p (PV.v v))) (if 0 ≤ b then some (Value.int k (k.wrap (a * 2 ^ (min b.toNat k.bits)))) else none) = _
  rw [if_pos h]
  rfl
@[simp] theorem vbin_shr (k' : IntKind) (h : 0 ≤ b) : vbin .shr (I k a) (I k' b) = some (I k (a / 2 ^ (min b.toNat k.bits))) := by
  show Option.map (fun v => AV.c (AC.p (PV.v v))) (if 0 ≤ b then some (Value.int k (a / 2 ^ (min b.toNat k.bits))) else none) = _
  rw [if_pos h]
  rfl
@[simp] theorem vbin_adds (x y : ByteArray) (h : ((x.size + y.size : Nat) : Int) ≤ 9223372036854775807) : vbin .add (.c (.p (.v (.string x)))) (.c (.p (.v (.string y)))) = some (.c (.p (.v (.string (x ++ y))))) := by
  show Option.map (fun v => AV.c (AC.p (PV.v v))) (if ((x.size + y.size : Nat) : Int) ≤ 9223372036854775807 then some (Value.string (x ++ y)) else none) = _
  rw [if_pos h]
  rfl
@[simp] theorem vbin_eqls (x y : ByteArray) : vbin .eql (.c (.p (.v (.string x)))) (.c (.p (.v (.string y)))) = some (Bo (x.toList == y.toList)) := _root_.id rfl
@[simp] theorem vbin_neqs (x y : ByteArray) : vbin .neq (.c (.p (.v (.string x)))) (.c (.p (.v (.string y)))) = some (Bo (!(x.toList == y.toList))) := _root_.id rfl
end
@[simp] theorem vbeq_eq (neg a b : Bool) : vbeq neg (Bo a) (Bo b) = some (Bo (if neg then !(a == b) else (a == b))) := _root_.id rfl
@[simp] theorem vpick_eq (t : Bool) (a b : AV) : vpick (Bo t) a b = some (if t = true then a else b) := _root_.id rfl
@[simp] theorem vun_not (b : Bool) : vun .not (Bo b) = some (Bo (!b)) := _root_.id rfl
@[simp] theorem vun_neg (k : IntKind) (n : Int) : vun .neg (I k n) = some (I k (k.wrap (0 - n))) := _root_.id rfl
@[simp] theorem vcvi_eq (k k' : IntKind) (n : Int) : vcvi k (I k' n) = some (I k (k.wrap n)) := _root_.id rfl
@[simp] theorem vnilc_p (id off : Nat) : vnilc (.c (.ptr id off)) = some (.c (.ptr id off)) := _root_.id rfl
@[simp] theorem vnilc_e (id sz i j : Nat) : vnilc (.c (.ept id sz i j)) = some (.c (.ept id sz i j)) := _root_.id rfl
@[simp] theorem vnilc_r (l : List PV) : vnilc (.c (.rp l)) = some (.c (.rp l)) := _root_.id rfl
@[simp] theorem vfad_p (off id o : Nat) : vfad off (.c (.ptr id o)) = some (.c (.ptr id (o + off))) := _root_.id rfl
@[simp] theorem vfad_e (off id sz i j : Nat) : vfad off (.c (.ept id sz i j)) = some (.c (.ept id sz i (j + off))) := _root_.id rfl
@[simp] theorem vfad_r (off : Nat) (l : List PV) : vfad off (.c (.rp l)) = some (.c (.rp (l.drop off))) := _root_.id rfl
@[simp] theorem vload_p (rg : List Reg) (n : Nat) (agg : Bool) (id off : Nat) : vload rg n agg (.c (.ptr id off)) = vloadA off n agg rg[id]? := _root_.id rfl
@[simp] theorem vload_e (rg : List Reg) (n : Nat) (agg : Bool) (id sz i j : Nat) : vload rg n agg (.c (.ept id sz i j)) = vloadE sz i j n agg rg[id]? := _root_.id rfl
@[simp] theorem vstore_p (rg : List Reg) (n id off : Nat) (v : AV) : vstore rg n (.c (.ptr id off)) v = (cellsOf v).bind fun xs => (vstoreA off n xs rg[id]?).map fun r => rg.set id r := _root_.id rfl
@[simp] theorem vstore_e (rg : List Reg) (n id sz i j : Nat) (v : AV) : vstore rg n (.c (.ept id sz i j)) v = (cellsOf v).bind fun xs => (vstoreE sz i j n xs rg[id]?).map fun r => rg.set id r := _root_.id rfl
@[simp] theorem vlen_sl (sz : Nat) (l : List (List PV)) : vlen (Sl sz l) = some (I .i64 l.length) := _root_.id rfl
@[simp] theorem vlen_t (sz : Nat) (l : List (List PV)) : vlen (.c (.tight sz l)) = some (I .i64 l.length) := _root_.id rfl
@[simp] theorem vlen_o (id off sz len : Nat) (c : Cap) : vlen (.c (.own id off sz len c)) = some (I .i64 len) := _root_.id rfl
@[simp] theorem vlen_n : vlen (.c (.p (.v (.slice none 0 0)))) = some (I .i64 0) := _root_.id rfl
@[simp] theorem vlens_eq (b : ByteArray) : vlens (.c (.p (.v (.string b)))) = some (I .i64 b.size) := _root_.id rfl
@[simp] theorem vext_eq (i : Nat) (l : List AV) : vext i (.tup l) = l[i]? := _root_.id rfl
@[simp] theorem vmm_eq (mx : Bool) (k k' : IntKind) (a b : Int) : vmm mx (I k a) (I k' b) = some (I k (if mx then (if a < b then b else a) else (if b < a then b else a))) := _root_.id rfl
@[simp] theorem vixs_sl (sz : Nat) (k : IntKind) (i : Int) (l : List (List PV)) (h : 0 ≤ i) : vixs sz (I k i) (Sl sz l) = (l[i.toNat]?).map fun c => .c (.rp c) := by
  show vixs1 sz i (Sl sz l) = _
  simp only [vixs1]
  rw [if_pos ⟨trivial, h⟩]
@[simp] theorem vixs_o (sz : Nat) (k : IntKind) (i : Int) (id off len : Nat) (c : Cap) (h : 0 ≤ i) (h' : i < len) : vixs sz (I k i) (.c (.own id off sz len c)) = some (.c (.ept id sz (off + i.toNat) 0)) := by
  show vixs1 sz i (.c (.own id off sz len c)) = _
  simp only [vixs1]
  rw [if_pos ⟨trivial, h, h'⟩]
@[simp] theorem vixa_eq (len sz : Nat) (k : IntKind) (i : Int) (x : AV) : vixa len sz (I k i) x = vixa1 len sz i x := _root_.id rfl
@[simp] theorem vixv_eq (len sz : Nat) (agg : Bool) (k : IntKind) (i : Int) (x : AV) : vixv len sz agg (I k i) x = vixv1 len sz agg i x := _root_.id rfl
attribute [simp] vfld vloadA vloadE vstoreA vstoreE vixa1 vixv1 vcallee vcally avFA faOf
@[simp] theorem cellsOf_agg (l : List AC) : cellsOf (.agg l) = some l := _root_.id rfl
@[simp] theorem cellsOf_v (x : Value) : cellsOf (.c (.p (.v x))) = some [.p (.v x)] := _root_.id rfl
@[simp] theorem cellsOf_sl (sz : Nat) (l : List (List PV)) : cellsOf (Sl sz l) = some [.p (.sl sz l)] := _root_.id rfl
@[simp] theorem cellsOf_own (id off sz len : Nat) (c : Cap) : cellsOf (.c (.own id off sz len c)) = some [.own id off sz len c] := _root_.id rfl
@[simp] theorem cellsOf_ptr (id off : Nat) : cellsOf (.c (.ptr id off)) = some [.ptr id off] := _root_.id rfl
@[simp] theorem cellsOf_hnd (k : HK) (id : Nat) : cellsOf (.c (.hnd k id)) = some [.hnd k id] := _root_.id rfl
@[simp] theorem cellsOf_ept (id sz i j : Nat) : cellsOf (.c (.ept id sz i j)) = some [.ept id sz i j] := _root_.id rfl
@[simp] theorem cellsOf_rp (l : List PV) : cellsOf (.c (.rp l)) = some [.rp l] := _root_.id rfl
@[simp] theorem cellsOf_tight (sz : Nat) (l : List (List PV)) : cellsOf (.c (.tight sz l)) = some [.tight sz l] := _root_.id rfl
@[simp] theorem cellsOf_fn (f : Fn) (a b : List FA) : cellsOf (.c (.fn f a b)) = some [.fn f a b] := _root_.id rfl
@[simp] theorem pack_1 (x : AC) : pack false [x] = some (.c x) := _root_.id rfl
theorem all_known_p (l : List PV) : (l.map AC.p).all AC.known = true := by induction l <;> simp_all [AC.known]
@[simp] theorem pack_p (l : List PV) : pack true (l.map AC.p) = some (.agg (l.map AC.p)) := by simp only [pack, if_true, all_known_p]
@[simp] theorem pack_t (l : List AC) : pack true l = if l.all AC.known = true then some (.agg l) else none := _root_.id rfl
@[simp] theorem known_p (x : PV) : AC.known (.p x) = true := _root_.id rfl
@[simp] theorem known_own (id off sz len : Nat) (c : Cap) : AC.known (.own id off sz len c) = true := _root_.id rfl
@[simp] theorem known_ptr (id off : Nat) : AC.known (.ptr id off) = true := _root_.id rfl
@[simp] theorem known_hnd (k : HK) (id : Nat) : AC.known (.hnd k id) = true := _root_.id rfl
attribute [simp] puresOf fillA fillE fillX allOf vbsl intsOf upL
@[simp] theorem boolOf_b (b : Bool) : boolOf (Bo b) = some b := _root_.id rfl
@[simp] theorem natOf_n (n : Nat) : natOf none n = some (n : Int) := _root_.id rfl
@[simp] theorem natOf_s (k : IntKind) (i : Int) (n : Nat) : natOf (some (I k i)) n = some i := _root_.id rfl

/-! ### rows -/
section
variable {rg m : List Reg} {x : Reg}
@[simp] theorem get_end : (rg ++ m)[rg.length]? = m[0]? := by rw [List.getElem?_append_right (Nat.le_refl _), Nat.sub_self]
@[simp] theorem get_end_add (k : Nat) : (rg ++ m)[rg.length + k]? = m[k]? := by rw [List.getElem?_append_right (Nat.le_add_right _ _), Nat.add_sub_cancel_left]
@[simp] theorem get_old {id : Nat} (h : id < rg.length) : (rg ++ m)[id]? = rg[id]? := List.getElem?_append_left h
@[simp] theorem set_end : (rg ++ m).set rg.length x = rg ++ m.set 0 x := by rw [List.set_append_right _ _ (Nat.le_refl _), Nat.sub_self]
@[simp] theorem set_end_add (k : Nat) : (rg ++ m).set (rg.length + k) x = rg ++ m.set k x := by rw [List.set_append_right _ _ (Nat.le_add_right _ _), Nat.add_sub_cancel_left]
@[simp] theorem set_old {id : Nat} (h : id < rg.length) : (rg ++ m).set id x = rg.set id x ++ m := List.set_append_left _ _ h
end

/-! ### a text -/
section
variable {P : Program} {call : CallF} {rd : Bool} {n0 : Nat}
@[simp ↓] theorem R_skip (k : KT) (s : St) : evalG P loopR call rd n0 .skip k s = some (.normal, s) := _root_.id rfl
@[simp ↓] theorem R_reg (l : List AIt) (k : KT) (s : St) : evalG P loopR call rd n0 (.reg l) k s = (evalOps P call l s).map fun s1 => (.normal, endS n0 k s1) := _root_.id rfl
@[simp ↓] theorem R_any (t : ATree) (k : KT) (s : St) : evalG P loopR call rd n0 (.any t) k s = (evalTree P call k.ks t s).map fun s1 => (.normal, cmpK k n0 (frzS k.fz s1)) := _root_.id rfl
@[simp ↓] theorem R_par (a b : List AIt) (k : KT) (s : St) : evalG P loopR call rd n0 (.par a b) k s = ((evalPar P call a s).bind (evalOps P call b)).map fun s1 => (.normal, endS n0 k s1) := _root_.id rfl
/-- What follows a text. -/
noncomputable def seqR (P : Program) (call : CallF) (rd : Bool) (n0 : Nat) (b : ACode) (k : KT) (o : Option (Exit × St)) : Option (Exit × St) := o.bind fun x => match x.1 with
    | .normal => evalG P loopR call rd n0 b k x.2
    | e => some (e, x.2)
@[simp] theorem seqR_n (b : ACode) (k : KT) (s : St) : seqR P call rd n0 b k (some (.normal, s)) = evalG P loopR call rd n0 b k s := _root_.id rfl
@[simp] theorem seqR_e (b : ACode) (k : KT) (i : Nat) (s : St) : seqR P call rd n0 b k (some (.exit i, s)) = some (.exit i, s) := _root_.id rfl
@[simp] theorem seqR_r (b : ACode) (k : KT) (s : St) : seqR P call rd n0 b k (some (.ret, s)) = some (.ret, s) := _root_.id rfl
@[simp ↓] theorem R_seq (a b : ACode) (k : KT) (s : St) : evalG P loopR call rd n0 (.seq a b) k s = seqR P call rd n0 b k.b (evalG P loopR call rd n0 a k.a s) := _root_.id rfl
noncomputable def condR (P : Program) (call : CallF) (rd : Bool) (n0 : Nat) (a b : ACode) (k : KT) (s : St) (o : Option Bool) : Option (Exit × St) := o.bind fun t => if t = true then evalG P loopR call rd n0 a k.a s else evalG P loopR call rd n0 b k.b s
@[simp] theorem condR_t (a b : ACode) (k : KT) (s : St) : condR P call rd n0 a b k s (some true) = evalG P loopR call rd n0 a k.a s := _root_.id rfl
@[simp] theorem condR_f (a b : ACode) (k : KT) (s : St) : condR P call rd n0 a b k s (some false) = evalG P loopR call rd n0 b k.b s := _root_.id rfl
theorem condR_ite (a b : ACode) (k : KT) (s : St) (t : Bool) : condR P call rd n0 a b k s (some t) = if t = true then evalG P loopR call rd n0 a k.a s else evalG P loopR call rd n0 b k.b s := _root_.id rfl
@[simp ↓] theorem R_cond (c : AX) (a b : ACode) (k : KT) (s : St) : evalG P loopR call rd n0 (.cond c a b) k s = condR P call rd n0 a b k s (boolOf (s.ev c)) := by rw [evalG, evF_eq, condR]
def inR (id : Nat) (x : Exit × St) : Exit × St :=
  match x.1 with
  | .exit i => if i = id then (.normal, x.2) else (.exit i, x.2)
  | e => (e, x.2)
@[simp] theorem inR_n (id : Nat) (s : St) : inR id (.normal, s) = (.normal, s) := _root_.id rfl
@[simp] theorem inR_r (id : Nat) (s : St) : inR id (.ret, s) = (.ret, s) := _root_.id rfl
@[simp] theorem inR_e (id i : Nat) (s : St) : inR id (.exit i, s) = if i = id then (.normal, s) else (.exit i, s) := _root_.id rfl
@[simp ↓] theorem R_block (id : Nat) (c : ACode) (k : KT) (s : St) : evalG P loopR call rd n0 (.block id c) k s = (evalG P loopR call rd n0 c k s).map (inR id) := by rw [evalG]; rfl
@[simp ↓] theorem R_loop (c : ACode) (k : KT) (s : St) : evalG P loopR call rd n0 (.loop c) k s = loopR (evalG P loopR call rd n0 c k) s := _root_.id rfl
@[simp ↓] theorem R_rfun (g : AX) (f j : Nat) (k : KT) (s : St) : evalG P loopR call false n0 (.rfun g f j) k s = (lpCall call f j s (s.ev g)).bind fun p => lpEnd f j s p.2 := by rw [evalG, evF_eq]; rfl
@[simp ↓] theorem R_exit (id : Nat) (k : KT) (s : St) : evalG P loopR call rd n0 (.exit id) k s = some (.exit id, s) := _root_.id rfl
@[simp ↓] theorem R_stuck (k : KT) (s : St) : evalG P loopR call rd n0 .stuck k s = none := _root_.id rfl
@[simp ↓] theorem R_ret (k : KT) (s : St) : evalG P loopR call rd n0 .ret k s = some (.ret, s) := _root_.id rfl
end
@[simp] theorem keep_cons (s : St) (k : Nat) (r : List Nat) (acc : List (Nat × AV)) : keepGo s (k :: r) acc = keepGo s r ((k, lk s.slots k) :: acc) := by rw [keepGo, fV_eq, lkF_eq]
@[simp] theorem keep_nil (s : St) (acc : List (Nat × AV)) : keepGo s [] acc = ⟨acc, s.regs⟩ := _root_.id rfl
attribute [simp] keepS endS frzS KT.ks KT.fz KT.a KT.b KT.cp cmpK argSlots resOne packR
@[simp] theorem endR_n (z : Bool) (n : Nat) (res : List RV) (s : St) : endR z n res (.normal, s) = (allOf (resOne s) res).map fun vs => finR z n (packR vs, s.regs) := _root_.id rfl
@[simp] theorem endR_r (z : Bool) (n : Nat) (res : List RV) (s : St) : endR z n res (.ret, s) = (allOf (resOne s) res).map fun vs => finR z n (packR vs, s.regs) := _root_.id rfl

/-! ### rows that go, rows that become values -/
def wf (rg : List Reg) : Prop := rg.all (regLt rg.length) = true
theorem sl_mono {n m : Nat} (hv : ∀ v, avLt n v = true → avLt m v = true) : ∀ {l : List (Nat × AV)}, slLt n l = true → slLt m l = true
  | [], _ => rfl
  | p :: r, h => by
    simp only [slLt, Bool.and_eq_true] at h ⊢
    exact ⟨hv _ h.1, sl_mono hv h.2⟩
theorem faLt_mono {n m : Nat} (h : n ≤ m) {x : FA} (hx : faLt n x = true) : faLt m x = true := by
  cases x <;> simp_all [faLt]
  omega
theorem all_mono {α : Type} {p q : α → Bool} (h : ∀ x, p x = true → q x = true) {l : List α} (hl : l.all p = true) : l.all q = true := by
  simp only [List.all_eq_true] at hl ⊢
  exact fun x hx => h x (hl x hx)
theorem acLt_mono {n m : Nat} (h : n ≤ m) {x : AC} (hx : acLt n x = true) : acLt m x = true := by
  cases x <;> simp only [acLt, decide_eq_true_eq, Bool.and_eq_true] at hx ⊢ <;> first | omega | exact ⟨all_mono (fun _ => faLt_mono h) hx.1, all_mono (fun _ => faLt_mono h) hx.2⟩
mutual
theorem avLt_mono {n m : Nat} (h : n ≤ m) : ∀ {v : AV}, avLt n v = true → avLt m v = true
  | .c x, hv => by
    simp only [avLt] at hv ⊢
    exact acLt_mono h hv
  | .agg l, hv => by
    simp only [avLt] at hv ⊢
    exact all_mono (fun _ => acLt_mono h) hv
  | .tup l, hv => by
    simp only [avLt] at hv ⊢
    exact avsLt_mono h hv
theorem avsLt_mono {n m : Nat} (h : n ≤ m) : ∀ {l : List AV}, avsLt n l = true → avsLt m l = true
  | [], _ => by simp only [avsLt]
  | v :: r, hv => by
    simp only [avsLt, Bool.and_eq_true] at hv ⊢
    exact ⟨avLt_mono h hv.1, avsLt_mono h hv.2⟩
end
theorem regLt_mono {n m : Nat} (h : n ≤ m) {x : Reg} (hx : regLt n x = true) : regLt m x = true := by
  cases x with
  | ac l => exact all_mono (fun _ => acLt_mono h) hx
  | es sz l => exact all_mono (fun _ => all_mono fun _ => acLt_mono h) hx
  | lp f j sl st pe => exact sl_mono (fun _ => avLt_mono h) hx
  | _ => rfl
@[simp] theorem wf_nil : wf [] := _root_.id rfl
theorem wf_set {rg : List Reg} {id : Nat} {r : Reg} (h : wf rg) (hr : regLt rg.length r = true) : wf (rg.set id r) := by
  simp only [wf, List.length_set, List.all_eq_true] at h ⊢
  intro x hx
  rcases List.mem_or_eq_of_mem_set hx with hx | rfl
  · exact h x hx
  · exact hr
theorem wf_app {rg m : List Reg} (h : wf rg) (hm : m.all (regLt (rg.length + m.length)) = true) : wf (rg ++ m) := by
  simp only [wf, List.length_append, List.all_append, Bool.and_eq_true] at h ⊢
  exact ⟨all_mono (fun _ => regLt_mono (Nat.le_add_right _ _)) h, hm⟩
theorem gcF_same {n : Nat} {v : AV} {rg : List Reg} (h : rg.length = n) : gcF n (v, rg) = (v, rg) := by
  unfold gcF
  split
  · simp only [List.take_of_length_le (Nat.le_of_eq h)]
  · rfl
theorem gcF_app {n : Nat} {v : AV} {rg m : List Reg} (hn : rg.length = n) (hw : wf rg) (hv : avLt n v = true) : gcF n (v, rg ++ m) = (v, rg) := by
  subst hn
  unfold gcF
  rw [if_pos]
  · simp
  · simp only [List.take_left, Bool.and_eq_true, decide_eq_true_eq]
    exact ⟨by simp, hv, hw⟩
@[simp] theorem finR_f (n : Nat) (p : AV × List Reg) : finR false n p = finQ n (gcF n p) := _root_.id rfl
@[simp] theorem finQ_same (n : Nat) (v : AV) (rg : List Reg) (h : rg.length = n) : finQ n (v, rg) = (v, rg) := by simp [finQ, h]
@[simp] theorem finR_t (n : Nat) (p : AV × List Reg) : finR true n p = finQ n (gcF n (frzIds n (p.2.length - n) p)) := _root_.id rfl
@[simp] theorem frzIds_0 (n : Nat) (p : AV × List Reg) : frzIds n 0 p = p := _root_.id rfl
@[simp] theorem frzIds_s (n k : Nat) (p : AV × List Reg) : frzIds n (k + 1) p = frzIds (n + 1) k (frz1 n p) := _root_.id rfl
theorem frzC_old {n id sz : Nat} {ls : List (List PV)} (h : n ≤ id) {x : AC} (hx : acLt n x = true) : frzC id sz ls x = x := by
  cases x <;> simp only [frzC]
  simp only [acLt, decide_eq_true_eq] at hx
  rw [if_neg (by omega)]
theorem map_old {α : Type} {f : α → α} {p : α → Bool} (hf : ∀ x, p x = true → f x = x) : ∀ {l : List α}, l.all p = true → l.map f = l
  | [], _ => rfl
  | a :: l, h => by
    simp only [List.all_cons, Bool.and_eq_true] at h
    rw [List.map_cons, hf a h.1, map_old hf h.2]
theorem frzR_old {n id sz : Nat} {ls : List (List PV)} (h : n ≤ id) {r : Reg} (hr : regLt n r = true) : frzR id sz ls r = r := by
  cases r with
  | ac l => simp only [regLt] at hr; simp only [frzR]; rw [map_old (fun _ => frzC_old h) hr]
  | es k l =>
    simp only [regLt] at hr
    simp only [frzR]
    rw [map_old (fun k hk => map_old (fun _ => frzC_old h) hk) hr]
  | _ => rfl
theorem frzRs_app {id sz : Nat} {ls : List (List PV)} : ∀ (k : Nat) (l m : List Reg), frzRs id sz ls k (l ++ m) = frzRs id sz ls k l ++ frzRs id sz ls (k + l.length) m
  | k, [], m => by simp [frzRs]
  | k, r :: l, m => by
    simp only [List.cons_append, frzRs, frzRs_app (k + 1) l m, List.length_cons]
    rw [show k + 1 + l.length = k + (l.length + 1) by omega]
theorem frzRs_old {n id sz : Nat} {ls : List (List PV)} (h : n ≤ id) : ∀ {k : Nat} {l : List Reg}, k + l.length ≤ id → l.all (regLt n) = true → frzRs id sz ls k l = l
  | _, [], _, _ => rfl
  | k, r :: l, hk, hl => by
    simp only [List.all_cons, Bool.and_eq_true] at hl
    simp only [List.length_cons] at hk
    rw [frzRs, if_neg (by omega), frzR_old h hl.1, frzRs_old h (by omega) hl.2]
/-- Rows that were there do not turn when a new one becomes a value. -/
theorem frzRs_new {id sz : Nat} {ls : List (List PV)} {rg m : List Reg} (hw : wf rg) (h : rg.length ≤ id) : frzRs id sz ls 0 (rg ++ m) = rg ++ frzRs id sz ls rg.length m := by
  rw [frzRs_app, frzRs_old h (by omega) hw, Nat.zero_add]
section
variable (n : Nat)
@[simp] theorem avLt_c (x : AC) : avLt n (.c x) = acLt n x := by simp only [avLt]
@[simp] theorem avLt_agg (l : List AC) : avLt n (.agg l) = l.all (acLt n) := by simp only [avLt]
@[simp] theorem avLt_tup (l : List AV) : avLt n (.tup l) = avsLt n l := by simp only [avLt]
@[simp] theorem avsLt_nil : avsLt n [] = true := by simp only [avsLt]
@[simp] theorem avsLt_cons (v : AV) (r : List AV) : avsLt n (v :: r) = (avLt n v && avsLt n r) := by simp only [avsLt]
@[simp] theorem acLt_p (x : PV) : acLt n (.p x) = true := _root_.id rfl
@[simp] theorem acLt_tight (sz : Nat) (l : List (List PV)) : acLt n (.tight sz l) = true := _root_.id rfl
@[simp] theorem acLt_rp (l : List PV) : acLt n (.rp l) = true := _root_.id rfl
@[simp] theorem acLt_any : acLt n .any = true := _root_.id rfl
@[simp] theorem acLt_own (id off sz len : Nat) (c : Cap) : acLt n (.own id off sz len c) = decide (id < n) := _root_.id rfl
@[simp] theorem acLt_ptr (id off : Nat) : acLt n (.ptr id off) = decide (id < n) := _root_.id rfl
@[simp] theorem acLt_ept (id sz i j : Nat) : acLt n (.ept id sz i j) = decide (id < n) := _root_.id rfl
@[simp] theorem acLt_hnd (k : HK) (id : Nat) : acLt n (.hnd k id) = decide (id < n) := _root_.id rfl
@[simp] theorem acLt_fn (f : Fn) (a b : List FA) : acLt n (.fn f a b) = (a.all (faLt n) && b.all (faLt n)) := _root_.id rfl
@[simp] theorem faLt_p (x : PV) : faLt n (.p x) = true := _root_.id rfl
@[simp] theorem faLt_ptr (id off : Nat) : faLt n (.ptr id off) = decide (id < n) := _root_.id rfl
@[simp] theorem regLt_pc (sz : Nat) (l : List (List PV)) : regLt n (.pc sz l) = true := _root_.id rfl
@[simp] theorem regLt_ac (l : List AC) : regLt n (.ac l) = l.all (acLt n) := _root_.id rfl
@[simp] theorem regLt_es (sz : Nat) (l : List (List AC)) : regLt n (.es sz l) = l.all (fun k => k.all (acLt n)) := _root_.id rfl
@[simp] theorem regLt_ob (o : Ob) : regLt n (.ob o) = true := _root_.id rfl
@[simp] theorem regLt_dead : regLt n .dead = true := _root_.id rfl
@[simp] theorem acLt_ps (l : List PV) : (l.map AC.p).all (acLt n) = true := by induction l <;> simp_all
end
@[simp] theorem gc_same (n : Nat) (v : AV) (rg : List Reg) (h : rg.length = n) : gcF n (v, rg) = (v, rg) := gcF_same h
@[simp] theorem gc_app (v : AV) (rg m : List Reg) (hw : wf rg) (hv : avLt rg.length v = true) : gcF rg.length (v, rg ++ m) = (v, rg) := gcF_app rfl hw hv
theorem gc_set (n : Nat) (v : AV) (rg m : List Reg) (hn : rg.length = n) (hw : wf rg) (hv : avLt n v = true) : gcF n (v, rg ++ m) = (v, rg) := gcF_app hn hw hv
attribute [simp] frzV frzC frzR
/-! ### rows that died -/
@[simp] theorem cmpS_0 (n : Nat) (s : St) : cmpS n 0 s = s := _root_.id rfl
@[simp] theorem cmpS_s (n k : Nat) (s : St) : cmpS n (k + 1) s = cmpS n k (dropRow (n + k) s) := _root_.id rfl
theorem acNe_of {n id k : Nat} (hi : k ≤ id) (hn : k ≤ n) {x : AC} (h : acLt k x = true) : acNe n id x = true := by
  have hf : ∀ y, faLt k y = true → faNe n id y = true := by
    intro y hy
    cases y with
    | p y => rfl
    | ptr i o => simp only [faLt, faNe, decide_eq_true_eq, Bool.and_eq_true] at hy ⊢; omega
  cases x <;> simp only [acLt, acNe, decide_eq_true_eq, Bool.and_eq_true] at h ⊢ <;> first | omega | exact ⟨all_mono hf h.1, all_mono hf h.2⟩
mutual
theorem avNe_of {n id k : Nat} (hi : k ≤ id) (hn : k ≤ n) : ∀ {v : AV}, avLt k v = true → avNe n id v = true
  | .c x, hv => by
    simp only [avLt] at hv
    simp only [avNe]
    exact acNe_of hi hn hv
  | .agg l, hv => by
    simp only [avLt] at hv
    simp only [avNe]
    exact all_mono (fun _ => acNe_of hi hn) hv
  | .tup l, hv => by
    simp only [avLt] at hv
    simp only [avNe]
    exact avsNe_of hi hn hv
theorem avsNe_of {n id k : Nat} (hi : k ≤ id) (hn : k ≤ n) : ∀ {l : List AV}, avsLt k l = true → avsNe n id l = true
  | [], _ => by simp only [avsNe]
  | v :: r, hv => by
    simp only [avsLt, Bool.and_eq_true] at hv
    simp only [avsNe, Bool.and_eq_true]
    exact ⟨avNe_of hi hn hv.1, avsNe_of hi hn hv.2⟩
end
theorem slNe_of {n id k : Nat} (hi : k ≤ id) (hn : k ≤ n) : ∀ {l : List (Nat × AV)}, slLt k l = true → slNe n id l = true
  | [], _ => rfl
  | p :: r, h => by
    simp only [slLt, Bool.and_eq_true] at h
    simp only [slNe, Bool.and_eq_true]
    exact ⟨avNe_of hi hn h.1, slNe_of hi hn h.2⟩
theorem regNe_of {n id k : Nat} (hi : k ≤ id) (hn : k ≤ n) {r : Reg} (h : regLt k r = true) : regNe n id r = true := by
  cases r with
  | ac l => exact all_mono (fun _ => acNe_of hi hn) h
  | es sz l => exact all_mono (fun _ => all_mono fun _ => acNe_of hi hn) h
  | lp f j sl st pe => exact slNe_of hi hn h
  | _ => rfl
theorem wf_ne {rg : List Reg} (h : wf rg) {n id : Nat} (hi : rg.length ≤ id) (hn : rg.length ≤ n) : rg.all (regNe n id) = true := all_mono (fun _ => regNe_of hi hn) h
theorem wf_ren {rg : List Reg} (h : wf rg) {id : Nat} (hi : rg.length ≤ id) : rg.map (renReg (dnR id)) = rg := by
  have : ∀ l : List Reg, l.all (regLt rg.length) = true → l.map (renReg (dnR id)) = l := by
    intro l
    induction l with
    | nil => exact fun _ => rfl
    | cons r l ih =>
      intro hl
      simp only [List.all_cons, Bool.and_eq_true] at hl
      rw [List.map_cons, renReg_id (fun i hi2 => by simp only [dnR]; rw [if_neg (by omega)]) hl.1, ih hl.2]
  exact this rg h
/-- A dead row among the new ones goes. -/
theorem drop_new {rg m : List Reg} (hw : wf rg) (k : Nat) (sl : List (Nat × AV)) : dropRow (rg.length + k) ⟨sl, rg ++ m⟩ =
    if (isDead m[k]? && (slNe (rg.length + m.length) (rg.length + k) sl && m.all (regNe (rg.length + m.length) (rg.length + k)))) = true then ⟨dropSl (rg.length + k) sl sl, rg ++ (m.eraseIdx k).map (renReg (dnR (rg.length + k)))⟩ else ⟨sl, rg ++ m⟩ := by
  unfold dropRow
  simp only [get_end_add, List.length_append, List.all_append, wf_ne hw (Nat.le_add_right _ k) (Nat.le_add_right _ _), Bool.true_and]
  rw [List.eraseIdx_append_of_length_le (Nat.le_add_right _ _), Nat.add_sub_cancel_left, List.map_append, wf_ren hw (Nat.le_add_right _ _)]
end Go.Sim
