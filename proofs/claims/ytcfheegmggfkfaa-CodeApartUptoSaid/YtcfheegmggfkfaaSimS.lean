/- The steps of a proof over the plain picture, by reckoning. Of no program. -/
import Derived.Test.YtcfheegmggfkfaaSimR
namespace Go.Sim
open Go.RowKit Go.Proofs.Ytcfheegmggfkfaa.B

def idAV : AV → Option AV
  | .c x => some (.c x)
  | .agg l => some (.agg l)
  | .tup l => some (.tup l)
theorem idAV_eq {x v : AV} (h : idAV x = some v) : x = v := by cases x <;> exact Option.some.inj h

section
variable {P : Program} {sl : List (Nat × AV)} {rg : List Reg} {K : St → Prop} {d n : Nat} {x y c i : AX} {v : AV}

theorem W_mv (hv : idAV (St.ev ⟨sl, rg⟩ x) = some v) (h : K ⟨(d, v) :: sl, rg⟩) : opW P (.mv (some d) x) ⟨sl, rg⟩ K := by
  simp only [opW, St.put]; rw [idAV_eq hv]; exact h

theorem W_bin {op : BinOp} {a b : Value} (hx : valOf (St.ev ⟨sl, rg⟩ x) = some a) (hy : valOf (St.ev ⟨sl, rg⟩ y) = some b) (h : binW op a b fun v => K ⟨(d, .c (.p (.v v))) :: sl, rg⟩) : opW P (.bin (some d) op x y) ⟨sl, rg⟩ K := by
  simp only [opW, hx, hy]; exact h
theorem valOf_int {v : AV} {k : IntKind} {a : Int} (h : intOf' v = some (k, a)) : valOf v = some (.int k a) := by
  unfold intOf' at h
  split at h
  · cases h; rfl
  · cases h
theorem W_int2 {op : BinOp} {k k' : IntKind} {a b : Int} (hx : intOf' (St.ev ⟨sl, rg⟩ x) = some (k, a)) (hy : intOf' (St.ev ⟨sl, rg⟩ y) = some (k', b)) (h : binW op (.int k a) (.int k' b) fun v => K ⟨(d, .c (.p (.v v))) :: sl, rg⟩) : opW P (.bin (some d) op x y) ⟨sl, rg⟩ K :=
  W_bin (valOf_int hx) (valOf_int hy) h
section
variable {k k' : IntKind} {a b : Int}
theorem W_add (hx : intOf' (St.ev ⟨sl, rg⟩ x) = some (k, a)) (hy : intOf' (St.ev ⟨sl, rg⟩ y) = some (k, b)) (h : K ⟨(d, .c (.p (.v (.int k (k.wrap (a + b)))))) :: sl, rg⟩) : opW P (.bin (some d) .add x y) ⟨sl, rg⟩ K := W_int2 hx hy ⟨rfl, h⟩
theorem W_sub (hx : intOf' (St.ev ⟨sl, rg⟩ x) = some (k, a)) (hy : intOf' (St.ev ⟨sl, rg⟩ y) = some (k, b)) (h : K ⟨(d, .c (.p (.v (.int k (k.wrap (a - b)))))) :: sl, rg⟩) : opW P (.bin (some d) .sub x y) ⟨sl, rg⟩ K := W_int2 hx hy ⟨rfl, h⟩
theorem W_mul (hx : intOf' (St.ev ⟨sl, rg⟩ x) = some (k, a)) (hy : intOf' (St.ev ⟨sl, rg⟩ y) = some (k, b)) (h : K ⟨(d, .c (.p (.v (.int k (k.wrap (a * b)))))) :: sl, rg⟩) : opW P (.bin (some d) .mul x y) ⟨sl, rg⟩ K := W_int2 hx hy ⟨rfl, h⟩
theorem W_quo (hx : intOf' (St.ev ⟨sl, rg⟩ x) = some (k, a)) (hy : intOf' (St.ev ⟨sl, rg⟩ y) = some (k, b)) (hb : b ≠ 0) (h : K ⟨(d, .c (.p (.v (.int k (k.wrap (a.tdiv b)))))) :: sl, rg⟩) : opW P (.bin (some d) .quo x y) ⟨sl, rg⟩ K := W_int2 hx hy ⟨rfl, hb, h⟩
theorem W_rem (hx : intOf' (St.ev ⟨sl, rg⟩ x) = some (k, a)) (hy : intOf' (St.ev ⟨sl, rg⟩ y) = some (k, b)) (hb : b ≠ 0) (h : K ⟨(d, .c (.p (.v (.int k (a.tmod b))))) :: sl, rg⟩) : opW P (.bin (some d) .rem x y) ⟨sl, rg⟩ K := W_int2 hx hy ⟨rfl, hb, h⟩
theorem W_and (hx : intOf' (St.ev ⟨sl, rg⟩ x) = some (k, a)) (hy : intOf' (St.ev ⟨sl, rg⟩ y) = some (k, b)) (h : K ⟨(d, .c (.p (.v (.int k (bits .and k a b))))) :: sl, rg⟩) : opW P (.bin (some d) .and x y) ⟨sl, rg⟩ K := W_int2 hx hy ⟨rfl, h⟩
theorem W_or (hx : intOf' (St.ev ⟨sl, rg⟩ x) = some (k, a)) (hy : intOf' (St.ev ⟨sl, rg⟩ y) = some (k, b)) (h : K ⟨(d, .c (.p (.v (.int k (bits .or k a b))))) :: sl, rg⟩) : opW P (.bin (some d) .or x y) ⟨sl, rg⟩ K := W_int2 hx hy ⟨rfl, h⟩
theorem W_xor (hx : intOf' (St.ev ⟨sl, rg⟩ x) = some (k, a)) (hy : intOf' (St.ev ⟨sl, rg⟩ y) = some (k, b)) (h : K ⟨(d, .c (.p (.v (.int k (bits .xor k a b))))) :: sl, rg⟩) : opW P (.bin (some d) .xor x y) ⟨sl, rg⟩ K := W_int2 hx hy ⟨rfl, h⟩
theorem W_eql (hx : intOf' (St.ev ⟨sl, rg⟩ x) = some (k, a)) (hy : intOf' (St.ev ⟨sl, rg⟩ y) = some (k, b)) (h : K ⟨(d, .c (.p (.v (.bool (decide (a = b)))))) :: sl, rg⟩) : opW P (.bin (some d) .eql x y) ⟨sl, rg⟩ K := W_int2 hx hy ⟨rfl, h⟩
theorem W_neq (hx : intOf' (St.ev ⟨sl, rg⟩ x) = some (k, a)) (hy : intOf' (St.ev ⟨sl, rg⟩ y) = some (k, b)) (h : K ⟨(d, .c (.p (.v (.bool (!decide (a = b)))))) :: sl, rg⟩) : opW P (.bin (some d) .neq x y) ⟨sl, rg⟩ K := W_int2 hx hy ⟨rfl, h⟩
theorem W_lss (hx : intOf' (St.ev ⟨sl, rg⟩ x) = some (k, a)) (hy : intOf' (St.ev ⟨sl, rg⟩ y) = some (k, b)) (h : K ⟨(d, .c (.p (.v (.bool (decide (a < b)))))) :: sl, rg⟩) : opW P (.bin (some d) .lss x y) ⟨sl, rg⟩ K := W_int2 hx hy ⟨rfl, h⟩
theorem W_leq (hx : intOf' (St.ev ⟨sl, rg⟩ x) = some (k, a)) (hy : intOf' (St.ev ⟨sl, rg⟩ y) = some (k, b)) (h : K ⟨(d, .c (.p (.v (.bool (decide (a ≤ b)))))) :: sl, rg⟩) : opW P (.bin (some d) .leq x y) ⟨sl, rg⟩ K := W_int2 hx hy ⟨rfl, h⟩
theorem W_gtr (hx : intOf' (St.ev ⟨sl, rg⟩ x) = some (k, a)) (hy : intOf' (St.ev ⟨sl, rg⟩ y) = some (k, b)) (h : K ⟨(d, .c (.p (.v (.bool (decide (b < a)))))) :: sl, rg⟩) : opW P (.bin (some d) .gtr x y) ⟨sl, rg⟩ K := W_int2 hx hy ⟨rfl, h⟩
theorem W_geq (hx : intOf' (St.ev ⟨sl, rg⟩ x) = some (k, a)) (hy : intOf' (St.ev ⟨sl, rg⟩ y) = some (k, b)) (h : K ⟨(d, .c (.p (.v (.bool (decide (b ≤ a)))))) :: sl, rg⟩) : opW P (.bin (some d) .geq x y) ⟨sl, rg⟩ K := W_int2 hx hy ⟨rfl, h⟩
theorem W_shl (hx : intOf' (St.ev ⟨sl, rg⟩ x) = some (k, a)) (hy : intOf' (St.ev ⟨sl, rg⟩ y) = some (k', b)) (hb : 0 ≤ b) (h : K ⟨(d, .c (.p (.v (.int k (k.wrap (a * 2 ^ (min b.toNat k.bits))))))) :: sl, rg⟩) : opW P (.bin (some d) .shl x y) ⟨sl, rg⟩ K := W_int2 hx hy ⟨hb, h⟩
theorem W_shr (hx : intOf' (St.ev ⟨sl, rg⟩ x) = some (k, a)) (hy : intOf' (St.ev ⟨sl, rg⟩ y) = some (k', b)) (hb : 0 ≤ b) (h : K ⟨(d, .c (.p (.v (.int k (a / 2 ^ (min b.toNat k.bits)))))) :: sl, rg⟩) : opW P (.bin (some d) .shr x y) ⟨sl, rg⟩ K := W_int2 hx hy ⟨hb, h⟩
theorem W_cvi (hx : intOf' (St.ev ⟨sl, rg⟩ x) = some (k', a)) (h : K ⟨(d, .c (.p (.v (.int k (k.wrap a))))) :: sl, rg⟩) : opW P (.cvi (some d) k x) ⟨sl, rg⟩ K := by
  simp only [opW, hx]; exact h
theorem W_neg (hx : intOf' (St.ev ⟨sl, rg⟩ x) = some (k, a)) (h : K ⟨(d, .c (.p (.v (.int k (k.wrap (0 - a)))))) :: sl, rg⟩) : opW P (.un (some d) .neg x) ⟨sl, rg⟩ K := by
  simp only [opW, valOf_int hx]; exact h
end
theorem W_not {b : Bool} (hx : boolOf (St.ev ⟨sl, rg⟩ x) = some b) (h : K ⟨(d, .c (.p (.v (.bool (!b))))) :: sl, rg⟩) : opW P (.un (some d) .not x) ⟨sl, rg⟩ K := by
  have e : valOf (St.ev ⟨sl, rg⟩ x) = some (.bool b) := by
    revert hx
    generalize St.ev ⟨sl, rg⟩ x = u
    intro hx
    unfold boolOf at hx
    split at hx
    · cases hx; rfl
    · cases hx
  simp only [opW, e]; exact h
theorem W_beq {neg a b : Bool} (hx : boolOf (St.ev ⟨sl, rg⟩ x) = some a) (hy : boolOf (St.ev ⟨sl, rg⟩ y) = some b) (h : K ⟨(d, .c (.p (.v (.bool (if neg then !(a == b) else (a == b)))))) :: sl, rg⟩) : opW P (.beq (some d) neg x y) ⟨sl, rg⟩ K := by
  simp only [opW, hx, hy]; exact h
theorem W_eqs {neg : Bool} {t : Nat} {ks : List IntKind} {l l' : List AC} {as bs : List Int} (hx : St.ev ⟨sl, rg⟩ x = .agg l) (hy : St.ev ⟨sl, rg⟩ y = .agg l') (h1 : intsOf ks l = some as) (h2 : intsOf ks l' = some bs) (ho : EqOk P t ks)
    (h : K ⟨(d, .c (.p (.v (.bool (if neg then !decide (as = bs) else decide (as = bs)))))) :: sl, rg⟩) : opW P (.eqs (some d) neg t ks x y) ⟨sl, rg⟩ K := by
  simp only [opW, hx, hy, h1, h2]; exact ⟨ho, h⟩
theorem W_pickt (hc : boolOf (St.ev ⟨sl, rg⟩ c) = some true) (hv : idAV (St.ev ⟨sl, rg⟩ x) = some v) (h : K ⟨(d, v) :: sl, rg⟩) : opW P (.pick (some d) c x y) ⟨sl, rg⟩ K := by
  simp only [opW, hc, St.put]; rw [idAV_eq hv]; exact ⟨fun _ => h, fun e => by cases e⟩
theorem W_pickf (hc : boolOf (St.ev ⟨sl, rg⟩ c) = some false) (hv : idAV (St.ev ⟨sl, rg⟩ y) = some v) (h : K ⟨(d, v) :: sl, rg⟩) : opW P (.pick (some d) c x y) ⟨sl, rg⟩ K := by
  simp only [opW, hc, St.put]; rw [idAV_eq hv]; exact ⟨(fun e => by cases e), fun _ => h⟩
theorem W_pick {t : Bool} {u : AV} (hc : boolOf (St.ev ⟨sl, rg⟩ c) = some t) (hv : idAV (St.ev ⟨sl, rg⟩ x) = some v) (hu : idAV (St.ev ⟨sl, rg⟩ y) = some u) (h1 : t = true → K ⟨(d, v) :: sl, rg⟩) (h2 : t = false → K ⟨(d, u) :: sl, rg⟩) : opW P (.pick (some d) c x y) ⟨sl, rg⟩ K := by
  simp only [opW, hc, St.put]; rw [idAV_eq hv, idAV_eq hu]; exact ⟨h1, h2⟩
theorem W_nilc (hv : idAV (St.ev ⟨sl, rg⟩ x) = some v) (hp : (match v with | .c (.ptr ..) | .c (.ept ..) | .c (.rp _) => true | _ => false) = true) (h : K ⟨(d, v) :: sl, rg⟩) : opW P (.nilc (some d) x) ⟨sl, rg⟩ K := by
  have e := idAV_eq hv
  simp only [opW, e]
  split at hp
  · exact h
  · exact h
  · exact h
  · cases hp
theorem W_fad_p {off id o : Nat} (hx : St.ev ⟨sl, rg⟩ x = .c (.ptr id o)) (h : K ⟨(d, .c (.ptr id (o + off))) :: sl, rg⟩) : opW P (.fad (some d) off x) ⟨sl, rg⟩ K := by simp only [opW, hx]; exact h
theorem W_fad_e {off id sz i j : Nat} (hx : St.ev ⟨sl, rg⟩ x = .c (.ept id sz i j)) (h : K ⟨(d, .c (.ept id sz i (j + off))) :: sl, rg⟩) : opW P (.fad (some d) off x) ⟨sl, rg⟩ K := by simp only [opW, hx]; exact h
theorem W_fad_r {off : Nat} {l : List PV} (hx : St.ev ⟨sl, rg⟩ x = .c (.rp l)) (h : K ⟨(d, .c (.rp (l.drop off))) :: sl, rg⟩) : opW P (.fad (some d) off x) ⟨sl, rg⟩ K := by simp only [opW, hx]; exact h
theorem W_fld {off : Nat} {agg : Bool} {l : List AC} (hx : St.ev ⟨sl, rg⟩ x = .agg l) (hl : Nat.ble (off + n) l.length = true) (hp : pack agg ((l.drop off).take n) = some v) (h : K ⟨(d, v) :: sl, rg⟩) : opW P (.fld (some d) off n agg x) ⟨sl, rg⟩ K := by
  simp only [opW, hx]; exact ⟨v, Nat.le_of_ble_eq_true hl, hp, h⟩
theorem W_load_p {agg : Bool} {id off : Nat} {l : List AC} (hx : St.ev ⟨sl, rg⟩ x = .c (.ptr id off)) (hr : rg[id]? = some (.ac l)) (hl : Nat.ble (off + n) l.length = true) (hp : pack agg ((l.drop off).take n) = some v) (h : K ⟨(d, v) :: sl, rg⟩) : opW P (.load (some d) n agg x) ⟨sl, rg⟩ K := by
  simp only [opW, hx, hr]; exact ⟨v, Nat.le_of_ble_eq_true hl, hp, h⟩
theorem W_load_e {agg : Bool} {id sz i j : Nat} {ls : List (List PV)} {c : List PV} (hx : St.ev ⟨sl, rg⟩ x = .c (.ept id sz i j)) (hr : rg[id]? = some (.pc sz ls)) (hc : ls[i]? = some c) (hl : Nat.ble (j + n) sz = true) (hp : pack agg (((c.drop j).take n).map .p) = some v) (h : K ⟨(d, v) :: sl, rg⟩) : opW P (.load (some d) n agg x) ⟨sl, rg⟩ K := by
  simp only [opW, hx, hr]; exact ⟨trivial, c, v, hc, Nat.le_of_ble_eq_true hl, hp, h⟩
theorem W_load_r {agg : Bool} {l : List PV} (hx : St.ev ⟨sl, rg⟩ x = .c (.rp l)) (hl : Nat.ble n l.length = true) (hp : pack agg ((l.take n).map .p) = some v) (h : K ⟨(d, v) :: sl, rg⟩) : opW P (.load (some d) n agg x) ⟨sl, rg⟩ K := by
  simp only [opW, hx]; exact ⟨v, Nat.le_of_ble_eq_true hl, hp, h⟩
theorem W_store_p {id off : Nat} {l xs l' : List AC} (ha : St.ev ⟨sl, rg⟩ x = .c (.ptr id off)) (hx : cellsOf (St.ev ⟨sl, rg⟩ y) = some xs) (hr : rg[id]? = some (.ac l)) (hn : Nat.beq xs.length n = true) (hl : Nat.ble (off + n) l.length = true) (hl' : l.take off ++ xs ++ l.drop (off + n) = l') (h : K ⟨sl, rg.set id (.ac l')⟩) : opW P (.store n x y) ⟨sl, rg⟩ K := by
  simp only [opW, ha, hx, hr]; subst hl'; exact ⟨Nat.eq_of_beq_eq_true hn, Nat.le_of_ble_eq_true hl, h⟩
theorem W_store_e {id sz i j : Nat} {ls : List (List PV)} {c ps : List PV} {xs : List AC} (ha : St.ev ⟨sl, rg⟩ x = .c (.ept id sz i j)) (hx : cellsOf (St.ev ⟨sl, rg⟩ y) = some xs) (hr : rg[id]? = some (.pc sz ls)) (hc : ls[i]? = some c) (hp : puresOf xs = some ps) (hn : Nat.beq ps.length n = true) (hl : Nat.ble (j + n) sz = true)
    (h : K ⟨sl, rg.set id (.pc sz (ls.set i (c.take j ++ ps ++ c.drop (j + n))))⟩) : opW P (.store n x y) ⟨sl, rg⟩ K := by
  simp only [opW, ha, hx, hr]; exact ⟨trivial, c, ps, hc, hp, Nat.eq_of_beq_eq_true hn, Nat.le_of_ble_eq_true hl, h⟩
theorem W_alloc {zs : List Value} (h : K ⟨(d, .c (.ptr rg.length 0)) :: sl, rg ++ [.ac (zs.map fun z => .p (.v z))]⟩) : opW P (.alloc (some d) zs) ⟨sl, rg⟩ K := h
theorem W_allocA {sz : Nat} {z : List Value} (h : K ⟨(d, .c (.ept rg.length sz 0 0)) :: sl, rg ++ [.pc sz (List.replicate n (z.map .v))]⟩) : opW P (.allocA (some d) sz n z) ⟨sl, rg⟩ K := h
theorem W_box {l : List AC} (hx : cellsOf (St.ev ⟨sl, rg⟩ x) = some l) (h : K ⟨(d, .c (.ptr rg.length 0)) :: sl, rg ++ [.ac l]⟩) : opW P (.box (some d) x) ⟨sl, rg⟩ K := by simp only [opW, hx]; exact h
theorem W_build {zs : List Value} {parts : List (Nat × Nat × AX)} {l : List AC} (hx : fillA (zs.map fun z => .p (.v z)) (parts.map fun (off, sz, x) => (off, sz, St.ev ⟨sl, rg⟩ x)) = some l) (h : K ⟨(d, .agg l) :: sl, rg⟩) : opW P (.build (some d) zs parts) ⟨sl, rg⟩ K := by simp only [opW, hx]; exact h
theorem W_bsl {sz len : Nat} {z : List Value} {parts : List (Nat × AX)} {ls : List (List PV)} (hx : fillE sz (List.replicate len (z.map .v)) (parts.map fun (i, x) => (i, St.ev ⟨sl, rg⟩ x)) = some ls) (h : K ⟨(d, .c (.own rg.length 0 sz len .free)) :: sl, rg ++ [.pc sz ls]⟩) : opW P (.bsl (some d) sz len z parts) ⟨sl, rg⟩ K := by simp only [opW, hx]; exact h
section
variable {k : IntKind} {q : Int} {sz : Nat}
theorem W_ixs_s {l : List (List PV)} {c : List PV} (hi : intOf' (St.ev ⟨sl, rg⟩ i) = some (k, q)) (hx : St.ev ⟨sl, rg⟩ x = .c (.p (.sl sz l))) (h0 : 0 ≤ q) (hc : l[q.toNat]? = some c) (h : K ⟨(d, .c (.rp c)) :: sl, rg⟩) : opW P (.ixs (some d) sz x i) ⟨sl, rg⟩ K := by
  simp only [opW, hi, hx]; exact ⟨trivial, h0, c, hc, h⟩
theorem W_ixs_o {id off len : Nat} {cap : Cap} (hi : intOf' (St.ev ⟨sl, rg⟩ i) = some (k, q)) (hx : St.ev ⟨sl, rg⟩ x = .c (.own id off sz len cap)) (h0 : 0 ≤ q) (h1 : q < len) (h : K ⟨(d, .c (.ept id sz (off + q.toNat) 0)) :: sl, rg⟩) : opW P (.ixs (some d) sz x i) ⟨sl, rg⟩ K := by
  simp only [opW, hi, hx]; exact ⟨trivial, h0, h1, h⟩
theorem W_ixa_e {len id a : Nat} (hi : intOf' (St.ev ⟨sl, rg⟩ i) = some (k, q)) (hx : St.ev ⟨sl, rg⟩ x = .c (.ept id sz a 0)) (h0 : 0 ≤ q) (h1 : q < len) (h : K ⟨(d, .c (.ept id sz (a + q.toNat) 0)) :: sl, rg⟩) : opW P (.ixa (some d) len sz x i) ⟨sl, rg⟩ K := by
  simp only [opW, hi, hx]; exact ⟨trivial, h0, h1, h⟩
theorem W_ixa_p {len id off : Nat} (hi : intOf' (St.ev ⟨sl, rg⟩ i) = some (k, q)) (hx : St.ev ⟨sl, rg⟩ x = .c (.ptr id off)) (h0 : 0 ≤ q) (h1 : q < len) (h : K ⟨(d, .c (.ptr id (off + q.toNat * sz))) :: sl, rg⟩) : opW P (.ixa (some d) len sz x i) ⟨sl, rg⟩ K := by
  simp only [opW, hi, hx]; exact ⟨h0, h1, h⟩
theorem W_ixa_r {len : Nat} {l : List PV} (hi : intOf' (St.ev ⟨sl, rg⟩ i) = some (k, q)) (hx : St.ev ⟨sl, rg⟩ x = .c (.rp l)) (h0 : 0 ≤ q) (h1 : q < len) (h : K ⟨(d, .c (.rp (l.drop (q.toNat * sz)))) :: sl, rg⟩) : opW P (.ixa (some d) len sz x i) ⟨sl, rg⟩ K := by
  simp only [opW, hi, hx]; exact ⟨h0, h1, h⟩
theorem W_ixt {b : ByteArray} (hi : intOf' (St.ev ⟨sl, rg⟩ i) = some (k, q)) (hx : valOf (St.ev ⟨sl, rg⟩ x) = some (.string b)) (h0 : 0 ≤ q) (h1 : q.toNat < b.size) (h : K ⟨(d, .c (.p (.v (.int .u8 (b[q.toNat]'h1).toNat)))) :: sl, rg⟩) : opW P (.ixt (some d) x i) ⟨sl, rg⟩ K := by
  simp only [opW, hi, hx]; exact ⟨h0, h1, h⟩
theorem W_ixv {len : Nat} {agg : Bool} {l : List AC} (hi : intOf' (St.ev ⟨sl, rg⟩ i) = some (k, q)) (hx : St.ev ⟨sl, rg⟩ x = .agg l) (h0 : 0 ≤ q) (h1 : q < len) (hl : q.toNat * sz + sz ≤ l.length) (hp : pack agg ((l.drop (q.toNat * sz)).take sz) = some v) (h : K ⟨(d, v) :: sl, rg⟩) : opW P (.ixv (some d) len sz agg x i) ⟨sl, rg⟩ K := by
  simp only [opW, hi, hx]; exact ⟨h0, h1, v, hl, hp, h⟩
end
theorem W_len (hx : lenOf' (St.ev ⟨sl, rg⟩ x) = some n) (h : K ⟨(d, .c (.p (.v (.int .i64 n)))) :: sl, rg⟩) : opW P (.len (some d) x) ⟨sl, rg⟩ K := by simp only [opW, hx]; exact h
theorem W_lens {b : ByteArray} (hx : valOf (St.ev ⟨sl, rg⟩ x) = some (.string b)) (h : K ⟨(d, .c (.p (.v (.int .i64 b.size)))) :: sl, rg⟩) : opW P (.lens (some d) x) ⟨sl, rg⟩ K := by simp only [opW, hx]; exact h
theorem W_ext {l : List AV} {j : Nat} (hx : St.ev ⟨sl, rg⟩ x = .tup l) (hv : l[j]? = some v) (h : K ⟨(d, v) :: sl, rg⟩) : opW P (.ext (some d) x j) ⟨sl, rg⟩ K := by simp only [opW, hx]; exact ⟨v, hv, h⟩
theorem W_mkf {f : Fn} {fi ca : List AX} {a b : List FA} (h1 : allOf (fun x => faOf (St.ev ⟨sl, rg⟩ x)) fi = some a) (h2 : allOf (fun x => faOf (St.ev ⟨sl, rg⟩ x)) ca = some b) (h : K ⟨(d, .c (.fn f a b)) :: sl, rg⟩) : opW P (.mkf (some d) f fi ca) ⟨sl, rg⟩ K := by simp only [opW, h1, h2]; exact h
theorem W_mm {mx : Bool} {k k' : IntKind} {a b : Int} (hx : intOf' (St.ev ⟨sl, rg⟩ x) = some (k, a)) (hy : intOf' (St.ev ⟨sl, rg⟩ y) = some (k', b)) (h : K ⟨(d, .c (.p (.v (.int k (if mx then (if a < b then b else a) else (if b < a then b else a)))))) :: sl, rg⟩) : opW P (.mm (some d) mx x y) ⟨sl, rg⟩ K := by simp only [opW, hx, hy]; exact h
theorem W_b2s {ls : List (List PV)} (hl : elemsOf rg (St.ev ⟨sl, rg⟩ x) = some ls) (hn : lenOf' (St.ev ⟨sl, rg⟩ x) = some n) (hs : szOf (St.ev ⟨sl, rg⟩ x) = none ∨ szOf (St.ev ⟨sl, rg⟩ x) = some 1) (bs : List Int) (e1 : n = ls.length) (e2 : ls = bs.map (fun b => [.v (.int .u8 b)])) (h : K ⟨(d, .c (.p (.v (.string ⟨(bs.map fun b => UInt8.ofNat b.toNat).toArray⟩)))) :: sl, rg⟩) : opW P (.b2s (some d) x) ⟨sl, rg⟩ K := by
  simp only [opW, hl, hn]; exact ⟨e1, hs, bs, e2, h⟩
def nat1 : Option AV → Nat → Option Int
  | none, n => some n
  | some (.c (.p (.v (.int _ q)))), _ => some q
  | some _, _ => none
theorem nat1_eq {v : Option AV} {n : Nat} {q : Int} (h : nat1 v n = some q) : natOf v n = some q := by
  unfold nat1 at h
  split at h
  · exact h
  · exact h
  · cases h
/-- A cut of pure cells. -/
theorem W_sls_s {sz : Nat} {lo hi : Option AX} {l : List (List PV)} {p q : Int} (hx : St.ev ⟨sl, rg⟩ x = .c (.p (.sl sz l))) (h1 : nat1 (lo.map (St.ev ⟨sl, rg⟩)) 0 = some p) (h2 : nat1 (hi.map (St.ev ⟨sl, rg⟩)) l.length = some q) (g0 : 0 ≤ p) (g1 : p ≤ q) (g2 : q ≤ l.length)
    (h : K ⟨(d, .c (.p (.sl sz ((l.take q.toNat).drop p.toNat)))) :: sl, rg⟩) : opW P (.sls (some d) sz x lo hi none) ⟨sl, rg⟩ K := by
  simp only [opW, hx, nat1_eq h1, nat1_eq h2, Option.map_none]; exact ⟨trivial, g0, g1, g2, h⟩
theorem W_sls_t {sz : Nat} {lo hi : Option AX} {m : AX} {l : List (List PV)} {p q r : Int} (hx : St.ev ⟨sl, rg⟩ x = .c (.p (.sl sz l))) (h1 : nat1 (lo.map (St.ev ⟨sl, rg⟩)) 0 = some p) (h2 : nat1 (hi.map (St.ev ⟨sl, rg⟩)) l.length = some q) (h3 : nat1 (some (St.ev ⟨sl, rg⟩ m)) 0 = some r) (e : r = q) (g0 : 0 ≤ p) (g1 : p ≤ q) (g2 : q ≤ l.length)
    (h : K ⟨(d, .c (.tight sz ((l.take q.toNat).drop p.toNat))) :: sl, rg⟩) : opW P (.sls (some d) sz x lo hi (some m)) ⟨sl, rg⟩ K := by
  subst e
  simp only [opW, hx, nat1_eq h1, nat1_eq h2, Option.map_some]; exact ⟨trivial, g0, g1, g2, nat1_eq h3, h⟩
theorem W_sls_o {sz id off len : Nat} {cap : Cap} {lo hi : Option AX} {p q : Int} (hx : St.ev ⟨sl, rg⟩ x = .c (.own id off sz len cap)) (h1 : nat1 (lo.map (St.ev ⟨sl, rg⟩)) 0 = some p) (h2 : nat1 (hi.map (St.ev ⟨sl, rg⟩)) len = some q) (g0 : 0 ≤ p) (g1 : p ≤ q) (g2 : q ≤ len) (g3 : p = 0 ∨ p < q)
    (h : K ⟨(d, .c (.own id (off + p.toNat) sz (q.toNat - p.toNat) (if p = 0 then cap else .unk))) :: sl, rg⟩) : opW P (.sls (some d) sz x lo hi none) ⟨sl, rg⟩ K := by
  simp only [opW, hx, nat1_eq h1, nat1_eq h2, Option.map_none]; exact ⟨trivial, g0, g1, g2, g3, h⟩
theorem W_sls_x {sz id off len : Nat} {cap : Cap} {lo hi : Option AX} {m : AX} {p q r : Int} (hx : St.ev ⟨sl, rg⟩ x = .c (.own id off sz len cap)) (h1 : nat1 (lo.map (St.ev ⟨sl, rg⟩)) 0 = some p) (h2 : nat1 (hi.map (St.ev ⟨sl, rg⟩)) len = some q) (h3 : nat1 (some (St.ev ⟨sl, rg⟩ m)) 0 = some r) (e : r = q) (g0 : 0 ≤ p) (g1 : p ≤ q) (g2 : q ≤ len) (g3 : p = 0 ∨ p < q)
    (h : K ⟨(d, .c (.own id (off + p.toNat) sz (q.toNat - p.toNat) (.ex (q.toNat - p.toNat)))) :: sl, rg⟩) : opW P (.sls (some d) sz x lo hi (some m)) ⟨sl, rg⟩ K := by
  subst e
  simp only [opW, hx, nat1_eq h1, nat1_eq h2, Option.map_some]; exact ⟨trivial, g0, g1, g2, g3, nat1_eq h3, h⟩
theorem W_sla_e {sz id j n : Nat} {lo hi : Option AX} {p q : Int} (hx : St.ev ⟨sl, rg⟩ x = .c (.ept id sz j 0)) (h1 : nat1 (lo.map (St.ev ⟨sl, rg⟩)) 0 = some p) (h2 : nat1 (hi.map (St.ev ⟨sl, rg⟩)) n = some q) (g0 : 0 ≤ p) (g1 : p ≤ q) (g2 : q ≤ n) (g3 : p = 0 ∨ p < q)
    (h : K ⟨(d, .c (.own id (j + p.toNat) sz (q.toNat - p.toNat) (.ex (n - p.toNat)))) :: sl, rg⟩) : opW P (.sla (some d) n sz x lo hi none) ⟨sl, rg⟩ K := by
  simp only [opW, hx, nat1_eq h1, nat1_eq h2]; exact ⟨trivial, g0, g1, g2, g3, h⟩
theorem W_sla_r {sz n : Nat} {l : List PV} {hi : Option AX} {q : Int} (hx : St.ev ⟨sl, rg⟩ x = .c (.rp l)) (h2 : nat1 (hi.map (St.ev ⟨sl, rg⟩)) n = some q) (g0 : 0 ≤ q) (g1 : q ≤ n) (g2 : 0 < sz) (g3 : n ≤ 140737488351232) (g4 : n * sz ≤ l.length)
    (h : K ⟨(d, .c (.p (.sl sz (chunkL sz q.toNat l)))) :: sl, rg⟩) : opW P (.sla (some d) n sz x none hi none) ⟨sl, rg⟩ K := by
  have h1 : nat1 ((none : Option AX).map (St.ev ⟨sl, rg⟩)) 0 = some 0 := rfl
  simp only [opW, hx, nat1_eq h1, nat1_eq h2]; exact ⟨trivial, g0, g1, g2, g3, g4, h⟩
/-- Cuts from the beginning. -/
theorem W_sls_s0 {sz qn : Nat} {hi : Option AX} {l : List (List PV)} {q : Int} (hx : St.ev ⟨sl, rg⟩ x = .c (.p (.sl sz l))) (h2 : nat1 (hi.map (St.ev ⟨sl, rg⟩)) l.length = some q) (e : q = (qn : Int)) (g2 : qn ≤ l.length)
    (h : K ⟨(d, .c (.p (.sl sz (l.take qn)))) :: sl, rg⟩) : opW P (.sls (some d) sz x none hi none) ⟨sl, rg⟩ K := by
  subst e; exact W_sls_s (p := 0) hx rfl h2 (by omega) (by omega) (by omega) h
theorem W_sls_tf {sz : Nat} {hi : Option AX} {m : AX} {l : List (List PV)} {q r : Int} (hx : St.ev ⟨sl, rg⟩ x = .c (.p (.sl sz l))) (h2 : nat1 (hi.map (St.ev ⟨sl, rg⟩)) l.length = some q) (h3 : nat1 (some (St.ev ⟨sl, rg⟩ m)) 0 = some r) (e : r = q) (e2 : q = (l.length : Int))
    (h : K ⟨(d, .c (.tight sz l)) :: sl, rg⟩) : opW P (.sls (some d) sz x none hi (some m)) ⟨sl, rg⟩ K := by
  subst e2
  refine W_sls_t (p := 0) hx rfl h2 h3 e (by omega) (by omega) (by omega) ?_
  rw [Int.toNat_natCast, List.take_length]
  exact h
theorem W_sla_e0 {sz id j n qn : Nat} {hi : Option AX} {q : Int} (hx : St.ev ⟨sl, rg⟩ x = .c (.ept id sz j 0)) (h2 : nat1 (hi.map (St.ev ⟨sl, rg⟩)) n = some q) (e : q = (qn : Int)) (g2 : qn ≤ n)
    (h : K ⟨(d, .c (.own id j sz qn (.ex n))) :: sl, rg⟩) : opW P (.sla (some d) n sz x none hi none) ⟨sl, rg⟩ K := by
  subst e; exact W_sla_e (p := 0) hx rfl h2 (by omega) (by omega) (by omega) (.inl rfl) h
/-- An append onto nil. -/
theorem W_app_n {sz bytes : Nat} {ls : List (List PV)} (hx : St.ev ⟨sl, rg⟩ x = .c (.p (.v (.slice none 0 0)))) (hl : elemsOf rg (St.ev ⟨sl, rg⟩ y) = some ls) (hn : lenOf' (St.ev ⟨sl, rg⟩ y) = some n) (hs : szOf (St.ev ⟨sl, rg⟩ y) = none ∨ szOf (St.ev ⟨sl, rg⟩ y) = some sz) (e1 : n = ls.length) (h1 : n ≤ 140737488355328) (h2 : n * bytes ≤ 140737488355328)
    (h : K ⟨(d, .c (.own rg.length 0 sz n .free)) :: sl, rg ++ [.pc sz ls]⟩) : opW P (.app (some d) sz bytes x y) ⟨sl, rg⟩ K := by
  simp only [opW, hl, hn, hx]; exact ⟨e1, hs, h1, h2, h⟩
/-- An append onto a row that ends where its block's room does. -/
theorem W_app_o {sz bytes id len : Nat} {ls old : List (List PV)} (hx : St.ev ⟨sl, rg⟩ x = .c (.own id 0 sz len .free)) (hr : rg[id]? = some (.pc sz old)) (hl : elemsOf rg (St.ev ⟨sl, rg⟩ y) = some ls) (hn : lenOf' (St.ev ⟨sl, rg⟩ y) = some n) (hs : szOf (St.ev ⟨sl, rg⟩ y) = none ∨ szOf (St.ev ⟨sl, rg⟩ y) = some sz) (e1 : n = ls.length)
    (h0 : len = old.length) (h1 : len + n ≤ 140737488355328) (h2 : (len + n) * bytes ≤ 140737488355328)
    (h : K ⟨(d, .c (.own rg.length 0 sz (len + n) .free)) :: sl, rg.set id .dead ++ [.pc sz (old ++ ls)]⟩) : opW P (.app (some d) sz bytes x y) ⟨sl, rg⟩ K := by
  simp only [opW, hl, hn, hx, hr]
  refine ⟨e1, hs, trivial, trivial, by omega, h1, h2, ?_⟩
  have : old.take len = old := by rw [h0]; exact List.take_length
  rw [this]
  exact h
/-- An append onto pure cells without room. -/
theorem W_app_t {sz bytes : Nat} {ls old : List (List PV)} (hx : St.ev ⟨sl, rg⟩ x = .c (.tight sz old)) (hl : elemsOf rg (St.ev ⟨sl, rg⟩ y) = some ls) (hn : lenOf' (St.ev ⟨sl, rg⟩ y) = some n) (hs : szOf (St.ev ⟨sl, rg⟩ y) = none ∨ szOf (St.ev ⟨sl, rg⟩ y) = some sz) (e1 : n = ls.length)
    (h0 : 0 < n) (h1 : old.length + n ≤ 140737488355328) (h2 : (old.length + n) * bytes ≤ 140737488355328)
    (h : K ⟨(d, .c (.own rg.length 0 sz (old.length + n) .free)) :: sl, rg ++ [.pc sz (old ++ ls)]⟩) : opW P (.app (some d) sz bytes x y) ⟨sl, rg⟩ K := by
  simp only [opW, hl, hn, hx]; exact ⟨e1, hs, trivial, h0, h1, h2, h⟩
theorem W_call {f : Nat} {axs : List AX} {dd : Option Nat} {args : List AV} (ha : axs.map (St.ev ⟨sl, rg⟩) = args) (h : FS P f args rg fun res rg' => K (St.put ⟨sl, rg'⟩ dd res)) : opW P (.call dd f axs) ⟨sl, rg⟩ K := by
  simp only [opW, ha]; exact h
/-- A call by its contract among the rows that it is about. -/
theorem W_callF {f : Nat} {axs : List AX} {dd : Option Nat} {args : List AV} {regs0 : List Reg} {K0 : AV → List Reg → Prop} (hc : FS P f args regs0 K0) (ids : List Nat) (ha : axs.map (St.ev ⟨sl, rg⟩) = args.map (renAV (rhoF ids rg.length))) (hnd : ids.Nodup)
    (hsub : SubRegs rg (rhoF ids rg.length) ids regs0) (h : ∀ res rg', K0 res rg' → K (St.put ⟨sl, setAll rg ids (rg'.map (renReg (upF ids rg.length)))⟩ dd (renAV (upF ids rg.length) res))) : opW P (.call dd f axs) ⟨sl, rg⟩ K := by
  simp only [opW, ha]
  exact (hc.frame rg ids hnd hsub).mono fun r rg' ⟨res0, regs', k, e1, e2⟩ => by subst e1; subst e2; exact h _ _ k

/-! ### Guards, regions, code -/
theorem W_it {op : AOp} {dd : Option Nat} {s : St} (h : opW P op s K) : itW P ⟨none, dd, op⟩ s K := h
theorem W_gu {op : AOp} {t : Nat} {w : Bool} (hb : lk sl t = .tup []) (h : K ⟨(d, .tup []) :: sl, rg⟩) : itW P ⟨some (t, w), some d, op⟩ ⟨sl, rg⟩ K := by simp only [itW, hb]; exact h
theorem W_gy {op : AOp} {dd : Option Nat} {t : Nat} {w : Bool} (hb : boolOf (lk sl t) = some w) (h : opW P op ⟨sl, rg⟩ K) : itW P ⟨some (t, w), dd, op⟩ ⟨sl, rg⟩ K := by
  unfold boolOf at hb
  split at hb
  · rename_i b e
    cases hb
    simp only [itW, e]
    exact ⟨fun _ => h, fun e => absurd rfl e⟩
  · cases hb
theorem W_gn {op : AOp} {t : Nat} {w b : Bool} (hb : boolOf (lk sl t) = some b) (hw : (b == w) = false) (h : K ⟨(d, .tup []) :: sl, rg⟩) : itW P ⟨some (t, w), some d, op⟩ ⟨sl, rg⟩ K := by
  unfold boolOf at hb
  split at hb
  · rename_i b e
    cases hb
    simp only [itW, e]
    exact ⟨(fun e => by rw [e] at hw; simp at hw), fun _ => h⟩
  · cases hb
theorem O_nil {s : St} (h : K s) : opsW P K [] s := h
theorem O_cons {it : AIt} {r : List AIt} {s : St} (h : itW P it s (opsW P K r)) : opsW P K (it :: r) s := h
end

/-- A contract from a function's text, turned. -/
theorem FS_def {P : Program} {f : Nat} {fn : Func} {ac : ACode} (rs : List Nat) (n : Nat) (hf : P.funcs[f]? = some fn) (hok : ((fn.name == "runtime.NumGoroutine") = false ∧ fn.results = (rs.map ResultVar.tmp).toArray) ∧ fn.ntmps = n ∧ (fn.body.bind (trCode P fn.ntmps)) = some ac)
    {args : List AV} {regs : List Reg} {K : AV → List Reg → Prop} (hN : Nat.ble args.length n = true)
    (h : codeW P regs.length ac (Fin regs.length rs K) ⟨argSlots 0 args, regs⟩) : FS P f args regs K := by
  obtain ⟨⟨h1, h2⟩, h3, h4⟩ := hok
  obtain ⟨c, hc, htr⟩ := Option.bind_eq_some_iff.1 h4
  exact FS_of hf h1 hc rs h2 htr (by rw [h3]; exact Nat.le_of_ble_eq_true hN) h
end Go.Sim
