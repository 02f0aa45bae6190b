/- The model's operations that build structs and slices out of parts, cut arrays, make texts, over the plain picture. Of no program. -/
import Derived.Test.YtahoelmjfgoedaaGreatSimH
import Derived.Laws.Tables
import Derived.Laws.BytesString
namespace Go.Sim
open Go.RowKit Go.Proofs.YtahoelmjfgoedaaGreat.B

section
variable {P : Program} {w0 w w' : World} {env0 env : Env} {bad0 : Bs} {fps : List Nat} {base : Nat → Prop} {N : Nat} {s : St} {a : Act} {o : Oper}
  {next : Act → World → Prop} {nx : Act → Prop} {Q : Exit → Act → World → Prop} {K : St → Prop}

theorem zero_rel {bad : Nat → Prop} : ∀ {z : List Value}, z.all flatv = true → All2 (CRel w env bad) (z.map fun z => .p (.v z)) z ∧ (z.map fun z => AC.p (.v z)).all AC.known = true
  | [], _ => ⟨trivial, rfl⟩
  | x :: z, h => by
    rw [List.all_cons, Bool.and_eq_true] at h
    obtain ⟨h1, h2⟩ := zero_rel (bad := bad) h.2
    exact ⟨⟨PRel.v h.1, h1⟩, by rw [List.map_cons, List.all_cons, h2]; rfl⟩

theorem sound_build {t : TypeId} {parts : List (Nat × Operand)} {aparts : List (Nat × Nat × AX)} {place : Nat → Option (Nat × Nat)} {z : Value} (ho : o.op = .build t parts.toArray)
    (hb : ∀ vs, P.built t vs = Instr.fill place z.cells vs) (hf : z.cells.toList.all flatv = true) (hp : All2 (fun (q : Nat × Nat × AX) (p : Nat × Operand) => place p.1 = some (q.1, q.2.1) ∧ trX p.2 = some q.2.2) aparts parts)
    (hd : ∀ n, o.dst = some n → n < N)
    (h : opW P (.build o.dst z.cells.toList aparts) s K) (hR : R P w0 env0 bad0 fps base N s a w) (hK : ∀ s' a', K s' → R P w0 env0 bad0 fps base N s' a' w → nx a') : o.pureWp P a w nx := by
  simp only [opW] at h
  split at h
  · rename_i l hl
    refine val_done hR hd hK (fun env hsl _ => ?_) h
    have hrel : All2 (fun (p : Nat × Nat × AV) (q : Nat × Value) => place q.1 = some (p.1, p.2.1) ∧ VRel w env (badOf base env s.regs) p.2.2 q.2) (aparts.map fun (off, sz, x) => (off, sz, s.ev x)) (parts.map fun (i, x) => (i, a.eval x)) := by
      clear hl h ho
      induction aparts generalizing parts with
      | nil => cases parts with
        | nil => trivial
        | cons _ _ => exact hp.elim
      | cons q aparts ih => cases parts with
        | nil => exact hp.elim
        | cons p parts => exact ⟨⟨hp.1.1, ev_sound hsl hp.1.2⟩, ih hp.2⟩
    obtain ⟨z1, z2⟩ := zero_rel (w := w) (env := env) (bad := badOf base env s.regs) hf
    obtain ⟨cs', e, r1, r2⟩ := fill_sound hrel z1 z2 hl
    have hbuilt : P.built t (parts.map fun (i, x) => (i, a.eval x)) = some cs'.toArray := by rw [hb, ← e]
    have hr := run_build (P := P) w t (parts.toArray.map fun (i, x) => (i, a.eval x)) cs'.toArray (by simpa using hbuilt)
    exact ⟨_, by simp only [execOp, ho, Sem.run_bind, hr]; rfl, .agg r1 r2⟩
  · exact h.elim

/-- A slice's elements, read. -/
theorem elems_of {bad : Nat → Prop} {v : AV} {u : Value} {ls : List (List PV)} {sz : Nat} (hrs : RS P w0 w fps base env s.regs) (hb : bad = badOf base env s.regs) (h : VRel w env bad v u) (he : elemsOf s.regs v = some ls) (hn : lenOf' v = some ls.length) (hsz : szOf v = none ∨ szOf v = some sz) (hpos : 0 < sz) :
    ∃ (A : Option Addr) (c : Nat) (news : List Value), u = .slice A ls.length c ∧ news.length = ls.length * sz ∧ (∀ i (h : i < ls.length), ls[i].length = sz) ∧
      (∀ i (h : i < ls.length), ∀ j (h' : j < ls[i].length), ∃ x, news[i * sz + j]? = some x ∧ PRel w bad ls[i][j] x) ∧ (∀ x ∈ news, x.oneCell' = true) ∧
      (0 < ls.length → ∃ ad, A = some ad ∧ ∀ j x, news[j]? = some x → w.cell? (ad.add j) = some x) := by
  have hpure : ∀ {l : List (List PV)} {u : Value}, PRel w bad (.sl sz l) u → ∃ (A : Option Addr) (c : Nat) (news : List Value), u = .slice A l.length c ∧ news.length = l.length * sz ∧ (∀ i (h : i < l.length), l[i].length = sz) ∧
      (∀ i (h : i < l.length), ∀ j (h' : j < l[i].length), ∃ x, news[i * sz + j]? = some x ∧ PRel w bad l[i][j] x) ∧ (∀ x ∈ news, x.oneCell' = true) ∧
      (0 < l.length → ∃ ad, A = some ad ∧ ∀ j x, news[j]? = some x → w.cell? (ad.add j) = some x) := by
    intro l u h
    cases h with
    | @sl _ _ A n c U hz hn hc hm hsz hA hcell hrel =>
      have hdm : ∀ q, q < l.length * sz → q / sz < l.length ∧ q % sz < sz := fun q hq => ⟨Nat.div_lt_of_lt_mul (by rw [Nat.mul_comm]; exact hq), Nat.mod_lt _ hz⟩
      refine ⟨A, c, (List.range (l.length * sz)).map fun q => U (q / sz) (q % sz), by rw [hn], by simp, hsz, fun i hi j hj => ⟨U i j, ?_, hrel i hi j hj⟩, fun x hx => ?_, fun h0 => ?_⟩
      · have hj' : j < sz := by rw [← hsz i hi]; exact hj
        have hlt : i * sz + j < l.length * sz := by
          have : (i + 1) * sz ≤ l.length * sz := Nat.mul_le_mul_right _ hi
          rw [Nat.succ_mul] at this
          omega
        rw [List.getElem?_map, List.getElem?_range hlt, Option.map_some]
        congr 2
        · rw [Nat.mul_comm, Nat.mul_add_div hz, Nat.div_eq_of_lt hj']; simp
        · rw [Nat.mul_comm, Nat.mul_add_mod, Nat.mod_eq_of_lt hj']
      · obtain ⟨q, hq, rfl⟩ := List.mem_map.1 hx
        obtain ⟨h1, h2⟩ := hdm q (by simpa using hq)
        exact (hrel _ h1 _ (by rw [hsz _ h1]; exact h2)).one
      · obtain ⟨ad, rfl, _⟩ := hA (by omega)
        refine ⟨ad, rfl, fun j x hx => ?_⟩
        rw [List.getElem?_map] at hx
        obtain ⟨q, hq, rfl⟩ := Option.map_eq_some_iff.1 hx
        obtain ⟨hql, rfl⟩ := List.getElem?_eq_some_iff.1 hq
        rw [List.getElem_range]
        have hj : j < l.length * sz := by simpa using hql
        obtain ⟨h1, h2⟩ := hdm j hj
        have := hcell ad rfl _ h1 (j % sz) (by rw [hsz _ h1]; exact h2)
        rwa [show j / sz * sz + j % sz = j from by rw [Nat.mul_comm]; exact Nat.div_add_mod j sz] at this
  unfold elemsOf at he
  split at he
  · rename_i sz' l
    have hss : sz' = sz := by
      rcases hsz with h1 | h1
      · cases h1
      · exact Option.some.inj h1
    subst hss
    cases he
    exact hpure (c_of h)
  · rename_i sz' l
    have hss : sz' = sz := by
      rcases hsz with h1 | h1
      · cases h1
      · exact Option.some.inj h1
    subst hss
    cases he
    exact hpure (c_of h).1
  · cases he
    have hv := (val_of h rfl).1
    subst hv
    exact ⟨none, 0, [], rfl, by simp, fun i h => by simp at h, fun i h => by simp at h, fun x h => by simp at h, fun h => by simp at h⟩
  · rename_i id off sz' len cap
    have hss : sz' = sz := by
      rcases hsz with h1 | h1
      · cases h1
      · exact Option.some.inj h1
    subst hss
    split at he
    · rename_i szr lss hl
      split at he
      · rename_i hszr
        subst hszr
        cases he
        have hlen : ((lss.drop off).take len).length = len := (Option.some.inj hn).symm
        have hge : len = 0 ∨ off + len ≤ lss.length := by simp at hlen; omega
        obtain ⟨hid, hv⟩ := c_of h
        obtain ⟨hz, hs, hrr⟩ := hrs.reg id _ hl
        have hgl : ∀ i (h : i < ((lss.drop off).take len).length), ∃ h' : off + i < lss.length, ((lss.drop off).take len)[i] = lss[off + i] := fun i h => by
          have h' : off + i < lss.length := by simp at h; omega
          exact ⟨h', by rw [List.getElem_take, List.getElem_drop]⟩
        rcases hv with ⟨he, rfl, rfl, rfl⟩ | ⟨g, c, k, he, rfl, hlk, _⟩
        · exact ⟨none, 0, [], by simp, by simp, fun i h => by simp at h, fun i h => by simp at h, fun x h => by simp at h, fun h => by simp at h⟩
        · rcases hrr with ⟨he', _⟩ | ⟨g', c', cur, ty, he', hg, hcs, hcm, hcl, hcell⟩
          · rw [he] at he'; cases he'
          rw [he] at he'
          cases he'
          have hbound : off * szr + len * szr ≤ cur.size ∨ len = 0 := by
            rcases hge with h | h
            · exact .inr h
            · left
              rw [← Nat.add_mul, hcs]
              exact Nat.mul_le_mul_right _ (by omega)
          refine ⟨some ⟨g, off * szr, none⟩, k, (cur.toList.drop (off * szr)).take (len * szr), by rw [hlen], ?_, fun i h => ?_, fun i hi j hj => ?_, fun x hx => ?_, fun h0 => ⟨_, rfl, fun j x hx => ?_⟩⟩
          · rw [hlen, List.length_take, List.length_drop, Array.length_toList]
            rcases hbound with h | h
            · omega
            · subst h; simp
          · obtain ⟨h', e⟩ := hgl i h
            rw [e]; exact hs _ h'
          · obtain ⟨h', e⟩ := hgl i hi
            have hj' : j < lss[off + i].length := by rw [← e]; exact hj
            obtain ⟨x, x1, x2⟩ := hcell (off + i) h' j hj'
            have hjs : j < szr := by rw [← hs _ h']; exact hj'
            have hil : i < len := by rw [← hlen]; exact hi
            have hlt : i * szr + j < len * szr := by
              have : (i + 1) * szr ≤ len * szr := Nat.mul_le_mul_right _ hil
              rw [Nat.succ_mul] at this
              omega
            refine ⟨x, ?_, ?_⟩
            · rw [List.getElem?_take_of_lt hlt, List.getElem?_drop, Array.getElem?_toList, ← x1, Nat.add_mul, Nat.add_assoc]
            · simp only [e]
              rw [hb]
              exact x2
          · have hx' := List.mem_of_mem_take hx
            obtain ⟨q, hq, rfl⟩ := List.getElem_of_mem hx
            have hq' : q < len * szr := by simp at hq; omega
            have h1 : q / szr < len := Nat.div_lt_of_lt_mul (by rw [Nat.mul_comm]; exact hq')
            have h2 : q % szr < szr := Nat.mod_lt _ hz
            have h3 : off + q / szr < lss.length := by
              clear hcell hx hx' hq hbound hcs
              generalize q / szr = dd at h1 ⊢
              rcases hge with h | h <;> omega
            obtain ⟨x, x1, x2⟩ := hcell (off + q / szr) h3 (q % szr) (by rw [hs _ h3]; exact h2)
            have e : (off + q / szr) * szr + q % szr = off * szr + q := by
              rw [Nat.add_mul, Nat.add_assoc, Nat.mul_comm (q / szr), Nat.div_add_mod]
            rw [e] at x1
            rw [List.getElem_take, List.getElem_drop, Array.getElem_toList]
            have : cur[off * szr + q]'(by simp at hq; omega) = x := by
              have := (Array.getElem?_eq_getElem (xs := cur) (i := off * szr + q) (by simp at hq; omega)).symm.trans x1
              exact Option.some.inj this
            rw [this]
            exact x2.one
          · rw [add_lit]
            rw [List.getElem?_take] at hx
            split at hx
            · rw [List.getElem?_drop, Array.getElem?_toList] at hx
              simp [World.cell?, hg, hx]
            · cases hx
      · cases he
    · cases he
  · cases he

/-- A slice's elements, pure or not, read. -/
theorem elems_ofX {bad : Nat → Prop} {v : AV} {u : Value} {ls : List (List AC)} {sz : Nat} (hrs : RS P w0 w fps base env s.regs) (hb : bad = badOf base env s.regs) (h : VRel w env bad v u) (he : elemsX s.regs v = some ls) (hn : lenOf' v = some ls.length) (hsz : szOf v = none ∨ szOf v = some sz) (hpos : 0 < sz) :
    ∃ (A : Option Addr) (c : Nat) (news : List Value), u = .slice A ls.length c ∧ news.length = ls.length * sz ∧ (∀ i (h : i < ls.length), ls[i].length = sz) ∧
      (∀ i (h : i < ls.length), ∀ j (h' : j < ls[i].length), ∃ x, news[i * sz + j]? = some x ∧ KRel w env bad ls[i][j] x) ∧ (∀ x ∈ news, x.oneCell' = true) ∧
      (0 < ls.length → ∃ ad, A = some ad ∧ ∀ j x, news[j]? = some x → w.cell? (ad.add j) = some x) := by
  unfold elemsX at he
  split at he
  · rename_i id off sz' len cap
    have hss : sz' = sz := by
      rcases hsz with h1 | h1
      · cases h1
      · exact Option.some.inj h1
    subst hss
    split at he
    · rename_i szr lss hl0
      obtain ⟨r, hl, hes⟩ := Option.bind_eq_some_iff.1 hl0
      split at he
      · rename_i hszr
        subst hszr
        cases he
        have hlen : ((lss.drop off).take len).length = len := (Option.some.inj hn).symm
        have hge : len = 0 ∨ off + len ≤ lss.length := by simp at hlen; omega
        obtain ⟨hid, hv⟩ := c_of h
        obtain ⟨hz, hs, hrr⟩ := (hrs.reg id _ hl).toEs hes
        have hgl : ∀ i (h : i < ((lss.drop off).take len).length), ∃ h' : off + i < lss.length, ((lss.drop off).take len)[i] = lss[off + i] := fun i h => by
          have h' : off + i < lss.length := by simp at h; omega
          exact ⟨h', by rw [List.getElem_take, List.getElem_drop]⟩
        rcases hv with ⟨he, rfl, rfl, rfl⟩ | ⟨g, c, k, he, rfl, hlk, _⟩
        · exact ⟨none, 0, [], by simp, by simp, fun i h => by simp at h, fun i h => by simp at h, fun x h => by simp at h, fun h => by simp at h⟩
        · rcases hrr with ⟨he', _⟩ | ⟨g', c', cur, ty, he', hg, hcs, hcm, hcl, hcell⟩
          · rw [he] at he'; cases he'
          rw [he] at he'
          cases he'
          have hbound : off * szr + len * szr ≤ cur.size ∨ len = 0 := by
            rcases hge with h | h
            · exact .inr h
            · left
              rw [← Nat.add_mul, hcs]
              exact Nat.mul_le_mul_right _ (by omega)
          refine ⟨some ⟨g, off * szr, none⟩, k, (cur.toList.drop (off * szr)).take (len * szr), by rw [hlen], ?_, fun i h => ?_, fun i hi j hj => ?_, fun x hx => ?_, fun h0 => ⟨_, rfl, fun j x hx => ?_⟩⟩
          · rw [hlen, List.length_take, List.length_drop, Array.length_toList]
            rcases hbound with h | h
            · omega
            · subst h; simp
          · obtain ⟨h', e⟩ := hgl i h
            rw [e]; exact hs _ h'
          · obtain ⟨h', e⟩ := hgl i hi
            have hj' : j < lss[off + i].length := by rw [← e]; exact hj
            obtain ⟨x, x1, x2⟩ := hcell (off + i) h' j hj'
            have hjs : j < szr := by rw [← hs _ h']; exact hj'
            have hil : i < len := by rw [← hlen]; exact hi
            have hlt : i * szr + j < len * szr := by
              have : (i + 1) * szr ≤ len * szr := Nat.mul_le_mul_right _ hil
              rw [Nat.succ_mul] at this
              omega
            refine ⟨x, ?_, ?_⟩
            · rw [List.getElem?_take_of_lt hlt, List.getElem?_drop, Array.getElem?_toList, ← x1, Nat.add_mul, Nat.add_assoc]
            · simp only [e]
              rw [hb]
              exact x2
          · have hx' := List.mem_of_mem_take hx
            obtain ⟨q, hq, rfl⟩ := List.getElem_of_mem hx
            have hq' : q < len * szr := by simp at hq; omega
            have h1 : q / szr < len := Nat.div_lt_of_lt_mul (by rw [Nat.mul_comm]; exact hq')
            have h2 : q % szr < szr := Nat.mod_lt _ hz
            have h3 : off + q / szr < lss.length := by
              clear hcell hx hx' hq hbound hcs
              generalize q / szr = dd at h1 ⊢
              rcases hge with h | h <;> omega
            obtain ⟨x, x1, x2⟩ := hcell (off + q / szr) h3 (q % szr) (by rw [hs _ h3]; exact h2)
            have e : (off + q / szr) * szr + q % szr = off * szr + q := by
              rw [Nat.add_mul, Nat.add_assoc, Nat.mul_comm (q / szr), Nat.div_add_mod]
            rw [e] at x1
            rw [List.getElem_take, List.getElem_drop, Array.getElem_toList]
            have : cur[off * szr + q]'(by simp at hq; omega) = x := by
              have := (Array.getElem?_eq_getElem (xs := cur) (i := off * szr + q) (by simp at hq; omega)).symm.trans x1
              exact Option.some.inj this
            rw [this]
            exact KRel.one x2
          · rw [add_lit]
            rw [List.getElem?_take] at hx
            split at hx
            · rw [List.getElem?_drop, Array.getElem?_toList] at hx
              simp [World.cell?, hg, hx]
            · cases hx
      · cases he
    · cases he
  · obtain ⟨l, hl, rfl⟩ := Option.map_eq_some_iff.1 he
    rw [upL_len] at hn
    obtain ⟨A, c, news, h1, h2, h3, h4, h5, h6⟩ := elems_of hrs hb h hl hn hsz hpos
    exact ⟨A, c, news, by rw [upL_len]; exact h1, by rw [upL_len]; exact h2, upL_sz h3, upL_rel (f := fun i j => news[i * sz + j]?) h4, h5, by rw [upL_len]; exact h6⟩

theorem sound_b2s {t t' e : TypeId} {x : Operand} {ax : AX} (ho : o.op = .convert t t' x) (ht : P.underlying t = some (.slice e)) (he : P.underlying e = some (.int .u8)) (ht' : P.underlying t' = some .string)
    (hx : trX x = some ax) (hd : ∀ n, o.dst = some n → n < N)
    (h : opW P (.b2s o.dst ax) s K) (hR : R P w0 env0 bad0 fps base N s a w) (hK : ∀ s' a', K s' → R P w0 env0 bad0 fps base N s' a' w → nx a') : o.pureWp P a w nx := by
  simp only [opW] at h
  split at h
  · rename_i ls n h1 h2
    obtain ⟨rfl, hsz, bs, rfl, h⟩ := h
    refine val_done hR hd hK (fun env hsl hrs => ?_) h
    obtain ⟨A, c, news, e1, e2, e3, e4, _, e5⟩ := elems_of hrs rfl (ev_sound hsl hx) h1 h2 hsz (by decide)
    rw [List.length_map] at e1 e2 e5
    have hnews : news = bs.map (Value.int .u8) := by
      apply List.ext_getElem?
      intro i
      by_cases hi : i < bs.length
      · obtain ⟨x, x1, x2⟩ := e4 i (by simpa using hi) 0 (by simp)
        rw [Nat.mul_one, Nat.add_zero] at x1
        rw [x1, List.getElem?_map, List.getElem?_eq_getElem hi]
        simp only [List.getElem_map] at x2
        have h3 : PRel w (badOf base env s.regs) (.v (.int .u8 bs[i])) x := x2
        cases h3
        rfl
      · rw [List.getElem?_eq_none (by omega), List.getElem?_eq_none (by simp; omega)]
    have hfold : ∀ (l : List Int) (b : ByteArray), l.foldl (fun r n => r.push (UInt8.ofNat n.toNat)) b = ⟨b.data ++ (l.map fun b => UInt8.ofNat b.toNat).toArray⟩ := by
      intro l
      induction l with
      | nil => intro b; simp
      | cons x l ih => intro b; rw [List.foldl_cons, ih]; simp [ByteArray.push]
    refine ⟨_, ?_, vrel_v rfl⟩
    simp only [execOp, ho, e1, Sem.run_bind]
    rw [run_convert_bytes_string w t t' e A _ c ht he ht']
    rcases A with _ | ad
    · have : bs = [] := by
        rcases Nat.eq_zero_or_pos bs.length with h0 | h0
        · exact List.eq_nil_of_length_eq_zero h0
        · obtain ⟨ad, h, _⟩ := e5 h0; cases h
      subst this
      simp [Conv.bytesToString]
      rfl
    · have hl : (loadCells ad bs.length).run P w = .ok (bs.map (Value.int .u8)).toArray w := by
        have := run_loadCells_list (P := P) (w := w) ad (bs.map (Value.int .u8)) (fun j v hj => by
          rcases Nat.eq_zero_or_pos bs.length with h0 | h0
          · have : bs = [] := List.eq_nil_of_length_eq_zero h0
            subst this; simp at hj
          · obtain ⟨ad', h, hc⟩ := e5 h0
            cases h
            exact hc j v (by rw [hnews]; exact hj))
        simpa using this
      rw [run_bytesToString w ad bs.length c bs hl, hfold]
      simp
  · exact h.elim

theorem sound_sla {t e : TypeId} {n : Nat} {i : TypeInfo} {x : Operand} {lo hi : Option Operand} {ax : AX} {alo ahi : Option AX} (ho : o.op = .slice t x lo hi none) (ht : P.underlying t = some (.array n e)) (hi' : P.info? e = some i) (hx : trX x = some ax)
    (hlo : trO lo = some alo) (hhi : trO hi = some ahi) (hd : ∀ n, o.dst = some n → n < N)
    (h : opW P (.sla o.dst n i.size ax alo ahi none) s K) (hR : R P w0 env0 bad0 fps base N s a w) (hK : ∀ s' a', K s' → R P w0 env0 bad0 fps base N s' a' w → nx a') : o.pureWp P a w nx := by
  have hrun : ∀ ad l h m, a.eval x = .pointer (some ad) → (Instr.sliceBounds false n n (lo.map a.eval) (hi.map a.eval) none).run P w = .ok (l, h, m) w →
      (execOp a.eval o).run P w = .ok (.value (.slice (some (if m = l then ad else ad.add (l * i.size))) (h - l) (m - l))) w := by
    intro ad l h m e1 e2
    simp [execOp, ho, e1, Instr.sliceAt, run_underlying ht, Instr.sureAddr, e2, run_sizeOf' hi']
  have hone : ∀ {env : Env} {bad : Nat → Prop} {q : Int} {n : Nat} {x : Option Operand} {ax : Option AX}, (∀ n, VRel w env bad (lk s.slots n) (a.tmps.getD n undef)) → trO x = some ax → natOf (ax.map s.ev) n = some q → 0 ≤ q →
      (x.map a.eval = none ∧ q.toNat = n) ∨ ∃ k, x.map a.eval = some (.int k (q.toNat : Int)) := by
    intro env bad q n x ax hsl h1 h2 h0
    rcases nat_of hsl h1 h2 with ⟨rfl, e⟩ | ⟨y, k, rfl, e⟩
    · exact .inl ⟨rfl, by omega⟩
    · exact .inr ⟨k, by rw [Option.map_some, e, Int.toNat_of_nonneg h0]⟩
  simp only [opW] at h
  split at h
  · rename_i id sz' b hb hn
    split at h
    · rename_i ql qh e1 e2
      obtain ⟨rfl, h0, h1, h2, hne, h⟩ := h
      refine val_done hR hd hK (fun env hsl _ => ?_) h
      obtain ⟨hid, g, c, he, e⟩ := c_of (hb ▸ ev_sound hsl hx)
      have hbr := bounds_run (P := P) (b := false) (len := n) (cap := n) (p := ql.toNat) (q := qh.toNat) (by omega) (by omega) (hone hsl hlo e1 h0) (hone hsl hhi e2 (by omega)) w
      refine ⟨_, hrun _ _ _ _ e hbr, .c ⟨hid, .inr ⟨g, c, n - ql.toNat, he, ?_, by omega, .inl rfl⟩⟩⟩
      by_cases hz : ql = 0
      · subst hz
        simp [add_lit]
      · have : n ≠ ql.toNat := by omega
        simp [this, add_lit, Nat.add_mul]
    · exact h.elim
  · rename_i l hb hn
    split at h
    · rename_i ql qh e1 e2
      obtain ⟨rfl, h1, h2, hz, hn47, hlen, h⟩ := h
      refine val_done hR hd hK (fun env hsl _ => ?_) h
      obtain ⟨ad, e, r1, r2, U, hU⟩ := c_of (hb ▸ ev_sound hsl hx)
      have hbr := bounds_run (P := P) (b := false) (len := n) (cap := n) (p := (0 : Int).toNat) (q := qh.toNat) (by simp) (by omega) (hone hsl hlo e1 (by omega)) (hone hsl hhi e2 (by omega)) w
      have hck : ∀ (m : Nat) (l : List PV), m * i.size ≤ l.length → (chunkL i.size m l).length = m ∧ (∀ q (h : q < (chunkL i.size m l).length), (chunkL i.size m l)[q].length = i.size) ∧
          ∀ q (h : q < (chunkL i.size m l).length), ∀ j (h' : j < (chunkL i.size m l)[q].length), ∃ h2 : q * i.size + j < l.length, (chunkL i.size m l)[q][j] = l[q * i.size + j] := by
        intro m
        induction m with
        | zero => intro l _; exact ⟨rfl, fun q h => by simp [chunkL] at h, fun q h => by simp [chunkL] at h⟩
        | succ m ih =>
          intro l hl
          rw [Nat.succ_mul] at hl
          obtain ⟨i1, i2, i3⟩ := ih (l.drop i.size) (by simp; omega)
          refine ⟨by simp [chunkL, i1], fun q h => ?_, fun q h j h' => ?_⟩
          · cases q with
            | zero => simp [chunkL]; omega
            | succ q => simp only [chunkL, List.getElem_cons_succ]; exact i2 q (by simpa [chunkL] using h)
          · cases q with
            | zero =>
              have hj : j < i.size := by simp [chunkL] at h'; omega
              exact ⟨by omega, by simp [chunkL]⟩
            | succ q =>
              obtain ⟨g1, g2⟩ := i3 q (by simpa [chunkL] using h) j (by simpa [chunkL] using h')
              simp only [List.length_drop] at g1
              refine ⟨by rw [Nat.succ_mul]; omega, ?_⟩
              simp only [chunkL, List.getElem_cons_succ]
              refine g2.trans ?_
              rw [List.getElem_drop]
              congr 1
              rw [Nat.succ_mul]
              omega
      have hle : qh.toNat * i.size ≤ l.length := Nat.le_trans (Nat.mul_le_mul_right _ (by omega)) hlen
      obtain ⟨c1, c2, c3⟩ := hck qh.toNat l hle
      refine ⟨_, hrun _ _ _ _ e hbr, .c (show PRel _ _ _ _ from ?_)⟩
      refine .sl (fun q j => U (q * i.size + j)) hz (by rw [c1]; simp) (by simp; omega) (by simp; omega) c2 (fun _ => ⟨_, rfl, ?_⟩) (fun ad' e' q hq j hj => ?_) (fun q hq j hj => ?_)
      · split
        · exact r1
        · rw [block_of_add]; exact r1
      · cases e'
        obtain ⟨g1, g2⟩ := c3 q hq j hj
        have := (hU _ g1).1
        simpa [Addr.add] using this
      · obtain ⟨g1, g2⟩ := c3 q hq j hj
        rw [g2]
        exact (hU _ g1).2
    · exact h.elim
  · exact h.elim

end
end Go.Sim
