/- Results that lie in cells; texts held against each other. Of no program. -/
import Derived.Test.YtahoelmjfgoedaaGreatSimV
import Derived.Test.YtahoelmjfgoedaaGreatSimU
import Derived.RangeFuncOwn
namespace Go.Sim
open Go.RowKit Go.Proofs.YtahoelmjfgoedaaGreat.B

/-- Where a result lies: in a slot; in a cell that a slot points to. -/
inductive RV where
  | tmp (t : Nat)
  | cell (a n : Nat) (agg : Bool)
def trR (P : Program) : ResultVar → Option RV
  | .tmp t => some (.tmp t)
  | .cell a t => (P.underlying t).bind fun d => (P.info? t).map fun i => .cell a i.size (aggD d)
def resOne (s : St) : RV → Option AV
  | .tmp t => some (lk s.slots t)
  | .cell a n agg => match lk s.slots a with
    | .c (.ptr id off) => match s.regs[id]? with
      | some (.ac l) => if off + n ≤ l.length then pack agg ((l.drop off).take n) else none
      | _ => none
    | _ => none
def packR : List AV → AV
  | [v] => v
  | vs => .tup vs
def resVar (tmps : Array Value) : ResultVar → Sem Value
  | .tmp t => pure (tmps.getD t undef)
  | .cell a t => do loadVar t (← asAddr (tmps.getD a undef))
theorem results_eq (fn : Func) (tmps : Array Value) : results fn tmps = (do
    let vs ← fn.results.mapM (resVar tmps)
    pure (if h : vs.size = 1 then vs[0] else .tuple vs)) := by
  unfold results
  congr 1

section
variable {P : Program} {w0 w : World} {env0 env : Env} {bad0 : Bs} {fps : List Nat} {base : Nat → Prop} {N : Nat} {s : St}
theorem res_one {tmps : Array Value} (hrs : RS P w0 w fps base env s.regs) (hsl : ∀ n, VRel w env (badOf base env s.regs) (lk s.slots n) (tmps.getD n undef)) {rv : ResultVar} {r : RV} {v : AV} (ht : trR P rv = some r) (h : resOne s r = some v) :
    ∃ u, (resVar tmps rv).run P w = .ok u w ∧ VRel w env (badOf base env s.regs) v u := by
  cases rv with
  | tmp t =>
    cases ht
    cases h
    exact ⟨_, by simp [resVar], hsl t⟩
  | cell a t =>
    simp only [trR, Option.bind_eq_some_iff, Option.map_eq_some_iff] at ht
    obtain ⟨d, hd, i, hi, rfl⟩ := ht
    simp only [resOne] at h
    split at h
    · rename_i id off hb
      split at h
      · rename_i l hl
        split at h
        · rename_i hlen
          have e := hsl a
          rw [hb] at e
          obtain ⟨_, g, c, he, e⟩ := c_of e
          obtain ⟨g', c', cur, ty, he', hg, hsz, hcell⟩ := hrs.reg id _ hl
          rw [he] at he'
          cases he'
          have hcl : l.length = cur.toList.length := by simpa using hsz
          have hall : All2 (CRel w env (badOf base env s.regs)) ((l.drop off).take i.size) ((cur.toList.drop off).take i.size) :=
            all2_of_cells (fun j hj => by
              obtain ⟨u, h1, h2, _⟩ := hcell (off + j) (by omega)
              exact ⟨_, u, List.getElem?_eq_getElem (by omega), by simpa using h1, h2⟩) hlen (by omega)
          obtain ⟨u, hv, h1, h0⟩ := pack_sound hall h
          refine ⟨u, ?_, hv⟩
          simp only [resVar, e]
          cases hag : aggD d with
          | true =>
            have hr := run_loadCells_list (P := P) (w := w) ⟨g, off, none⟩ ((cur.toList.drop off).take i.size) (fun j v hj => by
              rw [add_lit]
              rw [List.getElem?_take] at hj
              split at hj
              · rw [List.getElem?_drop] at hj
                simp [World.cell?, hg]
                simpa using hj
              · cases hj)
            rw [show ((cur.toList.drop off).take i.size).length = i.size by simp; omega] at hr
            simp [asAddr, loadVar, run_isAgg' hd, hag, run_sizeOf' hi, hr, h1 hag]
          | false =>
            have h0' := h0 hag
            have hc0 : w.cell? ⟨g, off, none⟩ = some u := by
              have : ((cur.toList.drop off).take i.size)[0]? = some u := by rw [h0']; rfl
              rw [List.getElem?_take] at this
              split at this
              · simp [World.cell?, hg]
                simpa using this
              · cases this
            simp [asAddr, loadVar, run_isAgg' hd, hag, hc0]
        · cases h
      · cases h
    · cases h

theorem res_all {tmps : Array Value} (hrs : RS P w0 w fps base env s.regs) (hsl : ∀ n, VRel w env (badOf base env s.regs) (lk s.slots n) (tmps.getD n undef)) : ∀ {rvs : List ResultVar} {rs : List RV} {vs : List AV}, allOf (trR P) rvs = some rs → allOf (resOne s) rs = some vs →
    ∃ us, (rvs.mapM (resVar tmps)).run P w = .ok us w ∧ All2 (VRel w env (badOf base env s.regs)) vs us
  | [], _, _, h, k => by
    cases h
    cases k
    exact ⟨[], by simp, trivial⟩
  | rv :: rvs, _, _, h, k => by
    simp only [allOf, Option.bind_eq_some_iff, Option.map_eq_some_iff] at h
    obtain ⟨r, hr, rs, hrs', rfl⟩ := h
    simp only [allOf, Option.bind_eq_some_iff, Option.map_eq_some_iff] at k
    obtain ⟨v, hv, vs, hvs, rfl⟩ := k
    obtain ⟨u, hu, huv⟩ := res_one (P := P) hrs hsl hr hv
    obtain ⟨us, hus, husv⟩ := res_all hrs hsl hrs' hvs
    exact ⟨u :: us, by simp [hu, hus], huv, husv⟩

theorem res_run {tmps : Array Value} (hrs : RS P w0 w fps base env s.regs) (hsl : ∀ n, VRel w env (badOf base env s.regs) (lk s.slots n) (tmps.getD n undef)) {fn : Func} {rs : List RV} {vs : List AV} (h : allOf (trR P) fn.results.toList = some rs) (k : allOf (resOne s) rs = some vs) :
    ∃ u, (results fn tmps).run P w = .ok u w ∧ VRel w env (badOf base env s.regs) (packR vs) u := by
  obtain ⟨us, hus, hv⟩ := res_all (P := P) hrs hsl h k
  have hm : (fn.results.mapM (resVar tmps)).run P w = .ok us.toArray w := by
    rw [← Array.toArray_toList (xs := fn.results), List.mapM_toArray, Sem.run_map, hus]
    rfl
  have ht : ∀ (vs : List AV) (us : List Value), All2 (VRel w env (badOf base env s.regs)) vs us → VRel w env (badOf base env s.regs) (.tup vs) (.tuple us.toArray) := fun vs us h =>
    .tup h.len fun i h1 h2 => h.get i h1 h2
  rw [results_eq]
  match vs, us, hv with
  | [], [], hv => exact ⟨.tuple #[], by simp [hm], ht _ _ hv⟩
  | [v], [u], hv => exact ⟨u, by simp [hm], hv.1⟩
  | v :: v' :: vs, u :: u' :: us, hv => exact ⟨.tuple (u :: u' :: us).toArray, by simp [hm], ht _ _ hv⟩
end

/-! ### marks of loops over functions -/
section
variable {w : World} {D : Nat} {x : Option (List Deferred)} {o : Obj} (hD : w.heap[D]? = some (.deferred x))
include hD
theorem cell_putD {ad : Addr} {v : Value} (hc : w.cell? ad = some v) : (w.putObj D o).cell? ad = some v := by
  obtain ⟨ob, h1, h2⟩ := cells_of_cell hc
  have hne : ad.block ≠ D := by
    intro e
    rw [e, hD] at h1
    cases h1
    cases h2
  exact (World.cell?_of_block (World.putObj_heap_other hne)).trans hc
theorem PRel.putD {bad : Nat → Prop} {p : PV} {v : Value} (h : PRel w bad p v) : PRel (w.putObj D o) bad p v := by
  induction h with
  | v h => exact .v h
  | sl U hz hn hc hm hsz hA hcell h ih => exact .sl U hz hn hc hm hsz hA (fun ad e i hi j hj => cell_putD hD (hcell ad e i hi j hj)) ih
theorem FRel.putD {env : Env} {bad : Nat → Prop} {p : FA} {v : Value} (h : FRel w env bad p v) : FRel (w.putObj D o) env bad p v := by
  cases p with
  | p y => exact PRel.putD hD h
  | ptr id off => exact h
theorem CRel.putD {env : Env} {bad : Nat → Prop} {p : AC} {v : Value} (h : CRel w env bad p v) : CRel (w.putObj D o) env bad p v := by
  cases p with
  | p y => exact PRel.putD hD h
  | tight sz l => exact ⟨PRel.putD hD h.1, h.2⟩
  | rp cells =>
    obtain ⟨ad, rfl, hn, hlt, U, hU⟩ := h
    exact ⟨ad, rfl, hn, by simpa using hlt, U, fun j hj => ⟨cell_putD hD (hU j hj).1, PRel.putD hD (hU j hj).2⟩⟩
  | fn f a b =>
    obtain ⟨fs, cs, rfl, h1, h2⟩ := h
    exact ⟨fs, cs, rfl, h1.imp fun _ _ h => FRel.putD hD h, h2.imp fun _ _ h => FRel.putD hD h⟩
  | _ => exact h
theorem VRel.putD {env : Env} {bad : Nat → Prop} {p : AV} {v : Value} (h : VRel w env bad p v) : VRel (w.putObj D o) env bad p v := by
  induction h with
  | c h => exact .c (CRel.putD hD h)
  | agg h hk => exact .agg (h.imp fun _ _ h => CRel.putD hD h) hk
  | tup hn _ ih => exact .tup hn ih
theorem RRel.putD {P : Program} {env : Env} {bad : Nat → Prop} {id : Nat} {r : Reg} (h : RRel P w env bad id r) : RRel P (w.putObj D o) env bad id r := by
  have hne : ∀ {g : Nat} {ob : Obj}, w.heap[g]? = some ob → (∀ y, ob ≠ .deferred y) → (w.putObj D o).heap[g]? = some ob := fun {g ob} hg hn =>
    (World.putObj_heap_other (by intro e; rw [e, hD] at hg; cases hg; exact hn _ rfl)).trans hg
  cases r with
  | dead => trivial
  | pc sz ls =>
    obtain ⟨hz, hs, h⟩ := h
    refine ⟨hz, hs, ?_⟩
    rcases h with h | ⟨g, c, cur, t, e, hg, h1, h2, h3, h4⟩
    · exact .inl h
    · exact .inr ⟨g, c, cur, t, e, hne hg (fun _ => by simp), h1, h2, h3, fun i hi j hj => let ⟨u, a, b⟩ := h4 i hi j hj; ⟨u, a, PRel.putD hD b⟩⟩
  | ac l =>
    obtain ⟨g, c, cur, t, e, hg, h1, h4⟩ := h
    exact ⟨g, c, cur, t, e, hne hg (fun _ => by simp), h1, fun j hj => let ⟨u, a, b, d⟩ := h4 j hj; ⟨u, a, CRel.putD hD b, d⟩⟩
  | es sz ls =>
    obtain ⟨hz, hs, h⟩ := h
    refine ⟨hz, hs, ?_⟩
    rcases h with h | ⟨g, c, cur, t, e, hg, h1, h2, h3, h4⟩
    · exact .inl h
    · exact .inr ⟨g, c, cur, t, e, hne hg (fun _ => by simp), h1, h2, h3, fun i hi j hj => let ⟨u, a, b, d⟩ := h4 i hi j hj; ⟨u, a, CRel.putD hD b, d⟩⟩
  | ob ob =>
    obtain ⟨g, c, e, h⟩ := h
    refine ⟨g, c, e, h.carry ?_ fun _ _ r => PRel.putD hD r⟩
    cases ob with
    | mp l =>
      obtain ⟨es, clock, l', h1, _⟩ := h
      exact (hne h1 (fun _ => by simp)).trans h1.symm
    | ch cap q =>
      obtain ⟨buf, s, r, h1, _⟩ := h
      exact (hne h1 (fun _ => by simp)).trans h1.symm
  | lp f j sl st pe =>
    obtain ⟨g, c, L, N, fn, tmps, D', e, hL, hg, hs, h⟩ := h
    exact ⟨g, c, L, N, fn, tmps, D', e, hL, hne hg (fun _ => by simp), hs, fun n => VRel.putD hD (h n)⟩
end
theorem RS.putD {P : Program} {w0 w : World} {fps : List Nat} {base : Nat → Prop} {env : Env} {regs : List Reg} {D : Nat} {x : Option (List Deferred)} {o : Obj} (h : RS P w0 w fps base env regs) (hD : w.heap[D]? = some (.deferred x)) (h0 : w0.heap.size ≤ D) : RS P w0 (w.putObj D o) fps base env regs :=
  ⟨⟨h.keep.os, h.keep.tape, h.keep.output, by simpa using h.keep.size, fun k hk hn => (World.putObj_heap_other (by omega)).trans (h.keep.block k hk hn)⟩, h.base_lt, h.len, fun id r hr => RRel.putD hD (h.reg id r hr), fun id r g c hr hl he => by simpa using h.own id r g c hr hl he, h.inj⟩
theorem Ev.putD {w0 w : World} {env0 env : Env} {bad0 bad : Nat → Prop} {D : Nat} {o : Obj} (h : Ev w0 env0 bad0 w env bad) (h0 : w0.heap.size ≤ D) : Ev w0 env0 bad0 (w.putObj D o) env bad :=
  ⟨⟨by simpa using h.same.size, fun b hb hn => (World.putObj_heap_other (by omega)).trans (h.same.block b hb hn)⟩, h.sub, h.le⟩

theorem leaves_marks {P : Program} {w0 : World} {env0 : Env} {bad0 : Nat → Prop} {fps : List Nat} {base : Nat → Prop} {env : Env} {s : St} {fn : Func} {tmps : Array Value} {rs : List RV} {vs : List AV} {R : Ending → World → Prop}
    (hres : allOf (trR P) fn.results.toList = some rs) (hv : allOf (resOne s) rs = some vs)
    (hR : ∀ u w', RS P w0 w' fps base env s.regs → VRel w' env (badOf base env s.regs) (packR vs) u → Ev w0 env0 bad0 w' env (badOf base env s.regs) → R (.returned u) w') : ∀ (ds : List Deferred) (w : World),
    ds.Nodup → (∀ d ∈ ds, ∃ D, d = { target := .collected D, args := #[] } ∧ w0.heap.size ≤ D ∧ w.heap[D]? = some (.deferred (some []))) → RS P w0 w fps base env s.regs → (∀ n, VRel w env (badOf base env s.regs) (lk s.slots n) (tmps.getD n undef)) → Ev w0 env0 bad0 w env (badOf base env s.regs) →
    LeavesInM (Fw none) 0 P fn tmps R ds .returning w
  | [], w, _, _, hrs, hsl, hev => by
    obtain ⟨u, hu, huv⟩ := res_run (P := P) hrs hsl hres hv
    exact ⟨u, hu, hR u w hrs huv hev⟩
  | d :: ds, w, hnd, hm, hrs, hsl, hev => by
    obtain ⟨D, rfl, h0, hD⟩ := hm d List.mem_cons_self
    rw [List.nodup_cons] at hnd
    refine ⟨by simp, .inl ⟨D, w.putObj D (.deferred none), rfl, run_takeDeferred hD, leaves_marks hres hv hR ds _ hnd.2 (fun d' hd' => ?_) (hrs.putD hD h0) (fun n => VRel.putD hD (hsl n)) (hev.putD h0)⟩⟩
    obtain ⟨D', rfl, h1, h2⟩ := hm d' (List.mem_cons_of_mem _ hd')
    refine ⟨D', rfl, h1, (World.putObj_heap_other ?_).trans h2⟩
    intro e
    exact hnd.1 (by rw [← e]; exact hd')

/-- Where a function with results in cells ends. -/
structure Fin2 (P : Program) (n0 : Nat) (rs : List RV) (K : AV → List Reg → Prop) (e : Exit) (s : St) : Prop where
  he : e = .normal ∨ e = .ret
  ex : ∃ s1 vs, Weak P n0 s s1 ∧ allOf (resOne s1) rs = some vs ∧ K (packR vs) s1.regs
theorem Fin2.weak {P : Program} {n0 : Nat} {rs : List RV} {K : AV → List Reg → Prop} {e : Exit} {s s1 : St} {vs : List AV} (he : e = .normal ∨ e = .ret) (hw : Weak P n0 s s1) (hv : allOf (resOne s1) rs = some vs) (h : K (packR vs) s1.regs) : Fin2 P n0 rs K e s := ⟨he, s1, vs, hw, hv, h⟩

theorem FS_of2 {P : Program} {f : Nat} {fn : Func} {c : Code} {ac : ACode} {args : List AV} {regs : List Reg} {K : AV → List Reg → Prop} (hf : P.funcs[f]? = some fn) (hname : (fn.name == "runtime.NumGoroutine") = false) (hb : fn.body = some c)
    (rs : List RV) (hres : allOf (trR P) fn.results.toList = some rs) (htr : trCode P fn.ntmps f 0 c = some ac) (hN : args.length ≤ fn.ntmps)
    (h : codeW P regs.length none ac (Fin2 P regs.length rs K) ⟨argSlots 0 args, regs⟩) : FS P f args regs K := by
  refine ⟨⟨fn, hf, hname, by rw [hb]; rfl⟩, fun w fps base env vs hrs hargs => (callsIn_Fw (ro := none) (n := 0)).1 (callsIn_of_wp_marks hf hb trivial ?_)⟩
  have hlen : vs.length = args.length := hargs.len.symm
  have hseg : Seg P fn.ntmps f 0 c := fun i L hi => by
    rw [Nat.zero_add]
    simp only [lpOf, hf, hb, Option.bind_some, hi, Option.map_some]
  refine h c fn.ntmps f 0 htr hseg 0 w env ⟨w, badOf base env regs, [], w.heap.size⟩ fps base _ w _ hrs.len ⟨⟨env, hrs, fun n => ?_, Ev.refl _ _ _⟩, ?_, rfl, .nil, fun d hd => by simp at hd, Nat.le_refl _⟩ fun e s0 env1 bad1 a' w' hl q0 r0 => ?_
  · have := argSlots_rel (w := w) (env := env) (bad := badOf base env regs) 0 n (fn.ntmps - vs.length) hargs (Nat.zero_le _)
    have e : vs.toArray ++ Array.replicate (fn.ntmps - vs.toArray.size) undef = (vs ++ List.replicate (fn.ntmps - vs.length) undef).toArray := by apply Array.ext'; simp
    rw [e]
    simpa using this
  · simp [hlen]; omega
  · obtain ⟨he, s, vs', hw, hv, hk⟩ := q0
    have r := hw _ _ _ _ _ _ _ _ (hl.2.1.trans hrs.len) r0
    obtain ⟨⟨env', hrs', hsl, hev⟩, hsz, hds, hnd, hmk, hlo⟩ := r
    have hq : LeavesInM (Fw none) 0 P fn a'.tmps (fun e w' => ∃ v res regs' env', e = .returned v ∧ K res regs' ∧ RS P w w' fps base env' regs' ∧ VRel w' env' (badOf base env' regs') res v ∧ Ev w env (badOf base env regs) w' env' (badOf base env' regs')) a'.defers .returning w' := by
      rw [hds]
      refine leaves_marks (s := s) (env := env') (w0 := w) (env0 := env) (bad0 := badOf base env regs) hres hv (fun u w2 hrs2 hv2 hev2 => ?_) bad1.ds w' hnd (fun d hd => ?_) hrs' hsl (hl.1.trans hev)
      · exact ⟨u, _, _, env', rfl, hk, hrs2, hv2, hev2⟩
      · obtain ⟨D, rfl, h0, h1, h2, h3⟩ := hmk d hd
        exact ⟨D, rfl, by rw [hl.2.2] at h0; exact h0, (hev.same.block D h1 h2).trans h3⟩
    rcases he with rfl | rfl
    · exact hq
    · exact hq
end Go.Sim
