/- Results that lie in cells; texts held against each other. Of no program. -/
import Derived.Test.YtcfheegmggfkfaaSimV
namespace Go.Sim
open Go.RowKit Go.Proofs.Ytcfheegmggfkfaa.B

/-- Where a result lies: in a slot; in a cell that a slot points to. -/
inductive RV where
  | tmp (t : Nat)
  | cell (a n : Nat) (agg : Bool)
def trR (P : Program) : ResultVar → Option RV
  | .tmp t => some (.tmp t)
  | .cell a t => (P.underlying t).bind fun d => (P.info? t).map fun i => .cell a i.size (aggD d)
def resOne (s : St) : RV → Option AV
  | .tmp t => some (lk s.slots t)
  | .cell a n agg => match lk s.slots a with
    | .c (.ptr id off) => match s.regs[id]? with
      | some (.ac l) => if off + n ≤ l.length then pack agg ((l.drop off).take n) else none
      | _ => none
    | _ => none
def packR : List AV → AV
  | [v] => v
  | vs => .tup vs
def resVar (tmps : Array Value) : ResultVar → Sem Value
  | .tmp t => pure (tmps.getD t undef)
  | .cell a t => do loadVar t (← asAddr (tmps.getD a undef))
theorem results_eq (fn : Func) (tmps : Array Value) : results fn tmps = (do
    let vs ← fn.results.mapM (resVar tmps)
    pure (if h : vs.size = 1 then vs[0] else .tuple vs)) := by
  unfold results
  congr 1

section
variable {P : Program} {w0 w : World} {env0 env : Env} {bad0 : Nat → Prop} {fps : List Nat} {base : Nat → Prop} {N : Nat} {s : St}
theorem res_one {tmps : Array Value} (hrs : RS w0 w fps base env s.regs) (hsl : ∀ n, VRel w env (badOf base env s.regs) (lk s.slots n) (tmps.getD n undef)) {rv : ResultVar} {r : RV} {v : AV} (ht : trR P rv = some r) (h : resOne s r = some v) :
    ∃ u, (resVar tmps rv).run P w = .ok u w ∧ VRel w env (badOf base env s.regs) v u := by
  cases rv with
  | tmp t =>
    cases ht
    cases h
    exact ⟨_, by simp [resVar], hsl t⟩
  | cell a t =>
    simp only [trR, Option.bind_eq_some_iff, Option.map_eq_some_iff] at ht
    obtain ⟨d, hd, i, hi, rfl⟩ := ht
    simp only [resOne] at h
    split at h
    · rename_i id off hb
      split at h
      · rename_i l hl
        split at h
        · rename_i hlen
          have e := hsl a
          rw [hb] at e
          obtain ⟨_, g, c, he, e⟩ := c_of e
          obtain ⟨g', c', cur, ty, he', hg, hsz, hcell⟩ := hrs.reg id _ hl
          rw [he] at he'
          cases he'
          have hcl : l.length = cur.toList.length := by simpa using hsz
          have hall : All2 (CRel w env (badOf base env s.regs)) ((l.drop off).take i.size) ((cur.toList.drop off).take i.size) :=
            all2_of_cells (fun j hj => by
              obtain ⟨u, h1, h2, _⟩ := hcell (off + j) (by omega)
              exact ⟨_, u, List.getElem?_eq_getElem (by omega), by simpa using h1, h2⟩) hlen (by omega)
          obtain ⟨u, hv, h1, h0⟩ := pack_sound hall h
          refine ⟨u, ?_, hv⟩
          simp only [resVar, e]
          cases hag : aggD d with
          | true =>
            have hr := run_loadCells_list (P := P) (w := w) ⟨g, off, none⟩ ((cur.toList.drop off).take i.size) (fun j v hj => by
              rw [add_lit]
              rw [List.getElem?_take] at hj
              split at hj
              · rw [List.getElem?_drop] at hj
                simp [World.cell?, hg]
                simpa using hj
              · cases hj)
            rw [show ((cur.toList.drop off).take i.size).length = i.size by simp; omega] at hr
            simp [asAddr, loadVar, run_isAgg' hd, hag, run_sizeOf' hi, hr, h1 hag]
          | false =>
            have h0' := h0 hag
            have hc0 : w.cell? ⟨g, off, none⟩ = some u := by
              have : ((cur.toList.drop off).take i.size)[0]? = some u := by rw [h0']; rfl
              rw [List.getElem?_take] at this
              split at this
              · simp [World.cell?, hg]
                simpa using this
              · cases this
            simp [asAddr, loadVar, run_isAgg' hd, hag, hc0]
        · cases h
      · cases h
    · cases h

theorem res_all {tmps : Array Value} (hrs : RS w0 w fps base env s.regs) (hsl : ∀ n, VRel w env (badOf base env s.regs) (lk s.slots n) (tmps.getD n undef)) : ∀ {rvs : List ResultVar} {rs : List RV} {vs : List AV}, allOf (trR P) rvs = some rs → allOf (resOne s) rs = some vs →
    ∃ us, (rvs.mapM (resVar tmps)).run P w = .ok us w ∧ All2 (VRel w env (badOf base env s.regs)) vs us
  | [], _, _, h, k => by
    cases h
    cases k
    exact ⟨[], by simp, trivial⟩
  | rv :: rvs, _, _, h, k => by
    simp only [allOf, Option.bind_eq_some_iff, Option.map_eq_some_iff] at h
    obtain ⟨r, hr, rs, hrs', rfl⟩ := h
    simp only [allOf, Option.bind_eq_some_iff, Option.map_eq_some_iff] at k
    obtain ⟨v, hv, vs, hvs, rfl⟩ := k
    obtain ⟨u, hu, huv⟩ := res_one (P := P) hrs hsl hr hv
    obtain ⟨us, hus, husv⟩ := res_all hrs hsl hrs' hvs
    exact ⟨u :: us, by simp [hu, hus], huv, husv⟩

theorem res_run {tmps : Array Value} (hrs : RS w0 w fps base env s.regs) (hsl : ∀ n, VRel w env (badOf base env s.regs) (lk s.slots n) (tmps.getD n undef)) {fn : Func} {rs : List RV} {vs : List AV} (h : allOf (trR P) fn.results.toList = some rs) (k : allOf (resOne s) rs = some vs) :
    ∃ u, (results fn tmps).run P w = .ok u w ∧ VRel w env (badOf base env s.regs) (packR vs) u := by
  obtain ⟨us, hus, hv⟩ := res_all (P := P) hrs hsl h k
  have hm : (fn.results.mapM (resVar tmps)).run P w = .ok us.toArray w := by
    rw [← Array.toArray_toList (xs := fn.results), List.mapM_toArray, Sem.run_map, hus]
    rfl
  have ht : ∀ (vs : List AV) (us : List Value), All2 (VRel w env (badOf base env s.regs)) vs us → VRel w env (badOf base env s.regs) (.tup vs) (.tuple us.toArray) := fun vs us h =>
    .tup h.len fun i h1 h2 => h.get i h1 h2
  rw [results_eq]
  match vs, us, hv with
  | [], [], hv => exact ⟨.tuple #[], by simp [hm], ht _ _ hv⟩
  | [v], [u], hv => exact ⟨u, by simp [hm], hv.1⟩
  | v :: v' :: vs, u :: u' :: us, hv => exact ⟨.tuple (u :: u' :: us).toArray, by simp [hm], ht _ _ hv⟩
end

/-- Where a function with results in cells ends. -/
structure Fin2 (n0 : Nat) (rs : List RV) (K : AV → List Reg → Prop) (e : Exit) (s : St) : Prop where
  he : e = .normal ∨ e = .ret
  ex : ∃ s1 vs, Weak n0 s s1 ∧ allOf (resOne s1) rs = some vs ∧ K (packR vs) s1.regs
theorem Fin2.weak {n0 : Nat} {rs : List RV} {K : AV → List Reg → Prop} {e : Exit} {s s1 : St} {vs : List AV} (he : e = .normal ∨ e = .ret) (hw : Weak n0 s s1) (hv : allOf (resOne s1) rs = some vs) (h : K (packR vs) s1.regs) : Fin2 n0 rs K e s := ⟨he, s1, vs, hw, hv, h⟩

theorem FS_of2 {P : Program} {f : Nat} {fn : Func} {c : Code} {ac : ACode} {args : List AV} {regs : List Reg} {K : AV → List Reg → Prop} (hf : P.funcs[f]? = some fn) (hname : (fn.name == "runtime.NumGoroutine") = false) (hb : fn.body = some c)
    (rs : List RV) (hres : allOf (trR P) fn.results.toList = some rs) (htr : trCode P fn.ntmps c = some ac) (hN : args.length ≤ fn.ntmps)
    (h : codeW P regs.length ac (Fin2 regs.length rs K) ⟨argSlots 0 args, regs⟩) : FS P f args regs K := by
  refine ⟨⟨fn, hf, hname, by rw [hb]; rfl⟩, fun w fps base env vs hrs hargs => calls_of_wp hf hb ?_⟩
  have hlen : vs.length = args.length := hargs.len.symm
  refine h c fn.ntmps htr w env (badOf base env regs) fps base _ w _ hrs.len ⟨⟨env, hrs, fun n => ?_, Ev.refl _ _ _⟩, ?_, rfl⟩ fun e s0 a' w' q0 r0 => ?_
  · have := argSlots_rel (w := w) (env := env) (bad := badOf base env regs) 0 n (fn.ntmps - vs.length) hargs (Nat.zero_le _)
    have e : vs.toArray ++ Array.replicate (fn.ntmps - vs.toArray.size) undef = (vs ++ List.replicate (fn.ntmps - vs.length) undef).toArray := by apply Array.ext'; simp
    rw [e]
    simpa using this
  · simp [hlen]; omega
  · obtain ⟨he, s, vs', hw, hv, hk⟩ := q0
    have r := hw _ _ _ _ _ _ _ _ hrs.len r0
    obtain ⟨⟨env', hrs', hsl, hev⟩, hsz, hdf⟩ := r
    obtain ⟨u, hu, huv⟩ := res_run (P := P) hrs' hsl hres hv
    have hq : a'.defers = [] ∧ ∃ v, (results fn a'.tmps).run P w' = .ok v w' ∧ ∃ v' res regs' env', Ending.returned v = .returned v' ∧ K res regs' ∧ RS w w' fps base env' regs' ∧ VRel w' env' (badOf base env' regs') res v' ∧ Ev w env (badOf base env regs) w' env' (badOf base env' regs') :=
      ⟨hdf, u, hu, _, _, _, env', rfl, hk, hrs', huv, hev⟩
    rcases he with rfl | rfl
    · exact hq
    · exact hq

theorem FS_def2 {P : Program} {f : Nat} {fn : Func} {ac : ACode} {args : List AV} {regs : List Reg} {K : AV → List Reg → Prop} (rs : List RV) (n : Nat) (hf : P.funcs[f]? = some fn)
    (hok : ((fn.name == "runtime.NumGoroutine") = false ∧ allOf (trR P) fn.results.toList = some rs) ∧ fn.ntmps = n ∧ (fn.body.bind (trCode P fn.ntmps)) = some ac) (hN : Nat.ble args.length n = true)
    (h : codeW P regs.length ac (Fin2 regs.length rs K) ⟨argSlots 0 args, regs⟩) : FS P f args regs K := by
  obtain ⟨⟨h1, h2⟩, h3, h4⟩ := hok
  obtain ⟨c, hb, htr⟩ := Option.bind_eq_some_iff.1 h4
  exact FS_of2 hf h1 hb rs h2 htr (by rw [h3]; exact Nat.le_of_ble_eq_true hN) h

section
variable {P : Program} {sl : List (Nat × AV)} {rg : List Reg} {K : St → Prop} {d : Nat} {x y : AX} {a b : ByteArray}
theorem W_seql (hx : valOf (St.ev ⟨sl, rg⟩ x) = some (.string a)) (hy : valOf (St.ev ⟨sl, rg⟩ y) = some (.string b)) (h : K ⟨(d, .c (.p (.v (.bool (a.toList == b.toList))))) :: sl, rg⟩) : opW P (.bin (some d) .eql x y) ⟨sl, rg⟩ K := W_bin hx hy h
theorem W_sneq (hx : valOf (St.ev ⟨sl, rg⟩ x) = some (.string a)) (hy : valOf (St.ev ⟨sl, rg⟩ y) = some (.string b)) (h : K ⟨(d, .c (.p (.v (.bool (!(a.toList == b.toList)))))) :: sl, rg⟩) : opW P (.bin (some d) .neq x y) ⟨sl, rg⟩ K := W_bin hx hy h
end
end Go.Sim
