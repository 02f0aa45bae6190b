/- The model's append over the plain picture: over rows of any cells. Of no program. -/
import Derived.Test.YtahoelmjfgoedaaGreatSimK
import Derived.Laws.AppendOwn
namespace Go.Sim
open Go.RowKit Go.Proofs.YtahoelmjfgoedaaGreat.B

section
variable {P : Program} {w0 w w' : World} {env0 env : Env} {bad0 : Bs} {fps : List Nat} {base : Nat → Prop} {N : Nat} {regs : List Reg} {s : St} {a : Act} {o : Oper}
  {next : Act → World → Prop} {Q : Exit → Act → World → Prop} {K : St → Prop}

/-- An append that needs a new block. -/
theorem app_grow {t ty e : TypeId} {i : TypeInfo} {z : Value} (ht : P.underlying t = some (.slice e)) (hi : P.info? e = some i) (hz : i.zero = some z) (hzs : z.cells.size = i.size)
    {B A : Option Addr} {sl sc m c : Nat} {olds news : List Value} (hB : B = none → sl = 0 ∧ sc = 0) (hlo : olds.length = sl * i.size) (ho : 0 < sl → ∃ ad, B = some ad ∧ ∀ j x, olds[j]? = some x → w.cell? (ad.add j) = some x)
    (hl : news.length = m * i.size) (hn : 0 < m → ∃ ad, A = some ad ∧ ∀ j x, news[j]? = some x → w.cell? (ad.add j) = some x) (h0 : 0 < m) (hg : sc < sl + m) (h1 : sl + m ≤ 140737488355328) (h2 : (sl + m) * i.bytes ≤ 140737488355328) :
    ∃ (cur : Array Value) (cap : Nat), (Builtin.append_ #[t, t] ty #[.slice B sl sc, .slice A m c]).run P w = .ok (.slice (some ⟨w.heap.size, 0, none⟩) (sl + m) cap) (w.drew.alloc (.cells cur e)) ∧
      cur.size = cap * i.size ∧ sl + m ≤ cap ∧ cap ≤ 9223372036854775807 ∧ ∀ (j : Nat) (x : Value), (olds ++ news)[j]? = some x → cur[j]? = some x := by
  obtain ⟨ad, rfl, hnc⟩ := hn h0
  have hge := grownCap_ge w (sl + m) sc e
  have hle := grownCap_le_maxLen w (sl + m) sc e (Nat.le_trans h1 (by decide))
  have hfit : Builtin.nextslicecap (sl + m) sc * i.bytes ≤ 281474976710656 := growslice_fits hg h2
  rcases B with _ | b
  · obtain ⟨rfl, rfl⟩ := hB rfl
    have ho0 : olds = [] := List.eq_nil_of_length_eq_zero (by simpa using hlo)
    subst ho0
    have := run_append_nil (P := P) (w := w) t ty e i z ht hi hz ad m c news hl hnc h0 (by omega) (by simp at h2; omega)
    simp only [Nat.zero_add] at hge hle ⊢
    refine ⟨_, _, this, ?_, hge, Nat.le_trans hle (by decide), fun j x hj => ?_⟩
    · simp [Builtin.zeroCells, hl, hzs, ← Nat.add_mul, Nat.add_sub_cancel' hge]
    · have hjl := (List.getElem?_eq_some_iff.1 hj).1
      simp only [List.nil_append] at hj hjl
      rw [Array.getElem?_append_left (by simpa using hjl)]
      simpa using hj
  · have holds : ∀ j x, olds[j]? = some x → w.cell? (b.add j) = some x := by
      intro j x hj
      rcases Nat.eq_zero_or_pos sl with h | h
      · subst h
        have ho0 : olds = [] := List.eq_nil_of_length_eq_zero (by simpa using hlo)
        subst ho0; simp at hj
      · obtain ⟨ad', e', hc⟩ := ho h
        cases e'
        exact hc j x hj
    have := run_append_grow (P := P) (w := w) t ty e i z ht hi hz b sl sc olds hlo holds ad m c news hl hnc hg (by omega) hfit
    refine ⟨_, _, this, ?_, hge, Nat.le_trans hle (by decide), fun j x hj => ?_⟩
    · simp [Builtin.zeroCells, hl, hlo, hzs, ← Nat.add_mul, Nat.add_sub_cancel' hge]
    · have hjl := (List.getElem?_eq_some_iff.1 hj).1
      rw [Array.getElem?_append_left (by simpa using hjl)]
      simpa using hj

theorem app_exec {u v : Operand} {t : TypeId} {r : Value} (ho : o.op = .call { callee := .builtin .append, args := #[u, v], argTypes := #[t, t] })
    (h : (Builtin.append_ #[t, t] o.type #[a.eval u, a.eval v]).run P w = .ok r w') : (execOp a.eval o).run P w = .ok (.value r) w' := by
  unfold execOp
  simp only [ho, resolve, invoke, builtin, Sem.run_bind, Sem.run_pure, Result.andThen_ok, List.map_toArray, List.map_cons, List.map_nil, h]

/-- Behind an append to a new block. -/
theorem app_newE {sz : Nat} (hpos : 0 < sz) {e : TypeId}
    {cur : Array Value} {cap n : Nat} (hex : (execOp a.eval o).run P w = .ok (.value (.slice (some ⟨w.heap.size, 0, none⟩) n cap)) (w.drew.alloc (.cells cur e)))
    (hcs : cur.size = cap * sz) (hn : n ≤ cap) (hcap : cap ≤ 9223372036854775807) (hts : a.tmps.size = N) (hdf : DsOk bad0 w0 a.defers)
    (hsl : ∀ n, VRel w env (badOf base env s.regs) (lk s.slots n) (a.tmps.getD n undef)) (hev0 : Ev bad0.w env0 bad0.bad w env (badOf base env s.regs)) {regs1 : List Reg} (hrs : RS P w0 w fps base env regs1)
    (hev : Ev w env (badOf base env s.regs) w env (badOf base env regs1)) (hlen : regs1.length = s.regs.length) {L : List (List AC)} (hL : L.length = n) (hLs : ∀ i (h : i < L.length), L[i].length = sz)
    (hrel : ∀ i (h : i < L.length), ∀ j (h' : j < L[i].length), ∃ x, cur[i * sz + j]? = some x ∧ KRel w env (badOf base env s.regs) L[i][j] x)
    (hd : ∀ n, o.dst = some n → n < N) (hk : K (s.putr o.dst (.c (.own s.regs.length 0 sz n .free)) (regs1 ++ [.es sz L])))
    (hK : ∀ s' a' w', K s' → R P w0 env0 bad0 fps base N s' a' w' → next a' w') : o.wp P a w next Q := by
  have hrs1 : RS P w0 w.drew fps base env regs1 := hrs.draw rfl rfl rfl rfl
  have hev1 : Ev w env (badOf base env s.regs) w.drew env (badOf base env regs1) := ⟨⟨Nat.le_refl _, fun _ _ _ => rfl⟩, hev.sub, hev.le⟩
  have hnl : env.n = s.regs.length := hrs.len.trans hlen
  obtain ⟨hrs2, hev2⟩ := hrs1.alloc (w' := w.drew.alloc (.cells cur e)) (r := .es sz L) (o := .cells cur e) (c := cap) rfl (fun bad' h2 => by
    refine ⟨hpos, hLs, .inr ⟨w.heap.size, cap, cur, e, Env.push_at _ _, heap_alloc_new w.drew _, hcs, hcap, by rw [hL]; exact hn, fun i h j h' => ?_⟩⟩
    obtain ⟨x, hx, hp⟩ := hrel i h j h'
    exact ⟨x, hx, KRel.ev h2 (KRel.ev hev1 hp)⟩)
  exact upon_val hex (hK _ _ _ hk (R.put' hts hdf hsl hev0 hrs2 (hev1.trans hev2) hd <| .c ⟨by simp [Env.push, hnl], .inr ⟨w.heap.size, cap, cap, by rw [← hnl]; exact Env.push_at _ _, by simp, hn, .inr (.inr ⟨rfl, rfl, rfl⟩)⟩⟩))


/-- The cells of two lists of elements, one behind the other. -/
theorem rel_appendE {bad : Nat → Prop} {sz : Nat} {X Y : List (List AC)} {xs ys : List Value} (hx : xs.length = X.length * sz) (hX : ∀ i (h : i < X.length), ∀ j (h' : j < X[i].length), ∃ u, xs[i * sz + j]? = some u ∧ KRel w env bad X[i][j] u)
    (hY : ∀ i (h : i < Y.length), ∀ j (h' : j < Y[i].length), ∃ u, ys[i * sz + j]? = some u ∧ KRel w env bad Y[i][j] u) :
    ∀ i (h : i < (X ++ Y).length), ∀ j (h' : j < (X ++ Y)[i].length), ∃ u, (xs ++ ys)[i * sz + j]? = some u ∧ KRel w env bad (X ++ Y)[i][j] u := by
  intro i h j h'
  by_cases hi : i < X.length
  · have e : (X ++ Y)[i] = X[i] := List.getElem_append_left hi
    simp only [e] at h' ⊢
    obtain ⟨u, hu, hp⟩ := hX i hi j h'
    exact ⟨u, by rw [List.getElem?_append_left (List.getElem?_eq_some_iff.1 hu).1]; exact hu, hp⟩
  · have hi' : i - X.length < Y.length := by simp at h; omega
    have e : (X ++ Y)[i] = Y[i - X.length] := List.getElem_append_right (by omega)
    simp only [e] at h' ⊢
    obtain ⟨u, hu, hp⟩ := hY _ hi' j h'
    refine ⟨u, ?_, hp⟩
    have hle : X.length * sz ≤ i * sz := Nat.mul_le_mul_right _ (by omega)
    rw [List.getElem?_append_right (by omega), hx, show i * sz + j - X.length * sz = (i - X.length) * sz + j by rw [Nat.sub_mul]; omega]
    exact hu

theorem sizes_appendE {sz : Nat} {X Y : List (List AC)} (hX : ∀ i (h : i < X.length), X[i].length = sz) (hY : ∀ i (h : i < Y.length), Y[i].length = sz) : ∀ i (h : i < (X ++ Y).length), (X ++ Y)[i].length = sz := by
  intro i h
  by_cases hi : i < X.length
  · rw [List.getElem_append_left hi]; exact hX i hi
  · rw [List.getElem_append_right (by omega)]; exact hY _ _

/-- An append where the slice has no room. -/
theorem app_fullE {x y : Operand} {t e : TypeId} {i : TypeInfo} {z : Value} (ho : o.op = .call { callee := .builtin .append, args := #[x, y], argTypes := #[t, t] })
    (ht : P.underlying t = some (.slice e)) (hi : P.info? e = some i) (hz : i.zero = some z) (hzs : z.cells.size = i.size) (hpos : 0 < i.size)
    (hts : a.tmps.size = N) (hdf : DsOk bad0 w0 a.defers)
    (hsl : ∀ n, VRel w env (badOf base env s.regs) (lk s.slots n) (a.tmps.getD n undef)) (hev0 : Ev bad0.w env0 bad0.bad w env (badOf base env s.regs)) {regs1 : List Reg} (hrs : RS P w0 w fps base env regs1)
    (hev : Ev w env (badOf base env s.regs) w env (badOf base env regs1)) (hlen : regs1.length = s.regs.length)
    {B A : Option Addr} {sc c : Nat} {olds news : List Value} {X Y : List (List AC)} (hx : a.eval x = .slice B X.length sc) (hy : a.eval y = .slice A Y.length c)
    (hB : B = none → X.length = 0 ∧ sc = 0) (hlo : olds.length = X.length * i.size) (hoc : 0 < X.length → ∃ ad, B = some ad ∧ ∀ j x, olds[j]? = some x → w.cell? (ad.add j) = some x)
    (hl : news.length = Y.length * i.size) (hnc : 0 < Y.length → ∃ ad, A = some ad ∧ ∀ j x, news[j]? = some x → w.cell? (ad.add j) = some x) (h0 : 0 < Y.length) (hg : sc < X.length + Y.length) (h1 : X.length + Y.length ≤ 140737488355328)
    (h2 : (X.length + Y.length) * i.bytes ≤ 140737488355328) (hXs : ∀ j (h : j < X.length), X[j].length = i.size) (hYs : ∀ j (h : j < Y.length), Y[j].length = i.size)
    (hX : ∀ q (h : q < X.length), ∀ j (h' : j < X[q].length), ∃ u, olds[q * i.size + j]? = some u ∧ KRel w env (badOf base env s.regs) X[q][j] u)
    (hY : ∀ q (h : q < Y.length), ∀ j (h' : j < Y[q].length), ∃ u, news[q * i.size + j]? = some u ∧ KRel w env (badOf base env s.regs) Y[q][j] u)
    (hd : ∀ n, o.dst = some n → n < N) (hk : K (s.putr o.dst (.c (.own s.regs.length 0 i.size (X.length + Y.length) .free)) (regs1 ++ [.es i.size (X ++ Y)])))
    (hK : ∀ s' a' w', K s' → R P w0 env0 bad0 fps base N s' a' w' → next a' w') : o.wp P a w next Q := by
  obtain ⟨cur, cap, hrun, hcs, hn, hcap, hcells⟩ := app_grow (ty := o.type) ht hi hz hzs hB hlo hoc hl hnc h0 hg h1 h2 (c := c)
  rw [← hx, ← hy] at hrun
  refine app_newE hpos (app_exec ho hrun) hcs hn hcap hts hdf hsl hev0 hrs hev hlen (List.length_append ..) (sizes_appendE hXs hYs) (fun q h j h' => ?_) hd hk hK
  obtain ⟨u, hu, hp⟩ := rel_appendE hlo hX hY q h j h'
  exact ⟨u, hcells _ _ hu, hp⟩
theorem sound_appE {x y : Operand} {ax ay : AX} {t e : TypeId} {i : TypeInfo} {z : Value} (ho : o.op = .call { callee := .builtin .append, args := #[x, y], argTypes := #[t, t] })
    (ht : P.underlying t = some (.slice e)) (hi : P.info? e = some i) (hz : i.zero = some z) (hzs : z.cells.size = i.size) (hpos : 0 < i.size) (hx : trX x = some ax) (hy : trX y = some ay)
    (hd : ∀ n, o.dst = some n → n < N) (h : appE s.regs (s.ev ax) (s.ev ay) i.size i.bytes fun v rg => K (s.putr o.dst v rg)) (hR : R P w0 env0 bad0 fps base N s a w) (hK : ∀ s' a' w', K s' → R P w0 env0 bad0 fps base N s' a' w' → next a' w') : o.wp P a w next Q := by
  obtain ⟨⟨env, hrs, hsl, hev⟩, hts, hdf⟩ := hR
  simp only [appE] at h
  split at h
  rotate_left
  · exact h.elim
  rename_i ls n hls hn
  obtain ⟨rfl, hsz, h⟩ := h
  obtain ⟨A, c, news, hyv, hl, hYs, hY, hone, hnc⟩ := elems_ofX hrs rfl (ev_sound hsl hy) hls hn hsz hpos
  have hvx := ev_sound hsl hx
  split at h
  · -- onto nil
    rename_i he
    rw [he] at hvx
    have hxv := (val_of hvx rfl).1
    obtain ⟨h1, h2, h⟩ := h
    rcases Nat.eq_zero_or_pos ls.length with h0 | h0
    · have hls0 : ls = [] := List.eq_nil_of_length_eq_zero h0
      subst hls0
      obtain ⟨hrs', hev'⟩ := hrs.push_nilE i.size hpos
      refine upon_val (v := .slice none 0 0) (w' := w) (app_exec ho ?_) (hK _ _ _ h (R.put' hts hdf hsl hev hrs' hev' hd (.c ⟨by simp [Env.push, hrs.len], .inl ⟨by rw [← hrs.len]; exact Env.push_at _ _, rfl, rfl, rfl⟩⟩)))
      have hf := fc_run (P := P) (c := c) hl hnc
      rw [hxv, hyv]
      simp only [List.length_nil] at hf ⊢
      have hn0 : news = [] := List.eq_nil_of_length_eq_zero (by simpa using hl)
      subst hn0
      simp [Builtin.append_, run_underlying ht, sizeOf, typeInfo, hi, Builtin.lenOf, hf]
    · exact app_fullE ho ht hi hz hzs hpos hts hdf hsl hev hrs (Ev.refl _ _ _) rfl (B := none) (sc := 0) (X := []) (olds := []) hxv hyv (fun _ => ⟨rfl, rfl⟩) (by simp) (fun h => by simp at h) hl hnc h0
        (by simpa using h0) (by simpa using h1) (by simpa using h2) (fun j h => by simp at h) hYs (fun q h => by simp at h) hY hd (by simpa using h) hK
  · -- onto a row of the call's own, whose room is its block's
    rename_i id sz' len he
    rw [he] at hvx
    split at h
    rotate_left
    · exact h.elim
    rename_i sz'' old hreg0
    obtain ⟨rg0, hreg, hes⟩ := Option.bind_eq_some_iff.1 hreg0
    obtain ⟨rfl, rfl, hle, h1, h2, h⟩ := h
    obtain ⟨hidn, hown⟩ := (c_of hvx : OwnV env id 0 i.size len .free (a.eval x))
    obtain ⟨hk1, hev1⟩ := hrs.kill id
    have htl : (old.take len).length = len := by simp [hle]
    obtain ⟨_, hold, hrow⟩ := (hrs.reg id _ hreg).toEs hes
    rcases hown with ⟨hnone, _, rfl, hxv⟩ | ⟨g, cap, k, hsome, hxv, hlk, hcap⟩
    · -- nil
      simp only [List.take_zero, List.nil_append, Nat.zero_add] at h h1 h2 htl
      rcases Nat.eq_zero_or_pos ls.length with h0 | h0
      · have hls0 : ls = [] := List.eq_nil_of_length_eq_zero h0
        subst hls0
        obtain ⟨hrs', hev'⟩ := hk1.push_nilE i.size hpos
        refine upon_val (v := .slice none 0 0) (w' := w) (app_exec ho ?_) (hK _ _ _ h (R.put' hts hdf hsl hev hrs' (hev1.trans hev') hd (.c ⟨by simp [Env.push, hrs.len], .inl ⟨by rw [← hrs.len]; exact Env.push_at _ _, rfl, rfl, rfl⟩⟩)))
        have hf := fc_run (P := P) (c := c) hl hnc
        rw [hxv, hyv]
        simp only [List.length_nil] at hf ⊢
        have hn0 : news = [] := List.eq_nil_of_length_eq_zero (by simpa using hl)
        subst hn0
        simp [Builtin.append_, run_underlying ht, sizeOf, typeInfo, hi, Builtin.lenOf, hf]
      · exact app_fullE ho ht hi hz hzs hpos hts hdf hsl hev hk1 hev1 (by simp) (B := none) (sc := 0) (X := []) (olds := []) hxv hyv (fun _ => ⟨rfl, rfl⟩) (by simp) (fun h => by simp at h) hl hnc h0
          (by simpa using h0) (by simpa using h1) (by simpa using h2) (fun j h => by simp at h) hYs (fun q h => by simp at h) hY hd (by simpa using h) hK
    · rcases hrow with ⟨hnone, _⟩ | ⟨g', cap', cur, ct, hsome', hheap, hcsz, hcm, hlc, hcells⟩
      · rw [hsome] at hnone; cases hnone
      rw [hsome] at hsome'
      cases hsome'
      obtain rfl : k = cap := by
        rcases hcap with h | h | ⟨_, _, h⟩
        · cases h
        · cases h
        · exact h
      simp only [Nat.zero_mul] at hxv
      by_cases hroom : len + ls.length ≤ k
      · -- there is room
        have hfit : len * i.size + news.length ≤ cur.size := by
          rw [hl, hcsz, ← Nat.add_mul]; exact Nat.mul_le_mul_right _ hroom
        have hrun := app_room (P := P) (w := w) (ty := o.type) ht hi hheap (c := c) hl hnc hone hroom hfit
        rw [← hxv, ← hyv] at hrun
        have hXs : ∀ j (h : j < (old.take len).length), (old.take len)[j].length = i.size := fun j hj => by
          rw [List.getElem_take]; exact hold j _
        obtain ⟨hrs1, hevw⟩ := hrs.write (r' := .es i.size (old.take len ++ ls)) (cs := (cur.toList.take (len * i.size) ++ news ++ cur.toList.drop (len * i.size + news.length)).toArray) hreg (esOf_live hes) hsome rfl (fun hevw => by
          refine ⟨hpos, sizes_appendE hXs hYs, .inr ⟨g, k, _, ct, hsome, setRow_heap w g cur _ ct _ hheap, ?_, hcm, ?_, ?_⟩⟩
          · simp
            omega
          · simp [htl]; omega
          · intro q hq j hj
            have hcl : (cur.toList.take (len * i.size)).length = (old.take len).length * i.size := by
              rw [htl]; simp; omega
            obtain ⟨u, hu, hp⟩ := rel_appendE (w := w) (bad := badOf base env s.regs) (sz := i.size) (X := old.take len) (Y := ls) (xs := cur.toList.take (len * i.size)) (ys := news) hcl (fun q hq j hj => by
              have hq' : q < old.length := by simp at hq; omega
              have hql : q < len := by simp at hq; omega
              have e : (old.take len)[q] = old[q] := List.getElem_take
              simp only [e] at hj ⊢
              obtain ⟨u, hu, hp⟩ := hcells q hq' j hj
              refine ⟨u, ?_, hp⟩
              have hjs : j < i.size := by rw [← hold q hq']; exact hj
              have : q * i.size + j < len * i.size := by
                have : (q + 1) * i.size ≤ len * i.size := Nat.mul_le_mul_right _ hql
                rw [Nat.succ_mul] at this
                omega
              rw [List.getElem?_take_of_lt this]
              simpa using hu) hY q hq j hj
            refine ⟨u, ?_, KRel.ev hevw hp⟩
            rw [List.getElem?_toArray, List.getElem?_append_left (List.getElem?_eq_some_iff.1 hu).1]
            exact hu)
        have hlt : id < s.regs.length := (List.getElem?_eq_some_iff.1 hreg).1
        obtain ⟨hrs2, hevm⟩ := hrs1.moveE (id := id) (sz := i.size) (ls := old.take len ++ ls) (by simp [hlt]) hsome
        rw [List.set_set] at hrs2 hevm
        refine upon_val (app_exec ho hrun) (hK _ _ _ h (R.put' hts hdf hsl hev hrs2 (hevw.trans hevm) hd (.c ⟨by simp [Env.push, hrs.len], .inr ⟨g, k, k, by rw [← hrs.len]; exact Env.push_at _ _, by simp, hroom, .inr (.inr ⟨rfl, rfl, rfl⟩)⟩⟩)))
      · have h0 : 0 < ls.length := by omega
        refine app_fullE ho ht hi hz hzs hpos hts hdf hsl hev hk1 hev1 (by simp) (B := some ⟨g, 0, none⟩) (sc := k) (X := old.take len) (olds := cur.toList.take (len * i.size)) (by rw [htl]; exact hxv) hyv (fun h => by cases h)
          (by rw [htl, List.length_take, Array.length_toList, hcsz]; exact Nat.min_eq_left (Nat.mul_le_mul_right _ hlk)) (fun _ => ⟨_, rfl, fun j x hj => ?_⟩) hl hnc h0 (by rw [htl]; omega) (by rw [htl]; exact h1) (by rw [htl]; exact h2) (fun j hj => by rw [List.getElem_take]; exact hold j _) hYs
          (fun q hq j hj => ?_) hY hd (by rw [htl]; exact h) hK
        · rw [List.getElem?_take] at hj
          split at hj
          · rw [Addr.add_lit, cell_of_row w g _ cur ct (0, 0) hheap]
            simpa using hj
          · cases hj
        · have hq' : q < old.length := by simp at hq; omega
          have hql : q < len := by simp at hq; omega
          have e : (old.take len)[q] = old[q] := List.getElem_take
          simp only [e] at hj ⊢
          obtain ⟨u, hu, hp⟩ := hcells q hq' j hj
          refine ⟨u, ?_, hp⟩
          have hjs : j < i.size := by rw [← hold q hq']; exact hj
          have : q * i.size + j < len * i.size := by
            have : (q + 1) * i.size ≤ len * i.size := Nat.mul_le_mul_right _ hql
            rw [Nat.succ_mul] at this
            omega
          rw [List.getElem?_take_of_lt this]
          simpa using hu
  · -- onto a cut whose room is known, and too small
    rename_i id off sz' len k he
    rw [he] at hvx
    split at h
    rotate_left
    · exact h.elim
    rename_i sz'' old hreg0
    obtain ⟨rg0, hreg, hes⟩ := Option.bind_eq_some_iff.1 hreg0
    obtain ⟨rfl, rfl, hle, hkn, h1, h2, h⟩ := h
    obtain ⟨hidn, hown⟩ := (c_of hvx : OwnV env id off i.size len (.ex k) (a.eval x))
    have htl : ((old.drop off).take len).length = len := by simp; omega
    obtain ⟨_, hold, hrow⟩ := (hrs.reg id _ hreg).toEs hes
    rcases hown with ⟨hnone, rfl, rfl, hxv⟩ | ⟨g, cap, k', hsome, hxv, hlk, hcap⟩
    · rcases Nat.eq_zero_or_pos ls.length with h0 | h0
      · omega
      · exact app_fullE ho ht hi hz hzs hpos hts hdf hsl hev hrs (Ev.refl _ _ _) rfl (B := none) (sc := 0) (X := []) (olds := []) hxv hyv (fun _ => ⟨rfl, rfl⟩) (by simp) (fun h => by simp at h) hl hnc h0
          (by simpa using h0) (by simpa using h1) (by simpa using h2) (fun j h => by simp at h) hYs (fun q h => by simp at h) hY hd (by simpa using h) hK
    · rcases hrow with ⟨hnone, _⟩ | ⟨g', cap', cur, ct, hsome', hheap, hcsz, hcm, hlc, hcells⟩
      · rw [hsome] at hnone; cases hnone
      rw [hsome] at hsome'
      cases hsome'
      obtain rfl : k = k' := by
        rcases hcap with h | h | ⟨h, _⟩
        · cases h; rfl
        · cases h
        · cases h
      have hfit : off * i.size + len * i.size ≤ cur.size := by
        rw [hcsz, ← Nat.add_mul]; exact Nat.mul_le_mul_right _ (by omega)
      have h0 : 0 < ls.length := by omega
      refine app_fullE ho ht hi hz hzs hpos hts hdf hsl hev hrs (Ev.refl _ _ _) rfl (B := some ⟨g, off * i.size, none⟩) (sc := k) (X := (old.drop off).take len) (olds := (cur.toList.drop (off * i.size)).take (len * i.size)) (by rw [htl]; exact hxv) hyv (fun h => by cases h)
        (by rw [htl]; simp; omega) (fun _ => ⟨_, rfl, fun j x hj => ?_⟩) hl hnc h0 (by rw [htl]; omega) (by rw [htl]; exact h1) (by rw [htl]; exact h2) (fun j hj => by rw [List.getElem_take, List.getElem_drop]; exact hold _ _) hYs
        (fun q hq j hj => ?_) hY hd (by rw [htl]; exact h) hK
      · rw [List.getElem?_take] at hj
        split at hj
        · rw [List.getElem?_drop] at hj
          rw [Addr.add_lit, cell_of_row w g _ cur ct (0, 0) hheap]
          simpa using hj
        · cases hj
      · have hql : q < len := by simp at hq; omega
        have hq' : off + q < old.length := by simp at hq; omega
        have e : ((old.drop off).take len)[q] = old[off + q] := by rw [List.getElem_take, List.getElem_drop]
        simp only [e] at hj ⊢
        obtain ⟨u, hu, hp⟩ := hcells (off + q) hq' j hj
        refine ⟨u, ?_, hp⟩
        have hjs : j < i.size := by rw [← hold _ hq']; exact hj
        have : q * i.size + j < len * i.size := by
          have : (q + 1) * i.size ≤ len * i.size := Nat.mul_le_mul_right _ hql
          rw [Nat.succ_mul] at this
          omega
        rw [List.getElem?_take_of_lt this, List.getElem?_drop, show off * i.size + (q * i.size + j) = (off + q) * i.size + j by rw [Nat.add_mul]; omega]
        simpa using hu
  · exact h.elim

end
end Go.Sim
