import Derived.Test.YtcfheegmggfkfaaSimU
import Derived.Test.YtcfheegmggfkfaaCodeC
import Derived.Test.YtcfheegmggfkfaaChecked
import Derived.KernelRfl
namespace Go.Sim
open Go.RowKit Go.Proofs.Ytcfheegmggfkfaa.B Go.Proofs
set_option maxRecDepth 100000
set_option linter.unusedSimpArgs false
set_option linter.unusedVariables false

def ac23 : ACode := (.seq (.reg [⟨none, (some 1), (.box (some 1) (.t 0))⟩, ⟨none, (some 2), (.mv (some 2) (.k (.int .u64 0)))⟩]) (.seq (.reg [⟨none, (some 8), (.load (some 8) 9 true (.t 1))⟩, ⟨none, (some 9), (.call (some 9) 19 [(.t 8)])⟩, ⟨none, (some 10), (.call (some 10) 25 [(.k (.int .i64 128)), (.t 9)])⟩, ⟨none, (some 3), (.mv (some 3) (.t 10))⟩]) (.seq (.seq (.reg [⟨none, (some 11), (.fad (some 11) 0 (.t 1))⟩, ⟨none, (some 12), (.load (some 12) 1 false (.t 11))⟩, ⟨none, (some 13), (.len (some 13) (.t 12))⟩, ⟨none, (some 14), (.mv (some 14) (.k (.int .i64 0)))⟩]) (.block 0 (.loop (.seq (.reg [⟨none, (some 15), (.bin (some 15) .lss (.t 14) (.t 13))⟩]) (.seq (.cond (.t 15) .skip (.exit 0)) (.seq (.block 1 (.seq (.reg [⟨none, (some 16), (.mv (some 16) (.t 14))⟩, ⟨none, (some 17), (.ixs (some 17) 22 (.t 12) (.t 14))⟩, ⟨none, (some 18), (.load (some 18) 22 true (.t 17))⟩, ⟨none, (some 5), (.alloc (some 5) [(.int .i64 0), (.int .i64 0), (.int .i64 0), (.int .i64 0), (.int .i64 0), (.int .i64 0), (.int .i64 0), (.int .i64 0), (.int .i64 0), (.int .i64 0), (.int .i64 0), (.int .i64 0), (.int .i64 0), (.int .i64 0), (.int .i64 0), (.int .i64 0), (.int .i64 0), (.int .i64 0), (.slice none 0 0), (.slice none 0 0), (.slice none 0 0), (.int .i64 0)])⟩, ⟨none, (some 4), (.mv (some 4) (.t 16))⟩, ⟨none, none, (.store 22 (.t 5) (.t 18))⟩]) (.reg [⟨none, (some 19), (.mv (some 19) (.t 3))⟩, ⟨none, (some 20), (.mv (some 20) (.t 4))⟩, ⟨none, (some 21), (.load (some 21) 22 true (.t 5))⟩, ⟨none, (some 22), (.call (some 22) 15 [(.t 21)])⟩, ⟨none, (some 23), (.call (some 23) 25 [(.t 20), (.t 22)])⟩, ⟨none, (some 24), (.bin (some 24) .xor (.t 19) (.t 23))⟩, ⟨none, (some 3), (.mv (some 3) (.t 24))⟩]))) (.reg [⟨none, (some 25), (.bin (some 25) .add (.t 14) (.k (.int .i64 1)))⟩, ⟨none, (some 14), (.mv (some 14) (.t 25))⟩]))))))) (.seq (.seq (.reg [⟨none, (some 26), (.fad (some 26) 1 (.t 1))⟩, ⟨none, (some 27), (.load (some 27) 1 false (.t 26))⟩, ⟨none, (some 28), (.len (some 28) (.t 27))⟩, ⟨none, (some 29), (.mv (some 29) (.k (.int .i64 0)))⟩]) (.block 2 (.loop (.seq (.reg [⟨none, (some 30), (.bin (some 30) .lss (.t 29) (.t 28))⟩]) (.seq (.cond (.t 30) .skip (.exit 2)) (.seq (.block 3 (.seq (.reg [⟨none, (some 31), (.mv (some 31) (.t 29))⟩, ⟨none, (some 32), (.ixs (some 32) 1 (.t 27) (.t 29))⟩, ⟨none, (some 33), (.load (some 33) 1 false (.t 32))⟩, ⟨none, (some 6), (.mv (some 6) (.t 31))⟩, ⟨none, (some 7), (.mv (some 7) (.t 33))⟩]) (.reg [⟨none, (some 34), (.mv (some 34) (.t 3))⟩, ⟨none, (some 35), (.mv (some 35) (.t 6))⟩, ⟨none, (some 36), (.bin (some 36) .add (.k (.int .i64 64)) (.t 35))⟩, ⟨none, (some 37), (.mv (some 37) (.t 7))⟩, ⟨none, (some 38), (.call (some 38) 17 [(.t 37)])⟩, ⟨none, (some 39), (.call (some 39) 25 [(.t 36), (.t 38)])⟩, ⟨none, (some 40), (.bin (some 40) .xor (.t 34) (.t 39))⟩, ⟨none, (some 3), (.mv (some 3) (.t 40))⟩]))) (.reg [⟨none, (some 41), (.bin (some 41) .add (.t 29) (.k (.int .i64 1)))⟩, ⟨none, (some 29), (.mv (some 29) (.t 41))⟩]))))))) (.seq (.reg [⟨none, (some 42), (.mv (some 42) (.t 3))⟩, ⟨none, (some 2), (.mv (some 2) (.t 42))⟩]) .ret)))))
theorem tr23 : ((Try.f23.name == "runtime.NumGoroutine") = false ∧ Try.f23.results = ([2].map ResultVar.tmp).toArray) ∧ Try.f23.ntmps = 43 ∧ (Try.f23.body.bind (trCode Try.prog Try.f23.ntmps)) = some ac23 := ⟨⟨by kernel_rfl, by kernel_rfl⟩, by kernel_rfl, by kernel_rfl⟩



def oct8 (x : Int) : List Int := (List.range 8).map fun t => digit x (8 - 1 - t)
def V (l : List Int) : List Int := l.flatMap oct8
theorem V_append (a b : List Int) : V (a ++ b) = V a ++ V b := by simp [V]
theorem V_len (l : List Int) : (V l).length = 8 * l.length := by
  induction l with
  | nil => rfl
  | cons x l ih => rw [V, List.flatMap_cons, List.length_append, ← V, ih]; simp [oct8]; omega
theorem nums8_V (l : List Int) : nums8 l = ints .u8 (V l) := by
  induction l with
  | nil => rfl
  | cons x l ih =>
    have h : nums8 (x :: l) = nums8 [x] ++ nums8 l := nums8_append [x] l
    have h2 : V (x :: l) = oct8 x ++ V l := rfl
    rw [h, h2, ← digs8, ih]
    simp only [digs, ints, oct8, List.map_append, List.map_map]
    rfl
def wordN (w : Int × Int × Int) : List Int := [w.1, w.2.1, w.2.2]
def wordsN (ws : List (Int × Int × Int)) : List Int := ws.flatMap wordN
def entN (e : Ent) : List Int := [e.1.1, e.1.2.1, e.1.2.2, e.2.1.1, e.2.1.2.1, e.2.1.2.2, e.2.2.1, e.2.2.2]
def entsN (ws : List Ent) : List Int := ws.flatMap entN
def celN (e : Cel) : List Int := [e.1.1, e.1.2.1, e.1.2.2.1, e.1.2.2.2, e.2.1.1, e.2.1.2.1, e.2.1.2.2, e.2.2.1, e.2.2.2.1, e.2.2.2.2]
def celsN (ws : List Cel) : List Int := ws.flatMap celN
theorem words8_N (ws : List (Int × Int × Int)) : words8 ws = nums8 (wordsN ws) := by
  induction ws with
  | nil => rfl
  | cons w ws ih => rw [words8, wordsN, List.flatMap_cons, List.flatMap_cons, nums8_append, ← words8, ← wordsN, ih]; rfl
theorem ents8_N (ws : List Ent) : ents8 ws = nums8 (entsN ws) := by
  induction ws with
  | nil => rfl
  | cons w ws ih =>
    rw [ents8, entsN, List.flatMap_cons, List.flatMap_cons, nums8_append, ← ents8, ← entsN, ih, words8_N, ← nums8_append, ← nums8_append]; rfl
theorem cells8_N (ws : List Cel) : cells8 ws = nums8 (celsN ws) := by
  induction ws with
  | nil => rfl
  | cons w ws ih =>
    rw [cells8, celsN, List.flatMap_cons, List.flatMap_cons, nums8_append, ← cells8, ← celsN, ih, words8_N, ← nums8_append]; rfl
def Thr.ns (th : Thr) : List Int := [th.pc, th.fuel, th.status] ++ wordsN [th.r0, th.r1, th.r2, th.r3] ++ [th.kind, th.i] ++ [th.n] ++ [(th.seen.length : Int)] ++ th.seen ++ [(th.bag.length : Int)] ++ wordsN th.bag ++ [(th.snap.length : Int)] ++ th.snap ++ [th.old]
theorem Thr.octets_ns (th : Thr) : th.octets = nums8 th.ns := by simp only [Thr.octets, Thr.ns, words8_N, nums8_append]
def bufN (b : List Ent) : List Int := (b.length : Int) :: entsN b
theorem bufOctets_ns (b : List Ent) : bufOctets b = nums8 (bufN b) := by
  rw [bufOctets, ents8_N, ← nums8_append]; rfl
def Sta.sharedN (st : Sta) : List Int := [(st.roots.length : Int)] ++ wordsN st.roots ++ [(st.slots.length : Int)] ++ wordsN st.slots ++ [(st.cells.length : Int)] ++ celsN st.cells ++ [(st.free.length : Int)] ++ st.free ++ [st.epoch] ++ [(st.marks.length : Int)] ++ st.marks ++ [(st.counts.length : Int)] ++ st.counts
theorem Sta.shared_ns (st : Sta) : st.sharedOctets = nums8 st.sharedN := by simp only [Sta.sharedOctets, Sta.sharedN, words8_N, cells8_N, nums8_append]
def Sta.ns (st : Sta) : List Int := [(st.threads.length : Int)] ++ st.threads.flatMap Thr.ns ++ [(st.buffers.length : Int)] ++ st.buffers.flatMap bufN ++ st.sharedN
theorem thr8_ns (l : List Thr) : thr8 l = nums8 (l.flatMap Thr.ns) := by
  induction l with
  | nil => rfl
  | cons th l ih => rw [thr8, List.flatMap_cons, ← thr8, ih, Thr.octets_ns, ← nums8_append, List.flatMap_cons]
theorem buf8_ns (l : List (List Ent)) : buf8 l = nums8 (l.flatMap bufN) := by
  induction l with
  | nil => rfl
  | cons b l ih => rw [buf8, List.flatMap_cons, ← buf8, ih, bufOctets_ns, ← nums8_append, List.flatMap_cons]
theorem Sta.octets_ns (st : Sta) : st.octets = nums8 st.ns := by
  simp only [Sta.octets, Sta.bp, Sta.tp, Sta.ns, List.take_length, thr8_ns, buf8_ns, Sta.shared_ns, nums8_append]
theorem Thr.octets_V (th : Thr) : th.octets = ints .u8 (V th.ns) := by rw [Thr.octets_ns, nums8_V]
theorem bufOctets_V (b : List Ent) : bufOctets b = ints .u8 (V (bufN b)) := by rw [bufOctets_ns, nums8_V]
theorem Sta.shared_V (st : Sta) : st.sharedOctets = ints .u8 (V st.sharedN) := by rw [Sta.shared_ns, nums8_V]
theorem Sta.octets_V (st : Sta) : st.octets = ints .u8 (V st.ns) := by rw [Sta.octets_ns, nums8_V]
theorem Thr.V_len (th : Thr) : (V th.ns).length ≤ 1000 + th.bulk := by have := th.octets_len; rwa [Thr.octets_V, ints_len] at this
theorem bufV_len (b : List Ent) : (V (bufN b)).length = 8 + 64 * b.length := by have := bufOctets_len b; rwa [bufOctets_V, ints_len] at this
theorem Sta.sharedV_len (st : Sta) : (V st.sharedN).length ≤ st.bulk + 200 := by have := st.shared_len; rwa [Sta.shared_V, ints_len] at this
def partI (i : Int) (ns : List Int) : Int := sumI (IntKind.u64.wrap i) (V ns) (V ns).length
def hashT (h : Int) : Nat → List Thr → Int
  | _, [] => h
  | i, th :: l => hashT (bits .xor .u64 h (partI i th.ns)) (i + 1) l
theorem hashT_snoc (h : Int) : ∀ (i : Nat) (l : List Thr) (th : Thr), hashT h i (l ++ [th]) = bits .xor .u64 (hashT h i l) (partI ((i + l.length : Nat) : Int) th.ns)
  | i, [], th => by simp [hashT]
  | i, t :: l, th => by
    simp only [List.cons_append, hashT, hashT_snoc _ (i + 1) l th, List.length_cons]
    rw [show i + 1 + l.length = i + (l.length + 1) by omega]
def hashB (h : Int) : Nat → List (List Ent) → Int
  | _, [] => h
  | i, b :: l => hashB (bits .xor .u64 h (partI (IntKind.i64.wrap (64 + i)) (bufN b))) (i + 1) l
theorem hashB_snoc (h : Int) : ∀ (i : Nat) (l : List (List Ent)) (b : List Ent), hashB h i (l ++ [b]) = bits .xor .u64 (hashB h i l) (partI (IntKind.i64.wrap (64 + ((i + l.length : Nat) : Int))) (bufN b))
  | i, [], b => by simp [hashB]
  | i, t :: l, b => by
    simp only [List.cons_append, hashB, hashB_snoc _ (i + 1) l b, List.length_cons]
    rw [show i + 1 + l.length = i + (l.length + 1) by omega]
def Sta.hash0 (st : Sta) : Int := sumI 128 (V st.sharedN) (V st.sharedN).length
def Sta.hash (st : Sta) : Int := hashB (hashT st.hash0 0 st.threads) 0 st.buffers
theorem hash_take {l : List Thr} {h : Int} {i : Nat} (hi : i < l.length) : hashT h 0 (l.take (i + 1)) = bits .xor .u64 (hashT h 0 (l.take i)) (partI (i : Int) (l[i]'hi).ns) := by
  rw [List.take_succ_eq_append_getElem hi, hashT_snoc, List.length_take, Nat.min_eq_left (Nat.le_of_lt hi), Nat.zero_add]
theorem hashB_take {l : List (List Ent)} {h : Int} {i : Nat} (hi : i < l.length) : hashB h 0 (l.take (i + 1)) = bits .xor .u64 (hashB h 0 (l.take i)) (partI (IntKind.i64.wrap (64 + (i : Int))) (bufN (l[i]'hi))) := by
  rw [List.take_succ_eq_append_getElem hi, hashB_snoc, List.length_take, Nat.min_eq_left (Nat.le_of_lt hi), Nat.zero_add]
theorem hash_FS (st : Sta) (hb : st.weight ≤ 900000000) :
    FS Try.prog 23 [.agg (st.row.map .p)] [] fun res rg => res = .c (.p (.v (.int .u64 st.hash))) ∧ rg = [] := by
  refine FS_def [2] 43 Try.func23 tr23 rfl ?_
  unfold ac23
  have hb2 : thrW st.threads + bufW st.buffers + st.bulk + 2000 ≤ 900000000 := hb
  refine codeW_seq fun K1 hK1 => codeW_reg ?_
  refine O_cons (W_it (W_box rfl ?_))
  refine O_cons (W_it (W_mv rfl ?_))
  refine O_nil (hK1 _ ?_)
  clear hK1 K1
  refine codeW_weak (s' := ⟨[(1, .c (.rp st.row))], [.dead]⟩) (Weak.box 0 st.row rfl ⟨.inr ⟨0, rfl, Nat.zero_le _, rfl⟩, trivial⟩ ⟨t_dead (by decide), trivial⟩) ?_
  refine codeW_weak (s' := ⟨[(1, .c (.rp st.row))], []⟩) (Weak.ren [] rfl (by decide) trivial ⟨rfl, trivial⟩) ?_
  refine codeW_seq fun K2 hK2 => codeW_reg ?_
  first | refine O_cons (W_it (W_load_p rfl rfl rfl rfl ?_)) | refine O_cons (W_it (W_load_r rfl rfl rfl ?_)) | refine O_cons (W_it (W_load_e rfl rfl rfl rfl rfl ?_))
  refine O_cons (W_it (W_callF (shared_FS st ?_) [] rfl (by decide) trivial ?_))
  · omega
  rintro _ _ ⟨rfl, rfl⟩
  simp only [St.put, renAV, renAC, renReg, renAVs, setAll, upF, List.map_cons, List.map_nil, List.cons_append, List.nil_append, List.append_nil, List.set_cons_zero, List.set_cons_succ, List.length_cons, List.length_nil, Nat.reduceAdd, Nat.reduceLT, Nat.reduceSub, Nat.not_lt_zero, if_false, if_true, Nat.sub_zero, Nat.add_zero, Nat.zero_add]
  rw [st.shared_V]
  refine O_cons (W_it (W_callF (part_FS _ _ ?_) [] rfl (by decide) trivial ?_))
  · have := st.sharedV_len; omega
  rintro _ _ ⟨rfl, rfl⟩
  simp only [St.put, renAV, renAC, renReg, renAVs, setAll, upF, List.map_cons, List.map_nil, List.cons_append, List.nil_append, List.append_nil, List.set_cons_zero, List.set_cons_succ, List.length_cons, List.length_nil, Nat.reduceAdd, Nat.reduceLT, Nat.reduceSub, Nat.not_lt_zero, if_false, if_true, Nat.sub_zero, Nat.add_zero, Nat.zero_add]
  refine O_cons (W_it (W_mv rfl ?_))
  refine O_nil (hK2 _ ?_)
  clear hK2 K2
  refine codeW_seq fun K3 hK3 => ?_
  refine codeW_seq fun K4 hK4 => codeW_reg ?_
  first | refine O_cons (W_it (W_fad_p rfl ?_)) | refine O_cons (W_it (W_fad_e rfl ?_)) | refine O_cons (W_it (W_fad_r rfl ?_))
  first | refine O_cons (W_it (W_load_p rfl rfl rfl rfl ?_)) | refine O_cons (W_it (W_load_r rfl rfl rfl ?_)) | refine O_cons (W_it (W_load_e rfl rfl rfl rfl rfl ?_))
  refine O_cons (W_it (W_len rfl ?_))
  refine O_cons (W_it (W_mv rfl ?_))
  refine O_nil (hK4 _ ?_)
  clear hK4 K4
  refine codeW_block ?_
  refine codeW_weak (s' := ⟨[(14, .c (.p (.v (.int .i64 ((0 : Nat) : Int))))), (13, .c (.p (.v (.int .i64 (st.threads.length : Int))))), (12, .c (.p (.sl 22 (st.threads.map Thr.cells)))), (3, .c (.p (.v (.int .u64 (hashT st.hash0 0 (st.threads.take 0)))))), (1, .c (.rp st.row))], []⟩) (Weak.ren [] rfl (by decide) trivial ⟨rfl, ?_, rfl, rfl, rfl, trivial⟩) ?_
  · exact congrArg (fun n : Nat => AV.c (.p (.v (.int .i64 (n : Int))))) (List.length_map _)
  refine codeW_loop (fun k s => ∃ i : Nat, i + k = st.threads.length ∧ s = ⟨[(14, .c (.p (.v (.int .i64 (i : Int))))), (13, .c (.p (.v (.int .i64 (st.threads.length : Int))))), (12, .c (.p (.sl 22 (st.threads.map Thr.cells)))), (3, .c (.p (.v (.int .u64 (hashT st.hash0 0 (st.threads.take i)))))), (1, .c (.rp st.row))], []⟩) st.threads.length ⟨0, by omega, rfl⟩ ?_
  rintro k s ⟨i, hik, rfl⟩ K hK
  refine codeW_seq fun K5 hK5 => codeW_reg ?_
  refine O_cons (W_it (W_lss rfl rfl ?_))
  refine O_nil (hK5 _ ?_)
  clear hK5 K5
  refine codeW_seq fun K6 hK6 => ?_
  refine codeW_cond rfl (fun hc0 => ?_) (fun hc0 => ?_)
  · have hi : i < st.threads.length := by have := of_decide_eq_true hc0; omega
    have q2 := thrW_get _ _ hi
    have q4 := thrW_len st.threads
    have q3 := (st.threads[i]'hi).V_len
    refine codeW_skip ?_
    refine (hK6 _ ?_ : K6 _)
    try clear hK6 K6
    refine codeW_seq fun K7 hK7 => ?_
    refine codeW_block ?_
    refine codeW_seq fun K8 hK8 => codeW_reg ?_
    refine O_cons (W_it (W_mv rfl ?_))
    first | refine O_cons (W_it (W_ixs_s rfl rfl (by omega) (thr_geti (i := i) hi) ?_)) | refine O_cons (W_it (W_ixs_o rfl rfl (by omega) (by omega) ?_))
    first | refine O_cons (W_it (W_load_p rfl rfl rfl rfl ?_)) | refine O_cons (W_it (W_load_r rfl rfl rfl ?_)) | refine O_cons (W_it (W_load_e rfl rfl rfl rfl rfl ?_))
    refine O_cons (W_it (W_alloc ?_))
    refine O_cons (W_it (W_mv rfl ?_))
    first | refine O_cons (W_it (W_store_p rfl rfl rfl rfl rfl rfl ?_)) | refine O_cons (W_it (W_store_e rfl rfl rfl rfl rfl rfl rfl ?_))
    refine O_nil (hK8 _ ?_)
    clear hK8 K8
    refine codeW_reg ?_
    refine O_cons (W_it (W_mv rfl ?_))
    refine O_cons (W_it (W_mv rfl ?_))
    first | refine O_cons (W_it (W_load_p rfl rfl rfl rfl ?_)) | refine O_cons (W_it (W_load_r rfl rfl rfl ?_)) | refine O_cons (W_it (W_load_e rfl rfl rfl rfl rfl ?_))
    refine O_cons (W_it (W_callF (thread_FS (st.threads[i]'hi) ?_) [] rfl (by decide) trivial ?_))
    · omega
    rintro _ _ ⟨rfl, rfl⟩
    simp only [St.put, renAV, renAC, renReg, renAVs, setAll, upF, List.map_cons, List.map_nil, List.cons_append, List.nil_append, List.append_nil, List.set_cons_zero, List.set_cons_succ, List.length_cons, List.length_nil, Nat.reduceAdd, Nat.reduceLT, Nat.reduceSub, Nat.not_lt_zero, if_false, if_true, Nat.sub_zero, Nat.add_zero, Nat.zero_add]
    rw [Thr.octets_V]
    refine O_cons (W_it (W_callF (part_FS _ _ ?_) [] rfl (by decide) trivial ?_))
    · omega
    rintro _ _ ⟨rfl, rfl⟩
    simp only [St.put, renAV, renAC, renReg, renAVs, setAll, upF, List.map_cons, List.map_nil, List.cons_append, List.nil_append, List.append_nil, List.set_cons_zero, List.set_cons_succ, List.length_cons, List.length_nil, Nat.reduceAdd, Nat.reduceLT, Nat.reduceSub, Nat.not_lt_zero, if_false, if_true, Nat.sub_zero, Nat.add_zero, Nat.zero_add]
    refine O_cons (W_it (W_xor rfl rfl ?_))
    refine O_cons (W_it (W_mv rfl ?_))
    refine O_nil ?_
    refine (hK7 _ ?_ : K7 _)
    try clear hK7 K7
    refine codeW_reg ?_
    refine O_cons (W_it (W_add rfl rfl ?_))
    refine O_cons (W_it (W_mv rfl ?_))
    refine O_nil ?_
    refine hK _ ⟨k - 1, _, by omega, ?_, i + 1, by omega, rfl⟩
    refine Weak.ren [] rfl (by decide) trivial ⟨?_, rfl, rfl, ?_, rfl, trivial⟩
    · show AV.c (.p (.v (.int .i64 (IntKind.i64.wrap ((i : Int) + 1))))) = _
      rw [wrap64_id (by omega) (by omega)]
      rfl
    · rw [hash_take hi]
      rfl
  · have hi : i = st.threads.length := by have := of_decide_eq_false hc0; omega
    subst hi
    rw [List.take_length]
    refine codeW_exit ?_
    refine (hK3 _ ?_ : K3 _)
    try clear hK3 K3
    refine codeW_seq fun K9 hK9 => ?_
    refine codeW_seq fun K10 hK10 => codeW_reg ?_
    first | refine O_cons (W_it (W_fad_p rfl ?_)) | refine O_cons (W_it (W_fad_e rfl ?_)) | refine O_cons (W_it (W_fad_r rfl ?_))
    first | refine O_cons (W_it (W_load_p rfl rfl rfl rfl ?_)) | refine O_cons (W_it (W_load_r rfl rfl rfl ?_)) | refine O_cons (W_it (W_load_e rfl rfl rfl rfl rfl ?_))
    refine O_cons (W_it (W_len rfl ?_))
    refine O_cons (W_it (W_mv rfl ?_))
    refine O_nil (hK10 _ ?_)
    clear hK10 K10
    refine codeW_block ?_
    refine codeW_weak (s' := ⟨[(29, .c (.p (.v (.int .i64 ((0 : Nat) : Int))))), (28, .c (.p (.v (.int .i64 (st.buffers.length : Int))))), (27, .c (.p (.sl 1 (st.buffers.map fun b => [.sl 8 (ents b)])))), (3, .c (.p (.v (.int .u64 (hashB (hashT st.hash0 0 st.threads) 0 (st.buffers.take 0)))))), (1, .c (.rp st.row))], []⟩) (Weak.ren [] rfl (by decide) trivial ⟨rfl, ?_, rfl, rfl, rfl, trivial⟩) ?_
    · exact congrArg (fun n : Nat => AV.c (.p (.v (.int .i64 (n : Int))))) (List.length_map _)
    refine codeW_loop (fun k s => ∃ i : Nat, i + k = st.buffers.length ∧ s = ⟨[(29, .c (.p (.v (.int .i64 (i : Int))))), (28, .c (.p (.v (.int .i64 (st.buffers.length : Int))))), (27, .c (.p (.sl 1 (st.buffers.map fun b => [.sl 8 (ents b)])))), (3, .c (.p (.v (.int .u64 (hashB (hashT st.hash0 0 st.threads) 0 (st.buffers.take i)))))), (1, .c (.rp st.row))], []⟩) st.buffers.length ⟨0, by omega, rfl⟩ ?_
    rintro k s ⟨i, hik, rfl⟩ K hK
    refine codeW_seq fun K11 hK11 => codeW_reg ?_
    refine O_cons (W_it (W_lss rfl rfl ?_))
    refine O_nil (hK11 _ ?_)
    clear hK11 K11
    refine codeW_seq fun K12 hK12 => ?_
    refine codeW_cond rfl (fun hc1 => ?_) (fun hc1 => ?_)
    · have hi : i < st.buffers.length := by have := of_decide_eq_true hc1; omega
      have q2 := bufW_get _ _ hi
      have q4 := bufW_len st.buffers
      have q3 := bufV_len (st.buffers[i]'hi)
      refine codeW_skip ?_
      refine (hK12 _ ?_ : K12 _)
      try clear hK12 K12
      refine codeW_seq fun K13 hK13 => ?_
      refine codeW_block ?_
      refine codeW_seq fun K14 hK14 => codeW_reg ?_
      refine O_cons (W_it (W_mv rfl ?_))
      first | refine O_cons (W_it (W_ixs_s rfl rfl (by omega) (buf_geti (i := i) hi) ?_)) | refine O_cons (W_it (W_ixs_o rfl rfl (by omega) (by omega) ?_))
      first | refine O_cons (W_it (W_load_p rfl rfl rfl rfl ?_)) | refine O_cons (W_it (W_load_r rfl rfl rfl ?_)) | refine O_cons (W_it (W_load_e rfl rfl rfl rfl rfl ?_))
      refine O_cons (W_it (W_mv rfl ?_))
      refine O_cons (W_it (W_mv rfl ?_))
      refine O_nil (hK14 _ ?_)
      clear hK14 K14
      refine codeW_reg ?_
      refine O_cons (W_it (W_mv rfl ?_))
      refine O_cons (W_it (W_mv rfl ?_))
      refine O_cons (W_it (W_add rfl rfl ?_))
      refine O_cons (W_it (W_mv rfl ?_))
      refine O_cons (W_it (W_callF (buffer_FS (st.buffers[i]'hi) ?_) [] rfl (by decide) trivial ?_))
      · omega
      rintro _ _ ⟨rfl, rfl⟩
      simp only [St.put, renAV, renAC, renReg, renAVs, setAll, upF, List.map_cons, List.map_nil, List.cons_append, List.nil_append, List.append_nil, List.set_cons_zero, List.set_cons_succ, List.length_cons, List.length_nil, Nat.reduceAdd, Nat.reduceLT, Nat.reduceSub, Nat.not_lt_zero, if_false, if_true, Nat.sub_zero, Nat.add_zero, Nat.zero_add]
      rw [show nums8 [((st.buffers[i]'hi).length : Int)] ++ ents8 (st.buffers[i]'hi) = bufOctets (st.buffers[i]'hi) from rfl, bufOctets_V]
      refine O_cons (W_it (W_callF (part_FS _ _ ?_) [] rfl (by decide) trivial ?_))
      · omega
      rintro _ _ ⟨rfl, rfl⟩
      simp only [St.put, renAV, renAC, renReg, renAVs, setAll, upF, List.map_cons, List.map_nil, List.cons_append, List.nil_append, List.append_nil, List.set_cons_zero, List.set_cons_succ, List.length_cons, List.length_nil, Nat.reduceAdd, Nat.reduceLT, Nat.reduceSub, Nat.not_lt_zero, if_false, if_true, Nat.sub_zero, Nat.add_zero, Nat.zero_add]
      refine O_cons (W_it (W_xor rfl rfl ?_))
      refine O_cons (W_it (W_mv rfl ?_))
      refine O_nil ?_
      refine (hK13 _ ?_ : K13 _)
      try clear hK13 K13
      refine codeW_reg ?_
      refine O_cons (W_it (W_add rfl rfl ?_))
      refine O_cons (W_it (W_mv rfl ?_))
      refine O_nil ?_
      refine hK _ ⟨k - 1, _, by omega, ?_, i + 1, by omega, rfl⟩
      refine Weak.ren [] rfl (by decide) trivial ⟨?_, rfl, rfl, ?_, rfl, trivial⟩
      · show AV.c (.p (.v (.int .i64 (IntKind.i64.wrap ((i : Int) + 1))))) = _
        rw [wrap64_id (by omega) (by omega)]
        rfl
      · rw [hashB_take hi]
        rfl
    · have hi : i = st.buffers.length := by have := of_decide_eq_false hc1; omega
      subst hi
      rw [List.take_length]
      refine codeW_exit ?_
      refine (hK9 _ ?_ : K9 _)
      try clear hK9 K9
      refine codeW_seq fun K15 hK15 => codeW_reg ?_
      refine O_cons (W_it (W_mv rfl ?_))
      refine O_cons (W_it (W_mv rfl ?_))
      refine O_nil (hK15 _ ?_)
      clear hK15 K15
      exact codeW_ret (Fin.here (.inr rfl) ⟨rfl, rfl⟩)

def ac24 : ACode := (.seq (.reg [⟨none, (some 1), (.box (some 1) (.t 0))⟩, ⟨none, (some 2), (.mv (some 2) (.k (.int .u64 0)))⟩]) (.seq (.reg [⟨none, (some 6), (.load (some 6) 9 true (.t 1))⟩, ⟨none, (some 7), (.call (some 7) 20 [(.t 6)])⟩, ⟨none, (some 8), (.call (some 8) 26 [(.k (.int .u64 128)), (.t 7)])⟩, ⟨none, (some 3), (.mv (some 3) (.t 8))⟩]) (.seq (.seq (.reg [⟨none, (some 4), (.mv (some 4) (.k (.int .i64 0)))⟩]) (.block 0 (.loop (.seq (.seq (.reg [⟨none, (some 9), (.mv (some 9) (.t 4))⟩, ⟨none, (some 10), (.fad (some 10) 0 (.t 1))⟩, ⟨none, (some 11), (.load (some 11) 1 false (.t 10))⟩, ⟨none, (some 12), (.len (some 12) (.t 11))⟩, ⟨none, (some 13), (.bin (some 13) .lss (.t 9) (.t 12))⟩]) (.cond (.t 13) .skip (.exit 0))) (.seq (.block 1 (.reg [⟨none, (some 16), (.mv (some 16) (.t 3))⟩, ⟨none, (some 17), (.mv (some 17) (.t 4))⟩, ⟨none, (some 18), (.cvi (some 18) .u64 (.t 17))⟩, ⟨none, (some 19), (.fad (some 19) 0 (.t 1))⟩, ⟨none, (some 20), (.load (some 20) 1 false (.t 19))⟩, ⟨none, (some 21), (.mv (some 21) (.t 4))⟩, ⟨none, (some 22), (.ixs (some 22) 22 (.t 20) (.t 21))⟩, ⟨none, (some 23), (.load (some 23) 22 true (.t 22))⟩, ⟨none, (some 24), (.call (some 24) 16 [(.t 23)])⟩, ⟨none, (some 25), (.call (some 25) 26 [(.t 18), (.t 24)])⟩, ⟨none, (some 26), (.bin (some 26) .xor (.t 16) (.t 25))⟩, ⟨none, (some 3), (.mv (some 3) (.t 26))⟩])) (.reg [⟨none, (some 14), (.mv (some 14) (.t 4))⟩, ⟨none, (some 15), (.bin (some 15) .add (.t 14) (.k (.int .i64 1)))⟩, ⟨none, (some 4), (.mv (some 4) (.t 15))⟩])))))) (.seq (.seq (.reg [⟨none, (some 5), (.mv (some 5) (.k (.int .i64 0)))⟩]) (.block 2 (.loop (.seq (.seq (.reg [⟨none, (some 27), (.mv (some 27) (.t 5))⟩, ⟨none, (some 28), (.fad (some 28) 1 (.t 1))⟩, ⟨none, (some 29), (.load (some 29) 1 false (.t 28))⟩, ⟨none, (some 30), (.len (some 30) (.t 29))⟩, ⟨none, (some 31), (.bin (some 31) .lss (.t 27) (.t 30))⟩]) (.cond (.t 31) .skip (.exit 2))) (.seq (.block 3 (.reg [⟨none, (some 34), (.mv (some 34) (.t 3))⟩, ⟨none, (some 35), (.mv (some 35) (.t 5))⟩, ⟨none, (some 36), (.bin (some 36) .add (.k (.int .i64 64)) (.t 35))⟩, ⟨none, (some 37), (.cvi (some 37) .u64 (.t 36))⟩, ⟨none, (some 38), (.fad (some 38) 1 (.t 1))⟩, ⟨none, (some 39), (.load (some 39) 1 false (.t 38))⟩, ⟨none, (some 40), (.mv (some 40) (.t 5))⟩, ⟨none, (some 41), (.ixs (some 41) 1 (.t 39) (.t 40))⟩, ⟨none, (some 42), (.load (some 42) 1 false (.t 41))⟩, ⟨none, (some 43), (.call (some 43) 18 [(.t 42)])⟩, ⟨none, (some 44), (.call (some 44) 26 [(.t 37), (.t 43)])⟩, ⟨none, (some 45), (.bin (some 45) .xor (.t 34) (.t 44))⟩, ⟨none, (some 3), (.mv (some 3) (.t 45))⟩])) (.reg [⟨none, (some 32), (.mv (some 32) (.t 5))⟩, ⟨none, (some 33), (.bin (some 33) .add (.t 32) (.k (.int .i64 1)))⟩, ⟨none, (some 5), (.mv (some 5) (.t 33))⟩])))))) (.seq (.reg [⟨none, (some 46), (.mv (some 46) (.t 3))⟩, ⟨none, (some 2), (.mv (some 2) (.t 46))⟩]) .ret)))))
theorem tr24 : ((Try.f24.name == "runtime.NumGoroutine") = false ∧ Try.f24.results = ([2].map ResultVar.tmp).toArray) ∧ Try.f24.ntmps = 47 ∧ (Try.f24.body.bind (trCode Try.prog Try.f24.ntmps)) = some ac24 := ⟨⟨by kernel_rfl, by kernel_rfl⟩, by kernel_rfl, by kernel_rfl⟩


theorem rhash_FS (st : Sta) (hb : st.weight ≤ 900000000) :
    FS Try.prog 24 [.agg (st.row.map .p)] [] fun res rg => res = .c (.p (.v (.int .u64 st.hash))) ∧ rg = [] := by
  refine FS_def [2] 47 Try.func24 tr24 rfl ?_
  unfold ac24
  have hb2 : thrW st.threads + bufW st.buffers + st.bulk + 2000 ≤ 900000000 := hb
  refine codeW_seq fun K1 hK1 => codeW_reg ?_
  refine O_cons (W_it (W_box rfl ?_))
  refine O_cons (W_it (W_mv rfl ?_))
  refine O_nil (hK1 _ ?_)
  clear hK1 K1
  refine codeW_weak (s' := ⟨[(1, .c (.rp st.row))], [.dead]⟩) (Weak.box 0 st.row rfl ⟨.inr ⟨0, rfl, Nat.zero_le _, rfl⟩, trivial⟩ ⟨t_dead (by decide), trivial⟩) ?_
  refine codeW_weak (s' := ⟨[(1, .c (.rp st.row))], []⟩) (Weak.ren [] rfl (by decide) trivial ⟨rfl, trivial⟩) ?_
  refine codeW_seq fun K2 hK2 => codeW_reg ?_
  first | refine O_cons (W_it (W_load_p rfl rfl rfl rfl ?_)) | refine O_cons (W_it (W_load_r rfl rfl rfl ?_)) | refine O_cons (W_it (W_load_e rfl rfl rfl rfl rfl ?_))
  refine O_cons (W_it (W_callF (rshared_FS st ?_) [] rfl (by decide) trivial ?_))
  · omega
  rintro _ _ ⟨rfl, rfl⟩
  simp only [St.put, renAV, renAC, renReg, renAVs, setAll, upF, List.map_cons, List.map_nil, List.cons_append, List.nil_append, List.append_nil, List.set_cons_zero, List.set_cons_succ, List.length_cons, List.length_nil, Nat.reduceAdd, Nat.reduceLT, Nat.reduceSub, Nat.not_lt_zero, if_false, if_true, Nat.sub_zero, Nat.add_zero, Nat.zero_add]
  rw [st.shared_V]
  refine O_cons (W_it (W_callF (rsum_FS _ _ ?_) [] rfl (by decide) trivial ?_))
  · have := st.sharedV_len; omega
  rintro _ _ ⟨rfl, rfl⟩
  simp only [St.put, renAV, renAC, renReg, renAVs, setAll, upF, List.map_cons, List.map_nil, List.cons_append, List.nil_append, List.append_nil, List.set_cons_zero, List.set_cons_succ, List.length_cons, List.length_nil, Nat.reduceAdd, Nat.reduceLT, Nat.reduceSub, Nat.not_lt_zero, if_false, if_true, Nat.sub_zero, Nat.add_zero, Nat.zero_add]
  refine O_cons (W_it (W_mv rfl ?_))
  refine O_nil (hK2 _ ?_)
  clear hK2 K2
  refine codeW_seq fun K3 hK3 => ?_
  refine codeW_seq fun K4 hK4 => codeW_reg ?_
  refine O_cons (W_it (W_mv rfl ?_))
  refine O_nil (hK4 _ ?_)
  clear hK4 K4
  refine codeW_block ?_
  refine codeW_weak (s' := ⟨[(4, .c (.p (.v (.int .i64 ((0 : Nat) : Int))))), (3, .c (.p (.v (.int .u64 (hashT st.hash0 0 (st.threads.take 0)))))), (1, .c (.rp st.row))], []⟩) (Weak.ren [] rfl (by decide) trivial ⟨rfl, rfl, rfl, trivial⟩) ?_
  refine codeW_loop (fun k s => ∃ i : Nat, i + k = st.threads.length ∧ s = ⟨[(4, .c (.p (.v (.int .i64 (i : Int))))), (3, .c (.p (.v (.int .u64 (hashT st.hash0 0 (st.threads.take i)))))), (1, .c (.rp st.row))], []⟩) st.threads.length ⟨0, by omega, rfl⟩ ?_
  rintro k s ⟨i, hik, rfl⟩ K hK
  refine codeW_seq fun K5 hK5 => ?_
  refine codeW_seq fun K6 hK6 => codeW_reg ?_
  refine O_cons (W_it (W_mv rfl ?_))
  first | refine O_cons (W_it (W_fad_p rfl ?_)) | refine O_cons (W_it (W_fad_e rfl ?_)) | refine O_cons (W_it (W_fad_r rfl ?_))
  first | refine O_cons (W_it (W_load_p rfl rfl rfl rfl ?_)) | refine O_cons (W_it (W_load_r rfl rfl rfl ?_)) | refine O_cons (W_it (W_load_e rfl rfl rfl rfl rfl ?_))
  refine O_cons (W_it (W_len rfl ?_))
  rw [List.length_map]
  refine O_cons (W_it (W_lss rfl rfl ?_))
  refine O_nil (hK6 _ ?_)
  clear hK6 K6
  refine codeW_cond rfl (fun hc0 => ?_) (fun hc0 => ?_)
  · have hi : i < st.threads.length := by have := of_decide_eq_true hc0; omega
    have q2 := thrW_get _ _ hi
    have q4 := thrW_len st.threads
    have q3 := (st.threads[i]'hi).V_len
    refine codeW_skip ?_
    refine (hK5 _ ?_ : K5 _)
    try clear hK5 K5
    refine codeW_seq fun K7 hK7 => ?_
    refine codeW_block ?_
    refine codeW_reg ?_
    refine O_cons (W_it (W_mv rfl ?_))
    refine O_cons (W_it (W_mv rfl ?_))
    refine O_cons (W_it (W_cvi rfl ?_))
    first | refine O_cons (W_it (W_fad_p rfl ?_)) | refine O_cons (W_it (W_fad_e rfl ?_)) | refine O_cons (W_it (W_fad_r rfl ?_))
    first | refine O_cons (W_it (W_load_p rfl rfl rfl rfl ?_)) | refine O_cons (W_it (W_load_r rfl rfl rfl ?_)) | refine O_cons (W_it (W_load_e rfl rfl rfl rfl rfl ?_))
    refine O_cons (W_it (W_mv rfl ?_))
    first | refine O_cons (W_it (W_ixs_s rfl rfl (by omega) (thr_geti (i := i) hi) ?_)) | refine O_cons (W_it (W_ixs_o rfl rfl (by omega) (by omega) ?_))
    first | refine O_cons (W_it (W_load_p rfl rfl rfl rfl ?_)) | refine O_cons (W_it (W_load_r rfl rfl rfl ?_)) | refine O_cons (W_it (W_load_e rfl rfl rfl rfl rfl ?_))
    refine O_cons (W_it (W_callF (rthread_FS (st.threads[i]'hi) ?_) [] rfl (by decide) trivial ?_))
    · omega
    rintro _ _ ⟨rfl, rfl⟩
    simp only [St.put, renAV, renAC, renReg, renAVs, setAll, upF, List.map_cons, List.map_nil, List.cons_append, List.nil_append, List.append_nil, List.set_cons_zero, List.set_cons_succ, List.length_cons, List.length_nil, Nat.reduceAdd, Nat.reduceLT, Nat.reduceSub, Nat.not_lt_zero, if_false, if_true, Nat.sub_zero, Nat.add_zero, Nat.zero_add]
    rw [Thr.octets_V]
    refine O_cons (W_it (W_callF (rsum_FS _ _ ?_) [] rfl (by decide) trivial ?_))
    · omega
    rintro _ _ ⟨rfl, rfl⟩
    simp only [St.put, renAV, renAC, renReg, renAVs, setAll, upF, List.map_cons, List.map_nil, List.cons_append, List.nil_append, List.append_nil, List.set_cons_zero, List.set_cons_succ, List.length_cons, List.length_nil, Nat.reduceAdd, Nat.reduceLT, Nat.reduceSub, Nat.not_lt_zero, if_false, if_true, Nat.sub_zero, Nat.add_zero, Nat.zero_add]
    refine O_cons (W_it (W_xor rfl rfl ?_))
    refine O_cons (W_it (W_mv rfl ?_))
    refine O_nil ?_
    refine (hK7 _ ?_ : K7 _)
    try clear hK7 K7
    refine codeW_reg ?_
    refine O_cons (W_it (W_mv rfl ?_))
    refine O_cons (W_it (W_add rfl rfl ?_))
    refine O_cons (W_it (W_mv rfl ?_))
    refine O_nil ?_
    refine hK _ ⟨k - 1, _, by omega, ?_, i + 1, by omega, rfl⟩
    refine Weak.ren [] rfl (by decide) trivial ⟨?_, ?_, rfl, trivial⟩
    · show AV.c (.p (.v (.int .i64 (IntKind.i64.wrap ((i : Int) + 1))))) = _
      rw [wrap64_id (by omega) (by omega)]
      rfl
    · rw [hash_take hi]
      rfl
  · have hi : i = st.threads.length := by have := of_decide_eq_false hc0; omega
    subst hi
    rw [List.take_length]
    refine codeW_exit ?_
    refine (hK3 _ ?_ : K3 _)
    try clear hK3 K3
    refine codeW_seq fun K8 hK8 => ?_
    refine codeW_seq fun K9 hK9 => codeW_reg ?_
    refine O_cons (W_it (W_mv rfl ?_))
    refine O_nil (hK9 _ ?_)
    clear hK9 K9
    refine codeW_block ?_
    refine codeW_weak (s' := ⟨[(5, .c (.p (.v (.int .i64 ((0 : Nat) : Int))))), (3, .c (.p (.v (.int .u64 (hashB (hashT st.hash0 0 st.threads) 0 (st.buffers.take 0)))))), (1, .c (.rp st.row))], []⟩) (Weak.ren [] rfl (by decide) trivial ⟨rfl, rfl, rfl, trivial⟩) ?_
    refine codeW_loop (fun k s => ∃ i : Nat, i + k = st.buffers.length ∧ s = ⟨[(5, .c (.p (.v (.int .i64 (i : Int))))), (3, .c (.p (.v (.int .u64 (hashB (hashT st.hash0 0 st.threads) 0 (st.buffers.take i)))))), (1, .c (.rp st.row))], []⟩) st.buffers.length ⟨0, by omega, rfl⟩ ?_
    rintro k s ⟨i, hik, rfl⟩ K hK
    refine codeW_seq fun K10 hK10 => ?_
    refine codeW_seq fun K11 hK11 => codeW_reg ?_
    refine O_cons (W_it (W_mv rfl ?_))
    first | refine O_cons (W_it (W_fad_p rfl ?_)) | refine O_cons (W_it (W_fad_e rfl ?_)) | refine O_cons (W_it (W_fad_r rfl ?_))
    first | refine O_cons (W_it (W_load_p rfl rfl rfl rfl ?_)) | refine O_cons (W_it (W_load_r rfl rfl rfl ?_)) | refine O_cons (W_it (W_load_e rfl rfl rfl rfl rfl ?_))
    refine O_cons (W_it (W_len rfl ?_))
    rw [List.length_map]
    refine O_cons (W_it (W_lss rfl rfl ?_))
    refine O_nil (hK11 _ ?_)
    clear hK11 K11
    refine codeW_cond rfl (fun hc1 => ?_) (fun hc1 => ?_)
    · have hi : i < st.buffers.length := by have := of_decide_eq_true hc1; omega
      have q2 := bufW_get _ _ hi
      have q4 := bufW_len st.buffers
      have q3 := bufV_len (st.buffers[i]'hi)
      refine codeW_skip ?_
      refine (hK10 _ ?_ : K10 _)
      try clear hK10 K10
      refine codeW_seq fun K12 hK12 => ?_
      refine codeW_block ?_
      refine codeW_reg ?_
      refine O_cons (W_it (W_mv rfl ?_))
      refine O_cons (W_it (W_mv rfl ?_))
      refine O_cons (W_it (W_add rfl rfl ?_))
      refine O_cons (W_it (W_cvi rfl ?_))
      first | refine O_cons (W_it (W_fad_p rfl ?_)) | refine O_cons (W_it (W_fad_e rfl ?_)) | refine O_cons (W_it (W_fad_r rfl ?_))
      first | refine O_cons (W_it (W_load_p rfl rfl rfl rfl ?_)) | refine O_cons (W_it (W_load_r rfl rfl rfl ?_)) | refine O_cons (W_it (W_load_e rfl rfl rfl rfl rfl ?_))
      refine O_cons (W_it (W_mv rfl ?_))
      first | refine O_cons (W_it (W_ixs_s rfl rfl (by omega) (buf_geti (i := i) hi) ?_)) | refine O_cons (W_it (W_ixs_o rfl rfl (by omega) (by omega) ?_))
      first | refine O_cons (W_it (W_load_p rfl rfl rfl rfl ?_)) | refine O_cons (W_it (W_load_r rfl rfl rfl ?_)) | refine O_cons (W_it (W_load_e rfl rfl rfl rfl rfl ?_))
      refine O_cons (W_it (W_callF (rbuffer_FS (st.buffers[i]'hi) ?_) [] rfl (by decide) trivial ?_))
      · omega
      rintro _ _ ⟨rfl, rfl⟩
      simp only [St.put, renAV, renAC, renReg, renAVs, setAll, upF, List.map_cons, List.map_nil, List.cons_append, List.nil_append, List.append_nil, List.set_cons_zero, List.set_cons_succ, List.length_cons, List.length_nil, Nat.reduceAdd, Nat.reduceLT, Nat.reduceSub, Nat.not_lt_zero, if_false, if_true, Nat.sub_zero, Nat.add_zero, Nat.zero_add]
      rw [bufOctets_V]
      refine O_cons (W_it (W_callF (rsum_FS _ _ ?_) [] rfl (by decide) trivial ?_))
      · omega
      rintro _ _ ⟨rfl, rfl⟩
      simp only [St.put, renAV, renAC, renReg, renAVs, setAll, upF, List.map_cons, List.map_nil, List.cons_append, List.nil_append, List.append_nil, List.set_cons_zero, List.set_cons_succ, List.length_cons, List.length_nil, Nat.reduceAdd, Nat.reduceLT, Nat.reduceSub, Nat.not_lt_zero, if_false, if_true, Nat.sub_zero, Nat.add_zero, Nat.zero_add]
      refine O_cons (W_it (W_xor rfl rfl ?_))
      refine O_cons (W_it (W_mv rfl ?_))
      refine O_nil ?_
      refine (hK12 _ ?_ : K12 _)
      try clear hK12 K12
      refine codeW_reg ?_
      refine O_cons (W_it (W_mv rfl ?_))
      refine O_cons (W_it (W_add rfl rfl ?_))
      refine O_cons (W_it (W_mv rfl ?_))
      refine O_nil ?_
      refine hK _ ⟨k - 1, _, by omega, ?_, i + 1, by omega, rfl⟩
      refine Weak.ren [] rfl (by decide) trivial ⟨?_, ?_, rfl, trivial⟩
      · show AV.c (.p (.v (.int .i64 (IntKind.i64.wrap ((i : Int) + 1))))) = _
        rw [wrap64_id (by omega) (by omega)]
        rfl
      · rw [hashB_take hi]
        rfl
    · have hi : i = st.buffers.length := by have := of_decide_eq_false hc1; omega
      subst hi
      rw [List.take_length]
      refine codeW_exit ?_
      refine (hK8 _ ?_ : K8 _)
      try clear hK8 K8
      refine codeW_seq fun K13 hK13 => codeW_reg ?_
      refine O_cons (W_it (W_mv rfl ?_))
      refine O_cons (W_it (W_mv rfl ?_))
      refine O_nil (hK13 _ ?_)
      clear hK13 K13
      exact codeW_ret (Fin.here (.inr rfl) ⟨rfl, rfl⟩)

end Go.Sim
