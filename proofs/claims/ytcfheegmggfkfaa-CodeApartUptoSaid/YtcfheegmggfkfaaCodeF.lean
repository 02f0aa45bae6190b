import Derived.Test.YtcfheegmggfkfaaSimW
import Derived.Test.YtcfheegmggfkfaaCodeE
import Derived.Test.YtcfheegmggfkfaaChecked
import Derived.KernelRfl
namespace Go.Sim
open Go.RowKit Go.Proofs.Ytcfheegmggfkfaa.B Go.Proofs
set_option maxRecDepth 100000
set_option linter.unusedSimpArgs false
set_option linter.unusedVariables false

theorem near_min (n k : Nat) : near (n : Int) 0 (k : Int) = ((min n k : Nat) : Int) := by
  simp only [near]
  split
  · omega
  · split <;> omega
theorem few_map {α β : Type} (f : α → β) (l : List α) (k : Nat) : (l.map f).take (min (l.map f).length k) = (l.take k).map f := by
  rw [List.map_take]
  rcases Nat.le_total (l.map f).length k with h | h
  · rw [Nat.min_eq_left h, List.take_length, List.take_of_length_le h]
  · rw [Nat.min_eq_right h]
theorem few_words (l : List (Int × Int × Int)) (k : Nat) : (words l).take (min (words l).length k) = words (l.take k) := few_map _ l k
theorem few_cels (l : List Cel) (k : Nat) : (cels l).take (min (cels l).length k) = cels (l.take k) := few_map _ l k
theorem few_ints (l : List Int) (k : Nat) : (ints .i64 l).take (min (ints .i64 l).length k) = ints .i64 (l.take k) := few_map _ l k
def Sta.few1 (st : Sta) : Sta := { st with threads := st.threads.take 4 }
def Sta.few2 (st : Sta) : Sta := { st.few1 with buffers := st.buffers.take 4 }
def Sta.few3 (st : Sta) : Sta := { st.few2 with roots := st.roots.take 6 }
def Sta.few4 (st : Sta) : Sta := { st.few3 with slots := st.slots.take 8 }
def Sta.few5 (st : Sta) : Sta := { st.few4 with cells := st.cells.take 6 }
def Sta.few (st : Sta) : Sta := { st.few5 with free := st.free.take 8 }

def ac14 : ACode := (.seq (.reg [⟨none, (some 1), (.box (some 1) (.t 0))⟩, ⟨none, (some 2), (.alloc (some 2) [(.slice none 0 0), (.slice none 0 0), (.slice none 0 0), (.slice none 0 0), (.slice none 0 0), (.slice none 0 0), (.int .i64 0), (.slice none 0 0), (.slice none 0 0)])⟩]) (.seq (.par [⟨none, (some 3), (.fad (some 3) 0 (.t 1))⟩, ⟨none, (some 4), (.load (some 4) 1 false (.t 3))⟩, ⟨none, (some 5), (.fad (some 5) 0 (.t 1))⟩, ⟨none, (some 6), (.load (some 6) 1 false (.t 5))⟩, ⟨none, (some 7), (.len (some 7) (.t 6))⟩, ⟨none, (some 8), (.call (some 8) 28 [(.t 7), (.k (.int .i64 0)), (.k (.int .i64 4))])⟩, ⟨none, (some 9), (.sls (some 9) 22 (.t 4) none (some (.t 8)) none)⟩, ⟨none, (some 10), (.fad (some 10) 0 (.t 1))⟩] [⟨none, none, (.store 1 (.t 10) (.t 9))⟩]) (.seq (.par [⟨none, (some 11), (.fad (some 11) 1 (.t 1))⟩, ⟨none, (some 12), (.load (some 12) 1 false (.t 11))⟩, ⟨none, (some 13), (.fad (some 13) 1 (.t 1))⟩, ⟨none, (some 14), (.load (some 14) 1 false (.t 13))⟩, ⟨none, (some 15), (.len (some 15) (.t 14))⟩, ⟨none, (some 16), (.call (some 16) 28 [(.t 15), (.k (.int .i64 0)), (.k (.int .i64 4))])⟩, ⟨none, (some 17), (.sls (some 17) 1 (.t 12) none (some (.t 16)) none)⟩, ⟨none, (some 18), (.fad (some 18) 1 (.t 1))⟩] [⟨none, none, (.store 1 (.t 18) (.t 17))⟩]) (.seq (.par [⟨none, (some 19), (.fad (some 19) 2 (.t 1))⟩, ⟨none, (some 20), (.load (some 20) 1 false (.t 19))⟩, ⟨none, (some 21), (.fad (some 21) 2 (.t 1))⟩, ⟨none, (some 22), (.load (some 22) 1 false (.t 21))⟩, ⟨none, (some 23), (.len (some 23) (.t 22))⟩, ⟨none, (some 24), (.call (some 24) 28 [(.t 23), (.k (.int .i64 0)), (.k (.int .i64 6))])⟩, ⟨none, (some 25), (.sls (some 25) 3 (.t 20) none (some (.t 24)) none)⟩, ⟨none, (some 26), (.fad (some 26) 2 (.t 1))⟩] [⟨none, none, (.store 1 (.t 26) (.t 25))⟩]) (.seq (.par [⟨none, (some 27), (.fad (some 27) 3 (.t 1))⟩, ⟨none, (some 28), (.load (some 28) 1 false (.t 27))⟩, ⟨none, (some 29), (.fad (some 29) 3 (.t 1))⟩, ⟨none, (some 30), (.load (some 30) 1 false (.t 29))⟩, ⟨none, (some 31), (.len (some 31) (.t 30))⟩, ⟨none, (some 32), (.call (some 32) 28 [(.t 31), (.k (.int .i64 0)), (.k (.int .i64 8))])⟩, ⟨none, (some 33), (.sls (some 33) 3 (.t 28) none (some (.t 32)) none)⟩, ⟨none, (some 34), (.fad (some 34) 3 (.t 1))⟩] [⟨none, none, (.store 1 (.t 34) (.t 33))⟩]) (.seq (.par [⟨none, (some 35), (.fad (some 35) 4 (.t 1))⟩, ⟨none, (some 36), (.load (some 36) 1 false (.t 35))⟩, ⟨none, (some 37), (.fad (some 37) 4 (.t 1))⟩, ⟨none, (some 38), (.load (some 38) 1 false (.t 37))⟩, ⟨none, (some 39), (.len (some 39) (.t 38))⟩, ⟨none, (some 40), (.call (some 40) 28 [(.t 39), (.k (.int .i64 0)), (.k (.int .i64 6))])⟩, ⟨none, (some 41), (.sls (some 41) 10 (.t 36) none (some (.t 40)) none)⟩, ⟨none, (some 42), (.fad (some 42) 4 (.t 1))⟩] [⟨none, none, (.store 1 (.t 42) (.t 41))⟩]) (.seq (.par [⟨none, (some 43), (.fad (some 43) 5 (.t 1))⟩, ⟨none, (some 44), (.load (some 44) 1 false (.t 43))⟩, ⟨none, (some 45), (.fad (some 45) 5 (.t 1))⟩, ⟨none, (some 46), (.load (some 46) 1 false (.t 45))⟩, ⟨none, (some 47), (.len (some 47) (.t 46))⟩, ⟨none, (some 48), (.call (some 48) 28 [(.t 47), (.k (.int .i64 0)), (.k (.int .i64 8))])⟩, ⟨none, (some 49), (.sls (some 49) 1 (.t 44) none (some (.t 48)) none)⟩, ⟨none, (some 50), (.fad (some 50) 5 (.t 1))⟩] [⟨none, none, (.store 1 (.t 50) (.t 49))⟩]) (.seq (.reg [⟨none, (some 51), (.load (some 51) 9 true (.t 1))⟩, ⟨none, none, (.store 9 (.t 2) (.t 51))⟩]) .ret))))))))

theorem tr14 : ((Try.f14.name == "runtime.NumGoroutine") = false ∧ allOf (trR Try.prog) Try.f14.results.toList = some [.cell 2 9 true]) ∧ Try.f14.ntmps = 52 ∧ (Try.f14.body.bind (trCode Try.prog Try.f14.ntmps)) = some ac14 := ⟨⟨by kernel_rfl, by kernel_rfl⟩, by kernel_rfl, by kernel_rfl⟩

theorem few_FS0 (st : Sta) : FS Try.prog 14 [.agg (st.row.map .p)] [] fun res rg => res = .agg (st.few.row.map .p) ∧ rg = [.ac (st.few.row.map .p)] := by
  refine FS_def2 [.cell 2 9 true] 52 Try.func14 tr14 rfl ?_
  unfold ac14
  refine codeW_seq fun K1 hK1 => codeW_reg ?_
  refine O_cons (W_it (W_box rfl ?_))
  refine O_cons (W_it (W_alloc ?_))
  refine O_nil (hK1 _ ?_)
  clear hK1 K1
  refine codeW_weak (s' := ⟨[(2, .c (.ptr 1 0)), (1, .c (.ptr 0 0))], [.ac (st.row.map .p), .ac (([.slice none 0 0, .slice none 0 0, .slice none 0 0, .slice none 0 0, .slice none 0 0, .slice none 0 0, .int .i64 0, .slice none 0 0, .slice none 0 0] : List Value).map fun z => .p (.v z))]⟩) (Weak.ren [0, 1] rfl (by decide) ⟨.inr rfl, .inr rfl, trivial⟩ ⟨rfl, rfl, trivial⟩) ?_
  refine codeW_seq fun K2 hK2 => codeW_par ?_
  first | refine V_cons (fun K hK => W_it (W_fad_p rfl hK)) ?_ | refine V_cons (fun K hK => W_it (W_fad_e rfl hK)) ?_ | refine V_cons (fun K hK => W_it (W_fad_r rfl hK)) ?_
  first | refine V_cons (fun K hK => W_it (W_load_p rfl rfl rfl rfl hK)) ?_ | refine V_cons (fun K hK => W_it (W_load_r rfl rfl rfl hK)) ?_ | refine V_cons (fun K hK => W_it (W_load_e rfl rfl rfl rfl rfl hK)) ?_
  first | refine V_cons (fun K hK => W_it (W_fad_p rfl hK)) ?_ | refine V_cons (fun K hK => W_it (W_fad_e rfl hK)) ?_ | refine V_cons (fun K hK => W_it (W_fad_r rfl hK)) ?_
  first | refine V_cons (fun K hK => W_it (W_load_p rfl rfl rfl rfl hK)) ?_ | refine V_cons (fun K hK => W_it (W_load_r rfl rfl rfl hK)) ?_ | refine V_cons (fun K hK => W_it (W_load_e rfl rfl rfl rfl rfl hK)) ?_
  refine V_cons (fun K hK => W_it (W_len rfl hK)) ?_
  refine V_cons (fun K hK => W_it (W_callF (near_FS _ _ _) [] rfl (by decide) trivial fun res rg h => by obtain ⟨rfl, rfl⟩ := h; exact hK)) ?_
  refine V_cons (fun K hK => W_it (W_sls_s0 (qn := min (st.threads.map Thr.cells).length 4) rfl rfl (near_min _ 4) (Nat.min_le_left _ _) hK)) ?_
  rw [few_map]
  first | refine V_cons (fun K hK => W_it (W_fad_p rfl hK)) ?_ | refine V_cons (fun K hK => W_it (W_fad_e rfl hK)) ?_ | refine V_cons (fun K hK => W_it (W_fad_r rfl hK)) ?_
  refine V_nil ?_
  first | refine O_cons (W_it (W_store_p rfl rfl rfl rfl rfl rfl ?_)) | refine O_cons (W_it (W_store_e rfl rfl rfl rfl rfl rfl rfl ?_))
  refine O_nil (hK2 _ ?_)
  clear hK2 K2
  refine codeW_weak (s' := ⟨[(2, .c (.ptr 1 0)), (1, .c (.ptr 0 0))], [.ac (st.few1.row.map .p), .ac (([.slice none 0 0, .slice none 0 0, .slice none 0 0, .slice none 0 0, .slice none 0 0, .slice none 0 0, .int .i64 0, .slice none 0 0, .slice none 0 0] : List Value).map fun z => .p (.v z))]⟩) (Weak.ren [0, 1] rfl (by decide) ⟨.inr rfl, .inr rfl, trivial⟩ ⟨rfl, rfl, trivial⟩) ?_
  refine codeW_seq fun K3 hK3 => codeW_par ?_
  first | refine V_cons (fun K hK => W_it (W_fad_p rfl hK)) ?_ | refine V_cons (fun K hK => W_it (W_fad_e rfl hK)) ?_ | refine V_cons (fun K hK => W_it (W_fad_r rfl hK)) ?_
  first | refine V_cons (fun K hK => W_it (W_load_p rfl rfl rfl rfl hK)) ?_ | refine V_cons (fun K hK => W_it (W_load_r rfl rfl rfl hK)) ?_ | refine V_cons (fun K hK => W_it (W_load_e rfl rfl rfl rfl rfl hK)) ?_
  first | refine V_cons (fun K hK => W_it (W_fad_p rfl hK)) ?_ | refine V_cons (fun K hK => W_it (W_fad_e rfl hK)) ?_ | refine V_cons (fun K hK => W_it (W_fad_r rfl hK)) ?_
  first | refine V_cons (fun K hK => W_it (W_load_p rfl rfl rfl rfl hK)) ?_ | refine V_cons (fun K hK => W_it (W_load_r rfl rfl rfl hK)) ?_ | refine V_cons (fun K hK => W_it (W_load_e rfl rfl rfl rfl rfl hK)) ?_
  refine V_cons (fun K hK => W_it (W_len rfl hK)) ?_
  refine V_cons (fun K hK => W_it (W_callF (near_FS _ _ _) [] rfl (by decide) trivial fun res rg h => by obtain ⟨rfl, rfl⟩ := h; exact hK)) ?_
  refine V_cons (fun K hK => W_it (W_sls_s0 (qn := min (st.few1.buffers.map fun b => [PV.sl 8 (ents b)]).length 4) rfl rfl (near_min _ 4) (Nat.min_le_left _ _) hK)) ?_
  rw [few_map]
  first | refine V_cons (fun K hK => W_it (W_fad_p rfl hK)) ?_ | refine V_cons (fun K hK => W_it (W_fad_e rfl hK)) ?_ | refine V_cons (fun K hK => W_it (W_fad_r rfl hK)) ?_
  refine V_nil ?_
  first | refine O_cons (W_it (W_store_p rfl rfl rfl rfl rfl rfl ?_)) | refine O_cons (W_it (W_store_e rfl rfl rfl rfl rfl rfl rfl ?_))
  refine O_nil (hK3 _ ?_)
  clear hK3 K3
  refine codeW_weak (s' := ⟨[(2, .c (.ptr 1 0)), (1, .c (.ptr 0 0))], [.ac (st.few2.row.map .p), .ac (([.slice none 0 0, .slice none 0 0, .slice none 0 0, .slice none 0 0, .slice none 0 0, .slice none 0 0, .int .i64 0, .slice none 0 0, .slice none 0 0] : List Value).map fun z => .p (.v z))]⟩) (Weak.ren [0, 1] rfl (by decide) ⟨.inr rfl, .inr rfl, trivial⟩ ⟨rfl, rfl, trivial⟩) ?_
  refine codeW_seq fun K4 hK4 => codeW_par ?_
  first | refine V_cons (fun K hK => W_it (W_fad_p rfl hK)) ?_ | refine V_cons (fun K hK => W_it (W_fad_e rfl hK)) ?_ | refine V_cons (fun K hK => W_it (W_fad_r rfl hK)) ?_
  first | refine V_cons (fun K hK => W_it (W_load_p rfl rfl rfl rfl hK)) ?_ | refine V_cons (fun K hK => W_it (W_load_r rfl rfl rfl hK)) ?_ | refine V_cons (fun K hK => W_it (W_load_e rfl rfl rfl rfl rfl hK)) ?_
  first | refine V_cons (fun K hK => W_it (W_fad_p rfl hK)) ?_ | refine V_cons (fun K hK => W_it (W_fad_e rfl hK)) ?_ | refine V_cons (fun K hK => W_it (W_fad_r rfl hK)) ?_
  first | refine V_cons (fun K hK => W_it (W_load_p rfl rfl rfl rfl hK)) ?_ | refine V_cons (fun K hK => W_it (W_load_r rfl rfl rfl hK)) ?_ | refine V_cons (fun K hK => W_it (W_load_e rfl rfl rfl rfl rfl hK)) ?_
  refine V_cons (fun K hK => W_it (W_len rfl hK)) ?_
  refine V_cons (fun K hK => W_it (W_callF (near_FS _ _ _) [] rfl (by decide) trivial fun res rg h => by obtain ⟨rfl, rfl⟩ := h; exact hK)) ?_
  refine V_cons (fun K hK => W_it (W_sls_s0 (qn := min (words st.few2.roots).length 6) rfl rfl (near_min _ 6) (Nat.min_le_left _ _) hK)) ?_
  rw [few_words]
  first | refine V_cons (fun K hK => W_it (W_fad_p rfl hK)) ?_ | refine V_cons (fun K hK => W_it (W_fad_e rfl hK)) ?_ | refine V_cons (fun K hK => W_it (W_fad_r rfl hK)) ?_
  refine V_nil ?_
  first | refine O_cons (W_it (W_store_p rfl rfl rfl rfl rfl rfl ?_)) | refine O_cons (W_it (W_store_e rfl rfl rfl rfl rfl rfl rfl ?_))
  refine O_nil (hK4 _ ?_)
  clear hK4 K4
  refine codeW_weak (s' := ⟨[(2, .c (.ptr 1 0)), (1, .c (.ptr 0 0))], [.ac (st.few3.row.map .p), .ac (([.slice none 0 0, .slice none 0 0, .slice none 0 0, .slice none 0 0, .slice none 0 0, .slice none 0 0, .int .i64 0, .slice none 0 0, .slice none 0 0] : List Value).map fun z => .p (.v z))]⟩) (Weak.ren [0, 1] rfl (by decide) ⟨.inr rfl, .inr rfl, trivial⟩ ⟨rfl, rfl, trivial⟩) ?_
  refine codeW_seq fun K5 hK5 => codeW_par ?_
  first | refine V_cons (fun K hK => W_it (W_fad_p rfl hK)) ?_ | refine V_cons (fun K hK => W_it (W_fad_e rfl hK)) ?_ | refine V_cons (fun K hK => W_it (W_fad_r rfl hK)) ?_
  first | refine V_cons (fun K hK => W_it (W_load_p rfl rfl rfl rfl hK)) ?_ | refine V_cons (fun K hK => W_it (W_load_r rfl rfl rfl hK)) ?_ | refine V_cons (fun K hK => W_it (W_load_e rfl rfl rfl rfl rfl hK)) ?_
  first | refine V_cons (fun K hK => W_it (W_fad_p rfl hK)) ?_ | refine V_cons (fun K hK => W_it (W_fad_e rfl hK)) ?_ | refine V_cons (fun K hK => W_it (W_fad_r rfl hK)) ?_
  first | refine V_cons (fun K hK => W_it (W_load_p rfl rfl rfl rfl hK)) ?_ | refine V_cons (fun K hK => W_it (W_load_r rfl rfl rfl hK)) ?_ | refine V_cons (fun K hK => W_it (W_load_e rfl rfl rfl rfl rfl hK)) ?_
  refine V_cons (fun K hK => W_it (W_len rfl hK)) ?_
  refine V_cons (fun K hK => W_it (W_callF (near_FS _ _ _) [] rfl (by decide) trivial fun res rg h => by obtain ⟨rfl, rfl⟩ := h; exact hK)) ?_
  refine V_cons (fun K hK => W_it (W_sls_s0 (qn := min (words st.few3.slots).length 8) rfl rfl (near_min _ 8) (Nat.min_le_left _ _) hK)) ?_
  rw [few_words]
  first | refine V_cons (fun K hK => W_it (W_fad_p rfl hK)) ?_ | refine V_cons (fun K hK => W_it (W_fad_e rfl hK)) ?_ | refine V_cons (fun K hK => W_it (W_fad_r rfl hK)) ?_
  refine V_nil ?_
  first | refine O_cons (W_it (W_store_p rfl rfl rfl rfl rfl rfl ?_)) | refine O_cons (W_it (W_store_e rfl rfl rfl rfl rfl rfl rfl ?_))
  refine O_nil (hK5 _ ?_)
  clear hK5 K5
  refine codeW_weak (s' := ⟨[(2, .c (.ptr 1 0)), (1, .c (.ptr 0 0))], [.ac (st.few4.row.map .p), .ac (([.slice none 0 0, .slice none 0 0, .slice none 0 0, .slice none 0 0, .slice none 0 0, .slice none 0 0, .int .i64 0, .slice none 0 0, .slice none 0 0] : List Value).map fun z => .p (.v z))]⟩) (Weak.ren [0, 1] rfl (by decide) ⟨.inr rfl, .inr rfl, trivial⟩ ⟨rfl, rfl, trivial⟩) ?_
  refine codeW_seq fun K6 hK6 => codeW_par ?_
  first | refine V_cons (fun K hK => W_it (W_fad_p rfl hK)) ?_ | refine V_cons (fun K hK => W_it (W_fad_e rfl hK)) ?_ | refine V_cons (fun K hK => W_it (W_fad_r rfl hK)) ?_
  first | refine V_cons (fun K hK => W_it (W_load_p rfl rfl rfl rfl hK)) ?_ | refine V_cons (fun K hK => W_it (W_load_r rfl rfl rfl hK)) ?_ | refine V_cons (fun K hK => W_it (W_load_e rfl rfl rfl rfl rfl hK)) ?_
  first | refine V_cons (fun K hK => W_it (W_fad_p rfl hK)) ?_ | refine V_cons (fun K hK => W_it (W_fad_e rfl hK)) ?_ | refine V_cons (fun K hK => W_it (W_fad_r rfl hK)) ?_
  first | refine V_cons (fun K hK => W_it (W_load_p rfl rfl rfl rfl hK)) ?_ | refine V_cons (fun K hK => W_it (W_load_r rfl rfl rfl hK)) ?_ | refine V_cons (fun K hK => W_it (W_load_e rfl rfl rfl rfl rfl hK)) ?_
  refine V_cons (fun K hK => W_it (W_len rfl hK)) ?_
  refine V_cons (fun K hK => W_it (W_callF (near_FS _ _ _) [] rfl (by decide) trivial fun res rg h => by obtain ⟨rfl, rfl⟩ := h; exact hK)) ?_
  refine V_cons (fun K hK => W_it (W_sls_s0 (qn := min (cels st.few4.cells).length 6) rfl rfl (near_min _ 6) (Nat.min_le_left _ _) hK)) ?_
  rw [few_cels]
  first | refine V_cons (fun K hK => W_it (W_fad_p rfl hK)) ?_ | refine V_cons (fun K hK => W_it (W_fad_e rfl hK)) ?_ | refine V_cons (fun K hK => W_it (W_fad_r rfl hK)) ?_
  refine V_nil ?_
  first | refine O_cons (W_it (W_store_p rfl rfl rfl rfl rfl rfl ?_)) | refine O_cons (W_it (W_store_e rfl rfl rfl rfl rfl rfl rfl ?_))
  refine O_nil (hK6 _ ?_)
  clear hK6 K6
  refine codeW_weak (s' := ⟨[(2, .c (.ptr 1 0)), (1, .c (.ptr 0 0))], [.ac (st.few5.row.map .p), .ac (([.slice none 0 0, .slice none 0 0, .slice none 0 0, .slice none 0 0, .slice none 0 0, .slice none 0 0, .int .i64 0, .slice none 0 0, .slice none 0 0] : List Value).map fun z => .p (.v z))]⟩) (Weak.ren [0, 1] rfl (by decide) ⟨.inr rfl, .inr rfl, trivial⟩ ⟨rfl, rfl, trivial⟩) ?_
  refine codeW_seq fun K7 hK7 => codeW_par ?_
  first | refine V_cons (fun K hK => W_it (W_fad_p rfl hK)) ?_ | refine V_cons (fun K hK => W_it (W_fad_e rfl hK)) ?_ | refine V_cons (fun K hK => W_it (W_fad_r rfl hK)) ?_
  first | refine V_cons (fun K hK => W_it (W_load_p rfl rfl rfl rfl hK)) ?_ | refine V_cons (fun K hK => W_it (W_load_r rfl rfl rfl hK)) ?_ | refine V_cons (fun K hK => W_it (W_load_e rfl rfl rfl rfl rfl hK)) ?_
  first | refine V_cons (fun K hK => W_it (W_fad_p rfl hK)) ?_ | refine V_cons (fun K hK => W_it (W_fad_e rfl hK)) ?_ | refine V_cons (fun K hK => W_it (W_fad_r rfl hK)) ?_
  first | refine V_cons (fun K hK => W_it (W_load_p rfl rfl rfl rfl hK)) ?_ | refine V_cons (fun K hK => W_it (W_load_r rfl rfl rfl hK)) ?_ | refine V_cons (fun K hK => W_it (W_load_e rfl rfl rfl rfl rfl hK)) ?_
  refine V_cons (fun K hK => W_it (W_len rfl hK)) ?_
  refine V_cons (fun K hK => W_it (W_callF (near_FS _ _ _) [] rfl (by decide) trivial fun res rg h => by obtain ⟨rfl, rfl⟩ := h; exact hK)) ?_
  refine V_cons (fun K hK => W_it (W_sls_s0 (qn := min (ints .i64 st.few5.free).length 8) rfl rfl (near_min _ 8) (Nat.min_le_left _ _) hK)) ?_
  rw [few_ints]
  first | refine V_cons (fun K hK => W_it (W_fad_p rfl hK)) ?_ | refine V_cons (fun K hK => W_it (W_fad_e rfl hK)) ?_ | refine V_cons (fun K hK => W_it (W_fad_r rfl hK)) ?_
  refine V_nil ?_
  first | refine O_cons (W_it (W_store_p rfl rfl rfl rfl rfl rfl ?_)) | refine O_cons (W_it (W_store_e rfl rfl rfl rfl rfl rfl rfl ?_))
  refine O_nil (hK7 _ ?_)
  clear hK7 K7
  refine codeW_weak (s' := ⟨[(2, .c (.ptr 1 0)), (1, .c (.ptr 0 0))], [.ac (st.few.row.map .p), .ac (([.slice none 0 0, .slice none 0 0, .slice none 0 0, .slice none 0 0, .slice none 0 0, .slice none 0 0, .int .i64 0, .slice none 0 0, .slice none 0 0] : List Value).map fun z => .p (.v z))]⟩) (Weak.ren [0, 1] rfl (by decide) ⟨.inr rfl, .inr rfl, trivial⟩ ⟨rfl, rfl, trivial⟩) ?_
  refine codeW_seq fun K8 hK8 => codeW_reg ?_
  first | refine O_cons (W_it (W_load_p rfl rfl rfl rfl ?_)) | refine O_cons (W_it (W_load_r rfl rfl rfl ?_)) | refine O_cons (W_it (W_load_e rfl rfl rfl rfl rfl ?_))
  first | refine O_cons (W_it (W_store_p rfl rfl rfl rfl rfl rfl ?_)) | refine O_cons (W_it (W_store_e rfl rfl rfl rfl rfl rfl rfl ?_))
  refine O_nil (hK8 _ ?_)
  clear hK8 K8
  refine codeW_ret (Fin2.weak (.inr rfl) (s1 := ⟨[(2, .c (.ptr 0 0))], [.ac (st.few.row.map .p)]⟩) (vs := [.agg (st.few.row.map .p)]) (Weak.ren [1] rfl (by decide) ⟨.inr rfl, trivial⟩ ⟨rfl, trivial⟩) rfl ⟨rfl, rfl⟩)

theorem few_FS (st : Sta) : FS Try.prog 14 [.agg (st.row.map .p)] [] fun res rg => res = .agg (st.few.row.map .p) ∧ rg = [] := by
  refine (few_FS0 st).post fun res rg h => ?_
  obtain ⟨rfl, rfl⟩ := h
  exact ⟨_, [], Weak.ren [] rfl (by decide) trivial ⟨rfl, trivial⟩, rfl, rfl⟩

end Go.Sim
