/- From a contract over the picture to a call in a world. -/
import Derived.Test.YtcfheegmggfkfaaCodeI
namespace Go.Sim
open Go.RowKit Go.Proofs.Ytcfheegmggfkfaa Go.Proofs.Ytcfheegmggfkfaa.B Go.Proofs
def noEnv : Env := ⟨0, fun _ => none⟩
theorem rs_init (W : World) : RS W W [] nobad noEnv [] where
  keep := Keep.of_below (Below.refl _ _)
  base_lt := fun b h => h.elim
  len := rfl
  reg := fun id r h => by simp at h
  own := fun id r g c h => by simp at h
  inj := fun i j r r' g c c' h => by simp at h
theorem prel_init {W : World} {x : PV} {v : Value} (h : PRel W nobad x v) : PRel W (badOf nobad noEnv []) x v :=
  PRel.step (Same.mk (Nat.le_refl _) fun _ _ _ => rfl) (fun b _ hb => by
    rcases hb with hb | ⟨id, r, c, h1, _⟩
    · exact hb
    · simp at h1) h
theorem vrel_agg {W : World} {l : List PV} {cs : List Value} (h : All2 (PRel W nobad) l cs) : VRel W noEnv (badOf nobad noEnv []) (.agg (l.map .p)) (.agg cs.toArray) := by
  refine .agg ?_ ?_
  · exact All2.map1 (R := PRel W nobad) (S := CRel W noEnv (badOf nobad noEnv [])) (f := AC.p) (fun a c h => prel_init h) h
  · simp [AC.known]
theorem vrel_one {W : World} {x : PV} {v : Value} (h : PRel W nobad x v) : VRel W noEnv (badOf nobad noEnv []) (.c (.p x)) v := .c (prel_init h)
theorem reads_u8 {H : Type} {enc : TypeId × Value → H} {w : World} {t : TypeId} (ht : Try.prog.underlying t = some (.int .u8)) (c : Nat) : Reads enc w t (fun n : Int => [.v (.int .u8 n)]) (fun _ => True) (fun _ => 0) c := by
  intro fuel cs d ps h hb
  obtain ⟨n, rfl, hx, hwf⟩ := DataW.trod_int ht h
  exact ⟨n, ⟨.v rfl, trivial⟩, trivial, Nat.zero_le _⟩
/-- A law that tells true. -/
theorem law_calls {f : Nat} {args : List AV} {vs : List Value} (W : World) (h : FS Try.prog f args [] fun res rg => res = .c (.p (.v (.bool true))) ∧ rg = []) (ha : All2 (VRel W noEnv (badOf nobad noEnv [])) args vs) :
    Calls Try.prog f vs.toArray W fun e W' => e = .returned (.bool true) ∧ Below W.heap.size W W' := by
  refine (h.2 W [] nobad noEnv vs (rs_init W) ha).mono fun e W' hh => ?_
  obtain ⟨v, res, rg, env', rfl, ⟨rfl, rfl⟩, hrs, hv, _⟩ := hh
  have := (val_of hv (x := .bool true) rfl).1
  exact ⟨by rw [this], hrs.keep.below⟩
end Go.Sim
