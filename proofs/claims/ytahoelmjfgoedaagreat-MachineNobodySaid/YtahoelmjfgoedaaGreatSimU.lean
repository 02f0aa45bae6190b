/- A text that tells less. Of no program. -/
import Derived.Test.YtahoelmjfgoedaaGreatSimT
namespace Go.Sim
open Go.RowKit Go.Proofs.YtahoelmjfgoedaaGreat.B
theorem codeW_mono {P : Program} {ro : Option Nat} {n0 : Nat} {s : St} {x : ACode} {Q Q2 : Exit → St → Prop} (h : codeW P n0 ro x Q s) (hq : ∀ e s, Q e s → Q2 e s) : codeW P n0 ro x Q2 s :=
  fun c N f j htr hs n w0 env0 bad0 fps base a w Q' e r hQ => h c N f j htr hs n w0 env0 bad0 fps base a w Q' e r fun e s' env1 bad1 a' w' hl q r' => hQ e s' env1 bad1 a' w' hl (hq e s' q) r'
end Go.Sim
