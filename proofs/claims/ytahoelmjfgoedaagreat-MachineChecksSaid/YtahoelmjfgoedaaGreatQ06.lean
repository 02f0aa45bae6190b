/- MachineChecks: for every program and config a machine is made of it if it may be, and stands as the page says; else it is told why not. No conditions. -/
import Derived.Test.YtahoelmjfgoedaaGreatQ05
import Derived.KernelRfl
import Derived.Test.YtahoelmjfgoedaaGreatRows
import Derived.OpenShut
import Derived.ChangeOld
import Derived.Below
import Derived.WalkKit
import Derived.ProofKit
import Derived.JoinedOf
set_option linter.unusedVariables false
set_option linter.unusedSimpArgs false
set_option linter.unusedSectionVars false
namespace Go.Sim
open Go.RowKit Go.Proofs.YtahoelmjfgoedaaGreat.T
attribute [-simp] vfld W0n W1n Wtx
def PR(B:List Reg)(b:List Int)(K:List Reg):List Reg:=B++([.ac [penC b],.ac [.ptr B.length 0]]++K)
def W5q(K:List Reg):Prop:=∀n,K.all (W18 n)=true
section
variable (B:List Reg) (b b':List Int) (K:List Reg)
theorem Wcl:(PR B b K)[B.length]?=some (.ac [penC b]):=by simp[PR]
theorem V04:(PR B b K)[B.length+1]?=some (.ac [.ptr B.length 0]):=by simp[PR]
theorem W6h:(PR B b K).set B.length (.ac [penC b'])=PR B b' K:=by simp[PR]
theorem Wwo(k:Nat):(PR B b K)[B.length+(k+2)]?=K[k]?:=by unfold PR; rw[W0e]; simp
theorem Wcm(hw:wf B)(hK:W5q K):wf (PR B b K):=by
 refine W07 hw ?_
 simp[W4a,hK _]
theorem W56{K:List Reg}(h:W5q K)(l:List (List PV)):W5q (K++[.pc 1 l]):=fun n=>by simp[h n]
theorem Wcn(hw:wf B)(hK:W5q K)(l:List Int)(hb:b.length+8*l.length≤1000000):
  bm.run (.fn 292) [.c (.ptr B.length 0),.c (.own (B.length+(K.length+2)) 0 1 l.length .free)] (PR B b (K++[.pc 1 (l.map fun n=>[iv n])]))=some (.tup [],PR B (b++l.flatMap be8) (K++[.pc 1 (l.map fun n=>[iv n])])):=by
 have:=W2b (rg:=PR B b (K++[.pc 1 (l.map fun n=>[iv n])])) (pt:=B.length) (id:=B.length+(K.length+2)) (l:=l) (by omega) (by rw[Wwo]; simp) b (Wcl ..) hb (Wcm _ _ _ hw (W56 hK _))
 rwa[W6h]at this
theorem Wwp(hw:wf B)(hK:W5q K)(l:List Int)(hb:b.length+8*l.length≤1000000):
  bm.run (.fn 294) [.c (.ptr B.length 0),.c (.own (B.length+(K.length+2)) 0 1 l.length .free)] (PR B b (K++[.pc 1 (l.map fun n=>[iv n])]))=some (.tup [],PR B (b++l.flatMap be8) (K++[.pc 1 (l.map fun n=>[iv n])])):=by
 have:=Wgo (rg:=PR B b (K++[.pc 1 (l.map fun n=>[iv n])])) (pt:=B.length) (id:=B.length+(K.length+2)) (l:=l) (by omega) (by rw[Wwo]; simp) b (Wcl ..) hb (Wcm _ _ _ hw (W56 hK _))
 rwa[W6h]at this
theorem V05(hw:wf B)(hK:W5q K)(l:List Tri)(hb:b.length+24*l.length≤1000000):
  bm.run (.fn 289) [.c (.ptr B.length 0),.c (.p (sl3 l))] (PR B b K)=some (.tup [],PR B (b++l.flatMap wdO) K):=by
 have:=W7t (rg:=PR B b K) (pt:=B.length) (l:=l) (a:= .c (.p (sl3 l))) b (by simp) (Wcl ..) hb (Wcm _ _ _ hw hK) (Wgp _ _ l)
 rwa[W6h]at this
theorem Wjh(hw:wf B)(hK:W5q K)(l:List Tri)(hb:b.length+8+24*l.length≤1000000):
  bm.run (.fn 288) [.c (.ptr B.length 0),.c (.p (sl3 l)),.c (.fn (.func 289) [.ptr B.length 0] [])] (PR B b K)=some (.tup [],PR B (b++wdsO l) K):=by
 have:=Wl8 (rg:=PR B b K) (pt:=B.length) l b (Wcl ..) hb (Wcm _ _ _ hw hK)
 rwa[W6h]at this
theorem Wco(hw:wf B)(hK:W5q K)(l:List Int)(hb:b.length+8+8*l.length≤1000000):
  bm.run (.fn 295) [.c (.ptr B.length 0),.c (.p (slI l)),.c (.fn (.func 294) [.ptr B.length 0] [])] (PR B b K)=some (.tup [],PR B (b++nmsO l) K):=by
 have:=Wqn (rg:=PR B b K) (pt:=B.length) l b (Wcl ..) hb (Wcm _ _ _ hw hK)
 rwa[W6h]at this
theorem Wr4(hw:wf B)(hK:W5q K)(l:List Int)(hb:b.length+8+8*l.length≤1000000):
  bm.run (.fn 293) [.c (.ptr B.length 0),.c (.p (slI l)),.c (.fn (.func 292) [.ptr B.length 0] [])] (PR B b K)=some (.tup [],PR B (b++nmsO l) K):=by
 have:=Wgq (rg:=PR B b K) (pt:=B.length) l b (Wcl ..) hb (Wcm _ _ _ hw hK)
 rwa[W6h]at this
theorem V50(hw:wf B)(hK:W5q K)(l:List Tri)(hb:b.length+8+24*l.length≤1000000):
  bm.run (.fn 296) [.c (.ptr B.length 0),.c (.p (sl3 l)),.c (.fn (.func 297) [] [.ptr (B.length+1) 0])] (PR B b K)=some (.tup [],PR B (b++wdsO l) K):=by
 have:=Wui (rg:=PR B b K) (pt:=B.length) (pw:=B.length+1) b (Wcl ..) (V04 ..) (by omega) (Wcm _ _ _ hw hK) l hb
 rwa[W6h]at this
theorem V06(hw:wf B)(hK:W5q K)(l:List Ent)(hb:b.length+8+64*l.length≤1000000):
  bm.run (.fn 298) [.c (.ptr B.length 0),.c (.p (slE l)),.c (.fn (.func 299) [] [.ptr (B.length+1) 0])] (PR B b K)=some (.tup [],PR B (b++ensO l) K):=by
 have:=Wqp (rg:=PR B b K) (pt:=B.length) (pw:=B.length+1) b (Wcl ..) (V04 ..) (by omega) (Wcm _ _ _ hw hK) l hb
 rwa[W6h]at this
theorem V07(hw:wf B)(hK:W5q K)(l:List Cel)(hb:b.length+8+80*l.length≤1000000):
  bm.run (.fn 290) [.c (.ptr B.length 0),.c (.p (slC l)),.c (.fn (.func 291) [] [.ptr (B.length+1) 0])] (PR B b K)=some (.tup [],PR B (b++cesO l) K):=by
 have:=Wqq (rg:=PR B b K) (pt:=B.length) (pw:=B.length+1) b (Wcl ..) (V04 ..) (by omega) (Wcm _ _ _ hw hK) l hb
 rwa[W6h]at this
end
def thO(th:Thr):List Int:=be8 th.pc++(be8 th.fuel++(be8 th.status++(wdO th.r0++(wdO th.r1++(wdO th.r2++(wdO th.r3++(be8 th.mi.kind++(be8 th.mi.i++(be8 th.mi.n++(nmsO th.mi.seen++(wdsO th.bag++(nmsO th.snap++be8 th.old))))))))))))
theorem W9y(l:List Int):(l.flatMap be8).length=8*l.length:=by
 induction l with
 | nil=>rfl
 | cons x l ih=>simp[ih,be8]; omega
theorem W47(l:List Int):(nmsO l).length=8+8*l.length:=by rw[nmsO,Z5,W9y]; rfl
theorem W5r(l:List Tri):(wdsO l).length=8+24*l.length:=by rw[wdsO,Z5,W4q]; rfl
theorem Wr5(l:List Ent):(ensO l).length=8+64*l.length:=by rw[ensO,Z5,W9s]; rfl
theorem Wr6(l:List Cel):(cesO l).length=8+80*l.length:=by rw[cesO,Z5,W6u]; rfl
theorem V51(rg:List Reg)(l:List PV):bxSt rg.length ⟨[(1,.c (.ptr rg.length 0))],rg++[.ac (l.map .p)]⟩=⟨[(1,.c (.rp l))],rg++[.dead]⟩:=by
 have hg:(rg++[Reg.ac (l.map .p)])[rg.length]?=some (.ac (l.map .p)):=by simp
 have hp:=W9t l
 have hs:(rg++[Reg.ac (l.map .p)]).set rg.length .dead=rg++[.dead]:=by simp
 unfold bxSt
 simp only[hg,hp,hs]
 have h4:bxAV rg.length l (.c (.ptr rg.length 0))= .c (.rp l):=by simp[bxAV,bxAC]
 simp[bxSl,h4]
set_option maxHeartbeats 1000000 in
theorem V08(th:Thr)(ht:th.okT)(rg:List Reg)(hw:wf rg):bm.run (.fn 211) [ag th.k] rg=some (oS (thO th),rg):=by
 obtain ⟨t1,t2,t3⟩:=ht
 have hwB:wf (rg++[Reg.dead]):=W07 hw (by simp)
 have hBl:(rg++[Reg.dead]).length=rg.length+1:=by simp
 have f0:W5q []:=fun _=>rfl
 have f1:=W56 f0 ([th.pc,th.fuel,th.status].map fun n=>[iv n])
 have f2:=W56 f1 ([th.mi.kind,th.mi.i].map fun n=>[iv n])
 have f3:=W56 f2 ([th.mi.n].map fun n=>[iv n])
 have h1:=Wcn _ [] [] hwB f0 [th.pc,th.fuel,th.status] (by simp)
 have l1:([]++[th.pc,th.fuel,th.status].flatMap be8).length=24:=rfl
 generalize ho1:[]++[th.pc,th.fuel,th.status].flatMap be8=o1 at*
 have h2:=V05 _ o1 _ hwB f1 [th.r0,th.r1,th.r2,th.r3] (by simp; omega)
 have l2:(o1++[th.r0,th.r1,th.r2,th.r3].flatMap wdO).length=120:=by rw[Z5,l1,W4q]; rfl
 generalize ho2:o1++[th.r0,th.r1,th.r2,th.r3].flatMap wdO=o2 at*
 have h3:=Wcn _ o2 _ hwB f1 [th.mi.kind,th.mi.i] (by simp; omega)
 have l3:(o2++[th.mi.kind,th.mi.i].flatMap be8).length=136:=by rw[Z5,l2,W9y]; rfl
 generalize ho3:o2++[th.mi.kind,th.mi.i].flatMap be8=o3 at*
 have h4:=Wwp _ o3 _ hwB f2 [th.mi.n] (by simp; omega)
 have l4:(o3++[th.mi.n].flatMap be8).length=144:=by rw[Z5,l3,W9y]; rfl
 generalize ho4:o3++[th.mi.n].flatMap be8=o4 at*
 have h5:=Wco _ o4 _ hwB f3 th.mi.seen (by omega)
 have l5:(o4++nmsO th.mi.seen).length≤9000:=by rw[Z5,l4,W47]; omega
 generalize ho5:o4++nmsO th.mi.seen=o5 at*
 have h6:=V50 _ o5 _ hwB f3 th.bag (by omega)
 have l6:(o5++wdsO th.bag).length≤39000:=by rw[Z5,W5r]; omega
 generalize ho6:o5++wdsO th.bag=o6 at*
 have h7:=Wco _ o6 _ hwB f3 th.snap (by omega)
 have l7:(o6++nmsO th.snap).length≤49000:=by rw[Z5,W47]; omega
 generalize ho7:o6++nmsO th.snap=o7 at*
 have h8:=Wcn _ o7 _ hwB f3 [th.old] (by simp; omega)
 have hf:o7++[th.old].flatMap be8=thO th:=by
  rw[←ho7,←ho6,←ho5,←ho4,←ho3,←ho2,←ho1]
  simp[thO]
 rw[hf]at h8
 have hne:thO th≠[]:=by simp[thO,be8]
 have hbx:=V51 rg th.k
 have hsl:vsla 4 3 (.c (.rp (th.k.drop 3))) none none none=some (.c (.p (sl3 [th.r0,th.r1,th.r2,th.r3]))):=by
  simp[vsla,W17,Thr.k,W1v]
 have hp0:penC []= .p nilS:=rfl
 simp only[PR,hBl,hp0]at h1 h2 h3 h4 h5 h6 h7 h8
 simp at h1 h2 h3 h4 h5 h6 h7 h8
 rw[R211]
 have hr0:∀rg:List Reg,W01 rg 1 false (.c (.rp th.k))=some (I .i64 th.pc):=fun _=>rfl
 have hr1:∀rg:List Reg,W01 rg 1 false (.c (.rp th.k.tail))=some (I .i64 th.fuel):=fun _=>rfl
 simp[s211,W98,hbx,hsl,hr0,hr1,h1,h2,h3,h4,h5,h6,h7,h8]
 rw[W1h _ _ _ _ _ _root_.rfl hw]
 simp[penC,hne]
theorem Wr7{th:Thr}(ht:th.okT):(thO th).length≤1000000:=by
 obtain ⟨t1,t2,t3⟩:=ht
 simp only[thO,Z5,W47,W5r,W31,be8,Yh,Yv]
 omega
set_option maxHeartbeats 1000000 in
theorem V09(l:List Ent)(hl:l.length≤1000)(rg:List Reg)(hw:wf rg):bm.run (.fn 212) [.c (.p (slE l))] rg=some (oS (ensO l),rg):=by
 have f0:W5q []:=fun _=>rfl
 have h1:=V06 rg [] [] hw f0 l (by simp; omega)
 have hf:[]++ensO l=ensO l:=rfl
 rw[hf]at h1
 have hne:ensO l≠[]:=by simp[ensO,be8]
 have hp0:penC []= .p nilS:=rfl
 simp only[PR,hp0]at h1
 simp at h1
 rw[R212]
 simp[s212,h1]
 rw[W1h _ _ _ _ _ _root_.rfl hw]
 simp[penC,hne]
def shO(s:Ste):List Int:=wdsO s.roots++(wdsO s.slots++(cesO s.cells++(nmsO s.free++(be8 s.epoch++(nmsO s.marks++nmsO s.counts)))))
structure smallS(s:Ste):Prop where
 ro:s.roots.length≤1000
 sl:s.slots.length≤1000
 ce:s.cells.length≤1000
 fr:s.free.length≤1000
 ma:s.marks.length≤1000
 co:s.counts.length≤1000
theorem Wr8{s:Ste}(h:smallS s):(shO s).length≤1000000:=by
 obtain ⟨h1,h2,h3,h4,h5,h6⟩:=h
 simp only[shO,Z5,W47,W5r,Wr6,be8,Yh,Yv]
 omega
set_option maxHeartbeats 2000000 in
theorem Wld(s:Ste)(hs:smallS s)(rg:List Reg)(hw:wf rg):bm.run (.fn 210) [comA s] rg=some (oS (shO s),rg):=by
 obtain ⟨t1,t2,t3,t4,t5,t6⟩:=hs
 obtain ⟨R,hR⟩:∃R,R=Reg.ac [.p nilS,.p nilS,.p (sl3 s.roots),.p (sl3 s.slots),.p (slC s.cells),.p (slI s.free),.p (iv s.epoch),.p (slI s.marks),.p (slI s.counts)]:=⟨_,rfl⟩
 have hwB:wf (rg++[R]):=W07 hw (by simp[hR])
 have hBl:(rg++[R]).length=rg.length+1:=by simp
 have f0:W5q []:=fun _=>rfl
 have f1:=W56 f0 ([s.epoch].map fun n=>[iv n])
 have h1:=Wjh _ [] [] hwB f0 s.roots (by simp; omega)
 have l1:([]++wdsO s.roots).length≤30000:=by rw[Xa,W5r]; omega
 generalize ho1:[]++wdsO s.roots=o1 at*
 have h2:=Wjh _ o1 _ hwB f0 s.slots (by omega)
 have l2:(o1++wdsO s.slots).length≤60000:=by rw[Z5,W5r]; omega
 generalize ho2:o1++wdsO s.slots=o2 at*
 have h3:=V07 _ o2 _ hwB f0 s.cells (by omega)
 have l3:(o2++cesO s.cells).length≤160000:=by rw[Z5,Wr6]; omega
 generalize ho3:o2++cesO s.cells=o3 at*
 have h4:=Wr4 _ o3 _ hwB f0 s.free (by omega)
 have l4:(o3++nmsO s.free).length≤170000:=by rw[Z5,W47]; omega
 generalize ho4:o3++nmsO s.free=o4 at*
 have h5:=Wwp _ o4 _ hwB f0 [s.epoch] (by simp; omega)
 have l5:(o4++[s.epoch].flatMap be8).length≤171000:=by rw[Z5,W9y]; simp; omega
 generalize ho5:o4++[s.epoch].flatMap be8=o5 at*
 have h6:=Wco _ o5 _ hwB f1 s.marks (by omega)
 have l6:(o5++nmsO s.marks).length≤190000:=by rw[Z5,W47]; omega
 generalize ho6:o5++nmsO s.marks=o6 at*
 have h7:=Wco _ o6 _ hwB f1 s.counts (by omega)
 have hf:o6++nmsO s.counts=shO s:=by
  rw[←ho6,←ho5,←ho4,←ho3,←ho2,←ho1]
  simp[shO]
 rw[hf]at h7
 have hne:shO s≠[]:=by simp[shO,wdsO,be8]
 have hp0:penC []= .p nilS:=rfl
 simp only[PR,hBl,hp0,hR]at h1 h2 h3 h4 h5 h6 h7
 simp at h1 h2 h3 h4 h5 h6 h7
 rw[R210]
 simp[s210,h1,h2,h3,h4,h5,h6,h7]
 rw[W1h _ _ _ _ _ _root_.rfl hw]
 simp[penC,hne]
end Go.Sim
namespace Go.Sim
open Go.RowKit
def xo(a b:Int):Int:=bits BinOp.xor IntKind.u64 a b
theorem Wr9(a b:Int):xo a b=((BitVec.ofInt 64 a^^^BitVec.ofInt 64 b).toNat:Int):=by
 have h:bits BinOp.xor IntKind.u64 a b=IntKind.u64.wrap ((BitVec.ofInt 64 a^^^BitVec.ofInt 64 b).toNat:Int):=rfl
 unfold xo
 rw[h,W45]
 have:=(BitVec.ofInt 64 a^^^BitVec.ofInt 64 b).isLt
 omega
theorem Wuy(a b:Int):BitVec.ofInt 64 (xo a b)=BitVec.ofInt 64 a^^^BitVec.ofInt 64 b:=by
 rw[Wr9,BitVec.ofInt_natCast,BitVec.ofNat_toNat,BitVec.setWidth_eq]
theorem V9l(a b c:Int):xo (xo a b) c=xo (xo a c) b:=by
 rw[Wr9 (xo a b),Wr9 (xo a c),Wuy,Wuy,BitVec.xor_assoc,BitVec.xor_comm (BitVec.ofInt 64 b),←BitVec.xor_assoc]
theorem V9m(a b c:Int):xo a (xo b c)=xo (xo a b) c:=by
 rw[Wr9 a,Wr9 (xo a b),Wuy,Wuy,BitVec.xor_assoc]
def thS(t:Nat)(th:Thr):Int:=sumW (IntKind.u64.wrap (t:Int)) (thO th)
def buS(t:Nat)(q:List Ent):Int:=sumW (IntKind.u64.wrap (64+(t:Int))) (ensO q)
def shS(s:Ste):Int:=sumW 128 (shO s)
def thA(s:Ste)(t:Nat):Int:=thS t (s.thr.getD t (thr0 0))
def buA(s:Ste)(t:Nat):Int:=buS t (s.buf.getD t [])
def Wf4(s:Ste):Int:=(List.range s.thr.length).foldl (fun h t=>xo h (xo (thA s t) (buA s t))) (shS s)
theorem Wwq(f g:Nat→Int):∀(l:List Nat) (a:Int),l.foldl (fun h t=>xo h (xo (f t) (g t))) a=l.foldl (fun h t=>xo h (g t)) (l.foldl (fun h t=>xo h (f t)) a)
 | [],a=>rfl
 | x::l,a=>by
  have hf:∀(f:Nat→Int) (l:List Nat) (a b:Int),l.foldl (fun h t=>xo h (f t)) (xo a b)=xo (l.foldl (fun h t=>xo h (f t)) a) b:=by
   intro f l
   induction l with
   | nil=>intros; rfl
   | cons x l ih=>intro a b; rw[Xe,Xe,V9l,ih]
  simp only[Xe]
  rw[Wwq f g l,V9m,hf f,hf f,hf g]
theorem Wuz(s:Ste):Wf4 s=(List.range s.thr.length).foldl (fun h t=>xo h (buA s t)) ((List.range s.thr.length).foldl (fun h t=>xo h (thA s t)) (shS s)):=Wwq _ _ _ _
end Go.Sim
namespace Go.Sim
open Go.RowKit Go.Proofs.YtahoelmjfgoedaaGreat.T
attribute [-simp] vfld W0n W1n
theorem W3x{rg:List Reg}{pt:Nat}{r:Reg}(hp:rg[pt]?=some r):rg.set pt r=rg:=by
 apply Yx
 intro i
 by_cases h:pt=i
 ·subst h; rw[W1r hp,hp]
 ·rw[Zv h]
theorem Wra{rg:List Reg}{room:Nat}{b:Nat×Nat}{q:List Ent}(h:bufAt rg room b q):bm.run (.fn 135) [.c (.ptr b.1 0)] rg=some (Bo false,rg):=by
 obtain ⟨h1,h2⟩:=h
 rw[R135]
 simp[s135,h1]
theorem bufAt.more{rg:List Reg}{room:Nat}{b:Nat×Nat}{q:List Ent}(h:bufAt rg room b q)(m:List Reg):bufAt (rg++m) room b q:=⟨W0b h.1 m,W0b h.2 m⟩
theorem bufAt.set{rg:List Reg}{room:Nat}{b:Nat×Nat}{q:List Ent}(h:bufAt rg room b q)(q':List Ent):bufAt (rg.set b.2 (.ob (.ch room (q'.map entP)))) room b q':=by
 have hne:b.2≠b.1:=by
  intro e
  have h1:=h.1
  rw[←e,h.2]at h1
  cases h1
 exact ⟨by rw[Zv hne]; exact h.1,W1r h.2 _⟩
theorem Wv0{rg:List Reg}{room:Nat}{b:Nat×Nat}{e:Ent}{q:List Ent}(h:bufAt rg room b (e::q))(hw:wf rg):
  bm.run (.fn 144) [.c (.ptr b.1 0)] rg=some (.tup [ag e.k,Bo true],rg.set b.2 (.ob (.ch room (q.map entP)))):=by
 have hb:=W16 h.2
 have h1:=(h.more [.ac [.p (iv 0),.p (iv 0),.p (iv 0),.p (iv 0),.p (iv 0),.p (iv 0),.p (iv 0),.p (iv 0)]])
 have h2:=Wra h1
 have h3:=V93 (p:=e.k) (q:=q.map entP) h1.2 rfl
 have h4:(rg++[Reg.ac [.p (iv 0),.p (iv 0),.p (iv 0),.p (iv 0),.p (iv 0),.p (iv 0),.p (iv 0),.p (iv 0)]]).set b.2 (.ob (.ch room (q.map entP)))=rg.set b.2 (.ob (.ch room (q.map entP)))++[.ac [.p (iv 0),.p (iv 0),.p (iv 0),.p (iv 0),.p (iv 0),.p (iv 0),.p (iv 0),.p (iv 0)]]:=Yd _ _ hb
 rw[h4]at h3
 have hl:(rg.set b.2 (.ob (.ch room (q.map entP)))).length=rg.length:=by simp
 have hg:∀M:List Reg,(rg.set b.2 (.ob (.ch room (q.map entP)))++M)[rg.length]?=M[0]?:=fun M=>by rw[←hl,Wp4]
 have hs:∀(x y:Reg),(rg.set b.2 (.ob (.ch room (q.map entP)))++[x]).set rg.length y=rg.set b.2 (.ob (.ch room (q.map entP)))++[y]:=fun x y=>by rw[←hl,Wy7]; rfl
 have hwf:wf (rg.set b.2 (.ob (.ch room (q.map entP)))):=W2l hw rfl
 have hek:e.k=[iv e.p.a,iv e.p.b,iv e.p.c,iv e.w.a,iv e.w.b,iv e.w.c,iv e.gen,iv e.pc]:=rfl
 have h5:=h1.1
 rw[R144]
 simp only[hek]at h3
 simp at h2 h3 h5
 simp[s144,h2,h5,h3,hs,hg,hek,W0q]
 rw[W20 (by simp) hwf (by simp[avLt,acLt])]
 simp
theorem Wrb{rg:List Reg}{room:Nat}{b:Nat×Nat}{e:Ent}{q:List Ent}(h:bufAt rg room b q)(hr:q.length<room)(hw:wf rg):
  bm.run (.fn 138) [.c (.ptr b.1 0),ag e.k] rg=some (Bo true,rg.set b.2 (.ob (.ch room ((q++[e]).map entP)))):=by
 have hb:=W16 h.2
 have h1:=(h.more [.ac (e.k.map .p)])
 have h2:=Wra h1
 have h3:=V4k (ps:=e.k) (q:=q.map entP) h1.2 (by simpa using hr) rfl
 have h6:q.map entP++[(true,e.k)]=(q++[e]).map entP:=by simp[entP]
 rw[h6]at h3
 have h4:(rg++[Reg.ac (e.k.map .p)]).set b.2 (.ob (.ch room ((q++[e]).map entP)))=rg.set b.2 (.ob (.ch room ((q++[e]).map entP)))++[.ac (e.k.map .p)]:=Yd _ _ hb
 rw[h4]at h3
 have hwf:wf (rg.set b.2 (.ob (.ch room ((q++[e]).map entP)))):=W2l hw rfl
 have h5:=h1.1
 generalize (q++[e]).map entP=q' at*
 rw[R138]
 simp[s138,h2,h5,h3]
 rw[W20 (by simp) hwf (by rfl)]
 simp
set_option maxHeartbeats 1000000 in
theorem Wrc{rg:List Reg}{room:Nat}{b:Nat×Nat}{q:List Ent}(h:bufAt rg room b q)(hq:q.length≤room)(hq2:q.length≤1000)(hw:wf rg):bm.run (.fn 112) [.c (.ptr b.1 0)] rg=some (.c (.p (slE q)),rg):=by
 have h0:=Wck h
 have hb:=W16 h.2
 have hset:∀x:Reg,(rg.set b.2 x).length=rg.length:=fun x=>by simp
 obtain ⟨ex,s',e1,rfl,v,m,e2,e3,e4,e5⟩:=W0z (body:=Wif W02 bm.run rg.length)
  (fun j st=>∃v m,st=⟨[(8,I .i64 (j:Nat)),(7,I .i64 q.length),(3,v),(0,.c (.ptr b.1 0))],rg.set b.2 (.ob (.ch room ((q.drop j++q.take j).map entP)))++m⟩∧accV rg.length 8 ((q.take j).map Ent.k) v m∧wf (rg.set b.2 (.ob (.ch room ((q.drop j++q.take j).map entP)))++m))
  (fun ex s'=>ex= .exit 0∧∃v m,s'.regs=rg++m∧lkF s'.slots 3=v∧accV rg.length 8 (q.map Ent.k) v m∧wf (rg++m)) q.length
  (s:=⟨[(8,I .i64 0),(7,I .i64 q.length),(3,.c (.p nilS)),(0,.c (.ptr b.1 0))],rg⟩) ⟨.c (.p nilS),[],by simp[W3x h.2],.nil _ _ _,by simpa[W3x h.2]using hw⟩
  (by
   rintro j hj st ⟨v,m,rfl,h1,h2⟩
   have hx:q[j]?=some q[j]:=Z2 hj
   have ht:q.take (j+1)=q.take j++[q[j]]:=by rw[Zs,hx]; rfl
   have hd:q.drop j++q.take j=q[j]::(q.drop (j+1)++q.take j):=by rw[List.drop_eq_getElem_cons hj]; rfl
   have hd2:q.drop (j+1)++q.take (j+1)=q.drop (j+1)++q.take j++[q[j]]:=by rw[ht,Z6]
   have hlen:(q.drop (j+1)++q.take j).length<room:=by simp; omega
   rw[hd]at h2
   rw[hd,hd2]
   generalize q[j]=e at*
   generalize q.drop (j+1)++q.take j=q1 at*
   have hB:=(h.set (e::q1)).more m
   have hp:=Wv0 hB h2
   have hss:∀(x y:Reg) (M:List Reg),(rg.set b.2 x++M).set b.2 y=rg.set b.2 y++M:=fun x y M=>by
    rw[Yd _ _ (by simpa using hb),Xo]
   rw[hss]at hp
   have hw1:wf (rg.set b.2 (.ob (.ch room (q1.map entP)))++(m++[.ac (e.k.map .p)])):=by
    rw[←Z6]
    refine W07 ?_ (by simp[Ent.k])
    have:=W2l (id:=b.2) (r:= .ob (.ch room (q1.map entP))) h2 rfl
    rwa[hss]at this
   have hq':=Wrb (e:=e) ((h.set q1).more (m++[.ac (e.k.map .p)])) hlen hw1
   rw[hss]at hq'
   have hw2:wf (rg.set b.2 (.ob (.ch room ((q1++[e]).map entP)))++(m++[.ac (e.k.map .p)])):=by
    have:=W2l (id:=b.2) (r:= .ob (.ch room ((q1++[e]).map entP))) hw1 rfl
    rwa[hss]at this
   obtain ⟨v',m',f1,f2,f3⟩:=accV.push (bytes:=64) (base:=rg.set b.2 (.ob (.ch room ((q1++[e]).map entP)))) (m:=m++[.ac (e.k.map .p)]) e.k (by rw[hset]; exact h1.more _) (by simp; omega) (by simp; omega) hw2
   rw[hset]at f1 f2
   refine ⟨_,?_,v',m',rfl,by rw[ht,Yz]; exact f2,f3⟩
   have hi2:(j:Int)<q.length:=by omega
   have hnx:IntKind.i64.wrap ((j:Int)+1)=(j:Int)+1:=W0g (by omega) (by omega)
   have hge:∀(x:Reg) (k:Nat) (M:List Reg),(rg.set b.2 x++M)[rg.length+k]?=M[k]?:=fun x k M=>by rw[←hset x,W0e]
   have hse:∀(x y:Reg) (k:Nat) (M:List Reg),(rg.set b.2 x++M).set (rg.length+k) y=rg.set b.2 x++M.set k y:=fun x y k M=>by rw[←hset x,W1z]
   have hek:e.k=[iv e.p.a,iv e.p.b,iv e.p.c,iv e.w.a,iv e.w.b,iv e.w.c,iv e.gen,iv e.pc]:=rfl
   generalize (q1++[e]).map entP=Q2 at*
   generalize q1.map entP=Q1 at*
   generalize (e::q1).map entP=Q0 at*
   simp only[hek,ag,Zh,Y9]at hp hq' f1 ⊢
   simp at hp hq' f1
   simp[Wif,hi2,hnx,hp,hge,hse,hq',f1])
  (by
   rintro st ⟨v,m,rfl,h1,h2⟩
   rw[Ze (Z8 _),List.drop_of_length_le (Z8 _),Xa,W3x h.2]at h2
   rw[Ze (Z8 _)]at h1
   refine ⟨.exit 0,_,by simp[Wif]; rfl,by simp,rfl,v,m,?_,rfl,h1,h2⟩
   simp[W3x h.2])
 rw[W1m]at e3
 have hdp:=accV.deep (base:=rg) (k:=m.length) (ks:=[]) e4 (by omega) (by simp; omega) (by simp)
 rw[R112]
 simp[s112,h0,e1,e2,e3]
 obtain ⟨x,rfl⟩:∃x,v= .c x:=by rcases e4 with ⟨_,h⟩ | ⟨_,h,_⟩<;>exact ⟨_,h⟩
 rw[W1h _ _ _ _ _ _root_.rfl hw]
 simp[hdp]
end Go.Sim
namespace Go.Sim
open Go.RowKit
def kd:Reg→Nat×Nat
 | .ac l=>(0,l.length)
 | .pc sz _=>(1,sz)
 | .es sz _=>(2,sz)
 | .ob (.mp _)=>(3,0)
 | .ob (.ch _ _)=>(3,1)
 | .dead=>(4,0)
 | .lp _ _ _ _ _=>(5,0)
def StayK(K:List (Nat×Nat))(rg rg':List Reg):Prop:=∀(i:Nat) (r:Reg),rg[i]?=some r→kd r∉K→rg'[i]?=some r
theorem StayK.app(K:List (Nat×Nat))(rg m:List Reg):StayK K rg (rg++m):=fun i r h _=>W0b h m
theorem StayK.set{rg:List Reg}{id:Nat}{r:Reg}(h:rg[id]?=some r)(x:Reg):StayK [kd r] rg (rg.set id x):=by
 intro i r' h1 h2
 have hne:id≠i:=by
  rintro rfl
  rw[h]at h1
  cases h1
  exact h2 (by simp)
 rw[Zv hne]; exact h1
section
variable {K:List (Nat×Nat)} {rg rg':List Reg} (h:StayK K rg rg')
include h
theorem slW.stay{sz:Nat}{l:List (List PV)}{x:AC}(hx:slW rg sz l x)(hk:(1,sz)∉K):slW rg' sz l x:=by
 rcases hx with hx | ⟨id,cap,h1,h2⟩
 ·exact .inl hx
 ·exact .inr ⟨id,cap,h1,h _ _ h2 hk⟩
theorem slF.stay{sz:Nat}{l:List (List PV)}{x:AC}(hx:slF rg sz l x)(hk:(1,sz)∉K):slF rg' sz l x:=by
 rcases hx with hx | ⟨id,h1,h2⟩
 ·exact .inl hx
 ·exact .inr ⟨id,h1,h _ _ h2 hk⟩
theorem slO.stay{sz:Nat}{l:List (List PV)}{x:AC}(hx:slO rg sz l x)(hk:(1,sz)∉K):slO rg' sz l x:=by
 rcases hx with hx | hx | ⟨id,off,cap,L,h1,h2,h3⟩
 ·exact .inl hx
 ·exact .inr (.inl hx)
 ·exact .inr (.inr ⟨id,off,cap,L,h1,h _ _ h2 hk,h3⟩)
theorem rwE.stay{sz:Nat}{l:List (List AC)}{x:AC}(hx:rwE rg sz l x)(hk:(2,sz)∉K):rwE rg' sz l x:=by
 rcases hx with hx | ⟨id,h1,h2⟩
 ·exact .inl hx
 ·exact .inr ⟨id,h1,h _ _ h2 hk⟩
theorem memR.stay{im:Nat}{K' M tr}(hx:memR rg im K' M tr)(h1:(0,3)∉K)(h2:(3,0)∉K)(h3:(1,3)∉K)(h4:(1,6)∉K):memR rg' im K' M tr:=by
 obtain ⟨vl,iw,vt,a1,a2,a3,a4⟩:=hx
 exact ⟨vl,iw,vt,h _ _ a1 h1,h _ _ a2 h2,slW.stay h a3 h3,slF.stay h a4 h4⟩
theorem trA.stay{tr:List (Int×Cel×List Int)}{x:AC}(hx:trA rg tr x)(h1:(2,12)∉K)(h2:(1,1)∉K):trA rg' tr x:=by
 obtain ⟨L,a1,a2,a3⟩:=hx
 refine ⟨L,rwE.stay h a1 h1,a2,fun i t ht=> ?_⟩
 obtain ⟨vr,b1,b2⟩:=a3 i t ht
 exact ⟨vr,b1,slO.stay h b2 h2⟩
theorem arR.stay{ia:Nat}{cells row tr}(hx:arR rg ia cells row tr)(h1:(0,4)∉K)(h2:(1,10)∉K)(h3:(1,1)∉K)(h4:(2,12)∉K):arR rg' ia cells row tr:=by
 obtain ⟨vt,vc,vr,a1,a2,a3,a4⟩:=hx
 exact ⟨vt,vc,vr,h _ _ a1 h1,slW.stay h a2 h2,slO.stay h a3 h3,trA.stay h a4 h4 h3⟩
theorem bufAt.stay{room:Nat}{b:Nat×Nat}{q:List Ent}(hx:bufAt rg room b q)(h1:(0,1)∉K)(h2:(3,1)∉K):bufAt rg' room b q:=⟨h _ _ hx.1 h1,h _ _ hx.2 h2⟩
end
theorem machR.setU{rg:List Reg}{q:Nat}{P:Prg}{c:Cfg}{s:Ste}{u:Su}{mtr:List (List PV)}{atr:List (Int×Cel×List Int)}{tr:List Snap}{L:List (Nat×Nat)}{im ia:Nat}{vt vb vr:AC}
  (hM:machR rg q P c s u mtr atr tr L im ia vt vb vr) (u':Su):machR (rg.set q (.ac (W0d im ia u' P c vt vb vr))) q P c s u' mtr atr tr L im ia vt vb vr:=by
 have h:StayK [(0,28)] rg (rg.set q (.ac (W0d im ia u' P c vt vb vr))):=StayK.set hM.row _
 exact ⟨W1r hM.row _,memR.stay h hM.mem (by decide) (by decide) (by decide) (by decide),arR.stay h hM.ar (by decide) (by decide) (by decide) (by decide),slW.stay h hM.thr (by decide),rwE.stay h hM.buf (by decide),rwE.stay h hM.tra (by decide),hM.len,
  fun x hx=>bufAt.stay h (hM.bufs x hx) (by decide) (by decide),hM.nd1,hM.nd2⟩
end Go.Sim
namespace Go.Sim
open Go.RowKit Go.Proofs.YtahoelmjfgoedaaGreat.T
attribute [-simp] vfld W0n W1n
def Su.T(u:Su):Nat→Int
 | 0=>u.t0
 | 1=>u.t1
 | 2=>u.t2
 | _=>u.t3
def Su.B(u:Su):Nat→Int
 | 0=>u.b0
 | 1=>u.b1
 | 2=>u.b2
 | _=>u.b3
def Su.S(u:Su):Nat→Bool
 | 0=>u.s0
 | 1=>u.s1
 | 2=>u.s2
 | _=>u.s3
def Su.fresh(u:Su)(t:Nat)(x y:Int):Su:=
 match t with
 | 0=>{u with t0:=x,b0:=y,s0:=false}
 | 1=>{u with t1:=x,b1:=y,s1:=false}
 | 2=>{u with t2:=x,b2:=y,s2:=false}
 | _=>{u with t3:=x,b3:=y,s3:=false}
def okU(s:Ste)(u:Su):Prop:=(u.old=false→u.sh=shS s)∧∀t,t<s.thr.length→u.S t=false→u.T t=thA s t∧u.B t=buA s t
theorem Wbe(u:Su)(t:Nat)(ht:t<4)(x y:Int):(u.fresh t x y).S t=false∧(u.fresh t x y).T t=x∧(u.fresh t x y).B t=y:=by
 rcases t with _ | _ | _ | _ | t
 ·exact ⟨rfl,rfl,rfl⟩
 ·exact ⟨rfl,rfl,rfl⟩
 ·exact ⟨rfl,rfl,rfl⟩
 ·exact ⟨rfl,rfl,rfl⟩
 ·omega
theorem Wv1(u:Su)(t k:Nat)(ht:t<4)(hk:k<4)(h:k≠t)(x y:Int):(u.fresh t x y).S k=u.S k∧(u.fresh t x y).T k=u.T k∧(u.fresh t x y).B k=u.B k:=by
 rcases t with _ | _ | _ | _ | t<;>rcases k with _ | _ | _ | _ | k<;>first | omega | exact ⟨rfl,rfl,rfl⟩
theorem Wv2(u:Su)(t:Nat)(x y:Int):(u.fresh t x y).sh=u.sh∧(u.fresh t x y).old=u.old:=by
 rcases t with _ | _ | _ | _ | t<;>exact ⟨rfl,rfl⟩
theorem okU.fresh{s:Ste}{u:Su}(h:okU s u)(hn:s.thr.length≤4)(t:Nat)(ht:t<s.thr.length):okU s (u.fresh t (thA s t) (buA s t)):=by
 obtain ⟨e1,e2⟩:=Wv2 u t (thA s t) (buA s t)
 refine ⟨fun h1=>by rw[e1]; exact h.1 (by rw[←e2]; exact h1),fun k hk hs=> ?_⟩
 by_cases e:k=t
 ·subst e
  exact (Wbe u k (by omega) _ _).2
 ·obtain ⟨a1,a2,a3⟩:=Wv1 u t k (by omega) (by omega) e (thA s t) (buA s t)
  rw[a1]at hs
  rw[a2,a3]
  exact h.2 k hk hs
section
variable {rg:List Reg} {q:Nat} {P:Prg} {c:Cfg} {s:Ste} {mtr:List (List PV)} {atr:List (Int×Cel×List Int)} {tr:List Snap} {L:List (Nat×Nat)} {im ia:Nat} {vt vb vr:AC}
theorem wf_u{u:Su}(hM:machR rg q P c s u mtr atr tr L im ia vt vb vr)(hw:wf rg)(u':Su):wf (rg.set q (.ac (W0d im ia u' P c vt vb vr))):=by
 refine W2l hw ?_
 have h:=Za.1 hw _ (Zi hM.row)
 simp only[W18,W0d,Y2,X6,Yu,Z4]at h ⊢
 simp only[acLt,faLt,Yu,true_and,and_true]at h ⊢
 exact h
set_option maxHeartbeats 2000000 in
theorem Wrd{u:Su}(hM:machR rg q P c s u mtr atr tr L im ia vt vb vr)(hS:okS P c s)(hw:wf rg)(n0 t:Nat)(ht:t<s.thr.length)(h:Int):
  W3t W02 bm.run n0 ⟨[(32,I .i64 (t:Nat)),(31,I .i64 s.thr.length),(3,I .u64 h),(0,.c (.ptr q 0))],rg⟩=
   some (.normal,⟨[(32,I .i64 ((t+1:Nat):Int)),(31,I .i64 s.thr.length),(3,I .u64 (xo h (xo ((if u.S t=true then u.fresh t (thA s t) (buA s t)else u).T t) ((if u.S t=true then u.fresh t (thA s t) (buA s t)else u).B t)))),(0,.c (.ptr q 0))],
    rg.set q (.ac (W0d im ia (if u.S t=true then u.fresh t (thA s t) (buA s t)else u) P c vt vb vr))⟩):=by
 have hn4:=hS.n4
 have htl:=hS.thr
 have ht4:t<4:=by omega
 have hi2:(t:Int)<s.thr.length:=by omega
 have hnx:IntKind.i64.wrap ((t:Int)+1)=(t:Int)+1:=W0g (by omega) (by omega)
 have h64:IntKind.i64.wrap (64+(t:Int))=64+(t:Int):=W0g (by omega) (by omega)
 have hth:s.thr[t]?=some s.thr[t]:=Z2 ht
 have hok:=hS.tok _ (Zl ht)
 have hbl:t<s.buf.length:=by rw[hS.buf,←htl]; exact ht
 have hbu:s.buf[t]?=some s.buf[t]:=Z2 hbl
 have hLt:t<L.length:=by rw[hM.len]; exact hbl
 have hLj:L[t]?=some L[t]:=Z2 hLt
 have hdep:=hS.bl _ (Zl hbl)
 have hd4:=(W22 hS.ok).2.2.2.2
 generalize s.thr[t]=th at hth hok
 generalize s.buf[t]=e at hbu hdep
 generalize L[t]=b at hLj
 have hz:(b,e)∈allB L s tr:=List.mem_append_left _ (Zi (i:=t) (by rw[Xk]; exact ⟨hLj,hbu⟩))
 have hba:bufAt rg c.depth.toNat b e:=hM.bufs _ hz
 have eth:thA s t=thS t th:=by simp[thA,Zc,hth]
 have ebu:buA s t=buS t e:=by simp[buA,Zc,hbu]
 have hlen:(thO th).length≤1000000:=Wr7 hok
 have helen:(ensO e).length≤1000000:=by rw[Wr5]; omega
 obtain ⟨idb,rfl,hidb⟩:=hM.bufRow hS
 obtain ⟨idt,capt,rfl,hidt⟩:=hM.thrRow hS
 have e1:P.code.length-1+1=P.code.length:=by have:=hS.n1; omega
 have hpl:(ptrL L)[t]?=some [.ptr b.1 0]:=by simp[ptrL,hLj]
 have htm:(s.thr.map Thr.k)[t]?=some th.k:=by rw[Zz,hth]; rfl
 have htP:(t:Int)<P.code.length:=by omega
 have htP2:t<P.code.length:=by omega
 have hrow:=hM.row
 rw[e1]at hM hrow ⊢
 have hidt2:∀x,(rg.set q (.ac x))[idt]?=some (.pc 22 (s.thr.map Thr.k)):=fun x=>by
  rw[Zv (by rintro rfl; rw[hrow]at hidt; cases hidt)]; exact hidt
 have hidb2:∀x,(rg.set q (.ac x))[idb]?=some (.es 1 (ptrL L)):=fun x=>by
  rw[Zv (by rintro rfl; rw[hrow]at hidb; cases hidb)]; exact hidb
 have hsg:=fun x=>W1r hrow x
 cases hst:u.S t
 ·have hself:rg.set q (.ac (W0d im ia u P c (.own idt 0 22 P.code.length capt) (.own idb 0 1 P.code.length .free) vr))=rg:=W3x hrow
  simp only[Y6,if_false]
  rw[hself]
  clear hself hM hsg hidt2 hidb2
  simp[W0d]at hrow
  rcases t with _ | _ | _ | _ | t
  ·have hst':u.s0=false:=hst
   simp at hi2 hnx
   simp[W3t,hi2,hnx,ht,hrow,hst',Su.T,Su.B,xo]
  ·have hst':u.s1=false:=hst
   simp at hi2 hnx
   simp[W3t,hi2,hnx,ht,hrow,hst',Su.T,Su.B,xo]
  ·have hst':u.s2=false:=hst
   simp at hi2 hnx
   simp[W3t,hi2,hnx,ht,hrow,hst',Su.T,Su.B,xo]
  ·have hst':u.s3=false:=hst
   simp at hi2 hnx
   simp[W3t,hi2,hnx,ht,hrow,hst',Su.T,Su.B,xo]
  ·omega
 ·have k1:=V08 th hok rg hw
  have k2:=Wcg (t:Nat) (thO th) hlen rg
  have hwu:=wf_u hM hw
  have hBu:∀u',bufAt (rg.set q (.ac (W0d im ia u' P c (.own idt 0 22 P.code.length capt) (.own idb 0 1 P.code.length .free) vr))) c.depth.toNat b e:=fun u'=>bufAt.stay (StayK.set hrow _) hba (by simp[kd,W0d]) (by simp[kd,W0d])
  have k3:=fun u'=>Wrc (hBu u') hdep (by omega) (hwu u')
  have k4:=fun u'=>V09 e (by omega) _ (hwu u')
  have k5:=fun u'=>Wcg (64+(t:Int)) (ensO e) helen (rg.set q (.ac (W0d im ia u' P c (.own idt 0 22 P.code.length capt) (.own idb 0 1 P.code.length .free) vr)))
  have w1:sumW (IntKind.u64.wrap (t:Int)) (thO th)=thA s t:=eth.symm
  have w2:sumW (IntKind.u64.wrap (64+(t:Int))) (ensO e)=buA s t:=ebu.symm
  rw[w1]at k2
  simp only[w2]at k5
  generalize thA s t=x at*
  generalize buA s t=y at*
  have h22:(th.k.map AC.p).take 22=th.k.map AC.p:=rfl
  have hkn:∀x∈th.k.map AC.p,x.known=true:=fun x hx=>by
   obtain ⟨y,_,rfl⟩:=Y1.1 hx; rfl
  simp only[if_true]
  have hdt:decide ((t:Int)<s.thr.length)=true:=Xz hi2
  rcases t with _ | _ | _ | _ | t
  ·have hst':u.s0=true:=hst
   have k3':=k3 {u with t0:=x}
   have k4':=k4 {u with t0:=x}
   have k5':=k5 {u with t0:=x}
   simp only[W0d]at hrow hidt2 hidb2 hsg k3' k4' k5' ⊢
   simp[hst']at k1 k2 k3' k4' k5' hdt hnx h64 htP htP2
   have hdt2:=Xz hdt
   simp[W3t,hdt2,hnx,hrow,hst',hidt,htm,h22,hkn,k1,k2,hsg,hidb2,hpl,htP,htP2,k3',k4',k5',Su.T,Su.B,Su.fresh,xo,h64]
  ·have hst':u.s1=true:=hst
   have k3':=k3 {u with t1:=x}
   have k4':=k4 {u with t1:=x}
   have k5':=k5 {u with t1:=x}
   simp only[W0d]at hrow hidt2 hidb2 hsg k3' k4' k5' ⊢
   simp[hst']at k1 k2 k3' k4' k5' hdt hnx h64 htP htP2
   have hdt2:=Xz hdt
   simp[W3t,hdt2,hnx,hrow,hst',hidt,htm,h22,hkn,k1,k2,hsg,hidb2,hpl,htP,htP2,k3',k4',k5',Su.T,Su.B,Su.fresh,xo,h64]
  ·have hst':u.s2=true:=hst
   have k3':=k3 {u with t2:=x}
   have k4':=k4 {u with t2:=x}
   have k5':=k5 {u with t2:=x}
   simp only[W0d]at hrow hidt2 hidb2 hsg k3' k4' k5' ⊢
   simp[hst']at k1 k2 k3' k4' k5' hdt hnx h64 htP htP2
   have hdt2:=Xz hdt
   simp[W3t,hdt2,hnx,hrow,hst',hidt,htm,h22,hkn,k1,k2,hsg,hidb2,hpl,htP,htP2,k3',k4',k5',Su.T,Su.B,Su.fresh,xo,h64]
  ·have hst':u.s3=true:=hst
   have k3':=k3 {u with t3:=x}
   have k4':=k4 {u with t3:=x}
   have k5':=k5 {u with t3:=x}
   simp only[W0d]at hrow hidt2 hidb2 hsg k3' k4' k5' ⊢
   simp[hst']at k1 k2 k3' k4' k5' hdt hnx h64 htP htP2
   have hdt2:=Xz hdt
   simp[W3t,hdt2,hnx,hrow,hst',hidt,htm,h22,hkn,k1,k2,hsg,hidb2,hpl,htP,htP2,k3',k4',k5',Su.T,Su.B,Su.fresh,xo,h64]
  ·omega
omit rg q mtr atr tr L im ia vt vb vr in
theorem okS.small(hS:okS P c s):smallS s:=by
 have h1:=hS.bR
 have h2:=hS.bC
 have h3:=hS.bS
 have h4:=hS.n4
 have hsl:P.code.length*P.slots.toNat≤4*2:=Nat.mul_le_mul h4 (by omega)
 exact ⟨by rw[hS.roots]; omega,by rw[hS.slots]; omega,by rw[hS.cells]; omega,by have:=hS.free; omega,by rw[hS.marks]; omega,by rw[hS.counts]; omega⟩
def Su.sh0(u:Su)(x:Int):Su:={u with sh:=x,old:=false}
set_option maxHeartbeats 2000000 in
theorem Wv3{u:Su}(hM:machR rg q P c s u mtr atr tr L im ia vt vb vr)(hS:okS P c s)(hU:okU s u)(hw:wf rg):
  ∃u',okU s u'∧bm.run (.fn 123) [.c (.ptr q 0)] rg=some (I .u64 (Wf4 s),rg.set q (.ac (W0d im ia u' P c vt vb vr))):=by
 have hn4:s.thr.length≤4:=by rw[hS.thr]; exact hS.n4
 have hvl:vlen (.c vt)=some (I .i64 s.thr.length):=by
  obtain ⟨idt,capt,rfl,hidt⟩:=hM.thrRow hS
  have:P.code.length-1+1=s.thr.length:=by rw[hS.thr]; have:=hS.n1; omega
  rw[this]; rfl
 have hrow:=hM.row
 have hsg:=fun x=>W1r hrow x
 have hwu:=wf_u hM hw
 have key:∀u1,okU s u1→u1.old=false→∃u',okU s u'∧∃E,W02 (W3t W02 bm.run rg.length) ⟨[(32,I .i64 0),(31,I .i64 s.thr.length),(3,I .u64 u1.sh),(0,.c (.ptr q 0))],rg.set q (.ac (W0d im ia u1 P c vt vb vr))⟩=some (.exit 0,⟨E,rg.set q (.ac (W0d im ia u' P c vt vb vr))⟩)∧lkF E 3=I .u64 (Wf4 s):=by
  intro u1 hU1 ho1
  obtain ⟨ex,s',e1,rfl,u',E,rfl,e2,e3⟩:=W0z (body:=W3t W02 bm.run rg.length)
   (fun j st=>∃u',st=⟨[(32,I .i64 (j:Nat)),(31,I .i64 s.thr.length),(3,I .u64 ((List.range j).foldl (fun h t=>xo h (xo (thA s t) (buA s t))) (shS s))),(0,.c (.ptr q 0))],rg.set q (.ac (W0d im ia u' P c vt vb vr))⟩∧okU s u')
   (fun ex s'=>ex= .exit 0∧∃u' E,s'=⟨E,rg.set q (.ac (W0d im ia u' P c vt vb vr))⟩∧okU s u'∧lkF E 3=I .u64 (Wf4 s)) s.thr.length
   (s:=⟨[(32,I .i64 0),(31,I .i64 s.thr.length),(3,I .u64 u1.sh),(0,.c (.ptr q 0))],rg.set q (.ac (W0d im ia u1 P c vt vb vr))⟩)
   ⟨u1,by simp[hU1.1 ho1],hU1⟩
   (by
    rintro j hj st ⟨u',rfl,h1⟩
    have hr:=Wrd (hM.setU u') hS (hwu u') rg.length j hj ((List.range j).foldl (fun h t=>xo h (xo (thA s t) (buA s t))) (shS s))
    rw[Xo]at hr
    refine ⟨_,hr,(if u'.S j=true then u'.fresh j (thA s j) (buA s j)else u'),?_,?_⟩
    ·rw[List.range_succ,List.foldl_append]
     have:(if u'.S j=true then u'.fresh j (thA s j) (buA s j)else u').T j=thA s j∧(if u'.S j=true then u'.fresh j (thA s j) (buA s j)else u').B j=buA s j:=by
      cases hs:u'.S j
      ·simp only[Y6,if_false]; exact h1.2 j hj hs
      ·simp only[if_true]; exact (Wbe u' j (by omega) _ _).2
     rw[this.1,this.2]
     simp
    ·cases hs:u'.S j
     ·simp only[Y6,if_false]; exact h1
     ·simp only[if_true]; exact h1.fresh hn4 j hj)
   (by
    rintro st ⟨u',rfl,h1⟩
    exact ⟨.exit 0,_,by simp[W3t]; rfl,by simp,rfl,u',_,rfl,h1,rfl⟩)
  exact ⟨u',e2,E,e1,e3⟩
 cases ho:u.old
 ·obtain ⟨u',e1,E,e2,e3⟩:=key u hU ho
  have hself:rg.set q (.ac (W0d im ia u P c vt vb vr))=rg:=W3x hrow
  rw[hself]at e2
  refine ⟨u',e1,?_⟩
  rw[W1m]at e3
  rw[R123]
  generalize W0d im ia u' P c vt vb vr=C at*
  simp only[W0d]at hrow
  simp[ho]at hrow
  simp[s123,hrow,hvl,e2,e3]
 ·obtain ⟨u',e1,E,e2,e3⟩:=key (u.sh0 (shS s)) ⟨fun _=>by simp only[Su.sh0],fun t ht h=>hU.2 t ht h⟩ (by simp only[Su.sh0])
  have a1:=Wbd hM hS hw
  have a2:=Wld s hS.small rg hw
  have a3:=Wcg 128 (shO s) (Wr8 hS.small) rg
  have h128:IntKind.u64.wrap 128=128:=rfl
  have hsh:sumW 128 (shO s)=shS s:=rfl
  rw[h128,hsh]at a3
  refine ⟨u',e1,?_⟩
  rw[W1m]at e3
  rw[R123]
  have hwu':=hwu u'
  generalize W0d im ia u' P c vt vb vr=C at*
  simp only[W0d,Su.sh0]at hrow e2
  simp[ho]at hrow
  simp[s123,hrow,hsg,hvl,a1,a2,a3,e2,e3]
theorem Wv4{u:Su}(hM:machR rg q P c s u mtr atr tr L im ia vt vb vr)(hS:okS P c s)(hU:okU s u)(hw:wf rg):
  ∃u',okU s u'∧bm.run (.fn 52) [.c (.ptr q 0)] rg=some (I .u64 (Wf4 s),rg.set q (.ac (W0d im ia u' P c vt vb vr))):=by
 obtain ⟨u',h1,h2⟩:=Wv3 hM hS hU hw
 have hno:=W4t hM hS
 refine ⟨u',h1,?_⟩
 rw[R52]
 generalize W0d im ia u' P c vt vb vr=C at*
 simp[s52,hno,h2]
end
theorem V52(x:Int)(h0:0≤x)(h1:x<18446744073709551616):bits .and .u64 x 255=x%256:=by
 obtain ⟨n,rfl⟩:=Yo h0
 have e1:BitVec.ofInt 64 (n:Int)=BitVec.ofNat 64 n:=by
  apply BitVec.eq_of_toNat_eq; simp
 have e2:BitVec.ofInt 64 255=BitVec.ofNat 64 255:=by decide
 have e3:n&&& 255=n%256:=Nat.and_two_pow_sub_one_eq_mod n 8
 have e4:((BitVec.ofNat 64 n)&&& (BitVec.ofNat 64 255)).toNat=n%256:=by
  rw[BitVec.toNat_and,BitVec.toNat_ofNat,BitVec.toNat_ofNat,Nat.mod_eq_of_lt (by omega)]
  exact e3
 show IntKind.u64.wrap (((BitVec.ofInt 64 (n:Int))&&& (BitVec.ofInt 64 255)).toNat:Int)=_
 rw[e1,e2,e4,W45]
 omega
theorem W78(n k:Int)(hk:0<k)(hd:n%18446744073709551616/k%256=n/k%256):IntKind.u8.wrap (bits .and .u64 (IntKind.u64.wrap n/k) 255)=n/k%256:=by
 have h0:0≤IntKind.u64.wrap n:=by rw[W45]; omega
 have h1:IntKind.u64.wrap n<18446744073709551616:=by rw[W45]; omega
 rw[V52 _ (Int.ediv_nonneg h0 (by omega)) (Int.lt_of_le_of_lt (Int.ediv_le_self _ h0) h1),W6e,W45,←hd]
 omega
theorem Wv5(n:Int)(i:Nat)(hi:i<8)(rg:List Reg):bm.run (.fn 340) [I .i64 n,I .i64 (i:Nat)] rg=some (I .u8 ((be8 n).getD (7-i) 0),rg):=by
 rw[R340]
 match i,hi with
 | 0,_=>
  have:=W78 n 1 (by decide) (by omega)
  simp at this
  simp[s340,be8,this]
 | 1,_=>
  have:=W78 n 256 (by decide) (by omega)
  have sh:(2:Int)^min 8 IntKind.u64.bits=256:=rfl
  simp[s340,be8,sh,this]
 | 2,_=>
  have:=W78 n 65536 (by decide) (by omega)
  have sh:(2:Int)^min 16 IntKind.u64.bits=65536:=rfl
  simp[s340,be8,sh,this]
 | 3,_=>
  have:=W78 n 16777216 (by decide) (by omega)
  have sh:(2:Int)^min 24 IntKind.u64.bits=16777216:=rfl
  simp[s340,be8,sh,this]
 | 4,_=>
  have:=W78 n 4294967296 (by decide) (by omega)
  have sh:(2:Int)^min 32 IntKind.u64.bits=4294967296:=rfl
  simp[s340,be8,sh,this]
 | 5,_=>
  have:=W78 n 1099511627776 (by decide) (by omega)
  have sh:(2:Int)^min 40 IntKind.u64.bits=1099511627776:=rfl
  simp[s340,be8,sh,this]
 | 6,_=>
  have:=W78 n 281474976710656 (by decide) (by omega)
  have sh:(2:Int)^min 48 IntKind.u64.bits=281474976710656:=rfl
  simp[s340,be8,sh,this]
 | 7,_=>
  have:=W78 n 72057594037927936 (by decide) (by omega)
  have sh:(2:Int)^min 56 IntKind.u64.bits=72057594037927936:=rfl
  simp[s340,be8,sh,this]
theorem Wv6(b:List Int)(n:Int)(hb:b.length≤1000000)(rg:List Reg)(hw:wf rg):bm.run (.fn 325) [.c (penC b),I .i64 n,I .i64 8] rg=some (.c (penC (b++be8 n)),rg):=by
 have h8:(be8 n).length=8:=rfl
 obtain ⟨v0,m0,a1,a2,a3⟩:=accV.app (base:=rg) (m:=[]) (v:= .c (.p nilS)) (y:= .c (penC b)) (sz:=1) (bytes:=1) (l:=[]) (xs:=oL b) (.nil _ _ _) (by unfold penC; split<;>simp_all[W15]) (by unfold penC; split<;>simp_all[W1i]) (by unfold penC; split<;>simp[szOf]) (by simp; omega) (by simp; omega) (by simpa using hw)
 simp only[Zr,Xa]at a1 a2
 obtain ⟨ex,s',e1,rfl,v,m,e2,e3,e4,e5⟩:=W0z (body:=Wiy W02 bm.run rg.length)
  (fun j st=>∃v m,st=⟨[(8,I .i64 (7-(j:Int))),(7,v),(1,I .i64 n)],rg++m⟩∧accV rg.length 1 (oL (b++(be8 n).take j)) v m∧wf (rg++m))
  (fun ex s'=>ex= .exit 0∧∃v m,s'.regs=rg++m∧lkF s'.slots 7=v∧accV rg.length 1 (oL (b++be8 n)) v m∧wf (rg++m)) 8
  (s:=⟨[(8,I .i64 7),(7,v0),(1,I .i64 n)],rg++m0⟩) ⟨v0,m0,rfl,by simpa using a2,a3⟩
  (by
   rintro j hj st ⟨v,m,rfl,h1,h2⟩
   have hd:=Wv5 n (7-j) (by omega) (rg++m)
   have hx:(be8 n)[j]?=some ((be8 n).getD j 0):=by rw[Zc,Z2 (by rw[h8]; exact hj)]; rfl
   have ht:(be8 n).take (j+1)=(be8 n).take j++[(be8 n).getD j 0]:=by rw[Zs,hx]; rfl
   rw[show 7-(7-j)=j by omega,show ((7-j:Nat):Int)=7-(j:Int)by omega]at hd
   obtain ⟨v',m',f1,f2,f3⟩:=accV.push (bytes:=1) [ov ((be8 n).getD j 0)] h1 (by simp; omega) (by simp; omega) h2
   refine ⟨⟨[(8,I .i64 (7-((j+1:Nat):Int))),(7,v'),(1,I .i64 n)],rg++m'⟩,?_,v',m',rfl,by rw[ht]; simpa using f2,f3⟩
   have hg:(j:Int)≤7:=by omega
   have hnx:IntKind.i64.wrap (7-(j:Int)-1)=7-((j:Int)+1):=by rw[W0g (by omega) (by omega)]; omega
   simp at f1 hd
   simp[Wiy,hg,hd,f1,hnx])
  (by
   rintro st ⟨v,m,rfl,h1,h2⟩
   rw[Ze (by rw[h8]; exact Z8 _)]at h1
   exact ⟨.exit 0,_,by simp[Wiy]; rfl,by simp,rfl,v,m,rfl,rfl,h1,h2⟩)
 rw[W1m]at e3
 have hdp:=accV.deep (base:=rg) (k:=m.length) (ks:=[]) e4 (by omega) (by simp; omega) (by simp)
 have hne:b++be8 n≠[]:=by simp[be8]
 rw[R325]
 simp[s325,a1,e1,e2,e3]
 obtain ⟨x,rfl⟩:∃x,v= .c x:=by rcases e4 with ⟨_,h⟩ | ⟨_,h,_⟩<;>exact ⟨_,h⟩
 rw[W1h _ _ _ _ _ _root_.rfl hw]
 simp[hdp,penC,hne]
theorem W57(b:List Int)(n:Int)(hb:b.length≤1000000)(rg:List Reg)(hw:wf rg):bm.run (.fn 264) [.c (penC b),I .i64 n] rg=some (.c (penC (b++be8 n)),rg):=by
 rw[R264]; simp[s264,Wv6 b n hb rg hw,hw,avLt,W4a]
theorem W0k(b:List Int)(n:Int)(hb:b.length≤1000000)(rg:List Reg)(hw:wf rg):bm.run (.fn 262) [.c (penC b),I .i64 n] rg=some (.c (penC (b++be8 n)),rg):=by
 rw[R262]; simp[s262,W57 b n hb rg hw,hw,avLt,W4a]
theorem W2y(b:List Int)(x:Tri)(hb:b.length+24≤1000000)(rg:List Reg)(hw:wf rg):bm.run (.fn 263) [.c (penC b),av3 x] rg=some (.c (penC (b++wdO x)),rg):=by
 have hw1:wf (rg++[.ac [.p (iv x.a),.p (iv x.b),.p (iv x.c)]]):=W07 hw (by simp)
 have h1:=W57 b x.a (by omega) _ hw1
 have h2:=W0k (b++be8 x.a) x.b (by simp[be8]; omega) _ hw1
 have h3:=W0k (b++be8 x.a++be8 x.b) x.c (by simp[be8]; omega) _ hw1
 have hf:b++be8 x.a++be8 x.b++be8 x.c=b++wdO x:=by simp[wdO]
 rw[hf]at h3
 generalize b++be8 x.a++be8 x.b=b2 at*
 generalize b++be8 x.a=b1 at*
 rw[R263]
 simp[s263,h1,h2,h3,hw,avLt,W4a]
theorem Wbf(b:List Int)(l:List Tri)(hb:b.length+8+24*l.length≤1000000)(rg:List Reg)(hw:wf rg):bm.run (.fn 261) [.c (penC b),.c (.p (sl3 l))] rg=some (.c (penC (b++wdsO l)),rg):=by
 have h0:=W0k b l.length (by omega) rg hw
 have hl0:(b++be8 l.length).length=b.length+8:=by simp[be8]
 have key:=W0y (body:=Win W02 bm.run rg.length) (fun j=>⟨[(5,I .i64 (j:Nat)),(1,.c (.p (sl3 l))),(0,.c (penC (b++be8 l.length++(l.take j).flatMap wdO)))],rg⟩) l.length (fun i hi=>by
   have hx:l[i]?=some l[i]:=Z2 hi
   have ht:l.take (i+1)=l.take i++[l[i]]:=by rw[Zs,hx]; rfl
   have hli:(l.take i).length≤l.length:=by simp; omega
   have hr:=W2y (b++be8 l.length++(l.take i).flatMap wdO) l[i] (by rw[Z5,hl0,W4q]; simp; omega) rg hw
   have hf:b++be8 l.length++(l.take (i+1)).flatMap wdO=b++be8 l.length++(l.take i).flatMap wdO++wdO l[i]:=by rw[ht,Yc]; simp
   rw[hf]
   generalize b++be8 l.length++(l.take i).flatMap wdO=bb at*
   generalize l[i]=x at*
   have hi2:(i:Int)<l.length:=by omega
   have hnx:IntKind.i64.wrap ((i:Int)+1)=(i:Int)+1:=W0g (by omega) (by omega)
   simp[Win,hi2,hnx,hx,hr]) (e:= .exit 0) (s':=⟨[(13,Bo false),(5,I .i64 l.length),(1,.c (.p (sl3 l))),(0,.c (penC (b++wdsO l)))],rg⟩) (by
   rw[Ze (Z8 _)]
   simp[Win,wdsO]) (by simp)
 simp only[List.take_zero,Ye,Zr,show (((0:Nat):Int))=0 from _root_.rfl]at key
 rw[R261]
 simp[s261,h0,key,hw,avLt,W4a]
theorem W6i(b:List Int)(l:List Int)(hb:b.length+8+8*l.length≤1000000)(rg:List Reg)(hw:wf rg):bm.run (.fn 265) [.c (penC b),.c (.p (slI l))] rg=some (.c (penC (b++nmsO l)),rg):=by
 have h0:=W0k b l.length (by omega) rg hw
 have hl0:(b++be8 l.length).length=b.length+8:=by simp[be8]
 have key:=W0y (body:=Wio W02 bm.run rg.length) (fun j=>⟨[(5,I .i64 (j:Nat)),(1,.c (.p (slI l))),(0,.c (penC (b++be8 l.length++(l.take j).flatMap be8)))],rg⟩) l.length (fun i hi=>by
   have hx:l[i]?=some l[i]:=Z2 hi
   have ht:l.take (i+1)=l.take i++[l[i]]:=by rw[Zs,hx]; rfl
   have hr:=W57 (b++be8 l.length++(l.take i).flatMap be8) l[i] (by rw[Z5,hl0,W9y]; simp; omega) rg hw
   have hf:b++be8 l.length++(l.take (i+1)).flatMap be8=b++be8 l.length++(l.take i).flatMap be8++be8 l[i]:=by rw[ht,Yc]; simp
   rw[hf]
   generalize b++be8 l.length++(l.take i).flatMap be8=bb at*
   generalize l[i]=x at*
   have hi2:(i:Int)<l.length:=by omega
   have hnx:IntKind.i64.wrap ((i:Int)+1)=(i:Int)+1:=W0g (by omega) (by omega)
   simp[Wio,hi2,hnx,hx,hr]) (e:= .exit 0) (s':=⟨[(13,Bo false),(5,I .i64 l.length),(1,.c (.p (slI l))),(0,.c (penC (b++nmsO l)))],rg⟩) (by
   rw[Ze (Z8 _)]
   simp[Wio,nmsO]) (by simp)
 simp only[List.take_zero,Ye,Zr,show (((0:Nat):Int))=0 from _root_.rfl]at key
 rw[R265]
 simp[s265,h0,key,hw,avLt,W4a]
@[simp] theorem V6j (th:Thr):(th.k.map AC.p).take 22=th.k.map AC.p:=_root_.id rfl
@[simp] theorem V6k (th:Thr):((th.k.map AC.p).drop 15).take 1=[.p (iv th.mi.kind)]:=_root_.id rfl
abbrev steR(s:Ste):Reg:= .ac (s.k.map .p)
theorem Wgu(P:Prg)(c:Cfg)(hc:P.code.length≤1000)(rg:List Reg)(hw:wf rg):bm.run (.fn 21) [prgP P,cfgA c] rg=some (I .i64 (if c.order=1 then 2*(P.code.length:Int)else (P.code.length:Int)),rg):=by
 have hwr:IntKind.i64.wrap (2*(P.code.length:Int))=2*(P.code.length:Int):=W0g (by omega) (by omega)
 rw[R21]
 by_cases h:c.order=1<;>simp[s21,hw,h,hwr]
theorem W9z(th:Thr)(l:List Ins)(rg:List Reg)(hw:wf rg)(hl:l.length≤1000):bm.run (.fn 103) [ag th.k,.c (.p (slN l))] rg=some (Bo (th.done l.length),rg):=by
 have hb:inB th.pc 0 ((l.length:Int)-1)=(!decide (th.pc<0)&& !decide ((l.length:Int)≤th.pc)):=by
  simp only[inB]
  rw[Bool.eq_iff_iff]
  simp only[Z4,Zf,X0,Xr]
  omega
 rw[R103]
 by_cases h1:th.status=0
 ·by_cases h2:th.mi.kind=0
  ·by_cases h3:th.fuel≤0
   ·simp[s103,hw,h1,h2,h3,Thr.done]
   ·by_cases h4:th.pc<0<;>simp[s103,hw,h1,h2,h3,h4,Thr.done,hb]
  ·simp[s103,hw,h1,h2,Thr.done]
 ·simp[s103,hw,h1,Thr.done]
theorem Wbg(P:Prg)(s:Ste)(t:Nat)(th:Thr)(l:List Ins)(hth:s.thr[t]?=some th)(hl:P.code[t]?=some l)(hll:l.length≤1000)(rg:List Reg)(hw:wf rg):
  bm.run (.fn 168) [prgP P,ag s.k,I .i64 (t:Nat)] rg=some (insA (if (th.done l.length|| !decide (th.mi.kind=0))=true then ins0 else l.getD th.pc.toNat ins0),rg):=by
 have hw1:wf (rg++[prow P.roots P.cells P.slots P.code,steR s,.ac [.p (iv 0),.p (iv 0),.p (iv 0),.p (iv 0),.p (iv 0)],.ac (th.k.map .p)]):=W07 hw (by simp[Ste.k,Thr.k])
 have h1:=W9z th l _ hw1 hll
 have htm:(s.thr.map Thr.k)[t]?=some th.k:=by rw[Zz,hth]; rfl
 rw[R168]
 cases hd:th.done l.length
 ·rw[hd]at h1
  by_cases hk:th.mi.kind=0
  ·obtain ⟨h0,h2⟩:=Thr.done_pc hd hk
   have h3:th.pc.toNat<l.length:=by omega
   have h4:l[th.pc.toNat]?=some (l[th.pc.toNat]'h3):=Z2 h3
   have h5:l.getD th.pc.toNat ins0=l[th.pc.toNat]'h3:=by rw[Zc,h4]; rfl
   rw[if_neg (by simp[hk]),h5]
   generalize l[th.pc.toNat]'h3=x at h4 h5
   simp[s168,hw,h1,hth,hl,hk,h0,h4]
  ·rw[if_pos (by simp[hk])]
   simp[s168,hw,h1,hth,hl,hk,ins0]
 ·rw[hd]at h1
  rw[if_pos (by simp)]
  simp[s168,hw,h1,hth,hl,ins0]
theorem Wle(P:Prg)(s:Ste)(t:Nat)(th:Thr)(l:List Ins)(hth:s.thr[t]?=some th)(hl:P.code[t]?=some l)(hll:l.length≤1000)(rg:List Reg)(hw:wf rg):
  bm.run (.fn 104) [prgP P,ag s.k,I .i64 (t:Nat)] rg=some (Bo (W5p th l),rg):=by
 have hw1:wf (rg++[prow P.roots P.cells P.slots P.code,steR s]):=W07 hw (by simp[Ste.k])
 have h1:=Wbg P s t th l hth hl hll _ hw1
 rw[show (if (th.done l.length|| !decide (th.mi.kind=0))=true then ins0 else l.getD th.pc.toNat ins0)=W4r th l from rfl]at h1
 unfold W5p
 generalize W4r th l=x at*
 rw[R104]
 by_cases k1:th.mi.kind=1
 ·simp[s104,hw,h1,hth,k1]
 by_cases a1:x.op=12
 ·obtain ⟨op,xa,xb,xc,xn⟩:=x; simp only at a1; subst a1; simp[s104,hw,h1,hth,k1]
 by_cases a2:x.op=15
 ·obtain ⟨op,xa,xb,xc,xn⟩:=x; simp only at a2; subst a2; simp[s104,hw,h1,hth,k1]
 by_cases a3:x.op=21
 ·obtain ⟨op,xa,xb,xc,xn⟩:=x; simp only at a3; subst a3; simp[s104,hw,h1,hth,k1]
 by_cases a4:x.op=22
 ·obtain ⟨op,xa,xb,xc,xn⟩:=x; simp only at a4; subst a4; simp[s104,hw,h1,hth,k1]
 by_cases a5:x.op=24
 ·obtain ⟨op,xa,xb,xc,xn⟩:=x; simp only at a5; subst a5; simp[s104,hw,h1,hth,k1]
 ·simp[s104,hw,h1,hth,k1,a1,a2,a3,a4,a5]
theorem Wlf(P:Prg)(s:Ste)(t:Nat)(th:Thr)(l:List Ins)(hth:s.thr[t]?=some th)(hl:P.code[t]?=some l)(hll:l.length≤1000)(rg:List Reg)(hw:wf rg):
  bm.run (.fn 105) [prgP P,ag s.k,I .i64 (t:Nat)] rg=some (Bo (W4s th l),rg):=by
 have hw1:wf (rg++[prow P.roots P.cells P.slots P.code,steR s]):=W07 hw (by simp[Ste.k])
 have h1:=Wbg P s t th l hth hl hll _ hw1
 rw[show (if (th.done l.length|| !decide (th.mi.kind=0))=true then ins0 else l.getD th.pc.toNat ins0)=W4r th l from rfl]at h1
 unfold W4s
 generalize W4r th l=x at*
 rw[R105]
 by_cases k1:th.mi.kind=6
 ·simp[s105,hw,h1,hth,k1]
 by_cases a1:x.op=13
 ·obtain ⟨op,xa,xb,xc,xn⟩:=x; simp only at a1; subst a1; simp[s105,hw,h1,hth,k1]
 by_cases a2:x.op=16
 ·obtain ⟨op,xa,xb,xc,xn⟩:=x; simp only at a2; subst a2; simp[s105,hw,h1,hth,k1]
 ·simp[s105,hw,h1,hth,k1,a1,a2]
theorem Wcp{α:Type}{body:St→Option (Exit×St)}{rg:List Reg}{l:List α}{F:Nat→AV→List (Nat×AV)}{E:List (Nat×AV)}{k:Nat}(O:α→List Int)(b:List Int)(hl:l.length≤1000000)
  (hround:∀(i:Nat) x bb,l[i]?=some x→bb.length+(O x).length≤b.length+(l.flatMap O).length→(i:Int)<l.length→IntKind.i64.wrap ((i:Int)+1)=(i:Int)+1→
   body ⟨F i (.c (penC bb)),rg⟩=some (.normal,⟨F (i+1) (.c (penC (bb++O x))),rg⟩))
  (hend:body ⟨F l.length (.c (penC (b++l.flatMap O))),rg⟩=some (.exit k,⟨E,rg⟩)):
  W02 body ⟨F 0 (.c (penC b)),rg⟩=some (.exit k,⟨E,rg⟩):=by
 have key:=W0y (body:=body) (fun j=>⟨F j (.c (penC (b++(l.take j).flatMap O))),rg⟩) l.length (fun i hi=>by
   have hx:l[i]?=some l[i]:=Z2 hi
   have ht:l.take (i+1)=l.take i++[l[i]]:=by rw[Zs,hx]; rfl
   have hsp:l.flatMap O=(l.take i).flatMap O++(O l[i]++(l.drop (i+1)).flatMap O):=by
    conv=>lhs; rw[←X5 i l,List.drop_eq_getElem_cons hi]
    rw[Yc,Ya]
   have hr:=hround i _ (b++(l.take i).flatMap O) hx (by rw[hsp]; simp; omega) (by omega) (W0g (by omega) (by omega))
   rw[hr,ht,Yc]
   simp) (e:= .exit k) (s':=⟨E,rg⟩) (by
   rw[Ze (Z8 _)]
   exact hend) (by simp)
 simpa using key
set_option maxHeartbeats 2000000 in
theorem Wv7(th:Thr)(ht:th.okT)(rg:List Reg)(hw:wf rg):bm.run (.fn 166) [ag th.k] rg=some (oS (thO th),rg):=by
 obtain ⟨t1,t2,t3⟩:=ht
 have hw1:wf (rg++[.ac (th.k.map .p)]):=W07 hw (by simp[Thr.k])
 have h1:=W0k [] th.pc (by simp) _ hw1
 have l1:([]++be8 th.pc).length=8:=rfl
 generalize ho1:[]++be8 th.pc=o1 at*
 have h2:=W0k o1 th.fuel (by omega) _ hw1
 have l2:(o1++be8 th.fuel).length=16:=by rw[Z5,l1]; rfl
 generalize ho2:o1++be8 th.fuel=o2 at*
 have h3:=W0k o2 th.status (by omega) _ hw1
 have l3:(o2++be8 th.status).length=24:=by rw[Z5,l2]; rfl
 generalize ho3:o2++be8 th.status=o3 at*
 have w0:=W2y o3 th.r0 (by omega) _ hw1
 have w1:=W2y (o3++wdO th.r0) th.r1 (by rw[Z5,W31]; omega) _ hw1
 have w2:=W2y (o3++wdO th.r0++wdO th.r1) th.r2 (by simp only[Z5,W31]; omega) _ hw1
 have w3:=W2y (o3++wdO th.r0++wdO th.r1++wdO th.r2) th.r3 (by simp only[Z5,W31]; omega) _ hw1
 have l4:(o3++wdO th.r0++wdO th.r1++wdO th.r2++wdO th.r3).length=120:=by simp only[Z5,W31,l3]
 generalize ho4:o3++wdO th.r0++wdO th.r1++wdO th.r2++wdO th.r3=o4 at*
 generalize hp3:o3++wdO th.r0++wdO th.r1++wdO th.r2=p3 at*
 generalize hp2:o3++wdO th.r0++wdO th.r1=p2 at*
 generalize hp1:o3++wdO th.r0=p1 at*
 have hloop:W02 (W9h W02 bm.run rg.length) ⟨[(4,I .i64 0),(3,.c (penC o3)),(1,.c (.ptr rg.length 0))],rg++[.ac (th.k.map .p)]⟩=some (.exit 0,⟨[(19,Bo false),(4,I .i64 4),(3,.c (penC o4)),(1,.c (.ptr rg.length 0))],rg++[.ac (th.k.map .p)]⟩):=by
  rw[W09]; simp[W9h,w0]
  rw[W09]; simp[W9h,w1]
  rw[W09]; simp[W9h,w2]
  rw[W09]; simp[W9h,w3]
  rw[W09]; simp[W9h]
 have h5:=W0k o4 th.mi.kind (by omega) _ hw1
 have l5:(o4++be8 th.mi.kind).length=128:=by rw[Z5,l4]; rfl
 generalize ho5:o4++be8 th.mi.kind=o5 at*
 have h6:=W0k o5 th.mi.i (by omega) _ hw1
 have l6:(o5++be8 th.mi.i).length=136:=by rw[Z5,l5]; rfl
 generalize ho6:o5++be8 th.mi.i=o6 at*
 have h7:=W57 o6 th.mi.n (by omega) _ hw1
 have l7:(o6++be8 th.mi.n).length=144:=by rw[Z5,l6]; rfl
 generalize ho7:o6++be8 th.mi.n=o7 at*
 have h8:=W6i o7 th.mi.seen (by omega) _ hw1
 have l8:(o7++nmsO th.mi.seen).length≤9000:=by rw[Z5,W47]; omega
 generalize ho8:o7++nmsO th.mi.seen=o8 at*
 have h9:=W0k o8 th.bag.length (by omega) _ hw1
 have l9:(o8++be8 th.bag.length).length≤9008:=by rw[Z5]; have:(be8 th.bag.length).length=8:=rfl; omega
 generalize ho9:o8++be8 th.bag.length=o9 at*
 have hbag:=Wcp (k:=2) (body:=Wik W02 bm.run rg.length) (rg:=rg++[.ac (th.k.map .p)]) (l:=th.bag) (F:=fun j v=>[(5,I .i64 (j:Nat)),(3,v),(1,.c (.ptr rg.length 0))]) (E:=[(57,Bo false),(5,I .i64 th.bag.length),(3,.c (penC (o9++th.bag.flatMap wdO))),(1,.c (.ptr rg.length 0))]) wdO o9 (by omega)
  (by
   intro i x bb hx hbl hi2 hnx
   rw[W4q,W31]at hbl
   have a1:=W0k bb x.a (by omega) _ hw1
   have a2:=W0k (bb++be8 x.a) x.b (by rw[Z5]; have:(be8 x.a).length=8:=rfl; omega) _ hw1
   have a3:=W57 (bb++be8 x.a++be8 x.b) x.c (by simp only[Z5]; have:(be8 x.a).length=8:=rfl; have:(be8 x.b).length=8:=rfl; omega) _ hw1
   have hf:bb++be8 x.a++be8 x.b++be8 x.c=bb++wdO x:=by simp[wdO]
   rw[hf]at a3
   generalize bb++be8 x.a++be8 x.b=b2 at*
   generalize bb++be8 x.a=b1 at*
   simp[Wik,hx,hi2,hnx,a1,a2,a3])
  (by simp[Wik])
 have l10:(o9++th.bag.flatMap wdO).length≤40000:=by rw[Z5,W4q]; omega
 generalize ho10:o9++th.bag.flatMap wdO=o10 at*
 have h11:=W6i o10 th.snap (by omega) _ hw1
 have l11:(o10++nmsO th.snap).length≤50000:=by rw[Z5,W47]; omega
 generalize ho11:o10++nmsO th.snap=o11 at*
 have h12:=W0k o11 th.old (by omega) _ hw1
 have hf:o11++be8 th.old=thO th:=by
  rw[←ho11,←ho10,←ho9,←ho8,←ho7,←ho6,←ho5,←ho4,←hp3,←hp2,←hp1,←ho3,←ho2,←ho1]
  simp[thO,wdsO]
 rw[hf]at h12
 have hne:thO th≠[]:=by simp[thO,be8]
 have hp0:penC []= .p nilS:=rfl
 rw[hp0]at h1
 simp at hbag
 rw[R166]
 simp[s166,h1,h2,h3,hloop,h5,h6,h7,h8,h9,hbag,h11,h12]
 rw[W1h _ _ _ _ _ _root_.rfl hw]
 simp[penC,hne]
set_option maxHeartbeats 1000000 in
theorem Wv8(l:List Ent)(hl:l.length≤1000)(rg:List Reg)(hw:wf rg):bm.run (.fn 167) [.c (.p (slE l))] rg=some (oS (ensO l),rg):=by
 have h1:=W0k [] l.length (by simp) _ hw
 have l1:([]++be8 (l.length:Int)).length=8:=rfl
 have ho1:[]++be8 (l.length:Int)=be8 l.length:=rfl
 rw[ho1]at h1
 have key:=Wcp (k:=0) (body:=Wil W02 bm.run rg.length) (rg:=rg) (l:=l) (F:=fun j v=>[(4,I .i64 (j:Nat)),(3,v),(0,.c (.p (slE l)))]) (E:=[(12,Bo false),(4,I .i64 l.length),(3,.c (penC (ensO l))),(0,.c (.p (slE l)))]) enO (be8 l.length) (by omega)
  (by
   intro i x bb hx hbl hi2 hnx
   rw[W9s,Wgr]at hbl
   have e8:∀n,(be8 n).length=8:=fun _=>rfl
   have hbl2:bb.length+64≤1000000:=by rw[e8]at hbl; omega
   have a1:=W0k bb x.p.a (by omega) _ hw
   have a2:=W0k (bb++be8 x.p.a) x.p.b (by simp only[Z5,e8]; omega) _ hw
   have a3:=W0k (bb++be8 x.p.a++be8 x.p.b) x.p.c (by simp only[Z5,e8]; omega) _ hw
   have a4:=W2y (bb++be8 x.p.a++be8 x.p.b++be8 x.p.c) x.w (by simp only[Z5,e8]; omega) _ hw
   have a5:=W0k (bb++be8 x.p.a++be8 x.p.b++be8 x.p.c++wdO x.w) x.gen (by simp only[Z5,e8,W31]; omega) _ hw
   have a6:=W0k (bb++be8 x.p.a++be8 x.p.b++be8 x.p.c++wdO x.w++be8 x.gen) x.pc (by simp only[Z5,e8,W31]; omega) _ hw
   have hf:bb++be8 x.p.a++be8 x.p.b++be8 x.p.c++wdO x.w++be8 x.gen++be8 x.pc=bb++enO x:=by simp[enO,wdO]
   rw[hf]at a6
   generalize bb++be8 x.p.a++be8 x.p.b++be8 x.p.c++wdO x.w++be8 x.gen=b5 at*
   generalize bb++be8 x.p.a++be8 x.p.b++be8 x.p.c++wdO x.w=b4 at*
   generalize bb++be8 x.p.a++be8 x.p.b++be8 x.p.c=b3 at*
   generalize bb++be8 x.p.a++be8 x.p.b=b2 at*
   generalize bb++be8 x.p.a=b1 at*
   have hek:x.k=[iv x.p.a,iv x.p.b,iv x.p.c,iv x.w.a,iv x.w.b,iv x.w.c,iv x.gen,iv x.pc]:=rfl
   simp[Wil,hx,hi2,hnx,hek,a1,a2,a3,a4,a5,a6])
  (by simp[Wil,ensO])
 have hne:ensO l≠[]:=by simp[ensO,be8]
 have hp0:penC []= .p nilS:=rfl
 rw[hp0]at h1
 simp at key
 rw[R167]
 simp[s167,h1,key]
 rw[Wb0 _ _ _ _ _root_.rfl hw]
 simp[penC,hne]
theorem Wre{α:Type}{body:St→Option (Exit×St)}{rg m0:List Reg}{l:List α}{F:Nat→AV→List (Nat×AV)}{E:List (Nat×AV)}{k:Nat}(O:α→List Int)(b:List Int)(hl:l.length≤1000000)(hw0:wf (rg++m0))
  (hround:∀(i:Nat) x bb m,l[i]?=some x→bb.length+(O x).length≤b.length+(l.flatMap O).length→(i:Int)<l.length→IntKind.i64.wrap ((i:Int)+1)=(i:Int)+1→wf (rg++m)→
   ∃m',body ⟨F i (.c (penC bb)),rg++m⟩=some (.normal,⟨F (i+1) (.c (penC (bb++O x))),rg++m'⟩)∧wf (rg++m'))
  (hend:∀m,body ⟨F l.length (.c (penC (b++l.flatMap O))),rg++m⟩=some (.exit k,⟨E,rg++m⟩)):
  ∃m,W02 body ⟨F 0 (.c (penC b)),rg++m0⟩=some (.exit k,⟨E,rg++m⟩)∧wf (rg++m):=by
 obtain ⟨ex,s',e1,rfl,m,rfl,hm⟩:=W0z (body:=body)
  (fun j st=>∃m,st=⟨F j (.c (penC (b++(l.take j).flatMap O))),rg++m⟩∧wf (rg++m))
  (fun ex s'=>ex= .exit k∧∃m,s'=⟨E,rg++m⟩∧wf (rg++m)) l.length
  (s:=⟨F 0 (.c (penC b)),rg++m0⟩) ⟨m0,by simp,hw0⟩
  (by
   rintro i hi st ⟨m,rfl,hm⟩
   have hx:l[i]?=some l[i]:=Z2 hi
   have ht:l.take (i+1)=l.take i++[l[i]]:=by rw[Zs,hx]; rfl
   have hsp:l.flatMap O=(l.take i).flatMap O++(O l[i]++(l.drop (i+1)).flatMap O):=by
    conv=>lhs; rw[←X5 i l,List.drop_eq_getElem_cons hi]
    rw[Yc,Ya]
   obtain ⟨m',e,hm'⟩:=hround i _ (b++(l.take i).flatMap O) m hx (by rw[hsp]; simp; omega) (by omega) (W0g (by omega) (by omega)) hm
   refine ⟨_,e,m',?_,hm'⟩
   rw[ht,Yc]
   simp)
  (by
   rintro st ⟨m,rfl,hm⟩
   rw[Ze (Z8 _)]
   exact ⟨.exit k,_,hend m,by simp,rfl,m,rfl,hm⟩)
 exact ⟨m,e1,hm⟩
set_option maxHeartbeats 2000000 in
theorem Wgv(s:Ste)(hs:smallS s)(rg:List Reg)(hw:wf rg):bm.run (.fn 165) [ag s.k] rg=some (oS (shO s),rg):=by
 obtain ⟨t1,t2,t3,t4,t5,t6⟩:=hs
 have e8:∀n,(be8 n).length=8:=fun _=>rfl
 have hw1:wf (rg++[steR s]):=W07 hw (by simp[Ste.k])
 have h1:=Wbf [] s.roots (by simp; omega) _ hw1
 have l1:([]++wdsO s.roots).length≤30000:=by rw[Xa,W5r]; omega
 generalize ho1:[]++wdsO s.roots=o1 at*
 have h2:=Wbf o1 s.slots (by omega) _ hw1
 have l2:(o1++wdsO s.slots).length≤60000:=by rw[Z5,W5r]; omega
 generalize ho2:o1++wdsO s.slots=o2 at*
 have h3:=W0k o2 s.cells.length (by omega) _ hw1
 have l3:(o2++be8 s.cells.length).length≤60008:=by rw[Z5,e8]; omega
 generalize ho3:o2++be8 s.cells.length=o3 at*
 obtain ⟨m,h4,hwm⟩:=Wre (k:=0) (body:=Wij W02 bm.run rg.length) (rg:=rg++[steR s]) (m0:=[]) (l:=s.cells) (F:=fun j v=>[(4,I .i64 (j:Nat)),(3,v),(1,.c (.ptr rg.length 0))]) (E:=[(24,Bo false),(4,I .i64 s.cells.length),(3,.c (penC (o3++s.cells.flatMap ceO))),(1,.c (.ptr rg.length 0))]) ceO o3 (by omega) (by simpa using hw1)
  (by
   intro i x bb m hx hbl hi2 hnx hm
   rw[W6u,Wgs]at hbl
   have hbl2:bb.length+80≤1000000:=by omega
   have hw2:wf (rg++[steR s]++(m++[.ac (x.k.map .p)])):=by rw[←Z6]; exact W07 hm (by simp[Cel.k])
   have a1:=W0k bb x.st (by omega) _ hw2
   have a2:=W0k (bb++be8 x.st) x.gen (by simp only[Z5,e8]; omega) _ hw2
   have a3:=W0k (bb++be8 x.st++be8 x.gen) x.by_ (by simp only[Z5,e8]; omega) _ hw2
   have a4:=W0k (bb++be8 x.st++be8 x.gen++be8 x.by_) x.pc (by simp only[Z5,e8]; omega) _ hw2
   have a5:=W2y (bb++be8 x.st++be8 x.gen++be8 x.by_++be8 x.pc) x.f0 (by simp only[Z5,e8]; omega) _ hw2
   have a6:=W2y (bb++be8 x.st++be8 x.gen++be8 x.by_++be8 x.pc++wdO x.f0) x.f1 (by simp only[Z5,e8,W31]; omega) _ hw2
   have hf:bb++be8 x.st++be8 x.gen++be8 x.by_++be8 x.pc++wdO x.f0++wdO x.f1=bb++ceO x:=by simp[ceO]
   rw[hf]at a6
   generalize bb++be8 x.st++be8 x.gen++be8 x.by_++be8 x.pc++wdO x.f0=b5 at*
   generalize bb++be8 x.st++be8 x.gen++be8 x.by_++be8 x.pc=b4 at*
   generalize bb++be8 x.st++be8 x.gen++be8 x.by_=b3 at*
   generalize bb++be8 x.st++be8 x.gen=b2 at*
   generalize bb++be8 x.st=b1 at*
   refine ⟨m++[.ac (x.k.map .p)],?_,hw2⟩
   have h10:(x.k.map AC.p).take 10=x.k.map AC.p:=rfl
   have hkn:∀y∈x.k.map AC.p,y.known=true:=fun y hy=>by
    obtain ⟨z,_,rfl⟩:=Y1.1 hy; rfl
   simp at a1 a2 a3 a4 a5 a6
   simp[Wij,hx,hi2,hnx,h10,hkn,a1,a2,a3,a4,a5,a6])
  (fun m=>by simp[Wij])
 have l4:(o3++s.cells.flatMap ceO).length≤150000:=by rw[Z5,W6u]; omega
 generalize ho4:o3++s.cells.flatMap ceO=o4 at*
 have h5:=W0k o4 s.free.length (by omega) _ hwm
 have l5:(o4++be8 s.free.length).length≤150008:=by rw[Z5,e8]; omega
 generalize ho5:o4++be8 s.free.length=o5 at*
 have h6:=Wcp (k:=2) (body:=Wii W02 bm.run rg.length) (rg:=rg++[steR s]++m) (l:=s.free) (F:=fun j v=>[(6,I .i64 (j:Nat)),(3,v),(1,.c (.ptr rg.length 0))]) (E:=[(67,Bo false),(6,I .i64 s.free.length),(3,.c (penC (o5++s.free.flatMap be8))),(1,.c (.ptr rg.length 0))]) be8 o5 (by omega)
  (by
   intro i x bb hx hbl hi2 hnx
   rw[W9y,e8]at hbl
   have a1:=W0k bb x (by omega) _ hwm
   simp at a1
   simp[Wii,hx,hi2,hnx,a1])
  (by simp[Wii])
 have l6:(o5++s.free.flatMap be8).length≤160000:=by rw[Z5,W9y]; omega
 generalize ho6:o5++s.free.flatMap be8=o6 at*
 have h7:=W57 o6 s.epoch (by omega) _ hwm
 have l7:(o6++be8 s.epoch).length≤170000:=by rw[Z5,e8]; omega
 generalize ho7:o6++be8 s.epoch=o7 at*
 have h8:=W6i o7 s.marks (by omega) _ hwm
 have l8:(o7++nmsO s.marks).length≤190000:=by rw[Z5,W47]; omega
 generalize ho8:o7++nmsO s.marks=o8 at*
 have h9:=W6i o8 s.counts (by omega) _ hwm
 have hf:o8++nmsO s.counts=shO s:=by
  rw[←ho8,←ho7,←ho6,←ho5,←ho4,←ho3,←ho2,←ho1]
  simp[shO,cesO,nmsO]
 rw[hf]at h9
 have hne:shO s≠[]:=by simp[shO,wdsO,be8]
 have hp0:penC []= .p nilS:=rfl
 rw[hp0]at h1
 simp at h4 h5 h6 h7 h8 h9
 rw[R165]
 simp[s165,h1,h2,h3,h4,h5,h6,h7,h8,h9]
 rw[W1h _ _ _ _ _ _root_.rfl hw]
 simp[penC,hne]
set_option maxHeartbeats 1000000 in
theorem Wrf(s:Ste)(hs:smallS s)(ht:∀th∈s.thr,th.okT)(hb:∀q∈s.buf,q.length≤1000)(hl:s.buf.length=s.thr.length)(h4:s.thr.length≤4)(rg:List Reg)(hw:wf rg):bm.run (.fn 101) [ag s.k] rg=some (I .u64 (Wf4 s),rg):=by
 have hw1:wf (rg++[steR s]):=W07 hw (by simp[Ste.k])
 have h1:=Wgv s hs _ hw1
 have h2:=Wcf 128 (shO s) (Wr8 hs) (rg++[steR s])
 have hsh:sumW 128 (shO s)=shS s:=rfl
 rw[hsh]at h2
 have k0:=W0y (body:=Wie W02 bm.run rg.length) (fun j=>⟨[(4,I .i64 (j:Nat)),(3,I .u64 ((List.range j).foldl (fun h t=>xo h (thA s t)) (shS s))),(1,.c (.ptr rg.length 0))],rg++[steR s]⟩) s.thr.length (fun i hi=>by
   have hx:s.thr[i]?=some s.thr[i]:=Z2 hi
   have hok:=ht _ (Zl hi)
   generalize s.thr[i]=x at hx hok
   have hi2:(i:Int)<s.thr.length:=by omega
   have hnx:IntKind.i64.wrap ((i:Int)+1)=(i:Int)+1:=W0g (by omega) (by omega)
   have a1:=Wv7 x hok _ hw1
   have a2:=Wcf (IntKind.u64.wrap (i:Int)) (thO x) (Wr7 hok) (rg++[steR s])
   have e1:sumW (IntKind.u64.wrap (i:Int)) (thO x)=thA s i:=by simp[thA,thS,Zc,hx]
   rw[e1]at a2
   rw[List.range_succ,List.foldl_append]
   generalize (List.range i).foldl (fun h t=>xo h (thA s t)) (shS s)=hh
   simp[Wie,hi2,hnx,hx,a1,a2,xo]) (e:= .exit 0) (s':=⟨[(13,Bo false),(4,I .i64 s.thr.length),(3,I .u64 ((List.range s.thr.length).foldl (fun h t=>xo h (thA s t)) (shS s))),(1,.c (.ptr rg.length 0))],rg++[steR s]⟩) (by simp[Wie]) (by simp)
 have k1:=W0y (body:=Wid W02 bm.run rg.length) (fun j=>⟨[(5,I .i64 (j:Nat)),(3,I .u64 ((List.range j).foldl (fun h t=>xo h (buA s t)) ((List.range s.thr.length).foldl (fun h t=>xo h (thA s t)) (shS s)))),(1,.c (.ptr rg.length 0))],rg++[steR s]⟩) s.buf.length (fun i hi=>by
   have hx:s.buf[i]?=some s.buf[i]:=Z2 hi
   have hok:=hb _ (Zl hi)
   generalize s.buf[i]=x at hx hok
   have hi2:(i:Int)<s.buf.length:=by omega
   have hnx:IntKind.i64.wrap ((i:Int)+1)=(i:Int)+1:=W0g (by omega) (by omega)
   have h64:IntKind.i64.wrap (64+(i:Int))=64+(i:Int):=W0g (by omega) (by omega)
   have a1:=Wv8 x hok _ hw1
   have a2:=Wcf (IntKind.u64.wrap (64+(i:Int))) (ensO x) (by rw[Wr5]; omega) (rg++[steR s])
   have e1:sumW (IntKind.u64.wrap (64+(i:Int))) (ensO x)=buA s i:=by simp[buA,buS,Zc,hx]
   rw[e1]at a2
   rw[List.range_succ,List.foldl_append]
   generalize (List.range i).foldl (fun h t=>xo h (buA s t)) _=hh
   simp[Wid,hi2,hnx,hx,h64,a1,a2,xo]) (e:= .exit 2) (s':=⟨[(31,Bo false),(5,I .i64 s.buf.length),(3,I .u64 (Wf4 s)),(1,.c (.ptr rg.length 0))],rg++[steR s]⟩) (by simp[Wid,Wuz,hl]) (by simp)
 simp only[show (((0:Nat):Int))=0 from _root_.rfl,List.range_zero,List.foldl_nil]at k0 k1
 rw[R101]
 simp[s101,h1,h2,k0,k1,hw]
theorem Wv9(P:Prg)(c:Cfg)(s:Ste)(hc:P.code.length≤1000)(a:Int)(ha:a<0)(rg:List Reg)(hw:wf rg):bm.run (.fn 40) [prgP P,cfgA c,ag s.k,I .i64 a] rg=some (Bo false,rg):=by
 have h1:¬(P.code.length:Int)≤a:=by omega
 rw[R40]
 simp[s40,hw,h1,ha]
theorem Wrg(P:Prg)(c:Cfg)(s:Ste)(hc:P.code.length≤1000)(a:Int)(ha:(P.code.length:Int)≤a)(hb:¬(c.order=1∧a<2*(P.code.length:Int)))(rg:List Reg)(hw:wf rg):bm.run (.fn 40) [prgP P,cfgA c,ag s.k,I .i64 a] rg=some (Bo false,rg):=by
 have hwr:IntKind.i64.wrap (2*(P.code.length:Int))=2*(P.code.length:Int):=W0g (by omega) (by omega)
 rw[R40]
 by_cases ho:c.order=1
 ·have h2:¬a<2*(P.code.length:Int):=fun h=>hb ⟨ho,h⟩
  simp[s40,hw,ha,ho,hwr,h2]
 ·simp[s40,hw,ha,ho]
theorem Wva(P:Prg)(c:Cfg)(s:Ste)(hc:P.code.length≤1000)(t:Nat)(ht:t<P.code.length)(e:List Ent)(he:s.buf[t]?=some e)(ho:c.order=1)(rg:List Reg)(hw:wf rg):
  bm.run (.fn 40) [prgP P,cfgA c,ag s.k,I .i64 ((P.code.length:Int)+t)] rg=some (Bo (decide (0<e.length)),rg):=by
 have hwr:IntKind.i64.wrap (2*(P.code.length:Int))=2*(P.code.length:Int):=W0g (by omega) (by omega)
 have hwr2:IntKind.i64.wrap ((P.code.length:Int)+t-P.code.length)=t:=by rw[show (P.code.length:Int)+t-P.code.length=t by omega]; exact W0g (by omega) (by omega)
 have h1:(P.code.length:Int)≤P.code.length+t:=by omega
 have h2:(P.code.length:Int)+t<2*P.code.length:=by omega
 rw[R40]
 simp[s40,hw,h1,h2,ho,hwr,hwr2,he]
def canR(c:Cfg)(th:Thr)(l:List Ins)(n:Nat):Bool:=
 if th.done l.length=true then false else if c.order=0 then true else !(W5p th l&&decide (c.depth≤n))&& !(W4s th l&&decide (0<n))
theorem Wvb(P:Prg)(c:Cfg)(s:Ste)(t:Nat)(th:Thr)(l:List Ins)(e:List Ent)(hc:P.code.length≤1000)(hth:s.thr[t]?=some th)(hl:P.code[t]?=some l)(he:s.buf[t]?=some e)(hll:l.length≤1000)(rg:List Reg)(hw:wf rg):
  bm.run (.fn 40) [prgP P,cfgA c,ag s.k,I .i64 (t:Nat)] rg=some (Bo (canR c th l e.length),rg):=by
 have ht:t<P.code.length:=(Z3.1 hl).1
 have hw1:wf (rg++[prow P.roots P.cells P.slots P.code,.ac (c.k.map .p),steR s]):=W07 hw (by simp[Ste.k])
 have h1:=W9z th l _ hw1 hll
 have h2:=Wle P s t th l hth hl hll _ hw1
 have h3:=Wlf P s t th l hth hl hll _ hw1
 have hge:¬(P.code.length:Int)≤t:=by omega
 have hnn:¬(t:Int)<0:=by omega
 have htm:(s.thr.map Thr.k)[t]?=some th.k:=by rw[Zz,hth]; rfl
 simp at h1 h2 h3
 rw[R40]
 unfold canR
 cases hd:th.done l.length
 ·rw[hd]at h1
  by_cases ho:c.order=0
  ·obtain ⟨sc,od,tr,fu,de⟩:=c
   simp only at ho
   subst ho
   simp at h1
   simp[s40,hw,hge,hnn,hth,hl,h1]
  ·cases hs:W5p th l
   ·rw[hs]at h2
    cases hr:W4s th l
    ·rw[hr]at h3
     simp[s40,hw,hge,hnn,hth,hl,he,h1,h2,h3,ho]
    ·rw[hr]at h3
     simp[s40,hw,hge,hnn,hth,hl,he,h1,h2,h3,ho]
   ·rw[hs]at h2
    by_cases hf:c.depth≤(e.length:Int)
    ·simp[s40,hw,hge,hnn,hth,hl,he,h1,h2,hf,ho]
    ·cases hr:W4s th l
     ·rw[hr]at h3
      simp[s40,hw,hge,hnn,hth,hl,he,h1,h2,h3,hf,ho]
     ·rw[hr]at h3
      simp[s40,hw,hge,hnn,hth,hl,he,h1,h2,h3,hf,ho]
 ·rw[hd]at h1
  simp[s40,hw,hge,hnn,hth,hl,h1]
def W4u(p:Tri)(gen:Int)(q:List Ent):Option Tri:=q.foldl (fun o e=>if e.p=p∧e.gen=gen then some e.w else o) none
theorem V0a:W8q Go.Proofs.Tryz.prog 128 [.i64,.i64,.i64]=true:=by kernel_rfl
theorem veq3(x y:Tri):veqs Go.Proofs.Tryz.prog false 128 [.i64,.i64,.i64] (av3 x) (av3 y)=some (Bo (decide (x=y))):=by
 have h:([x.a,x.b,x.c]=[y.a,y.b,y.c])↔x=y:=by
  constructor
  ·intro h
   simp only[List.cons.injEq,and_true]at h
   exact Tri.ext h.1 h.2.1 h.2.2
  ·rintro rfl; rfl
 have h2:(x.a=y.a∧x.b=y.b∧x.c=y.c)↔x=y:=by simpa using h
 simp[veqs,W2f,V0a]
 rw[Bool.eq_iff_iff]
 simp[h2]
def Wgw(rg:List Reg)(p w:Tri)(m:List Reg):List Reg:=rg++[.ac [.p (iv p.a),.p (iv p.b),.p (iv p.c)],.ac [.p (iv 0),.p (iv 0),.p (iv 0)],.ac [.p (iv w.a),.p (iv w.b),.p (iv w.c)]]++m
theorem Wrh{rg:List Reg}(p:Tri)(gen:Int)(q:List Ent)(hq:q.length≤1000)(n0:Nat)(hw:wf rg):
  ∃ex s',W02 (Wb4 W02 bm.run n0) ⟨[(15,I .i64 0),(14,I .i64 q.length),(13,.c (.p (slE q))),(9,Bo false),(8,.c (.ptr (rg.length+2) 0)),(6,.c (.ptr (rg.length+1) 0)),(4,.c (.ptr rg.length 0)),(2,I .i64 gen)],Wgw rg p ⟨0,0,0⟩ []⟩=some (ex,s')∧
   (ex= .exit 0∧∃m,s'.regs=Wgw rg p ((W4u p gen q).getD ⟨0,0,0⟩) m∧lkF s'.slots 8= .c (.ptr (rg.length+2) 0)∧lkF s'.slots 6= .c (.ptr (rg.length+1) 0)∧lkF s'.slots 9=Bo (W4u p gen q).isSome∧∀n,m.all (W18 n)=true):=by
 refine W0z (fun j s=>∃m,s=⟨[(15,I .i64 (j:Nat)),(14,I .i64 q.length),(13,.c (.p (slE q))),(9,Bo (W4u p gen (q.take j)).isSome),(8,.c (.ptr (rg.length+2) 0)),(6,.c (.ptr (rg.length+1) 0)),(4,.c (.ptr rg.length 0)),(2,I .i64 gen)],Wgw rg p ((W4u p gen (q.take j)).getD ⟨0,0,0⟩) m⟩∧∀n,m.all (W18 n)=true) _ q.length ⟨[],rfl,fun _=>rfl⟩ ?_ ?_
 ·rintro j hj s ⟨m,rfl,hm⟩
  have hj2:(j:Int)<q.length:=by omega
  have hnx:IntKind.i64.wrap ((j:Int)+1)=(j:Int)+1:=W0g (by omega) (by omega)
  have hx:q[j]?=some q[j]:=Z2 hj
  have ht:q.take (j+1)=q.take j++[q[j]]:=by rw[Zs,hx]; rfl
  generalize q[j]=e at hx ht
  have hL:W4u p gen (q.take (j+1))=if e.p=p∧e.gen=gen then some e.w else W4u p gen (q.take j):=by
   unfold W4u; rw[ht,List.foldl_append]; rfl
  generalize W4u p gen (q.take j)=o at hL
  have h8:(e.k.map AC.p).take 8=e.k.map AC.p:=rfl
  have hkn:∀x∈e.k.map AC.p,x.known=true:=fun x hx=>by
   obtain ⟨y,_,rfl⟩:=Y1.1 hx; rfl
  have hq:=veq3 e.p p
  by_cases hp:e.p=p
  ·rw[Xz hp]at hq
   by_cases hg:e.gen=gen
   ·rw[if_pos ⟨hp,hg⟩]at hL
    refine ⟨_,?_,m++[.ac (e.k.map .p)],rfl,fun n=>by simp[hm,Ent.k]⟩
    rw[hL]
    simp[Wb4,Wgw,hj2,hnx,hx,hq,hg,h8,hkn]
   ·rw[if_neg (fun h=>hg h.2)]at hL
    refine ⟨_,?_,m++[.ac (e.k.map .p)],rfl,fun n=>by simp[hm,Ent.k]⟩
    rw[hL]
    simp[Wb4,Wgw,hj2,hnx,hx,hq,hg,h8,hkn]
  ·rw[decide_eq_false hp]at hq
   rw[if_neg (fun h=>hp h.1)]at hL
   refine ⟨_,?_,m++[.ac (e.k.map .p)],rfl,fun n=>by simp[hm,Ent.k]⟩
   rw[hL]
   simp[Wb4,Wgw,hj2,hnx,hx,hq,h8,hkn]
 ·rintro s ⟨m,rfl,hm⟩
  rw[Ze (Z8 _)]
  refine ⟨.exit 0,_,by simp[Wb4]; rfl,by simp,rfl,m,rfl,rfl,rfl,rfl,hm⟩
theorem Wvc{rg:List Reg}(hw:wf rg)(b:Nat)(q:List Ent)(hq:q.length≤1000)(hAll:∀m,wf (rg++m)→bm.run (.fn 112) [.c (.ptr b 0)] (rg++m)=some (.c (.p (slE q)),rg++m))(p:Tri)(gen:Int):
  bm.run (.fn 222) [.c (.ptr b 0),av3 p,I .i64 gen] rg=some (.tup [av3 ((W4u p gen q).getD ⟨0,0,0⟩),Bo (W4u p gen q).isSome],rg):=by
 have ha:=hAll [.ac [.p (iv p.a),.p (iv p.b),.p (iv p.c)],.ac [.p (iv 0),.p (iv 0),.p (iv 0)],.ac [.p (iv 0),.p (iv 0),.p (iv 0)]] (W07 hw (by simp))
 obtain ⟨ex,s',e1,rfl,m,e2,e3,e4,e5,hm⟩:=Wrh p gen q hq rg.length hw
 generalize W4u p gen q=o at*
 rw[W1m]at e3 e4 e5
 have hmw:∀n,(m.all (W18 n))=true:=hm
 simp only[Wgw]at e1 e2
 rw[R222]
 simp at e1 e2
 simp[s222,ha,e1,e2,e3,e4,e5]
 rw[W20 _root_.rfl hw (by simp[avLt,W3g,acLt])]
 simp
theorem Wvd{rg:List Reg}(hw:wf rg){P:Prg}{s:Ste}{im ia:Nat}{mtr:List (List PV)}(hM:memR rg im P.keys (memM P s) mtr)(hia:ia<rg.length)(x:Tri)(h3:x.a≠3)(hk:[x.a,x.b,x.c]∈P.keys):
  bm.run (.fn 223) [.agg [.ptr im 0,.ptr ia 0],av3 x] rg=some (av3 (atW P.slots s [x.a,x.b,x.c]),rg):=by
 have him:im<rg.length:=by obtain ⟨_,_,_,h,_⟩:=hM; exact W16 h
 have hm:=hM.more [.ac [.ptr im 0,.ptr ia 0],.ac [.p (iv x.a),.p (iv x.b),.p (iv x.c)],.ac [.p (iv 0),.p (iv 0),.p (iv 0)]]
 unfold memM at hm
 have hwl:wf (rg++[.ac [.ptr im 0,.ptr ia 0],.ac [.p (iv x.a),.p (iv x.b),.p (iv x.c)],.ac [.p (iv 0),.p (iv 0),.p (iv 0)]]):=W07 hw (by simp[acLt]; omega)
 have h1:=Wjf (Wbc P) (W6w P) hm hwl hk
 rw[R223]
 simp[s223,h1,h3]
 rw[W20 _root_.rfl hw (by simp[avLt,acLt])]
 simp
section
variable {rg:List Reg} {q:Nat} {P:Prg} {c:Cfg} {s:Ste} {u:Su} {mtr:List (List PV)} {atr:List (Int×Cel×List Int)} {tr:List Snap} {L:List (Nat×Nat)} {im ia:Nat} {vt vb vr:AC}
 (hM:machR rg q P c s u mtr atr tr L im ia vt vb vr) (hS:okS P c s) (hw:wf rg)
 (hAll:∀m x,x∈L.zip s.buf→wf (rg++m)→bm.run (.fn 112) [.c (.ptr x.1.1 0)] (rg++m)=some (.c (.p (slE x.2)),rg++m))
include hM hS hw hAll
theorem Wve{t:Nat}{b:Nat×Nat}{e:List Ent}(hb:L[t]?=some b)(he:s.buf[t]?=some e)(x:Tri)(gen:Int)(h3:x.a≠3)(hk:[x.a,x.b,x.c]∈P.keys):
  bm.run (.fn 136) [.c (.ptr q 0),I .i64 (t:Nat),av3 x,I .i64 gen] rg=some (av3 ((W4u x gen e).getD (atW P.slots s [x.a,x.b,x.c])),rg):=by
 have ht:t<P.code.length:=by rw[←hS.buf]; exact (Z3.1 he).1
 have hjP2:(t:Int)<P.code.length:=by omega
 have hz:(b,e)∈L.zip s.buf:=Zi (i:=t) (by rw[Xk]; exact ⟨hb,he⟩)
 obtain ⟨idb,rfl,hidb⟩:=hM.bufRow hS
 have e1:P.code.length-1+1=P.code.length:=by have:=hS.n1; omega
 have hpl:(ptrL L)[t]?=some [.ptr b.1 0]:=by simp[ptrL,hb]
 have hrow:∀l,(rg++l)[q]?=_:=fun l=>W0b hM.row l
 have hidb2:∀l,(rg++l)[idb]?=_:=fun l=>W0b hidb l
 have hel:e.length≤1000:=by
  have h1:=hS.bl e (Zi he)
  have h2:=(W22 hS.ok).2.2.2.2
  omega
 have hwl:wf (rg++[.ac [.p (iv x.a),.p (iv x.b),.p (iv x.c)],.ac [.p (iv 0),.p (iv 0),.p (iv 0)]]):=W07 hw (by simp)
 have hwl2:∀w:Tri,wf (rg++[.ac [.p (iv x.a),.p (iv x.b),.p (iv x.c)],.ac [.p (iv 0),.p (iv 0),.p (iv 0)],.ac [.p (iv w.a),.p (iv w.b),.p (iv w.c)]]):=fun w=>W07 hw (by simp)
 have hla:=Wvc hwl b.1 e hel (fun m hm=>by
  rw[Z6]at hm ⊢
  exact hAll _ _ hz hm) x gen
 have hia:ia<rg.length:=by obtain ⟨_,_,_,h,_⟩:=hM.ar; exact W16 h
 have hg:=fun w=>Wvd (hwl2 w) (hM.mem.more _) (ia:=ia) (by simp; omega) x h3 hk
 simp only[W0d,e1]at hrow
 rw[R136]
 cases ho:W4u x gen e with
 | some w=>
  rw[ho]at hla
  simp at hla
  simp[s136,hrow,hidb2,hpl,ht,hjP2,e1,hla,hw]
 | none=>
  rw[ho]at hla
  have hg0:=hg ⟨0,0,0⟩
  simp at hla hg0
  simp[s136,hrow,hidb2,hpl,ht,hjP2,e1,hla,hg0,hw]
end
@[simp] theorem V9n {β:Type} (x:Option β):Sm (.tup []) (.tup []) x=x:=by
 unfold Sm
 rw[if_pos]
 simp only[avB,avsB]
theorem Wri(k:Int)(rg:List Reg)(hw:wf rg):bm.run (.fn 193) [I .i64 k,.c (.p nilS)] rg=some (av3 ⟨k,0,0⟩,rg):=by
 rw[R193]
 simp[s193]
 rw[W09]; simp[W5d]
 rw[W09]; simp[W5d]
 rw[W09]; simp[W5d,hw]
theorem W6x(k a:Int)(id:Nat)(rg:List Reg)(hw:wf rg)(hr:rg[id]?=some (.pc 1 [[iv a]])):bm.run (.fn 193) [I .i64 k,.c (.own id 0 1 1 .free)] rg=some (av3 ⟨k,a,0⟩,rg):=by
 have hr2:∀l,(rg++l)[id]?=some (.pc 1 [[iv a]]):=fun l=>W0b hr l
 rw[R193]
 simp[s193]
 rw[W09]; simp[W5d,hr2]
 rw[W09]; simp[W5d,hr2]
 rw[W09]; simp[W5d,hw]
theorem Wgx(k a b:Int)(id:Nat)(rg:List Reg)(hw:wf rg)(hr:rg[id]?=some (.pc 1 [[iv a],[iv b]])):bm.run (.fn 193) [I .i64 k,.c (.own id 0 1 2 .free)] rg=some (av3 ⟨k,a,b⟩,rg):=by
 have hr2:∀l,(rg++l)[id]?=some (.pc 1 [[iv a],[iv b]]):=fun l=>W0b hr l
 rw[R193]
 simp[s193]
 rw[W09]; simp[W5d,hr2]
 rw[W09]; simp[W5d,hr2]
 rw[W09]; simp[W5d,hw]
theorem Wcq(a b c f:Int)(rg:List Reg)(hw:wf rg):bm.run (.fn 310) [.agg [.p (iv a),.p (iv b),.p (iv c)],I .i64 f] rg=some (av3 (thru ⟨a,b,c⟩ f),rg):=by
 have hw1:wf (rg++[.ac [.p (iv a),.p (iv b),.p (iv c)],.ac [.p (iv 0),.p (iv 0),.p (iv 0)]]):=W07 hw (by simp)
 have h1:=V4s a b c _ hw1
 have hw2:wf (rg++[.ac [.p (iv a),.p (iv b),.p (iv c)],.ac [.p (iv 0),.p (iv 0),.p (iv 0)],.pc 1 [[iv b],[iv f]]]):=W07 hw (by simp)
 have h2:=Wgx 3 b f (rg.length+2) _ hw2 (by simp)
 rw[R310]
 by_cases h:0<b
 ·simp[s310,hw,h1,h2,h,thru]
 ·simp[s310,hw,h1,h,thru,w0]
theorem Wgy(r ce s:Int)(code:List (List Ins))(rg:List Reg)(hw:wf rg):bm.run (.fn 314) [prgA r ce s code] rg=some (I .i64 (thrN code.length),rg):=by
 rw[R314]
 by_cases h:(4:Int)<code.length
 ·simp[s314,hw,thrN,h]
 ·simp[s314,hw,thrN,h]
theorem Wji(n s:Int):0≤W5o n s∧W5o n s≤8:=by
 have h1:=W2x n 4 (by omega)
 have h2:=W2x s 2 (by omega)
 unfold W5o
 refine ⟨Int.mul_nonneg h1.1 h2.1,?_⟩
 have:W0o n 0 4*W0o s 0 2≤4*2:=Int.mul_le_mul h1.2 h2.2 h2.1 (by omega)
 omega
theorem Wrj(n s:Int)(rg:List Reg)(hw:wf rg):bm.run (.fn 313) [I .i64 n,I .i64 s] rg=some (I .i64 (W5o n s),rg):=by
 have h:=Wji n s
 have hwr:IntKind.i64.wrap (W0o n 0 4*W0o s 0 2)=W0o n 0 4*W0o s 0 2:=W0g (by unfold W5o at h; omega) (by unfold W5o at h; omega)
 rw[R313]
 simp[s313,hwr,W5o]
theorem Wvf(n:Int)(rg:List Reg)(hw:wf rg):bm.run (.fn 306) [I .i64 n] rg=some (I .i64 (Wuk n),rg):=by
 rw[R306]
 simp[s306,Wuk]
def tupT(o:Option Tri):AV:=match o with
 | some x=> .tup [av3 x,Bo true]
 | none=> .tup [av3 w0,Bo false]
theorem Wvg(i n s:Int)(rg:List Reg)(hw:wf rg):bm.run (.fn 336) [I .i64 i,I .i64 n,I .i64 s] rg=some (tupT (Wba i n s),rg):=by
 have h:=Wji n s
 have hs:=W2x s 2 (by omega)
 have hw1:wf (rg++[.ac [.p (iv 0),.p (iv 0),.p (iv 0)]]):=W07 hw (by simp)
 have h1:=Wrj n s _ hw1
 have hwr:IntKind.i64.wrap (W5o n s-1)=W5o n s-1:=W0g (by omega) (by omega)
 rw[R336]
 cases hi:inB i 0 (W5o n s-1)
 ·simp[s336,hw,h1,hwr,hi,Wba,tupT,w0]
 ·have hi2:0≤i∧i≤W5o n s-1:=by simpa[inB]using hi
  have hne:W0o s 0 2≠0:=by
   intro h0
   have:W5o n s=0:=by unfold W5o; rw[h0,Int.mul_zero]
   omega
  have hq:IntKind.i64.wrap (i.tdiv (W0o s 0 2))=i.tdiv (W0o s 0 2):=by
   have e:i.tdiv (W0o s 0 2)=i/W0o s 0 2:=Int.tdiv_eq_ediv_of_nonneg hi2.1
   have h3:0≤i/W0o s 0 2:=Int.ediv_nonneg hi2.1 hs.1
   have h4:i/W0o s 0 2≤i:=Int.ediv_le_self _ hi2.1
   rw[e]
   exact W0g (by omega) (by omega)
  simp[s336,hw,h1,hwr,hi,Wba,tupT,hne,hq]
abbrev micA(m:Mic):AV:= .agg [.p (iv m.kind),.p (iv m.i),.p (iv m.n),.p (slI m.seen)]
theorem V0b(n:Nat):0≤thrN n∧thrN n≤4:=by
 unfold thrN; split<;>omega
set_option maxHeartbeats 1000000 in
theorem Wrk(P:Prg)(m:Mic)(rg:List Reg)(hw:wf rg):bm.run (.fn 308) [prgA P.roots P.cells P.slots P.code,micA m] rg=some (tupT (W4c P.code.length P.slots m),rg):=by
 have hw1:wf (rg++[prow P.roots P.cells P.slots P.code,.ac [.p (iv m.kind),.p (iv m.i),.p (iv m.n),.p (slI m.seen)],.ac [.p (iv 0),.p (iv 0),.p (iv 0)]]):=W07 hw (by simp)
 have h1:=Wgy P.roots P.cells P.slots P.code _ hw1
 have h2:=Wvg m.i (thrN P.code.length) P.slots _ hw1
 have hb:=V0b P.code.length
 have hwr:IntKind.i64.wrap (thrN P.code.length-1)=thrN P.code.length-1:=W0g (by omega) (by omega)
 obtain ⟨k,mi,mn,ms⟩:=m
 simp only at*
 rw[R308]
 by_cases k2:k=2
 ·subst k2
  cases hs:Wba mi (thrN P.code.length) P.slots with
  | none=>
   rw[hs]at h2
   simp[tupT]at h2
   simp[s308,hw,h1,h2,W4c,hs,tupT]
  | some x=>
   rw[hs]at h2
   simp[tupT]at h2
   simp[s308,hw,h1,h2,W4c,hs,tupT]
 by_cases k4:k=4
 ·subst k4
  simp[s308,hw,W4c,tupT]
 by_cases k6:k=6
 ·subst k6
  simp[s308,hw,W4c,tupT]
 by_cases k5:k=5
 ·subst k5
  cases hi:inB mi 0 (thrN P.code.length-1)<;>simp[s308,hw,h1,hwr,hi,W4c,tupT,w0]
 by_cases k7:k=7
 ·subst k7
  cases hi:inB mi 0 (thrN P.code.length-1)<;>simp[s308,hw,h1,hwr,hi,W4c,tupT,w0]
 by_cases k8:k=8
 ·subst k8
  cases hi:inB mi 0 (thrN P.code.length-1)<;>simp[s308,hw,h1,hwr,hi,W4c,tupT,w0]
 ·simp[s308,hw,h1,hwr,k2,k4,k6,k5,k7,k8,W4c,tupT,w0]
def actA(a:Atn):AV:=ag a.k
set_option maxHeartbeats 1000000 in
theorem Wrl(P:Prg)(t:Int)(m:Mic)(rg:List Reg)(hw:wf rg):bm.run (.fn 224) [prgA P.roots P.cells P.slots P.code,I .i64 t,micA m] rg=some (actA (Wci P.code.length P.slots t m),rg):=by
 obtain ⟨k,mi,mn,ms⟩:=m
 have hwR:∀k,wf (rg++[prow P.roots P.cells P.slots P.code,.ac [.p (iv k),.p (iv mi),.p (iv mn),.p (slI ms)],.ac [.p (iv 0),.p (iv 0),.p (iv 0),.p (iv 0),.p (iv 0),.p (iv 0),.p (iv 0),.p (iv 0),.p (iv 0),.p (iv 0),.p (iv 0),.p (iv 0),.p (iv 0),.p (iv 0)]]):=fun k=>W07 hw (by simp)
 rw[R224]
 by_cases k1:k=1
 ·subst k1
  have hw2:wf (rg++[prow P.roots P.cells P.slots P.code,.ac [.p (iv 1),.p (iv mi),.p (iv mn),.p (slI ms)],.ac [.p (iv 0),.p (iv 0),.p (iv 0),.p (iv 0),.p (iv 0),.p (iv 0),.p (iv 0),.p (iv 0),.p (iv 0),.p (iv 0),.p (iv 0),.p (iv 0),.p (iv 0),.p (iv 0)],.pc 1 [[iv t]]]):=W07 hw (by simp)
  have h1:=W6x 7 t (rg.length+3) _ hw2 (by simp)
  have h2:=Wvf mn _ hw2
  have h3:=W6c (Wuk mn) _ hw2
  simp[s224,hw,h1,h2,h3,Wci,actA,Atn.k,w0,W21]
 by_cases k6:k=6
 ·subst k6
  have h1:=Wri 6 _ (hwR 6)
  have h2:=W6c mn _ (hwR 6)
  have h3:=W6c (IntKind.i64.wrap (mn+1)) _ (hwR 6)
  simp[s224,hw,h1,h2,h3,Wci,actA,Atn.k,w0,W21]
 by_cases k3:k=3
 ·subst k3
  simp[s224,hw,Wci,actA,Atn.k,w0]
 ·have h1:=Wrk P ⟨k,mi,mn,ms⟩ _ (hwR k)
  cases hr:W4c P.code.length P.slots ⟨k,mi,mn,ms⟩with
  | none=>
   rw[hr]at h1
   simp[tupT]at h1
   simp[s224,hw,h1,hr,Wci,actA,Atn.k,w0,k1,k6,k3,act0]
  | some x=>
   rw[hr]at h1
   simp[tupT]at h1
   simp[s224,hw,h1,hr,Wci,actA,Atn.k,w0,k1,k6,k3]
@[simp] theorem V9o (n:Nat):n+1+4=n+5:=_root_.id rfl
@[simp] theorem V9p (n:Nat):n+1+5=n+6:=_root_.id rfl
@[simp] theorem V9q (n:Nat):n+1+6=n+7:=_root_.id rfl
@[simp] theorem Vag {β:Type} (th:Thr) (x:Option β):Sm (ag th.k) (ag th.k) x=x:=Wcb (by rw[Wq3]; exact V4q _ (V4o th)) x
abbrev zr14:Reg:= .ac [.p (iv 0),.p (iv 0),.p (iv 0),.p (iv 0),.p (iv 0),.p (iv 0),.p (iv 0),.p (iv 0),.p (iv 0),.p (iv 0),.p (iv 0),.p (iv 0),.p (iv 0),.p (iv 0)]
abbrev triR(x:Tri):Reg:= .ac [.p (iv x.a),.p (iv x.b),.p (iv x.c)]
theorem agA(a:Atn):actA a= .agg [.p (iv a.kind),.p (iv a.place.a),.p (iv a.place.b),.p (iv a.place.c),.p (iv a.at_.a),.p (iv a.at_.b),.p (iv a.at_.c),.p (iv a.want.a),.p (iv a.want.b),.p (iv a.want.c),.p (iv a.word.a),.p (iv a.word.b),.p (iv a.word.c),.p (iv a.gen)]:=rfl
set_option maxHeartbeats 2000000 in
set_option maxRecDepth 20000 in
theorem Wrm(t:Int)(th:Thr)(x:Ins)(own:Int)(rg:List Reg)(hw:wf rg):bm.run (.fn 226) [I .i64 t,ag th.k,insA x,I .i64 own] rg=some (actA (W3v t th x own),rg):=by
 obtain ⟨op,a,b,c,n⟩:=x
 have hw1:∀op,wf (rg++[.ac (th.k.map .p),rowN ⟨op,a,b,c,n⟩,zr14]):=fun op=>W07 hw (by simp[Thr.k])
 have g1:=fun op=>Wge th a _ (hw1 op)
 have g2:=fun op=>Wge th b _ (hw1 op)
 have g3:=fun op=>Wge th c _ (hw1 op)
 have hw2:∀op,wf (rg++[.ac (th.k.map .p),rowN ⟨op,a,b,c,n⟩,zr14,triR (th.get a),triR (th.get b),triR (th.get c)]):=fun op=>W07 hw (by simp[Thr.k])
 have hw3:∀op l,l.all (W18 (rg.length+7))=true→l.length=1→wf (rg++[.ac (th.k.map .p),rowN ⟨op,a,b,c,n⟩,zr14,triR (th.get a),triR (th.get b),triR (th.get c)]++l):=fun op l hl h1=>W07 (hw2 op) (by simpa[h1]using hl)
 simp only[rowN]at g1 g2 g3
 rw[R226]
 by_cases k17:op=17
 ·subst k17
  simp[-W06,s226,hw,g1,g2,g3,W3v,agA,w0,W21]
  simp[hw]
 by_cases k11:op=11
 ·subst k11
  have h1:=W6x 1 b (rg.length+6) _ (hw3 11 [.pc 1 [[iv b]]] (by simp) rfl) (by rw[Z6]; simp)
  simp at h1
  simp[-W06,s226,hw,g1,g2,g3,h1,W3v,agA,w0,W21]
  simp[hw,h1]
 by_cases k12:op=12
 ·subst k12
  have h1:=W6x 1 a (rg.length+6) _ (hw3 12 [.pc 1 [[iv a]]] (by simp) rfl) (by rw[Z6]; simp)
  simp at h1
  simp[-W06,s226,hw,g1,g2,g3,h1,W3v,agA,w0,W21]
  simp[hw,h1]
 by_cases k13:op=13
 ·subst k13
  have h1:=W6x 1 n (rg.length+6) _ (hw3 13 [.pc 1 [[iv n]]] (by simp) rfl) (by rw[Z6]; simp)
  simp at h1
  simp[-W06,s226,hw,g1,g2,g3,h1,W3v,agA,w0,W21]
  simp[hw,h1]
 by_cases k14:op=14
 ·subst k14
  have h1:=Wcq (th.get b).a (th.get b).b (th.get b).c n _ (hw2 14)
  simp at h1
  simp[-W06,s226,hw,g1,g2,g3,h1,W3v,agA,w0,W21]
  simp[hw,h1]
 by_cases k15:op=15
 ·subst k15
  have h1:=Wcq (th.get a).a (th.get a).b (th.get a).c n _ (hw2 15)
  simp at h1
  simp[-W06,s226,hw,g1,g2,g3,h1,W3v,agA,w0,W21]
  simp[hw,h1]
 by_cases k16:op=16
 ·subst k16
  have h1:=Wcq (th.get a).a (th.get a).b (th.get a).c n _ (hw2 16)
  simp at h1
  simp[-W06,s226,hw,g1,g2,g3,h1,W3v,agA,w0,W21]
  simp[hw,h1]
 by_cases k18:op=18
 ·subst k18
  simp[-W06,s226,hw,g1,g2,g3,W3v,agA,w0,W21]
  simp[hw]
 by_cases k19:op=19
 ·subst k19
  simp[-W06,s226,hw,g1,g2,g3,W3v,agA,w0,W21]
  simp[hw]
 by_cases k20:op=20
 ·subst k20
  simp[-W06,s226,hw,g1,g2,g3,W3v,agA,w0,W21]
  simp[hw]
 by_cases k21:op=21
 ·subst k21
  have h1:=Wgx 5 t n (rg.length+6) _ (hw3 21 [.pc 1 [[iv t],[iv n]]] (by simp) rfl) (by rw[Z6]; simp)
  simp at h1
  simp[-W06,s226,hw,g1,g2,g3,h1,W3v,agA,w0,W21]
  simp[hw,h1]
 by_cases k22:op=22
 ·subst k22
  have h1:=Wgx 5 t n (rg.length+6) _ (hw3 22 [.pc 1 [[iv t],[iv n]]] (by simp) rfl) (by rw[Z6]; simp)
  simp at h1
  simp[-W06,s226,hw,g1,g2,g3,h1,W3v,agA,w0,W21]
  simp[hw,h1]
 by_cases k23:op=23
 ·subst k23
  have h1:=Wri 6 _ (hw2 23)
  simp[-W06,s226,hw,g1,g2,g3,h1,W3v,agA,w0,W21]
  simp[hw,h1]
 by_cases k24:op=24
 ·subst k24
  have h1:=W6x 7 t (rg.length+6) _ (hw3 24 [.pc 1 [[iv t]]] (by simp) rfl) (by rw[Z6]; simp)
  simp at h1
  simp[-W06,s226,hw,g1,g2,g3,h1,W3v,agA,w0,W21]
  simp[hw,h1]
 ·have h1:=W6x 8 t (rg.length+6) _ (hw3 op [.pc 1 [[iv t]]] (by simp) rfl) (by rw[Z6]; simp)
  have h2:=W6c (IntKind.i64.wrap (own+1)) _ (hw3 op [.pc 1 [[iv t]]] (by simp) rfl)
  simp at h1 h2
  simp[-W06,s226,hw,g1,g2,g3,h1,h2,W3v,agA,w0,W21,k17,k11,k12,k13,k14,k15,k16,k18,k19,k20,k21,k22,k23,k24]
  simp[hw,h1,h2]
set_option maxRecDepth 20000 in
set_option maxHeartbeats 2000000 in
theorem V0c(P:Prg)(hc:P.code.length≤1000)(hl:∀l∈P.code,l.length≤1000)(hch:chkP P.roots P.cells P.slots P.code=0)(t:Nat)(ht:t<P.code.length)(th:Thr)(l:List Ins)(hx:P.code[t]?=some l)(own:Int)(rg:List Reg)(hw:wf rg):
  bm.run (.fn 137) [prgA P.roots P.cells P.slots P.code,I .i64 (t:Nat),ag th.k,I .i64 own] rg=some (actA (W3w P.code.length P.slots t th l own),rg):=by
 have hll:=hl l (Zi hx)
 have hw1:wf (rg++[prow P.roots P.cells P.slots P.code,.ac (th.k.map .p),zr14]):=W07 hw (by simp[Thr.k])
 have h1:=W9q P.roots P.cells P.slots P.code hc hl _ hw1
 rw[hch]at h1
 have h2:=W6d th l hll _ hw1
 have h3:=Wtz th l hll _ hw1
 have ht2:(t:Int)<P.code.length:=by omega
 have hwr:IntKind.i64.wrap ((P.code.length:Int)-1)=(P.code.length:Int)-1:=W0g (by omega) (by omega)
 have hin:inB (t:Int) 0 ((P.code.length:Int)-1)=true:=by simp[inB]; omega
 rw[R137]
 cases hd:th.done l.length
 ·rw[hd]at h2
  obtain ⟨x,ok,hn⟩:∃x ok,th.nxt l=(x,ok):=⟨_,_,rfl⟩
  rw[hn]at h3
  have hw2:wf (rg++[prow P.roots P.cells P.slots P.code,.ac (th.k.map .p),zr14,rowN x]):=W07 hw (by simp[Thr.k])
  cases ok
  ·have h4:=Wrl P t th.mi _ hw2
   simp at h1 h2 h3 h4
   simp[-W06,s137,hw,h1,h2,h3,h4,hx,hwr,hin,W3w,hd,hn]
   generalize Wci P.code.length P.slots t th.mi=a
   simp[hw,actA]
  ·have h4:=Wrm t th x own _ hw2
   simp at h1 h2 h3 h4
   cases hs:W9l x.op
   ·by_cases hf:x.op=17
    ·obtain ⟨op,xa,xb,xc,xn⟩:=x
     simp only at hf hs
     subst hf
     simp[-W06,s137,hw,h1,h2,h3,h4,hx,hwr,hin,W3w,hd,hn,hs]
     generalize W3v t th ⟨17,xa,xb,xc,xn⟩ own=a
     simp[hw,actA]
    ·simp[-W06,s137,hw,h1,h2,h3,h4,hx,hwr,hin,W3w,hd,hn,hs,hf]
     simp[hw,agA,w0]
   ·simp[-W06,s137,hw,h1,h2,h3,h4,hx,hwr,hin,W3w,hd,hn,hs]
    generalize W3v t th x own=a
    simp[hw,actA]
 ·rw[hd]at h2
  simp[-W06,s137,hw,h1,h2,hx,hwr,hin,W3w,hd]
  simp[hw,agA,act0,w0]
theorem Wrn{P:Prg}{c:Cfg}{s:Ste}(hS:okS P c s){t:Nat}(ht:t<P.code.length):[8,(t:Int),0]∈P.keys:=by
 refine Wjg (x:=(8,0,(if (4:Int)<P.code.length then 4 else P.code.length),1)) (m:=t) (by simp[W2s]) (show (W4p 8&& !decide ((8:Int)=3))=true by decide) ?_ ?_
 ·rw[hS.cl4]; simp; omega
 ·simp[plcI]
theorem Wvh(a:Atn)(rg:List Reg)(hw:wf rg):bm.run (.fn 73) [actA a] rg=some (Bo (decide (a.kind=3)),rg):=by
 rw[R73]
 simp[s73,hw,actA]
theorem Wgz(a:Atn)(rg:List Reg)(hw:wf rg):bm.run (.fn 75) [actA a] rg=some (Bo (decide (a.kind=4)||decide (a.kind=5)),rg):=by
 rw[R75]
 by_cases h:a.kind=4
 ·simp[s75,hw,actA,h]
 ·simp[s75,hw,actA,h]
theorem Wvi{rg:List Reg}{room:Nat}{b:Nat×Nat}{q:List Ent}(h:bufAt rg room b q):bm.run (.fn 74) [.c (.ptr b.1 0)] rg=some (Bo (decide ((q.length:Int)=room)),rg):=by
 obtain ⟨h1,h2⟩:=h
 have h3:bm.run (.fn 135) [.c (.ptr b.1 0)] rg=some (Bo false,rg):=by
  rw[R135]
  simp[s135,h1]
 have h4:=Wjb _ _ _ _ h2
 have h5:=Wud _ _ _ _ h2
 rw[Ym]at h4
 rw[R74]
 simp[s74,h1,h3,h4,h5]
def canT(c:Cfg)(a:Atn)(n:Nat):Bool:=if c.order=1∧((a.kind=3∧(n:Int)=c.depth)∨((a.kind=4∨a.kind=5)∧0<n))then false else !decide (a.kind=0)
section
variable {rg:List Reg} {q:Nat} {P:Prg} {c:Cfg} {s:Ste} {u:Su} {mtr:List (List PV)} {atr:List (Int×Cel×List Int)} {tr:List Snap} {L:List (Nat×Nat)} {im ia:Nat} {vt vb vr:AC}
 (hM:machR rg q P c s u mtr atr tr L im ia vt vb vr) (hS:okS P c s)
include hM hS
theorem Wro{a:Int}(ha:inB a 0 ((if c.order=0 then (P.code.length:Int)else 2*(P.code.length:Int))-1)=false):bm.run (.fn 24) [.c (.ptr q 0),I .i64 a] rg=some (Bo false,rg):=by
 have h1:=W55 hM hS
 have hn4:=hS.n4
 have hwr:IntKind.i64.wrap ((if c.order=0 then (P.code.length:Int)else 2*P.code.length)-1)=(if c.order=0 then (P.code.length:Int)else 2*P.code.length)-1:=W0g (by split<;>omega) (by split<;>omega)
 rw[R24]
 simp[s24,h1,hwr,ha]
theorem V0d{t:Nat}{b:Nat×Nat}{e:List Ent}(hb:L[t]?=some b)(he:s.buf[t]?=some e)(ho:c.order=1):bm.run (.fn 24) [.c (.ptr q 0),I .i64 ((P.code.length:Int)+t)] rg=some (Bo (decide (0<e.length)),rg):=by
 have ht:t<P.code.length:=by rw[←hS.buf]; exact (Z3.1 he).1
 have h1:=W55 hM hS
 have hn4:=hS.n4
 have hz:(b,e)∈allB L s tr:=List.mem_append_left _ (Zi (i:=t) (by rw[Xk]; exact ⟨hb,he⟩))
 have h2:=Wck (hM.bufs _ hz)
 obtain ⟨idb,rfl,hidb⟩:=hM.bufRow hS
 obtain ⟨idt,capt,rfl,hidt⟩:=hM.thrRow hS
 have e1:P.code.length-1+1=P.code.length:=by have:=hS.n1; omega
 have hpl:(ptrL L)[t]?=some [.ptr b.1 0]:=by simp[ptrL,hb]
 have hrow:=hM.row
 have hwr:IntKind.i64.wrap (2*(P.code.length:Int)-1)=2*P.code.length-1:=W0g (by omega) (by omega)
 have hwr2:IntKind.i64.wrap ((P.code.length:Int)+t-P.code.length)=t:=by rw[show (P.code.length:Int)+t-P.code.length=t by omega]; exact W0g (by omega) (by omega)
 have hin:inB ((P.code.length:Int)+t) 0 (2*P.code.length-1)=true:=by simp[inB]; omega
 have ho0:¬c.order=0:=by omega
 have ht2:(t:Int)<P.code.length:=by omega
 have hle:(P.code.length:Int)≤P.code.length+t:=by omega
 simp only[W0d,e1]at hrow
 simp[ho0]at h1
 rw[R24]
 simp[s24,h1,hwr,hwr2,hin,hrow,ho0,e1,ht,ht2,hle,hidb,hpl,h2]
end
section
variable {rg:List Reg} {q:Nat} {P:Prg} {c:Cfg} {s:Ste} {u:Su} {mtr:List (List PV)} {atr:List (Int×Cel×List Int)} {tr:List Snap} {L:List (Nat×Nat)} {im ia:Nat} {vt vb vr:AC}
 (hM:machR rg q P c s u mtr atr tr L im ia vt vb vr) (hS:okS P c s) (hw:wf rg) (hch:chkP P.roots P.cells P.slots P.code=0)
 (hAll:∀m x,x∈L.zip s.buf→wf (rg++m)→bm.run (.fn 112) [.c (.ptr x.1.1 0)] (rg++m)=some (.c (.p (slE x.2)),rg++m))
include hM hS hw hch hAll
def ownC(P:Prg)(s:Ste)(t:Nat)(e:List Ent):Int:=((W4u ⟨8,t,0⟩ 0 e).getD (atW P.slots s [8,t,0])).a
theorem Wvj{t:Nat}{b:Nat×Nat}{e:List Ent}{th:Thr}{l:List Ins}(hb:L[t]?=some b)(he:s.buf[t]?=some e)(hth:s.thr[t]?=some th)(hl:P.code[t]?=some l):
  bm.run (.fn 72) [.c (.ptr q 0),I .i64 (t:Nat)] rg=some (actA (W3w P.code.length P.slots t th l (ownC P s t e)),rg):=by
 have ht:t<P.code.length:=(Z3.1 hl).1
 have ht2:(t:Int)<P.code.length:=by omega
 have hwl:wf (rg++[zr14]):=W07 hw (by simp)
 have hM1:=(Mv.app rg [zr14]).mach trivial hM
 have hid:(fun b:Nat×Nat=>renB (fun i=>i) b)=fun b=>b:=by funext b; rfl
 have hL:L.map (renB fun i=>i)=L:=by
  rw[show (renB fun i=>i)=fun b=>b from hid]; simp
 rw[hL]at hM1
 have h1:=Wve hM1 hS hwl (fun m x hx hm=>by
  rw[Z6]at hm ⊢
  exact hAll _ x hx hm) hb he ⟨8,t,0⟩ 0 (show (8:Int)≠3 by decide) (Wrn hS ht)
 obtain ⟨idt,capt,rfl,hidt⟩:=hM.thrRow hS
 have e1:P.code.length-1+1=P.code.length:=by have:=hS.n1; omega
 have hrow:∀l,(rg++l)[q]?=_:=fun l=>W0b hM.row l
 have hidt2:∀l,(rg++l)[idt]?=_:=fun l=>W0b hidt l
 have htm:(s.thr.map Thr.k)[t]?=some th.k:=by rw[Zz,hth]; rfl
 have hwl2:∀w:Tri,wf (rg++[zr14,.ac [.p (iv w.a),.p (iv w.b),.p (iv w.c)]]):=fun w=>W07 hw (by simp)
 have h2:=V0c P (by have:=hS.n4; omega) (fun l hl=>by have:=hS.cl l hl; omega) hch t ht th l hl (ownC P s t e) _ (hwl2 ((W4u ⟨8,t,0⟩ 0 e).getD (atW P.slots s [8,t,0])))
 have hown:ownC P s t e=((W4u ⟨8,t,0⟩ 0 e).getD (atW P.slots s [8,t,0])).a:=rfl
 generalize ownC P s t e=own at*
 generalize (W4u ⟨8,t,0⟩ 0 e).getD (atW P.slots s [8,t,0])=w at*
 subst hown
 have h22:(th.k.map AC.p).take 22=th.k.map AC.p:=rfl
 have hkn:∀x∈th.k.map AC.p,x.known=true:=fun x hx=>by
  obtain ⟨y,_,rfl⟩:=Y1.1 hx; rfl
 simp only[W0d,e1]at hrow
 generalize W3w P.code.length P.slots t th l w.a=a at*
 rw[R72]
 simp[s72,h1,hrow,hidt2,htm,ht,ht2,e1,h22,hkn,h2,actA,hw]
set_option maxHeartbeats 1000000 in
theorem V0e{t:Nat}{b:Nat×Nat}{e:List Ent}{th:Thr}{l:List Ins}(hb:L[t]?=some b)(he:s.buf[t]?=some e)(hth:s.thr[t]?=some th)(hl:P.code[t]?=some l):
  bm.run (.fn 24) [.c (.ptr q 0),I .i64 (t:Nat)] rg=some (Bo (canT c (W3w P.code.length P.slots t th l (ownC P s t e)) e.length),rg):=by
 have ht:t<P.code.length:=(Z3.1 hl).1
 have ht2:(t:Int)<P.code.length:=by omega
 have h1:=W55 hM hS
 have h2:=Wvj hM hS hw hch hAll hb he hth hl
 have hn4:=hS.n4
 have hdep:=(W22 hS.ok).2.2.2.2
 generalize W3w P.code.length P.slots t th l (ownC P s t e)=a at*
 have hz:(b,e)∈allB L s tr:=List.mem_append_left _ (Zi (i:=t) (by rw[Xk]; exact ⟨hb,he⟩))
 have hba:=hM.bufs _ hz
 have hwl:wf (rg++[.ac (a.k.map .p)]):=W07 hw (by simp[Atn.k])
 have hba2:bufAt (rg++[.ac (a.k.map .p)]) c.depth.toNat b e:=⟨W0b hba.1 _,W0b hba.2 _⟩
 have h3:=Wck hba2
 have h4:=Wvi hba2
 have h5:=Wvh a _ hwl
 have h6:=Wgz a _ hwl
 rw[show ((c.depth.toNat:Nat):Int)=c.depth by omega]at h4
 obtain ⟨idb,rfl,hidb⟩:=hM.bufRow hS
 obtain ⟨idt,capt,rfl,hidt⟩:=hM.thrRow hS
 have e1:P.code.length-1+1=P.code.length:=by have:=hS.n1; omega
 have hpl:(ptrL L)[t]?=some [.ptr b.1 0]:=by simp[ptrL,hb]
 have hrow:=hM.row
 have hrow2:∀l,(rg++l)[q]?=_:=fun l=>W0b hM.row l
 have hidb2:∀l,(rg++l)[idb]?=_:=fun l=>W0b hidb l
 obtain ⟨N,hNd⟩:∃N:Int,N=if c.order=0 then (P.code.length:Int)else 2*P.code.length:=⟨_,rfl⟩
 have hNb:(t:Int)<N∧N≤8:=by rw[hNd]; split<;>omega
 rw[←hNd]at h1
 have hin:inB (t:Int) 0 (N-1)=true:=by simp[inB]; omega
 have hwr:IntKind.i64.wrap (N-1)=N-1:=W0g (by omega) (by omega)
 have hge:¬(P.code.length:Int)≤t:=by omega
 simp only[W0d,e1]at hrow hrow2
 simp only[actA]at h2 h5 h6
 rw[R24]
 by_cases ho:c.order=1
 ·by_cases k3:a.kind=3
  ·by_cases hf:(e.length:Int)=c.depth<;>simp[s24,h1,h2,h3,h4,h5,h6,hwr,hin,hw,hrow,hrow2,e1,ht,ht2,hge,hidb,hidb2,hpl,ho,k3,hf,canT]
  ·by_cases k4:a.kind=4
   ·by_cases hf:0<e.length<;>simp[s24,h1,h2,h3,h4,h5,h6,hwr,hin,hw,hrow,hrow2,e1,ht,ht2,hge,hidb,hidb2,hpl,ho,k4,hf,canT]
   ·by_cases k5:a.kind=5
    ·by_cases hf:0<e.length<;>simp[s24,h1,h2,h3,h4,h5,h6,hwr,hin,hw,hrow,hrow2,e1,ht,ht2,hge,hidb,hidb2,hpl,ho,k5,hf,canT]
    ·simp[s24,h1,h2,h3,h4,h5,h6,hwr,hin,hw,hrow,hrow2,e1,ht,ht2,hge,hidb,hidb2,hpl,ho,k3,k4,k5,canT]
 ·simp[s24,h1,h2,h3,h4,h5,h6,hwr,hin,hw,hrow,hrow2,e1,ht,ht2,hge,hidb,hidb2,hpl,ho,canT]
end
theorem Wvk(c:Cfg)(hok:c.ok=true)(n slots t:Int)(th:Thr)(l:List Ins)(own:Int)(hm:okMi n slots th.mi)(ho:∀x∈l,1≤x.op∧x.op≤25)(k:Nat)(hk:(k:Int)≤c.depth):
  canT c (W3w n slots t th l own) k=canR c th l k:=by
 have hor:=(W22 hok).2.1
 cases hd:th.done l.length
 ·obtain ⟨h1,h2,h3⟩:=Wum n slots t th l own hd hm ho
  unfold canT canR
  rw[hd]
  generalize (W3w n slots t th l own).kind=q at*
  rw[←h2,←h3]
  by_cases h0:c.order=0
  ·simp[h0,h1]
  ·have h01:c.order=1:=by omega
   by_cases q3:q=3
   ·subst q3
    by_cases hf:(k:Int)=c.depth
    ·have:c.depth≤(k:Int):=by omega
     simp[h01,hf,this]
    ·have:¬c.depth≤(k:Int):=by omega
     simp[h01,hf,this]
   ·by_cases hp:0<k
    ·simp[h01,h1,q3,hp]
    ·simp[h01,h1,q3,hp]
 ·rw[Wul n slots t th l own hd]
  unfold canT canR
  rw[hd]
  simp[act0]
def Wf5(P:Prg)(s:Ste):Bool:=(List.range P.code.length).all fun t=>(s.thr.getD t (thr0 0)).done (P.code.getD t []).length&&decide ((s.buf.getD t []).length=0)
theorem Wrp(bad:Nat→Bool)(n:Nat):∃k,k≤n∧(∀i,i<k→bad i=false)∧(k=n∨bad k=true):=by
 induction n with
 | zero=>exact ⟨0,Z8 _,fun i hi=>by omega,.inl rfl⟩
 | succ n ih=>
  obtain ⟨k,h1,h2,h3⟩:=ih
  by_cases hk:k=n
  ·subst hk
   cases hb:bad k
   ·exact ⟨k+1,Z8 _,fun i hi=>by
     by_cases e:i=k
     ·subst e; exact hb
     ·exact h2 i (by omega),.inl rfl⟩
   ·exact ⟨k,by omega,h2,.inr hb⟩
  ·rcases h3 with h3 | h3
   ·exact absurd h3 hk
   ·exact ⟨k,by omega,h2,.inr h3⟩
def badT(P:Prg)(s:Ste)(t:Nat):Bool:= !((s.thr.getD t (thr0 0)).done (P.code.getD t []).length&&decide ((s.buf.getD t []).length=0))
theorem Wrq(P:Prg)(s:Ste):Wf5 P s=((List.range P.code.length).findIdx? (badT P s)).isNone:=by
 unfold Wf5
 cases h:(List.range P.code.length).findIdx? (badT P s)with
 | none=>
  rw[List.findIdx?_eq_none_iff]at h
  simp only[Option.isNone_none,Za]
  intro t ht
  have:=h t ht
  simpa[badT]using this
 | some i=>
  obtain ⟨h1,h2,_⟩:=List.findIdx?_eq_some_iff_getElem.1 h
  simp only[Option.isNone_some]
  rw[Bool.eq_false_iff]
  intro hall
  rw[Za]at hall
  have h3:=hall _ (Zl h1)
  simp only[badT]at h2
  rw[h3]at h2
  cases h2
theorem Wrr(P:Prg)(c:Cfg)(s:Ste)(hS:okS P c s)(rg:List Reg)(hw:wf rg):bm.run (.fn 100) [prgP P,ag s.k] rg=some (Bo (Wf5 P s),rg):=by
 have hw1:wf (rg++[prow P.roots P.cells P.slots P.code,steR s]):=W07 hw (by simp[Ste.k])
 have hn4:=hS.n4
 have h:=W2r (body:=Wb2 W02 bm.run rg.length) (List.range P.code.length) (badT P s)
  (fun j=>⟨[(5,I .i64 (j:Int)),(3,.c (.ptr (rg.length+1) 0)),(2,.c (.ptr rg.length 0))],rg++[prow P.roots P.cells P.slots P.code,steR s]⟩)
  (fun j=>⟨[(4,Bo false)],rg++[prow P.roots P.cells P.slots P.code,steR s]⟩) (k:=0)
  (E:=⟨[(10,Bo false),(5,I .i64 P.code.length),(3,.c (.ptr (rg.length+1) 0)),(2,.c (.ptr rg.length 0))],rg++[prow P.roots P.cells P.slots P.code,steR s]⟩)
  (fun i x hx=>by
   have hi:i<P.code.length:=by have:=(Z3.1 hx).1; simpa using this
   rw[Yy hi]at hx
   cases hx
   have hi2:(i:Int)<P.code.length:=by omega
   have hnx:IntKind.i64.wrap ((i:Int)+1)=(i:Int)+1:=W0g (by omega) (by omega)
   have hth:s.thr[i]?=some (s.thr[i]'(by rw[hS.thr]; exact hi)):=Z2 _
   have hbu:s.buf[i]?=some (s.buf[i]'(by rw[hS.buf]; exact hi)):=Z2 _
   have hco:P.code[i]?=some P.code[i]:=Z2 hi
   have hl:=hS.cl _ (Zl hi)
   generalize s.thr[i]'(by rw[hS.thr]; exact hi)=th at hth
   generalize s.buf[i]'(by rw[hS.buf]; exact hi)=e at hbu
   generalize P.code[i]=l at hco hl
   have hb:badT P s i= !(th.done l.length&&decide (e.length=0)):=by simp[badT,Zc,hth,hbu,hco]
   have h1:=W9z th l _ hw1 (by omega)
   rw[hb]
   cases hd:th.done l.length
   ·rw[hd]at h1
    simp[Wb2,hi2,hth,hbu,hco,h1]
   ·rw[hd]at h1
    by_cases he:0<e.length
    ·have he2:¬e.length=0:=by omega
     simp[Wb2,hi2,hth,hbu,hco,h1,he,he2]
    ·have he2:e.length=0:=by omega
     simp[Wb2,hi2,hnx,hth,hbu,hco,h1,he,he2]) (by simp[Wb2])
 rw[show ((0:Nat):Int)=0 from _root_.rfl]at h
 rw[R100,Wrq]
 cases hf:(List.range P.code.length).findIdx? (badT P s)with
 | some j=>rw[hf]at h; simp at h; simp[s100,h,hw]
 | none=>rw[hf]at h; simp at h; simp[s100,h,hw]
section
variable {rg:List Reg} {q:Nat} {P:Prg} {c:Cfg} {s:Ste} {u:Su} {mtr:List (List PV)} {atr:List (Int×Cel×List Int)} {tr:List Snap} {L:List (Nat×Nat)} {im ia:Nat} {vt vb vr:AC}
 (hM:machR rg q P c s u mtr atr tr L im ia vt vb vr) (hS:okS P c s) (hw:wf rg)
include hM hS hw
omit hw in
theorem Wbh(n0 i:Nat)(hi:i<P.code.length)(m:List Reg)(hwm:wf (rg++m)):
  ∃m',wf (rg++m')∧Wg8 W02 bm.run n0 ⟨[(12,I .i64 (i:Nat)),(11,I .i64 P.code.length),(10,.c vt),(0,.c (.ptr q 0))],rg++m⟩=
   if badT P s i=true then some (.ret,⟨[(2,Bo false)],rg++m'⟩)else some (.normal,⟨[(12,I .i64 (i+1:Nat)),(11,I .i64 P.code.length),(10,.c vt),(0,.c (.ptr q 0))],rg++m'⟩):=by
 have hn4:=hS.n4
 have hi2:(i:Int)<P.code.length:=by omega
 have hnx:IntKind.i64.wrap ((i:Int)+1)=(i:Int)+1:=W0g (by omega) (by omega)
 have hth:s.thr[i]?=some (s.thr[i]'(by rw[hS.thr]; exact hi)):=Z2 _
 have hbu:s.buf[i]?=some (s.buf[i]'(by rw[hS.buf]; exact hi)):=Z2 _
 have hLi:i<L.length:=by rw[hM.len,hS.buf]; exact hi
 have hLj:L[i]?=some L[i]:=Z2 hLi
 have hco:P.code[i]?=some P.code[i]:=Z2 hi
 have hl:=hS.cl _ (Zl hi)
 generalize s.thr[i]'(by rw[hS.thr]; exact hi)=th at hth
 generalize s.buf[i]'(by rw[hS.buf]; exact hi)=e at hbu
 generalize P.code[i]=l at hco hl
 generalize L[i]=b at hLj
 have hz:(b,e)∈allB L s tr:=List.mem_append_left _ (Zi (i:=i) (by rw[Xk]; exact ⟨hLj,hbu⟩))
 have hba:=hM.bufs _ hz
 have hb:badT P s i= !(th.done l.length&&decide (e.length=0)):=by simp[badT,Zc,hth,hbu,hco]
 have hw1:wf (rg++(m++[.ac (th.k.map .p)])):=by rw[←Z6]; exact W07 hwm (by simp[Thr.k])
 have h1:=W6d th l (by omega) _ hw1
 have hba2:bufAt (rg++(m++[.ac (th.k.map .p)])) c.depth.toNat b e:=⟨W0b hba.1 _,W0b hba.2 _⟩
 have h2:=Wck hba2
 obtain ⟨idb,rfl,hidb⟩:=hM.bufRow hS
 obtain ⟨idt,capt,rfl,hidt⟩:=hM.thrRow hS
 have e1:P.code.length-1+1=P.code.length:=by have:=hS.n1; omega
 have hpl:(ptrL L)[i]?=some [.ptr b.1 0]:=by simp[ptrL,hLj]
 have hrow:∀l,(rg++l)[q]?=_:=fun l=>W0b hM.row l
 have hidb2:∀l,(rg++l)[idb]?=_:=fun l=>W0b hidb l
 have hidt2:∀l,(rg++l)[idt]?=_:=fun l=>W0b hidt l
 have htm:(s.thr.map Thr.k)[i]?=some th.k:=by rw[Zz,hth]; rfl
 simp only[W0d,e1]at hrow
 refine ⟨m++[.ac (th.k.map .p)],hw1,?_⟩
 rw[hb]
 cases hd:th.done l.length
 ·rw[hd]at h1
  simp[Wg8,hi2,e1,hidt2,htm,hrow,hco,h1]
 ·rw[hd]at h1
  by_cases he:0<e.length
  ·have he2:¬e.length=0:=by omega
   simp[Wg8,hi2,e1,hidt2,hidb2,hpl,htm,hrow,hco,h1,h2,he,he2]
  ·have he2:e.length=0:=by omega
   simp[Wg8,hi2,hnx,e1,hidt2,hidb2,hpl,htm,hrow,hco,h1,h2,he,he2]
theorem Wrs:bm.run (.fn 22) [.c (.ptr q 0)] rg=some (Bo (Wf5 P s),rg):=by
 have hno:=W4t hM hS
 obtain ⟨k,hk1,hk2,hk3⟩:=Wrp (badT P s) P.code.length
 have hvl:vlen (.c vt)=some (I .i64 P.code.length):=by
  obtain ⟨idt,capt,rfl,hidt⟩:=hM.thrRow hS
  have:P.code.length-1+1=P.code.length:=by have:=hS.n1; omega
  rw[this]; rfl
 obtain ⟨ex,s',e1,hQ⟩:=W0z (body:=Wg8 W02 bm.run rg.length)
  (fun j st=>∃m,st=⟨[(12,I .i64 (j:Nat)),(11,I .i64 P.code.length),(10,.c vt),(0,.c (.ptr q 0))],rg++m⟩∧wf (rg++m))
  (fun ex s'=>∃m,s'.regs=rg++m∧((k=P.code.length∧ex= .exit 0)∨(k<P.code.length∧ex= .ret∧lk s'.slots 2=Bo false)))
  k (s:=⟨[(12,I .i64 0),(11,I .i64 P.code.length),(10,.c vt),(0,.c (.ptr q 0))],rg⟩) ⟨[],by simp,by simpa using hw⟩
  (by
   rintro j hj st ⟨m,rfl,hwm⟩
   obtain ⟨m',h1,h2⟩:=Wbh hM hS rg.length j (by omega) m hwm
   rw[hk2 j hj]at h2
   exact ⟨_,h2,m',rfl,h1⟩)
  (by
   rintro st ⟨m,rfl,hwm⟩
   by_cases hkn:k=P.code.length
   ·subst hkn
    exact ⟨.exit 0,_,by simp[Wg8]; rfl,by simp,m,rfl,.inl ⟨rfl,rfl⟩⟩
   ·have hlt:k<P.code.length:=by omega
    obtain ⟨m',h1,h2⟩:=Wbh hM hS rg.length k hlt m hwm
    rw[hk3.resolve_left hkn]at h2
    exact ⟨.ret,_,h2,by simp,m',rfl,.inr ⟨hlt,rfl,rfl⟩⟩)
 have hov:Wf5 P s=decide (k=P.code.length):=by
  by_cases hkn:k=P.code.length
  ·rw[Xz hkn]
   unfold Wf5
   rw[Za]
   intro t ht
   have:=hk2 t (by rw[hkn]; simpa using ht)
   simpa[badT]using this
  ·rw[decide_eq_false hkn,Bool.eq_false_iff]
   intro h
   unfold Wf5 at h
   rw[Za]at h
   have h2:=h k (by simp; omega)
   have h3:=hk3.resolve_left hkn
   simp only[badT]at h3
   rw[h2]at h3
   cases h3
 obtain ⟨m,e2,hQ⟩:=hQ
 have hrow:=hM.row
 simp only[W0d]at hrow
 rw[R22,hov]
 rcases hQ with ⟨h1,rfl⟩ | ⟨h1,rfl,h3⟩
 ·simp[s22,hno,hrow,hvl,e1,e2,h1]
  rw[W20 _root_.rfl hw (by simp[avLt,acLt])]
  simp
 ·have h4:¬k=P.code.length:=by omega
  simp[s22,hno,hrow,hvl,e1,e2,h3,h4]
  rw[W20 _root_.rfl hw (by simp[avLt,acLt])]
  simp
end
theorem accV.pushZ{base m:List Reg}{v:AV}{sz bytes:Nat}{l:List (List PV)}(x:List PV)(h:accV base.length sz l v m)(hb:l.length+1≤140737488355328)(hb2:(l.length+1)*bytes≤140737488355328)(hw:wf (base++m)):
  ∃v' m',vapp (base++(m++[.pc sz [x]])) sz bytes v (.c (.own (base.length+m.length) 0 sz 1 .free))=some (.c v',base++m')∧accV base.length sz (l++[x]) (.c v') m'∧wf (base++m')∧
   (∀(q:Nat) (r:Reg),m[q]?=some r→(∀l,r≠ .pc sz l)→m'[q]?=some r):=by
 have hg:(base++(m++[Reg.pc sz [x]]))[base.length+m.length]?=some (.pc sz [x]):=by rw[W0e]; simp
 have hw1:wf (base++(m++[Reg.pc sz [x]])):=by rw[←Z6]; exact W07 hw (by simp)
 rcases h with ⟨rfl,rfl⟩ | ⟨k,rfl,hk⟩
 ·refine ⟨.own (base.length+(m.length+1)) 0 sz 1 .free,m++[.pc sz [x]]++[.pc sz [x]],?_,.inr ⟨m.length+1,by simp,by simp⟩,?_,fun q r hq _=>by rw[Z6]; exact W0b hq _⟩
  ·have h2:(1:Nat)*bytes≤140737488355328:=by simpa using hb2
   unfold vapp W3p
   simp only[W15,hg,W1i]
   simp[szOf]at h2 ⊢
   simp[h2]
  ·rw[Z6,←Z6]
   exact W07 hw (by simp)
 ·have hlt:k<m.length:=(Z3.1 hk).1
  have hgk:(base++(m++[Reg.pc sz [x]]))[base.length+k]?=some (.pc sz l):=by rw[W0e]; exact W0b hk _
  refine ⟨.own (base.length+(m.length+1)) 0 sz (l.length+1) .free,(m++[Reg.pc sz [x]]).set k .dead++[Reg.pc sz (l++[x])],?_,.inr ⟨m.length+1,by simp,by simp⟩,?_,fun q r hq hr=> ?_⟩
  ·unfold vapp W3p
   simp only[W15,hg,W1i,hgk,szOf]
   simp[hb,hb2]
  ·rw[←Z6]
   have hw2:wf (base++(m++[Reg.pc sz [x]]).set k .dead):=by
    have:=W2l (id:=base.length+k) (r:= .dead) hw1 rfl
    rwa[W1z]at this
   exact W07 hw2 (by simp)
  ·have hne:k≠q:=by rintro rfl; rw[hk]at hq; cases hq; exact hr _ rfl
   rw[Zp (by simp; have:=(Z3.1 hq).1; omega),Zv hne]
   exact W0b hq _
theorem accV.stayZ{n0 sz sz':Nat}{l:List (List PV)}{v:AV}{m m':List Reg}(h:accV n0 sz l v m)(hne:sz≠sz')(hs:∀(q:Nat) (r:Reg),m[q]?=some r→(∀l,r≠ .pc sz' l)→m'[q]?=some r):accV n0 sz l v m':=by
 rcases h with h | ⟨k,h1,h2⟩
 ·exact .inl h
 ·exact .inr ⟨k,h1,hs _ _ h2 (fun _ e=>by cases e; exact hne rfl)⟩
abbrev nil9:Reg:= .ac [.p nilS,.p nilS,.p nilS,.p nilS,.p nilS,.p nilS,.p (iv 0),.p nilS,.p nilS]
def sRow(s:Ste)(vt vb:AC):Reg:= .ac [vt,vb,.p (sl3 s.roots),.p (sl3 s.slots),.p (slC s.cells),.p (slI s.free),.p (iv s.epoch),.p (slI s.marks),.p (slI s.counts)]
def W3n(rg:List Reg)(s:Ste)(vt vb:AC)(m:List Reg):List Reg:=rg++[nil9,sRow s vt vb]++m
theorem wf_s{rg:List Reg}{s:Ste}{vt vb vt' vb':AC}{m:List Reg}(h:wf (W3n rg s vt vb m))(h1:acLt (rg.length+2+m.length) vt'=true)(h2:acLt (rg.length+2+m.length) vb'=true):wf (W3n rg s vt' vb' m):=by
 have e:(rg++[nil9,sRow s vt' vb']++m).length=(rg++[nil9,sRow s vt vb]++m).length:=by simp
 have hl:(rg++[nil9,sRow s vt vb]++m).length=rg.length+2+m.length:=by simp; omega
 unfold W3n wf at h ⊢
 rw[e]
 rw[hl]at h ⊢
 simp only[Xf,Y2,X6,Z4,Yu]at h ⊢
 refine ⟨⟨h.1.1,h.1.2.1,?_⟩,h.2⟩
 simp only[sRow,W18,Y2,X6,h1,h2]
 simp only[acLt,Yu]
set_option maxHeartbeats 1000000 in
theorem Wh0{rg:List Reg}{q:Nat}{P:Prg}{c:Cfg}{s:Ste}{u:Su}{mtr:List (List PV)}{atr:List (Int×Cel×List Int)}{tr:List Snap}{L:List (Nat×Nat)}{im ia:Nat}{vt vb vr:AC}
  (hM:machR rg q P c s u mtr atr tr L im ia vt vb vr) (hS:okS P c s) (hAll:∀m x,x∈L.zip s.buf→wf (rg++m)→bm.run (.fn 112) [.c (.ptr x.1.1 0)] (rg++m)=some (.c (.p (slE x.2)),rg++m))
  (n0 j:Nat) (hj:j<s.thr.length) (wt wb:AC) (m:List Reg)
  (h1:accV (rg.length+2) 22 ((s.thr.take j).map Thr.k) (.c wt) m) (h2:accV (rg.length+2) 1 ((s.buf.take j).map fun x=>[slE x]) (.c wb) m) (hw:wf (W3n rg s wt wb m)):
  ∃wt' wb' m',Wpo W02 bm.run n0 ⟨[(16,I .i64 (j:Nat)),(15,I .i64 s.thr.length),(14,.c vt),(3,.c (.ptr (rg.length+1) 0)),(2,.c (.ptr rg.length 0)),(0,.c (.ptr q 0))],W3n rg s wt wb m⟩=
    some (.normal,⟨[(16,I .i64 (j+1:Nat)),(15,I .i64 s.thr.length),(14,.c vt),(3,.c (.ptr (rg.length+1) 0)),(2,.c (.ptr rg.length 0)),(0,.c (.ptr q 0))],W3n rg s wt' wb' m'⟩)∧
   accV (rg.length+2) 22 ((s.thr.take (j+1)).map Thr.k) (.c wt') m'∧accV (rg.length+2) 1 ((s.buf.take (j+1)).map fun x=>[slE x]) (.c wb') m'∧wf (W3n rg s wt' wb' m'):=by
 have hj2:(j:Int)<s.thr.length:=by omega
 have hn4:=hS.n4
 have htl:=hS.thr
 have hbl:=hS.buf
 have hLl:=hM.len
 have hnx:IntKind.i64.wrap ((j:Int)+1)=(j:Int)+1:=W0g (by omega) (by omega)
 have hth:s.thr[j]?=some s.thr[j]:=Z2 hj
 have hok:=hS.tok _ (Zl hj)
 have htt:s.thr.take (j+1)=s.thr.take j++[s.thr[j]]:=by rw[Zs,hth]; rfl
 generalize s.thr[j]=th at hth hok htt
 have hjb:j<s.buf.length:=by omega
 have hbu:s.buf[j]?=some s.buf[j]:=Z2 hjb
 have htb:s.buf.take (j+1)=s.buf.take j++[s.buf[j]]:=by rw[Zs,hbu]; rfl
 generalize s.buf[j]=bq at hbu htb
 have hjL:j<L.length:=by omega
 have hLj:L[j]?=some L[j]:=Z2 hjL
 generalize L[j]=b at hLj
 have hzip:(b,bq)∈L.zip s.buf:=by
  refine Zi (i:=j) ?_
  rw[Xk]
  exact ⟨hLj,hbu⟩
 obtain ⟨idt,capt,rfl,hidt⟩:=hM.thrRow hS
 obtain ⟨idb,rfl,hidb⟩:=hM.bufRow hS
 have hrow:∀l,(rg++l)[q]?=_:=fun l=>W0b hM.row l
 have hidt2:∀l,(rg++l)[idt]?=_:=fun l=>W0b hidt l
 have hidb2:∀l,(rg++l)[idb]?=_:=fun l=>W0b hidb l
 have hpl:(ptrL L)[j]?=some [.ptr b.1 0]:=by simp[ptrL,hLj]
 have hlb:∀wt wb,(rg++[nil9,sRow s wt wb]).length=rg.length+2:=fun _ _=>by simp
 have hma:∀(vt vb:AC) (m x:List Reg),W3n rg s vt vb m++x=W3n rg s vt vb (m++x):=fun _ _ m x=>by simp[W3n]
 have hw1:wf (W3n rg s wt wb (m++[.ac (th.k.map .p)])):=by
  rw[←hma]
  exact W07 hw (by simp[Thr.k])
 have hcl:=Wl0 th hok _ hw1
 obtain ⟨wt1,m1,e1,e2,e3,e4⟩:=accV.pushZ (bytes:=224) (base:=rg++[nil9,sRow s wt wb]) (m:=m++[.ac (th.k.map .p)]) th.k (by rw[hlb]; exact h1.more _) (by simp; omega) (by simp; omega) hw1
 rw[hlb]at e1 e2
 have h2':accV (rg.length+2) 1 ((s.buf.take j).map fun x=>[slE x]) (.c wb) m1:=(h2.more _).stayZ (by decide) e4
 have hwt1:acLt (rg.length+2+m1.length) wt1=true:=by simpa[avLt]using e2.lt (Z8 _)
 have hwb:acLt (rg.length+2+m1.length) wb=true:=by simpa[avLt]using h2'.lt (Z8 _)
 have hw2:wf (W3n rg s wt1 wb m1):=wf_s e3 hwt1 hwb
 have hal:=hAll ([nil9,sRow s wt1 wb]++m1) _ hzip (by rw[←Z6]; exact hw2)
 obtain ⟨wb2,m2,f1,f2,f3,f4⟩:=accV.pushZ (bytes:=24) (base:=rg++[nil9,sRow s wt1 wb]) (m:=m1) [slE bq] (by rw[hlb]; exact h2') (by simp; omega) (by simp; omega) hw2
 rw[hlb]at f1 f2
 have e2':accV (rg.length+2) 22 ((s.thr.take j).map Thr.k++[th.k]) (.c wt1) m2:=e2.stayZ (by decide) f4
 have hwt2:acLt (rg.length+2+m2.length) wt1=true:=by simpa[avLt]using e2'.lt (Z8 _)
 have hwb2:acLt (rg.length+2+m2.length) wb2=true:=by simpa[avLt]using f2.lt (Z8 _)
 refine ⟨wt1,wb2,m2,?_,by rw[htt,Yz]; exact e2',by rw[htb,Yz]; exact f2,wf_s f3 hwt2 hwb2⟩
 have hct:cellsOf (.c wt1)=some [wt1]:=by rcases e2 with ⟨_,h⟩ | ⟨_,h,_⟩<;>cases h<;>rfl
 have hcb:cellsOf (.c wb2)=some [wb2]:=by rcases f2 with ⟨_,h⟩ | ⟨_,h,_⟩<;>cases h<;>rfl
 have hft:flV (.c wt)=true:=by rcases h1 with ⟨_,h⟩ | ⟨_,h,_⟩<;>cases h<;>rfl
 have hfb:flV (.c wb)=true:=by rcases h2 with ⟨_,h⟩ | ⟨_,h,_⟩<;>cases h<;>rfl
 simp only[W0d]at hrow
 simp only[W3n,sRow]at hcl e1 f1 hal ⊢
 simp at hcl e1 f1 hal
 have htm:(s.thr.map Thr.k)[j]?=some th.k:=by rw[Zz,hth]; rfl
 have e:P.code.length-1+1=P.code.length:=by have:=hS.n1; omega
 have hjP:j<P.code.length:=by omega
 have hjP2:(j:Int)<P.code.length:=by omega
 have e5:rg.length+(m.length+3)=rg.length+2+(m.length+1):=by omega
 have e6:rg.length+(m1.length+2)=rg.length+2+m1.length:=by omega
 simp only[e]at*
 have h22:(th.k.map AC.p).take 22=th.k.map AC.p:=rfl
 have hkn:∀x∈th.k.map AC.p,x.known=true:=fun x hx=>by
  obtain ⟨y,_,rfl⟩:=Y1.1 hx; rfl
 simp[Wpo,hj2,hjP,hjP2,hnx,hidt2,htm,h22,hkn,hcl,hft]
 rw[e5,e1]
 simp[hct,hrow,hidb2,hpl,hjP,hjP2,hal,hfb]
 rw[e6,f1]
 simp[hcb]
theorem V53(th:Thr):nzR W2w th.k=th.k:=by simp[Thr.k,W2w,nzR,nzP]
theorem Wrt:∀l:List Thr,nzL W2w (l.map Thr.k)=l.map Thr.k
 | []=>by simp[nzL]
 | th::l=>by rw[Zh,nzL,V53,Wrt l]
theorem Wru:∀l:List (List Ent),nzL [.sl 8 []] (l.map fun x=>[slE x])=l.map fun x=>[slE x]
 | []=>by simp[nzL]
 | x::l=>by rw[Zh,nzL,Wru l]; simp[nzR,nzP]
set_option maxHeartbeats 1000000 in
theorem Wrv{rg:List Reg}{q:Nat}{P:Prg}{c:Cfg}{s:Ste}{u:Su}{mtr:List (List PV)}{atr:List (Int×Cel×List Int)}{tr:List Snap}{L:List (Nat×Nat)}{im ia:Nat}{vt vb vr:AC}
  (hM:machR rg q P c s u mtr atr tr L im ia vt vb vr) (hS:okS P c s) (hw:wf rg) (hAll:∀m x,x∈L.zip s.buf→wf (rg++m)→bm.run (.fn 112) [.c (.ptr x.1.1 0)] (rg++m)=some (.c (.p (slE x.2)),rg++m)):
  bm.run (.fn 43) [.c (.ptr q 0)] rg=some (ag s.k,rg):=by
 have hwl:wf (rg++[nil9]):=W07 hw (by simp)
 have hM1:=(Mv.app rg [nil9]).mach trivial hM
 have hid:∀x:AC,W12 (fun i=>i) x=x:=Wgf
 have hno:=W4t hM1 hS
 have hco:=Wbd hM1 hS hwl
 have hw0:wf (W3n rg s (.p nilS) (.p nilS) []):=by
  unfold W3n
  rw[Zr]
  exact W07 hw (by simp[sRow])
 obtain ⟨ex,s',e1,rfl,wt,wb,m,e2,e3,h1,h2,hw2⟩:=W0z (body:=Wpo W02 bm.run rg.length)
  (fun j st=>∃wt wb m,st=⟨[(16,I .i64 (j:Nat)),(15,I .i64 s.thr.length),(14,.c vt),(3,.c (.ptr (rg.length+1) 0)),(2,.c (.ptr rg.length 0)),(0,.c (.ptr q 0))],W3n rg s wt wb m⟩∧
   accV (rg.length+2) 22 ((s.thr.take j).map Thr.k) (.c wt) m∧accV (rg.length+2) 1 ((s.buf.take j).map fun x=>[slE x]) (.c wb) m∧wf (W3n rg s wt wb m))
  (fun ex s'=>ex= .exit 0∧∃wt wb m,s'.regs=W3n rg s wt wb m∧(lkF s'.slots 3= .c (.ptr (rg.length+1) 0)∧lkF s'.slots 2= .c (.ptr rg.length 0))∧accV (rg.length+2) 22 (s.thr.map Thr.k) (.c wt) m∧accV (rg.length+2) 1 (s.buf.map fun x=>[slE x]) (.c wb) m∧wf (W3n rg s wt wb m))
  s.thr.length (s:=⟨[(16,I .i64 0),(15,I .i64 s.thr.length),(14,.c vt),(3,.c (.ptr (rg.length+1) 0)),(2,.c (.ptr rg.length 0)),(0,.c (.ptr q 0))],W3n rg s (.p nilS) (.p nilS) []⟩) ⟨_,_,_,rfl,.nil _ _ _,.nil _ _ _,hw0⟩
  (by
   rintro j hj st ⟨wt,wb,m,rfl,h1,h2,h3⟩
   obtain ⟨wt',wb',m',e,r⟩:=Wh0 hM hS hAll rg.length j hj wt wb m h1 h2 h3
   exact ⟨_,e,wt',wb',m',rfl,r⟩)
  (by
   rintro st ⟨wt,wb,m,rfl,h1,h2,h3⟩
   rw[Ze (Z8 _)]at h1
   rw[Ze (by rw[hS.thr,hS.buf]; exact Z8 _)]at h2
   exact ⟨.exit 0,_,by simp[Wpo]; rfl,by simp,rfl,wt,wb,m,rfl,⟨rfl,rfl⟩,h1,h2,h3⟩)
 obtain ⟨e3,e4⟩:=e3
 rw[W1m]at e3 e4
 have hvl:vlen (.c vt)=some (I .i64 s.thr.length):=by
  obtain ⟨idt,capt,rfl,hidt⟩:=hM.thrRow hS
  have:P.code.length-1+1=s.thr.length:=by rw[hS.thr]; have:=hS.n1; omega
  rw[this]; rfl
 have hrow:∀l,(rg++l)[q]?=_:=fun l=>W0b hM.row l
 have hn4:=hS.n4
 have htl:=hS.thr
 have hbl:=hS.buf
 have hdt:=fun k=>accV.deep (base:=rg) (k:=k) (ks:=W2w) (h1.back (p:=[sRow s wt wb,sRow s wt wb])) (by omega) (by simp; omega) (Wrt _)
 have hdb:=fun k=>accV.deep (base:=rg) (k:=k) (ks:=[.sl 8 []]) (h2.back (p:=[sRow s wt wb,sRow s wt wb])) (by omega) (by simp; omega) (Wru _)
 simp only[W0d]at hrow
 simp only[W3n,sRow]at e1 e2 hdt hdb
 rw[R43]
 simp at e1 e2 hno hco
 have hkt:wt.known=true:=by rcases h1 with ⟨_,h⟩ | ⟨_,h,_⟩<;>cases h<;>rfl
 have hkb:wb.known=true:=by rcases h2 with ⟨_,h⟩ | ⟨_,h,_⟩<;>cases h<;>rfl
 simp[s43,hno,hco,hrow,hvl,e1,e2,e3,e4,hkt,hkb]
 rw[W1h _ _ _ _ _ _root_.rfl hw]
 have a:=hdt (m.length+2)
 have b:=hdb (m.length+2)
 simp at a b
 simp[W42,a,b,Ste.k]
theorem V0f:W8q Go.Proofs.Tryz.prog 114 [.i64,.i64,.i64]=true:=by kernel_rfl
theorem V0g:W8q Go.Proofs.Tryz.prog 249 [.i64,.i64,.i64]=true:=by kernel_rfl
theorem V0h:W8q Go.Proofs.Tryz.prog 177 [.i64,.i64,.i64,.i64,.i64,.i64,.i64,.i64,.i64,.i64]=true:=by kernel_rfl
theorem V0i:W8q Go.Proofs.Tryz.prog 165 [.i64,.i64,.i64,.i64,.i64,.i64,.i64,.i64]=true:=by kernel_rfl
theorem V0j:W8q Go.Proofs.Tryz.prog 115 [.i64,.i64,.i64,.i64,.i64,.i64,.i64,.i64,.i64,.i64,.i64,.i64]=true:=by kernel_rfl
@[simp] theorem V6l (e:Ent):(e.k.map AC.p).take 8=e.k.map AC.p:=_root_.id rfl
@[simp] theorem V6m (e:Cel):(e.k.map AC.p).take 10=e.k.map AC.p:=_root_.id rfl
theorem W6j{neg:Bool}{t:Nat}{ks:List IntKind}{l:List AC}{us:List Int}(h:W2f ks l=some us)(he:W8q Go.Proofs.Tryz.prog t ks=true):veqs Go.Proofs.Tryz.prog neg t ks (.agg l) (.agg l)=some (Bo !neg):=by
 simp only[veqs,h,Zn,he,if_true,decide_true]
 cases neg<;>rfl
theorem V54(l:List Int)(hl:l.length≤1000000)(rg:List Reg):bm.run (.fn 95) [.c (.p (slI l)),.c (.p (slI l))] rg=some (Bo true,rg):=by
 have h:=W0y (body:=Wtn W02 bm.run rg.length) (fun j=>⟨[(5,I .i64 (j:Nat)),(1,.c (.p (slI l))),(0,.c (.p (slI l)))],rg⟩) l.length (fun i hi=>by
   have hx:l[i]?=some l[i]:=Z2 hi
   generalize l[i]=x at hx
   have hi2:(i:Int)<l.length:=by omega
   have hnx:IntKind.i64.wrap ((i:Int)+1)=(i:Int)+1:=W0g (by omega) (by omega)
   simp[Wtn,hi2,hnx,hx]) (e:= .exit 0) (s':=⟨[(14,Bo false),(5,I .i64 l.length),(1,.c (.p (slI l))),(0,.c (.p (slI l)))],rg⟩) (by simp[Wtn]) (by simp)
 simp only[Int.natCast_zero,show (((0:Nat):Int))=0 from _root_.rfl]at h
 rw[R95]
 simp[s95,h]
theorem Wjj(l:List Int)(hl:l.length≤1000000)(rg:List Reg):bm.run (.fn 96) [.c (.p (slI l)),.c (.p (slI l))] rg=some (Bo true,rg):=by
 have h:=W0y (body:=Wto W02 bm.run rg.length) (fun j=>⟨[(5,I .i64 (j:Nat)),(1,.c (.p (slI l))),(0,.c (.p (slI l)))],rg⟩) l.length (fun i hi=>by
   have hx:l[i]?=some l[i]:=Z2 hi
   generalize l[i]=x at hx
   have hi2:(i:Int)<l.length:=by omega
   have hnx:IntKind.i64.wrap ((i:Int)+1)=(i:Int)+1:=W0g (by omega) (by omega)
   simp[Wto,hi2,hnx,hx]) (e:= .exit 0) (s':=⟨[(14,Bo false),(5,I .i64 l.length),(1,.c (.p (slI l))),(0,.c (.p (slI l)))],rg⟩) (by simp[Wto]) (by simp)
 simp only[Int.natCast_zero,show (((0:Nat):Int))=0 from _root_.rfl]at h
 rw[R96]
 simp[s96,h]
theorem Wwr(l:List Tri)(hl:l.length≤1000000)(rg:List Reg):bm.run (.fn 93) [.c (.p (sl3 l)),.c (.p (sl3 l))] rg=some (Bo true,rg):=by
 have h:=W0y (body:=Wtl W02 bm.run rg.length) (fun j=>⟨[(5,I .i64 (j:Nat)),(1,.c (.p (sl3 l))),(0,.c (.p (sl3 l)))],rg⟩) l.length (fun i hi=>by
   have hx:l[i]?=some l[i]:=Z2 hi
   generalize l[i]=x at hx
   have hi2:(i:Int)<l.length:=by omega
   have hnx:IntKind.i64.wrap ((i:Int)+1)=(i:Int)+1:=W0g (by omega) (by omega)
   have hq:=W6j (neg:=true) (l:=[.p (iv x.a),.p (iv x.b),.p (iv x.c)]) (us:=_) rfl V0f
   simp[Wtl,hi2,hnx,hx,hq]) (e:= .exit 0) (s':=⟨[(14,Bo false),(5,I .i64 l.length),(1,.c (.p (sl3 l))),(0,.c (.p (sl3 l)))],rg⟩) (by simp[Wtl]) (by simp)
 simp only[Int.natCast_zero,show (((0:Nat):Int))=0 from _root_.rfl]at h
 rw[R93]
 simp[s93,h]
theorem V0k(l:List Tri)(hl:l.length≤1000000)(rg:List Reg):bm.run (.fn 160) [.c (.p (sl3 l)),.c (.p (sl3 l))] rg=some (Bo true,rg):=by
 have h:=W0y (body:=Wig W02 bm.run rg.length) (fun j=>⟨[(5,I .i64 (j:Nat)),(1,.c (.p (sl3 l))),(0,.c (.p (sl3 l)))],rg⟩) l.length (fun i hi=>by
   have hx:l[i]?=some l[i]:=Z2 hi
   generalize l[i]=x at hx
   have hi2:(i:Int)<l.length:=by omega
   have hnx:IntKind.i64.wrap ((i:Int)+1)=(i:Int)+1:=W0g (by omega) (by omega)
   have hq:=W6j (neg:=true) (l:=[.p (iv x.a),.p (iv x.b),.p (iv x.c)]) (us:=_) rfl V0g
   simp[Wig,hi2,hnx,hx,hq]) (e:= .exit 0) (s':=⟨[(14,Bo false),(5,I .i64 l.length),(1,.c (.p (sl3 l))),(0,.c (.p (sl3 l)))],rg⟩) (by simp[Wig]) (by simp)
 simp only[Int.natCast_zero,show (((0:Nat):Int))=0 from _root_.rfl]at h
 rw[R160]
 simp[s160,h]
theorem V55(l:List Cel)(hl:l.length≤1000000)(rg:List Reg):bm.run (.fn 94) [.c (.p (slC l)),.c (.p (slC l))] rg=some (Bo true,rg):=by
 have h:=W0y (body:=Wtm W02 bm.run rg.length) (fun j=>⟨[(5,I .i64 (j:Nat)),(1,.c (.p (slC l))),(0,.c (.p (slC l)))],rg⟩) l.length (fun i hi=>by
   have hx:l[i]?=some l[i]:=Z2 hi
   generalize l[i]=x at hx
   have hi2:(i:Int)<l.length:=by omega
   have hnx:IntKind.i64.wrap ((i:Int)+1)=(i:Int)+1:=W0g (by omega) (by omega)
   have hq:=W6j (neg:=true) (l:=(x.k.map .p)) (us:=_) rfl V0h
   simp[Wtm,hi2,hnx,hx,hq]) (e:= .exit 0) (s':=⟨[(14,Bo false),(5,I .i64 l.length),(1,.c (.p (slC l))),(0,.c (.p (slC l)))],rg⟩) (by simp[Wtm]) (by simp)
 simp only[Int.natCast_zero,show (((0:Nat):Int))=0 from _root_.rfl]at h
 rw[R94]
 simp[s94,h]
theorem V56(l:List Ent)(hl:l.length≤1000000)(rg:List Reg):bm.run (.fn 92) [.c (.p (slE l)),.c (.p (slE l))] rg=some (Bo true,rg):=by
 have h:=W0y (body:=Wtk W02 bm.run rg.length) (fun j=>⟨[(5,I .i64 (j:Nat)),(1,.c (.p (slE l))),(0,.c (.p (slE l)))],rg⟩) l.length (fun i hi=>by
   have hx:l[i]?=some l[i]:=Z2 hi
   generalize l[i]=x at hx
   have hi2:(i:Int)<l.length:=by omega
   have hnx:IntKind.i64.wrap ((i:Int)+1)=(i:Int)+1:=W0g (by omega) (by omega)
   have hq:=W6j (neg:=true) (l:=(x.k.map .p)) (us:=_) rfl V0i
   simp[Wtk,hi2,hnx,hx,hq]) (e:= .exit 0) (s':=⟨[(14,Bo false),(5,I .i64 l.length),(1,.c (.p (slE l))),(0,.c (.p (slE l)))],rg⟩) (by simp[Wtk]) (by simp)
 simp only[Int.natCast_zero,show (((0:Nat):Int))=0 from _root_.rfl]at h
 rw[R92]
 simp[s92,h]
abbrev micQ(m:Mic):AV:= .agg [.p (iv m.kind),.p (iv m.i),.p (iv m.n),.p (slI m.seen)]
theorem V0l(m:Mic)(hl:m.seen.length≤1000000)(rg:List Reg)(hw:wf rg):bm.run (.fn 159) [micQ m,micQ m] rg=some (Bo true,rg):=by
 rw[R159]
 have h:=Wjj m.seen hl
 simp[s159,hw,h]
theorem V57(th:Thr)(ht:th.okT)(rg:List Reg)(hw:wf rg):bm.run (.fn 91) [ag th.k,ag th.k] rg=some (Bo true,rg):=by
 obtain ⟨h1,h2,h3⟩:=ht
 have hq:=W6j (neg:=false) (l:=[.p (iv th.r0.a),.p (iv th.r0.b),.p (iv th.r0.c),.p (iv th.r1.a),.p (iv th.r1.b),.p (iv th.r1.c),.p (iv th.r2.a),.p (iv th.r2.b),.p (iv th.r2.c),.p (iv th.r3.a),.p (iv th.r3.b),.p (iv th.r3.c)]) (us:=_) rfl V0j
 have g1:=fun rg hw=>V0l th.mi (by omega) rg hw
 have g2:=V0k th.bag (by omega)
 have g3:=Wjj th.snap (by omega)
 have hreg:∀rg:List Reg,((th.k.map AC.p).drop 3).take 12=[.p (iv th.r0.a),.p (iv th.r0.b),.p (iv th.r0.c),.p (iv th.r1.a),.p (iv th.r1.b),.p (iv th.r1.c),.p (iv th.r2.a),.p (iv th.r2.b),.p (iv th.r2.c),.p (iv th.r3.a),.p (iv th.r3.b),.p (iv th.r3.c)]:=fun _=>rfl
 have hw1:wf (rg++[.ac (th.k.map .p),.ac (th.k.map .p)]):=W07 hw (by simp[Thr.k])
 have g1':=g1 _ hw1
 rw[R91]
 simp[s91,hw,hreg rg,hq,g1',g2,g3]
theorem V58(P:Prg)(c:Cfg)(s:Ste)(hS:okS P c s)(rg:List Reg)(hw:wf rg):bm.run (.fn 35) [ag s.k,ag s.k] rg=some (Bo true,rg):=by
 have hn4:=hS.n4
 have hbR:=hS.bR
 have hbS:=hS.bS
 have hbC:=hS.bC
 have ho:=(W22 hS.ok).2.2.2.2
 have htl:s.thr.length≤4:=by rw[hS.thr]; exact hn4
 have hbl:s.buf.length≤4:=by rw[hS.buf]; exact hn4
 have hw1:wf (rg++[steR s,steR s]):=W07 hw (by simp[Ste.k])
 have h0:=W0y (body:=Wtg W02 bm.run rg.length) (fun j=>⟨[(5,I .i64 (j:Nat)),(3,.c (.ptr (rg.length+1) 0)),(2,.c (.ptr rg.length 0))],rg++[steR s,steR s]⟩) s.thr.length (fun i hi=>by
   have hx:s.thr[i]?=some s.thr[i]:=Z2 hi
   have hok:=hS.tok _ (Zl hi)
   generalize s.thr[i]=x at hx hok
   have hi2:(i:Int)<s.thr.length:=by omega
   have hnx:IntKind.i64.wrap ((i:Int)+1)=(i:Int)+1:=W0g (by omega) (by omega)
   have h:=V57 x hok _ hw1
   simp[Wtg,hi2,hnx,hx,h]) (e:= .exit 0) (s':=⟨[(27,Bo false),(5,I .i64 s.thr.length),(3,.c (.ptr (rg.length+1) 0)),(2,.c (.ptr rg.length 0))],rg++[steR s,steR s]⟩) (by simp[Wtg]) (by simp)
 have h1:=W0y (body:=Wtf W02 bm.run rg.length) (fun j=>⟨[(6,I .i64 (j:Nat)),(3,.c (.ptr (rg.length+1) 0)),(2,.c (.ptr rg.length 0))],rg++[steR s,steR s]⟩) s.buf.length (fun i hi=>by
   have hx:s.buf[i]?=some s.buf[i]:=Z2 hi
   have hok:=hS.bl _ (Zl hi)
   generalize s.buf[i]=x at hx hok
   have hi2:(i:Int)<s.buf.length:=by omega
   have hnx:IntKind.i64.wrap ((i:Int)+1)=(i:Int)+1:=W0g (by omega) (by omega)
   have h:=V56 x (by omega) (rg++[steR s,steR s])
   simp[Wtf,hi2,hnx,hx,h]) (e:= .exit 2) (s':=⟨[(46,Bo false),(6,I .i64 s.buf.length),(3,.c (.ptr (rg.length+1) 0)),(2,.c (.ptr rg.length 0))],rg++[steR s,steR s]⟩) (by simp[Wtf]) (by simp)
 simp only[show (((0:Nat):Int))=0 from _root_.rfl]at h0 h1
 have hsl:s.slots.length≤1000000:=by
  rw[hS.slots]
  have:P.code.length*P.slots.toNat≤4*2:=Nat.mul_le_mul hn4 (by omega)
  omega
 have g1:=Wwr s.roots (by rw[hS.roots]; omega)
 have g2:=Wwr s.slots hsl
 have g3:=V55 s.cells (by rw[hS.cells]; omega)
 have g4:=V54 s.free (by have:=hS.free; omega)
 have g5:=Wjj s.marks (by rw[hS.marks]; omega)
 have g6:=Wjj s.counts (by rw[hS.counts]; omega)
 rw[R35]
 simp[s35,hw,h0,h1,g1,g2,g3,g4,g5,g6]
theorem Wws{β:Type}(s:Ste)(x:Option β):Sm (ag s.k) (ag s.k) x=x:=Wcb (by rw[Wq3]; exact V4q s.k (V4p s)) x
def canA(P:Prg)(c:Cfg)(s:Ste)(a:Int):Bool:=
 if a<0 then false else if a<P.code.length then canR c (s.thr.getD a.toNat (thr0 0)) (P.code.getD a.toNat []) (s.buf.getD a.toNat []).length
 else if c.order=1∧a<2*(P.code.length:Int)then decide (0<(s.buf.getD (a-P.code.length).toNat []).length)else false
theorem Wvl(P:Prg)(c:Cfg)(s:Ste)(hS:okS P c s)(a:Int)(rg:List Reg)(hw:wf rg):bm.run (.fn 40) [prgP P,cfgA c,ag s.k,I .i64 a] rg=some (Bo (canA P c s a),rg):=by
 have hn4:=hS.n4
 unfold canA
 split
 ·rename_i h; exact Wv9 P c s (by omega) a h rg hw
 ·rename_i h0
  split
  ·rename_i h1
   obtain ⟨t,rfl⟩:=Yo (by omega:0≤a)
   have ht:t<P.code.length:=by omega
   have hth:s.thr[t]?=some (s.thr[t]'(by rw[hS.thr]; exact ht)):=Z2 _
   have hbu:s.buf[t]?=some (s.buf[t]'(by rw[hS.buf]; exact ht)):=Z2 _
   have hco:P.code[t]?=some P.code[t]:=Z2 ht
   have hl:=hS.cl _ (Zl ht)
   have:=Wvb P c s t _ _ _ (by omega) hth hco hbu (by omega) rg hw
   rw[this]
   simp[Zc,hth,hbu,hco]
  ·rename_i h1
   split
   ·rename_i h2
    obtain ⟨t,ht⟩:=Yo (by omega:0≤a-P.code.length)
    obtain rfl:a=(P.code.length:Int)+t:=by omega
    have ht:t<P.code.length:=by omega
    have hbu:s.buf[t]?=some (s.buf[t]'(by rw[hS.buf]; exact ht)):=Z2 _
    rw[Wva P c s (by omega) t ht _ hbu h2.1 rg hw]
    have e:((P.code.length:Int)+t-P.code.length).toNat=t:=by omega
    simp[e,Zc,hbu]
   ·rename_i h2
    exact Wrg P c s (by omega) a (by omega) h2 rg hw
section
variable {rg:List Reg} {q:Nat} {P:Prg} {c:Cfg} {s:Ste} {u:Su} {mtr:List (List PV)} {atr:List (Int×Cel×List Int)} {tr:List Snap} {L:List (Nat×Nat)} {im ia:Nat} {vt vb vr:AC}
 (hM:machR rg q P c s u mtr atr tr L im ia vt vb vr) (hS:okS P c s) (hw:wf rg)
theorem machR.more(hM:machR rg q P c s u mtr atr tr L im ia vt vb vr)(m:List Reg):machR (rg++m) q P c s u mtr atr tr L im ia vt vb vr:=by
 have h:=StayK.app [] rg m
 exact ⟨W0b hM.row m,memR.stay h hM.mem (by simp) (by simp) (by simp) (by simp),arR.stay h hM.ar (by simp) (by simp) (by simp) (by simp),slW.stay h hM.thr (by simp),rwE.stay h hM.buf (by simp),rwE.stay h hM.tra (by simp),hM.len,
  fun x hx=>bufAt.stay h (hM.bufs x hx) (by simp) (by simp),hM.nd1,hM.nd2⟩
include hM hS
theorem machR.allB(m:List Reg)(x:(Nat×Nat)×List Ent)(hx:x∈L.zip s.buf)(hwm:wf (rg++m)):bm.run (.fn 112) [.c (.ptr x.1.1 0)] (rg++m)=some (.c (.p (slE x.2)),rg++m):=by
 have hd:=(W22 hS.ok).2.2.2.2
 have hl:=hS.bl x.2 (List.of_mem_zip hx).2
 exact Wrc ((hM.bufs x (List.mem_append_left _ hx)).more m) hl (by omega) hwm
include hw
theorem V0m(hch:chkP P.roots P.cells P.slots P.code=0)(a:Int):bm.run (.fn 24) [.c (.ptr q 0),I .i64 a] rg=some (Bo (canA P c s a),rg):=by
 have hn4:=hS.n4
 have hor:=(W22 hS.ok).2.1
 have hAll:=fun m x hx hwm=>hM.allB hS m x hx hwm
 unfold canA
 split
 ·rename_i h
  exact Wro hM hS (by simp[inB]; intro h2; omega)
 ·rename_i h0
  split
  ·rename_i h1
   obtain ⟨t,rfl⟩:=Yo (by omega:0≤a)
   have ht:t<P.code.length:=by omega
   have hth:s.thr[t]?=some (s.thr[t]'(by rw[hS.thr]; exact ht)):=Z2 _
   have hbl:t<s.buf.length:=by rw[hS.buf]; exact ht
   have hbu:s.buf[t]?=some s.buf[t]:=Z2 hbl
   have hco:P.code[t]?=some P.code[t]:=Z2 ht
   have hLt:t<L.length:=by rw[hM.len,hS.buf]; exact ht
   have hLj:L[t]?=some L[t]:=Z2 hLt
   have hd:=(W22 hS.ok).2.2.2.2
   have hdl:=hS.bl _ (Zl hbl)
   have hmi:=hS.mi _ (Zl (by rw[hS.thr]; exact ht))
   rw[V0e hM hS hw hch hAll hLj hbu hth hco,Wvk c hS.ok P.code.length P.slots t _ _ _ hmi (hS.op _ (Zl ht)) _ (by omega)]
   simp[Zc,hth,hbu,hco]
  ·rename_i h1
   split
   ·rename_i h2
    obtain ⟨t,ht⟩:=Yo (by omega:0≤a-P.code.length)
    obtain rfl:a=(P.code.length:Int)+t:=by omega
    have ht:t<P.code.length:=by omega
    have hbu:s.buf[t]?=some (s.buf[t]'(by rw[hS.buf]; exact ht)):=Z2 _
    have hLt:t<L.length:=by rw[hM.len,hS.buf]; exact ht
    have hLj:L[t]?=some L[t]:=Z2 hLt
    rw[V0d hM hS hLj hbu h2.1]
    have e:((P.code.length:Int)+t-P.code.length).toNat=t:=by omega
    simp[e,Zc,hbu]
   ·rename_i h2
    refine Wro hM hS ?_
    by_cases h00:c.order=0
    ·simp[inB,h00]; intro; omega
    ·have:c.order=1:=by omega
     simp[inB,h00]; intro; omega
def agN(P:Prg)(c:Cfg):Nat:=if c.order=0 then P.code.length else 2*P.code.length
set_option maxHeartbeats 2000000 in
theorem Wvm(hch:chkP P.roots P.cells P.slots P.code=0)(hU:okU s u):
  ∃u',okU s u'∧bm.run (.fn 38) [.c (.ptr q 0),prgP P,cfgA c,ag s.k,I .i64 tr.length] rg=some (Bo true,rg.set q (.ac (W0d im ia u' P c vt vb vr))):=by
 have hn4:=hS.n4
 have hor:=(W22 hS.ok).2.1
 have hwB:wf (rg++[prow P.roots P.cells P.slots P.code,.ac (c.k.map .p),steR s]):=W07 hw (by simp[Ste.k])
 have hMB:=hM.more [prow P.roots P.cells P.slots P.code,.ac (c.k.map .p),steR s]
 have a1:=Wgu P c (by omega) _ hwB
 have a2:=W55 hMB hS
 have a3:=Wrs hMB hS hwB
 have a4:=Wrr P c s hS _ hwB
 have a5:=Wqu hMB hS
 have a6:=Wrv hMB hS hwB (fun m x hx hwm=>hMB.allB hS m x hx hwm)
 have a7:=V58 P c s hS _ hwB
 obtain ⟨u',hU',a8⟩:=Wv4 hMB hS hU hwB
 have hMU:=hMB.setU u'
 have hwU:=wf_u hMB hwB u'
 have hq:q<rg.length:=W16 hM.row
 have hset:(rg++[prow P.roots P.cells P.slots P.code,.ac (c.k.map .p),steR s]).set q (.ac (W0d im ia u' P c vt vb vr))=rg.set q (.ac (W0d im ia u' P c vt vb vr))++[prow P.roots P.cells P.slots P.code,.ac (c.k.map .p),steR s]:=Yd _ _ hq
 have a9:=Wrf s hS.small hS.tok (fun l hl=>by have:=hS.bl l hl; have:=(W22 hS.ok).2.2.2.2; omega) (by rw[hS.buf,hS.thr]) (by rw[hS.thr]; exact hn4) _ hwU
 have a10:=fun a=>V0m hMU hS hwU hch a
 have a11:=fun a=>Wvl P c s hS a _ hwU
 rw[hset]at a8 a9
 simp only[hset]at a10 a11
 refine ⟨u',hU',?_⟩
 have hwr:wf (rg.set q (.ac (W0d im ia u' P c vt vb vr))):=wf_u hM hw u'
 have hl2:∀x,(rg.set q x).length=rg.length:=fun x=>by simp
 clear hMU hset hwU
 generalize hC:W0d im ia u' P c vt vb vr=C at*
 have hagn:(if c.order=0 then (P.code.length:Int)else 2*(P.code.length:Int))=(agN P c:Int):=by unfold agN; split<;>simp
 have hagr:(if c.order=1 then 2*(P.code.length:Int)else (P.code.length:Int))=(agN P c:Int):=by
  unfold agN
  by_cases h0:c.order=0
  ·simp[h0]
  ·have:c.order=1:=by omega
   simp[h0,this]
 rw[hagr]at a1
 rw[hagn]at a2
 have hg0:∀(x:Reg) (M:List Reg),(rg.set q x++M)[rg.length]?=M[0]?:=fun x M=>by rw[←hl2 x,Wp4]
 have hg1:∀(x:Reg) (k:Nat) (M:List Reg),(rg.set q x++M)[rg.length+k]?=M[k]?:=fun x k M=>by rw[←hl2 x,W0e]
 have hag8:agN P c≤8:=by unfold agN; split<;>omega
 have key:=W0y (body:=Wth W02 bm.run rg.length) (fun j=>⟨[(12,I .i64 ((j:Int)-1)),(11,I .i64 (agN P c)),(8,.c (.ptr (rg.length+2) 0)),(7,.c (.ptr (rg.length+1) 0)),(6,.c (.ptr rg.length 0)),(0,.c (.ptr q 0))],rg.set q (.ac C)++[prow P.roots P.cells P.slots P.code,.ac (c.k.map .p),steR s]⟩) (agN P c+2) (fun i hi=>by
   have hle:(i:Int)-1≤agN P c:=by omega
   have hnx:IntKind.i64.wrap ((i:Int)-1+1)=(((i+1:Nat):Int))-1:=by rw[W0g (by omega) (by omega)]; omega
   have b1:=a10 ((i:Int)-1)
   have b2:=a11 ((i:Int)-1)
   generalize canA P c s ((i:Int)-1)=r at*
   generalize (((i+1:Nat):Int))-1=i1 at*
   generalize (i:Int)-1=i0 at*
   simp at b1 b2
   simp[Wth,hle,hg0,hg1,hnx,b1,b2,Wws]) (e:= .exit 0) (s':=⟨[(50,Bo false),(12,I .i64 ((agN P c:Int)+1)),(11,I .i64 (agN P c)),(8,.c (.ptr (rg.length+2) 0)),(7,.c (.ptr (rg.length+1) 0)),(6,.c (.ptr rg.length 0)),(0,.c (.ptr q 0))],rg.set q (.ac C)++[prow P.roots P.cells P.slots P.code,.ac (c.k.map .p),steR s]⟩) (by
   have hgt:¬(agN P c:Int)+1≤agN P c:=by omega
   have e:(((agN P c+2:Nat):Int))-1=(agN P c:Int)+1:=by omega
   rw[e]
   simp[Wth,hgt]) (by simp)
 rw[show (((0:Nat):Int))-1= -1 from _root_.rfl]at key
 generalize agN P c=N at*
 generalize Wf5 P s=ov at*
 generalize Wf4 s=hh at*
 rw[R38]
 simp at a1 a2 a3 a4 a5 a6 a7 a8 a9 key
 simp[s38,a1,a2,a3,a4,a5,a6,a7,a8,a9,key,hg0,hg1,Wws]
 rw[W20 (by simp) hwr (by rfl)]
 simp
end
end Go.Sim
namespace Go.Sim
open Go.RowKit
def namA(id:Nat):AC→Bool
 | .own x _ _ _ _=>decide (x=id)
 | _=>false
def disA(v w:AC):Prop:=∀id,namA id v=true→namA id w=false
def stayI(n0:Nat)(v:AC)(m m':List Reg):Prop:=∀(q:Nat) (r:Reg),m[q]?=some r→namA (n0+q) v=false→m'[q]?=some r
theorem accV.pushI{base m:List Reg}{v:AC}{sz bytes:Nat}{l:List (List PV)}(x:List PV)(h:accV base.length sz l (.c v) m)(hb:l.length+1≤140737488355328)(hb2:(l.length+1)*bytes≤140737488355328)(hw:wf (base++m)):
  ∃v' m',vapp (base++(m++[.pc sz [x]])) sz bytes (.c v) (.c (.own (base.length+m.length) 0 sz 1 .free))=some (.c v',base++m')∧accV base.length sz (l++[x]) (.c v') m'∧wf (base++m')∧stayI base.length v m m'∧
   (∀w,avLt (base.length+m.length) (.c w)=true→disA v' w∧disA w v')∧m.length≤m'.length:=by
 have hg:(base++(m++[Reg.pc sz [x]]))[base.length+m.length]?=some (.pc sz [x]):=by rw[W0e]; simp
 have hw1:wf (base++(m++[Reg.pc sz [x]])):=by rw[←Z6]; exact W07 hw (by simp)
 have hdis:∀(n:Nat) w,avLt (base.length+m.length) (.c w)=true→disA (.own (base.length+(m.length+1)) 0 sz n .free) w∧disA w (.own (base.length+(m.length+1)) 0 sz n .free):=by
  intro n w hwl
  refine ⟨fun id h=> ?_,fun id h=> ?_⟩
  ·simp only[namA,Zf]at h
   subst h
   cases w<;>simp_all[namA,avLt,acLt]
   omega
  ·cases w<;>simp_all[namA,avLt,acLt]
   omega
 rcases h with ⟨rfl,h⟩ | ⟨k,h,hk⟩
 ·cases h
  refine ⟨.own (base.length+(m.length+1)) 0 sz 1 .free,m++[.pc sz [x]]++[.pc sz [x]],?_,.inr ⟨m.length+1,by simp,by simp⟩,?_,fun q r hq _=>by rw[Z6]; exact W0b hq _,hdis 1,by simp⟩
  ·have h2:(1:Nat)*bytes≤140737488355328:=by simpa using hb2
   unfold vapp W3p
   simp only[W15,hg,W1i]
   simp[szOf]at h2 ⊢
   simp[h2]
  ·rw[Z6,←Z6]
   exact W07 hw (by simp)
 ·cases h
  have hlt:k<m.length:=(Z3.1 hk).1
  have hgk:(base++(m++[Reg.pc sz [x]]))[base.length+k]?=some (.pc sz l):=by rw[W0e]; exact W0b hk _
  refine ⟨.own (base.length+(m.length+1)) 0 sz (l.length+1) .free,(m++[Reg.pc sz [x]]).set k .dead++[Reg.pc sz (l++[x])],?_,.inr ⟨m.length+1,by simp,by simp⟩,?_,fun q r hq hr=> ?_,hdis _,by simp⟩
  ·unfold vapp W3p
   simp only[W15,hg,W1i,hgk,szOf]
   simp[hb,hb2]
  ·rw[←Z6]
   have hw2:wf (base++(m++[Reg.pc sz [x]]).set k .dead):=by
    have:=W2l (id:=base.length+k) (r:= .dead) hw1 rfl
    rwa[W1z]at this
   exact W07 hw2 (by simp)
  ·have hne:k≠q:=by rintro rfl; simp[namA]at hr
   rw[Zp (by simp; have:=(Z3.1 hq).1; omega),Zv hne]
   exact W0b hq _
theorem accV.stayI{n0 sz:Nat}{l:List (List PV)}{v w:AC}{m m':List Reg}(h:accV n0 sz l (.c w) m)(hd:disA w v)(hs:stayI n0 v m m'):accV n0 sz l (.c w) m':=by
 rcases h with h | ⟨k,h1,h2⟩
 ·exact .inl h
 ·refine .inr ⟨k,h1,hs _ _ h2 ?_⟩
  cases h1
  exact hd _ (by simp[namA])
abbrev Grow:=Nat×List (List PV)×AC
def accS(n0:Nat)(m:List Reg)(S:List Grow):Prop:=(∀x∈S,accV n0 x.1 x.2.1 (.c x.2.2) m)∧S.Pairwise (fun x y=>disA x.2.2 y.2.2∧disA y.2.2 x.2.2)
theorem Wjk{α:Type}{R:α→α→Prop}(hs:∀a b,R a b→R b a):∀{S:List α} {i:Nat} {y:α},S.Pairwise R→(∀k x,k≠i→S[k]?=some x→R y x)→(S.set i y).Pairwise R
 | [],i,y,_,_=>by simp
 | x::S,0,y,h,hy=>by
  rw[List.set_cons_zero,X8]
  rw[X8]at h
  refine ⟨fun z hz=> ?_,h.2⟩
  obtain ⟨k,hk,rfl⟩:=List.mem_iff_getElem.1 hz
  exact hy (k+1) _ (by omega) (by simp)
 | x::S,i+1,y,h,hy=>by
  rw[List.set_cons_succ,X8]
  rw[X8]at h
  refine ⟨fun z hz=> ?_,Wjk hs h.2 (fun k x hk hx=>hy (k+1) x (by omega) (by simpa using hx))⟩
  rcases List.mem_or_eq_of_mem_set hz with hz | rfl
  ·exact h.1 z hz
  ·exact hs _ _ (hy 0 x (by omega) rfl)
theorem Wvn{α:Type}{R:α→α→Prop}(hs:∀a b,R a b→R b a){S:List α}(h:S.Pairwise R){i k:Nat}{a b:α}(hi:S[i]?=some a)(hk:S[k]?=some b)(hne:k≠i):R a b:=by
 obtain ⟨h1,e1⟩:=Z3.1 hi
 obtain ⟨h2,e2⟩:=Z3.1 hk
 subst e1 e2
 rcases Nat.lt_or_gt_of_ne hne with h3 | h3
 ·exact hs _ _ (List.pairwise_iff_getElem.1 h _ _ h2 h1 h3)
 ·exact List.pairwise_iff_getElem.1 h _ _ h1 h2 h3
theorem accS.push{base m:List Reg}{S:List Grow}(i:Nat){sz bytes:Nat}{l:List (List PV)}{v:AC}(x:List PV)(h:accS base.length m S)(hi:S[i]?=some (sz,l,v))(hb:l.length+1≤140737488355328)(hb2:(l.length+1)*bytes≤140737488355328)(hw:wf (base++m)):
  ∃v' m',vapp (base++(m++[.pc sz [x]])) sz bytes (.c v) (.c (.own (base.length+m.length) 0 sz 1 .free))=some (.c v',base++m')∧accS base.length m' (S.set i (sz,l++[x],v'))∧wf (base++m'):=by
 have hv:=h.1 _ (Zi hi)
 obtain ⟨v',m',e1,e2,e3,e4,e5,e6⟩:=accV.pushI (bytes:=bytes) x hv hb hb2 hw
 have hsym:∀a b:Grow,(disA a.2.2 b.2.2∧disA b.2.2 a.2.2)→(disA b.2.2 a.2.2∧disA a.2.2 b.2.2):=fun _ _ h=>⟨h.2,h.1⟩
 refine ⟨v',m',e1,⟨fun y hy=> ?_,Wjk hsym h.2 fun k y hk hy=> ?_⟩,e3⟩
 ·obtain ⟨k,hk,rfl⟩:=List.mem_iff_getElem.1 hy
  rw[Xl]
  split
  ·exact e2
  ·rename_i hne
   have hk2:k<S.length:=by simpa using hk
   have hget:S[k]?=some S[k]:=Z2 hk2
   exact (h.1 _ (Zl hk2)).stayI (Wvn hsym h.2 hi hget (fun e=>hne e.symm)).2 e4
 ·exact e5 _ ((h.1 _ (Zi hy)).lt (Z8 _))
theorem accS.lt{n0:Nat}{m:List Reg}{S:List Grow}(h:accS n0 m S){i:Nat}{x:Grow}(hi:S[i]?=some x):acLt (n0+m.length) x.2.2=true:=by
 simpa[avLt]using (h.1 _ (Zi hi)).lt (Z8 _)
end Go.Sim
namespace Go.Sim
open Go.RowKit Go.Proofs.YtahoelmjfgoedaaGreat.T
attribute [-simp] vfld W0n W1n
def W2z(rg:List Reg)(vc vr:AC)(m:List Reg):List Reg:=rg++[.ac [.p nilS,.p nilS],.ac [vc,vr]]++m
theorem V59{rg:List Reg}{vt vb vt' vb':AC}{m:List Reg}(h:wf (W2z rg vt vb m))(h1:acLt (rg.length+2+m.length) vt'=true)(h2:acLt (rg.length+2+m.length) vb'=true):wf (W2z rg vt' vb' m):=by
 have hl:∀a b,(rg++[Reg.ac [.p nilS,.p nilS],.ac [a,b]]++m).length=rg.length+2+m.length:=fun _ _=>by simp; omega
 unfold W2z wf at h ⊢
 rw[hl]at h ⊢
 simp only[Xf,Y2,X6,Z4,Yu]at h ⊢
 refine ⟨⟨h.1.1,h.1.2.1,?_⟩,h.2⟩
 simp only[W18,Y2,X6,h1,h2,Yu]
set_option maxHeartbeats 1000000 in
theorem Wrw(rg:List Reg)(ce:Int)(n0 n j:Nat)(hj:j<n)(hn:n≤6)(hce:(n:Int)≤ce)(vc vr:AC)(m:List Reg)
  (h1:accV (rg.length+2) 10 (List.replicate j cel0.k) (.c vc) m) (h2:accV (rg.length+2) 1 ((upTo j).map fun n=>[iv n]) (.c vr) m) (hd:disA vc vr∧disA vr vc) (hw:wf (W2z rg vc vr m)):
  ∃vc' vr' m',Wem W02 bm.run n0 ⟨[(4,I .i64 ((j:Int)+1)),(3,.c (.ptr (rg.length+1) 0)),(2,.c (.ptr rg.length 0)),(0,I .i64 ce)],W2z rg vc vr m⟩=some (.normal,⟨[(4,I .i64 (((j+1:Nat):Int)+1)),(3,.c (.ptr (rg.length+1) 0)),(2,.c (.ptr rg.length 0)),(0,I .i64 ce)],W2z rg vc' vr' m'⟩)∧
   accV (rg.length+2) 10 (List.replicate (j+1) cel0.k) (.c vc') m'∧accV (rg.length+2) 1 ((upTo (j+1)).map fun n=>[iv n]) (.c vr') m'∧(disA vc' vr'∧disA vr' vc')∧wf (W2z rg vc' vr' m'):=by
 have g1:(j:Int)+1≤ce:=by omega
 have g2:(j:Int)+1≤6:=by omega
 have hnx:IntKind.i64.wrap ((j:Int)+1+1)=(j:Int)+1+1:=W0g (by omega) (by omega)
 have hlb:∀a b,(rg++[Reg.ac [.p nilS,.p nilS],.ac [a,b]]).length=rg.length+2:=fun _ _=>by simp
 obtain ⟨vc1,m1,e1,e2,e3,e4,e5,e6⟩:=accV.pushI (bytes:=80) (base:=rg++[.ac [.p nilS,.p nilS],.ac [vc,vr]]) (m:=m) cel0.k (by rw[hlb]; exact h1) (by simp; omega) (by simp; omega) hw
 rw[hlb]at e1 e2 e4 e5
 have hvr:acLt (rg.length+2+m.length) vr=true:=by simpa[avLt]using h2.lt (Z8 _)
 have h2':=h2.stayI hd.2 e4
 have hd1:=e5 vr (by simpa[avLt]using hvr)
 have hc1:acLt (rg.length+2+m1.length) vc1=true:=by simpa[avLt]using e2.lt (Z8 _)
 have hr1:acLt (rg.length+2+m1.length) vr=true:=by simpa[avLt]using h2'.lt (Z8 _)
 have hw1:wf (W2z rg vc1 vr m1):=V59 e3 hc1 hr1
 obtain ⟨vr2,m2,f1,f2,f3,f4,f5,f6⟩:=accV.pushI (bytes:=8) (base:=rg++[.ac [.p nilS,.p nilS],.ac [vc1,vr]]) (m:=m1) [iv ((j:Int)+1)] (by rw[hlb]; exact h2') (by simp[upTo]; omega) (by simp[upTo]; omega) hw1
 rw[hlb]at f1 f2 f4 f5
 have e2':=e2.stayI hd1.1 f4
 have hd2:=f5 vc1 (by simpa[avLt]using hc1)
 have hc2:acLt (rg.length+2+m2.length) vc1=true:=by simpa[avLt]using e2'.lt (Z8 _)
 have hr2:acLt (rg.length+2+m2.length) vr2=true:=by simpa[avLt]using f2.lt (Z8 _)
 refine ⟨vc1,vr2,m2,?_,by rw[Xq]; exact e2',by simpa[upTo,List.range_succ]using f2,⟨hd2.2,hd2.1⟩,V59 f3 hc2 hr2⟩
 have k1:cellsOf (.c vc1)=some [vc1]:=by rcases e2 with ⟨_,h⟩ | ⟨_,h,_⟩<;>cases h<;>rfl
 have k2:cellsOf (.c vr2)=some [vr2]:=by rcases f2 with ⟨_,h⟩ | ⟨_,h,_⟩<;>cases h<;>rfl
 simp only[W2z]at e1 f1 ⊢
 have hck:cel0.k=[iv 0,iv 0,iv 0,iv 0,iv 0,iv 0,iv 0,iv 0,iv 0,iv 0]:=rfl
 rw[hck]at e1
 simp at e1 f1
 have e7:rg.length+(m.length+2)=rg.length+2+m.length:=by omega
 have e8:rg.length+(m1.length+2)=rg.length+2+m1.length:=by omega
 simp[Wem,g1,g2,hnx]
 rw[e7,e1]
 simp[k1]
 rw[e8,f1]
 simp[k2]
set_option maxHeartbeats 1000000 in
theorem V0n(n:Nat)(hn:n≤6)(rg:List Reg)(hw:wf rg):bm.run (.fn 102) [I .i64 (n:Nat)] rg=some (.agg [.p (slC (List.replicate n cel0)),.p (slI (upTo n))],rg):=by
 have hw0:wf (W2z rg (.p nilS) (.p nilS) []):=by
  unfold W2z
  rw[Zr]
  exact W07 hw (by simp)
 obtain ⟨ex,s',e1,rfl,vc,vr,m,e2,e3,e4,h1,h2,hd,hw2⟩:=W0z (body:=Wem W02 bm.run rg.length)
  (fun j st=>∃vc vr m,st=⟨[(4,I .i64 ((j:Int)+1)),(3,.c (.ptr (rg.length+1) 0)),(2,.c (.ptr rg.length 0)),(0,I .i64 (n:Nat))],W2z rg vc vr m⟩∧accV (rg.length+2) 10 (List.replicate j cel0.k) (.c vc) m∧accV (rg.length+2) 1 ((upTo j).map fun n=>[iv n]) (.c vr) m∧(disA vc vr∧disA vr vc)∧wf (W2z rg vc vr m))
  (fun ex s'=>ex= .exit 0∧∃vc vr m,s'.regs=W2z rg vc vr m∧lkF s'.slots 3= .c (.ptr (rg.length+1) 0)∧lkF s'.slots 2= .c (.ptr rg.length 0)∧accV (rg.length+2) 10 (List.replicate n cel0.k) (.c vc) m∧accV (rg.length+2) 1 ((upTo n).map fun n=>[iv n]) (.c vr) m∧(disA vc vr∧disA vr vc)∧wf (W2z rg vc vr m))
  n (s:=⟨[(4,I .i64 1),(3,.c (.ptr (rg.length+1) 0)),(2,.c (.ptr rg.length 0)),(0,I .i64 (n:Nat))],W2z rg (.p nilS) (.p nilS) []⟩)
  ⟨.p nilS,.p nilS,[],rfl,.nil _ _ _,.nil _ _ _,⟨fun _ h=>(by cases h),fun _ h=>(by cases h)⟩,hw0⟩
  (by
   rintro j hj st ⟨vc,vr,m,rfl,h1,h2,hd,h3⟩
   obtain ⟨vc',vr',m',e,r⟩:=Wrw rg n rg.length n j hj hn (Int.le_refl _) vc vr m h1 h2 hd h3
   exact ⟨_,e,vc',vr',m',rfl,r⟩)
  (by
   rintro st ⟨vc,vr,m,rfl,h1,h2,hd,h3⟩
   have g:¬(n:Int)+1≤n:=by omega
   exact ⟨.exit 0,_,by simp[Wem,g]; rfl,by simp,rfl,vc,vr,m,rfl,rfl,rfl,h1,h2,hd,h3⟩)
 rw[W1m]at e3 e4
 have hk1:vc.known=true:=by rcases h1 with ⟨_,h⟩ | ⟨_,h,_⟩<;>cases h<;>rfl
 have hk2:vr.known=true:=by rcases h2 with ⟨_,h⟩ | ⟨_,h,_⟩<;>cases h<;>rfl
 have a:=fun k=>accV.deep (base:=rg) (k:=k) (ks:=[]) (h1.back (p:=[.ac [vc,vr],.ac [vc,vr]])) (by omega) (by simp; omega) (by simp)
 have b:=fun k=>accV.deep (base:=rg) (k:=k) (ks:=[]) (h2.back (p:=[.ac [vc,vr],.ac [vc,vr]])) (by omega) (by simp[upTo]; omega) (by simp)
 simp only[W2z]at e1 e2
 simp at e1 e2 a b
 rw[R102]
 simp[s102,e1,e2,e3,e4,hk1,hk2]
 rw[W1h _ _ _ _ _ _root_.rfl hw]
 have a2:=a (m.length+2)
 have b2:=b (m.length+2)
 simp at a2 b2
 simp[a2,b2]
abbrev beN:Reg:= .ac [.p nilS,.p nilS,.p nilS,.p nilS,.p nilS,.p nilS,.p (iv 0),.p nilS,.p nilS]
def beR(cl:List Cel)(fr:List Int)(vt vb vr vs vm vk:AC):Reg:= .ac [vt,vb,vr,vs,.p (slC cl),.p (slI fr),.p (iv 0),vm,vk]
def beB(rg:List Reg)(P:Prg)(c:Cfg)(cl:List Cel)(fr:List Int)(vt vb vr vs vm vk:AC):List Reg:=
 rg++[prow P.roots P.cells P.slots P.code,.ac (c.k.map .p),beN,beR cl fr vt vb vr vs vm vk,.ac [.p (slC cl),.p (slI fr)]]
theorem W2t(rg:List Reg)(P:Prg)(c:Cfg)(cl:List Cel)(fr:List Int)(vt vb vr vs vm vk:AC):(beB rg P c cl fr vt vb vr vs vm vk).length=rg.length+5:=by simp[beB]
def beS(lt lb lr ls lm lk:List (List PV))(vt vb vr vs vm vk:AC):List Grow:=[(22,lt,vt),(1,lb,vb),(3,lr,vr),(3,ls,vs),(1,lm,vm),(1,lk,vk)]
theorem Wlg{rg:List Reg}{P:Prg}{c:Cfg}{cl:List Cel}{fr:List Int}{vt vb vr vs vm vk vt' vb' vr' vs' vm' vk':AC}{m:List Reg}(h:wf (beB rg P c cl fr vt vb vr vs vm vk++m)){lt lb lr ls lm lk:List (List PV)}
  (hs:accS (rg.length+5) m (beS lt lb lr ls lm lk vt' vb' vr' vs' vm' vk')):wf (beB rg P c cl fr vt' vb' vr' vs' vm' vk'++m):=by
 have h0:=hs.lt (i:=0) rfl
 have h1:=hs.lt (i:=1) rfl
 have h2:=hs.lt (i:=2) rfl
 have h3:=hs.lt (i:=3) rfl
 have h4:=hs.lt (i:=4) rfl
 have h5:=hs.lt (i:=5) rfl
 have hl:∀a b d e f g,(beB rg P c cl fr a b d e f g++m).length=rg.length+5+m.length:=fun _ _ _ _ _ _=>by rw[Z5,W2t]
 unfold wf at h ⊢
 rw[hl]at h ⊢
 simp only[beB,Xf,Y2,X6,Z4,Yu]at h ⊢
 refine ⟨⟨h.1.1,h.1.2.1,h.1.2.2.1,h.1.2.2.2.1,?_,h.1.2.2.2.2.2⟩,h.2⟩
 simp only at h0 h1 h2 h3 h4 h5
 simp only[beR,W18,Y2,X6,h0,h1,h2,h3,h4,h5]
 simp only[acLt,Yu]
theorem W38{n0:Nat}{m:List Reg}{S:List Grow}(h:accS n0 m S){i:Nat}{x:Grow}(hi:S[i]?=some x):cellsOf (.c x.2.2)=some [x.2.2]:=by
 rcases h.1 _ (Zi hi)with ⟨_,h⟩ | ⟨_,h,_⟩<;>(rw[h]; injection h with h; rw[h]; rfl)
section
variable (rg:List Reg) (P:Prg) (c:Cfg) (cl:List Cel) (fr:List Int)
theorem Wrx(n0 i n:Nat)(hi:i<n)(hn:P.roots=(n:Int))(hn2:n≤1000){lt lb lr ls lm lk:List (List PV)}{vt vb vr vs vm vk:AC}(m:List Reg)(hl:lr.length≤1000)
  (h:accS (rg.length+5) m (beS lt lb lr ls lm lk vt vb vr vs vm vk)) (hw:wf (beB rg P c cl fr vt vb vr vs vm vk++m)):
  ∃vr' m',Wpn W02 bm.run n0 ⟨[(7,I .i64 (i:Nat)),(5,.c (.ptr (rg.length+3) 0)),(4,.c (.ptr (rg.length+2) 0)),(3,.c (.ptr (rg.length+1) 0)),(2,.c (.ptr rg.length 0))],beB rg P c cl fr vt vb vr vs vm vk++m⟩=
    some (.normal,⟨[(7,I .i64 (i+1:Nat)),(5,.c (.ptr (rg.length+3) 0)),(4,.c (.ptr (rg.length+2) 0)),(3,.c (.ptr (rg.length+1) 0)),(2,.c (.ptr rg.length 0))],beB rg P c cl fr vt vb vr' vs vm vk++m'⟩)∧
   accS (rg.length+5) m' (beS lt lb (lr++[[iv 0,iv 0,iv 0]]) ls lm lk vt vb vr' vs vm vk)∧wf (beB rg P c cl fr vt vb vr' vs vm vk++m'):=by
 have hi2:(i:Int)<P.roots:=by omega
 have hnx:IntKind.i64.wrap ((i:Int)+1)=(i:Int)+1:=W0g (by omega) (by omega)
 obtain ⟨vr',m',e1,e2,e3⟩:=accS.push (bytes:=24) (base:=beB rg P c cl fr vt vb vr vs vm vk) (m:=m) (S:=beS lt lb lr ls lm lk vt vb vr vs vm vk) 2 (sz:=3) (l:=lr) (v:=vr) [iv 0,iv 0,iv 0] (by rw[W2t]; exact h) rfl (by omega) (by omega) hw
 rw[W2t]at e1 e2
 have e2':accS (rg.length+5) m' (beS lt lb (lr++[[iv 0,iv 0,iv 0]]) ls lm lk vt vb vr' vs vm vk):=e2
 refine ⟨vr',m',?_,e2',Wlg e3 e2'⟩
 have hc:=W38 e2' (i:=2) rfl
 simp only at hc
 simp only[beB,beR]at e1 ⊢
 simp at e1
 have e5:rg.length+(m.length+5)=rg.length+5+m.length:=by omega
 simp[Wpn,hi2,hnx]
 rw[e5,e1]
 simp[hc]
theorem Wry(n0 i n t:Nat)(hi:i<n)(hn:P.slots=(n:Int))(hn2:n≤1000){lt lb lr ls lm lk:List (List PV)}{vt vb vr vs vm vk:AC}(m:List Reg)(hl:ls.length≤1000)
  (h:accS (rg.length+5) m (beS lt lb lr ls lm lk vt vb vr vs vm vk)) (hw:wf (beB rg P c cl fr vt vb vr vs vm vk++m)):
  ∃vs' m',Wpl W02 bm.run n0 ⟨[(9,I .i64 (i:Nat)),(8,I .i64 (t:Nat)),(5,.c (.ptr (rg.length+3) 0)),(4,.c (.ptr (rg.length+2) 0)),(3,.c (.ptr (rg.length+1) 0)),(2,.c (.ptr rg.length 0))],beB rg P c cl fr vt vb vr vs vm vk++m⟩=
    some (.normal,⟨[(9,I .i64 (i+1:Nat)),(8,I .i64 (t:Nat)),(5,.c (.ptr (rg.length+3) 0)),(4,.c (.ptr (rg.length+2) 0)),(3,.c (.ptr (rg.length+1) 0)),(2,.c (.ptr rg.length 0))],beB rg P c cl fr vt vb vr vs' vm vk++m'⟩)∧
   accS (rg.length+5) m' (beS lt lb lr (ls++[[iv 0,iv 0,iv 0]]) lm lk vt vb vr vs' vm vk)∧wf (beB rg P c cl fr vt vb vr vs' vm vk++m'):=by
 have hi2:(i:Int)<P.slots:=by omega
 have hnx:IntKind.i64.wrap ((i:Int)+1)=(i:Int)+1:=W0g (by omega) (by omega)
 obtain ⟨vs',m',e1,e2,e3⟩:=accS.push (bytes:=24) (base:=beB rg P c cl fr vt vb vr vs vm vk) (m:=m) (S:=beS lt lb lr ls lm lk vt vb vr vs vm vk) 3 (sz:=3) (l:=ls) (v:=vs) [iv 0,iv 0,iv 0] (by rw[W2t]; exact h) rfl (by omega) (by omega) hw
 rw[W2t]at e1 e2
 have e2':accS (rg.length+5) m' (beS lt lb lr (ls++[[iv 0,iv 0,iv 0]]) lm lk vt vb vr vs' vm vk):=e2
 refine ⟨vs',m',?_,e2',Wlg e3 e2'⟩
 have hc:=W38 e2' (i:=3) rfl
 simp only at hc
 simp only[beB,beR]at e1 ⊢
 simp at e1
 have e5:rg.length+(m.length+5)=rg.length+5+m.length:=by omega
 simp[Wpl,hi2,hnx]
 rw[e5,e1]
 simp[hc]
theorem Wvo(n0 n t:Nat)(hn:P.slots=(n:Int))(hn2:n≤4){lt lb lr ls lm lk:List (List PV)}{vt vb vr vs vm vk:AC}(m:List Reg)(hl:ls.length≤900)
  (h:accS (rg.length+5) m (beS lt lb lr ls lm lk vt vb vr vs vm vk)) (hw:wf (beB rg P c cl fr vt vb vr vs vm vk++m)):
  ∃ex s',W02 (Wpl W02 bm.run n0) ⟨[(9,I .i64 0),(8,I .i64 (t:Nat)),(5,.c (.ptr (rg.length+3) 0)),(4,.c (.ptr (rg.length+2) 0)),(3,.c (.ptr (rg.length+1) 0)),(2,.c (.ptr rg.length 0))],beB rg P c cl fr vt vb vr vs vm vk++m⟩=some (ex,s')∧
   (ex= .exit 4∧∃vs' m',s'.regs=beB rg P c cl fr vt vb vr vs' vm vk++m'∧(lkF s'.slots 8=I .i64 (t:Nat)∧lkF s'.slots 5= .c (.ptr (rg.length+3) 0)∧lkF s'.slots 4= .c (.ptr (rg.length+2) 0)∧lkF s'.slots 3= .c (.ptr (rg.length+1) 0)∧lkF s'.slots 2= .c (.ptr rg.length 0))∧
    accS (rg.length+5) m' (beS lt lb lr (ls++List.replicate n [iv 0,iv 0,iv 0]) lm lk vt vb vr vs' vm vk)∧wf (beB rg P c cl fr vt vb vr vs' vm vk++m')):=by
 refine W0z (fun j st=>∃vs' m',st=⟨[(9,I .i64 (j:Nat)),(8,I .i64 (t:Nat)),(5,.c (.ptr (rg.length+3) 0)),(4,.c (.ptr (rg.length+2) 0)),(3,.c (.ptr (rg.length+1) 0)),(2,.c (.ptr rg.length 0))],beB rg P c cl fr vt vb vr vs' vm vk++m'⟩∧
   accS (rg.length+5) m' (beS lt lb lr (ls++List.replicate j [iv 0,iv 0,iv 0]) lm lk vt vb vr vs' vm vk)∧wf (beB rg P c cl fr vt vb vr vs' vm vk++m')) _ n ⟨vs,m,rfl,by simpa using h,hw⟩ ?_ ?_
 ·rintro j hj st ⟨vs1,m1,rfl,h1,hw1⟩
  obtain ⟨vs2,m2,e1,e2,e3⟩:=Wry rg P c cl fr n0 j n t hj hn (by omega) m1 (by simp; omega) h1 hw1
  refine ⟨_,e1,vs2,m2,rfl,?_,e3⟩
  rw[Xq,←Z6]
  exact e2
 ·rintro st ⟨vs1,m1,rfl,h1,hw1⟩
  have g:¬(n:Int)<P.slots:=by omega
  exact ⟨.exit 4,_,by simp[Wpl,beB,g]; rfl,by simp,rfl,vs1,m1,by simp[beB],⟨rfl,rfl,rfl,rfl,rfl⟩,h1,hw1⟩
theorem Wvp(n0 n:Nat)(hn:P.roots=(n:Int))(hn2:n≤100)(hw:wf (beB rg P c cl fr (.p nilS) (.p nilS) (.p nilS) (.p nilS) (.p nilS) (.p nilS))):
  ∃ex s',W02 (Wpn W02 bm.run n0) ⟨[(7,I .i64 0),(5,.c (.ptr (rg.length+3) 0)),(4,.c (.ptr (rg.length+2) 0)),(3,.c (.ptr (rg.length+1) 0)),(2,.c (.ptr rg.length 0))],beB rg P c cl fr (.p nilS) (.p nilS) (.p nilS) (.p nilS) (.p nilS) (.p nilS)⟩=some (ex,s')∧
   (ex= .exit 0∧∃vr' m',s'.regs=beB rg P c cl fr (.p nilS) (.p nilS) vr' (.p nilS) (.p nilS) (.p nilS)++m'∧(lkF s'.slots 5= .c (.ptr (rg.length+3) 0)∧lkF s'.slots 4= .c (.ptr (rg.length+2) 0)∧lkF s'.slots 3= .c (.ptr (rg.length+1) 0)∧lkF s'.slots 2= .c (.ptr rg.length 0))∧
    accS (rg.length+5) m' (beS [] [] (List.replicate n [iv 0,iv 0,iv 0]) [] [] [] (.p nilS) (.p nilS) vr' (.p nilS) (.p nilS) (.p nilS))∧wf (beB rg P c cl fr (.p nilS) (.p nilS) vr' (.p nilS) (.p nilS) (.p nilS)++m')):=by
 have hd:∀a b:AC,a= .p nilS→disA a b:=fun a b h id hi=>by subst h; cases hi
 refine W0z (fun j st=>∃vr' m',st=⟨[(7,I .i64 (j:Nat)),(5,.c (.ptr (rg.length+3) 0)),(4,.c (.ptr (rg.length+2) 0)),(3,.c (.ptr (rg.length+1) 0)),(2,.c (.ptr rg.length 0))],beB rg P c cl fr (.p nilS) (.p nilS) vr' (.p nilS) (.p nilS) (.p nilS)++m'⟩∧
   accS (rg.length+5) m' (beS [] [] (List.replicate j [iv 0,iv 0,iv 0]) [] [] [] (.p nilS) (.p nilS) vr' (.p nilS) (.p nilS) (.p nilS))∧wf (beB rg P c cl fr (.p nilS) (.p nilS) vr' (.p nilS) (.p nilS) (.p nilS)++m')) _ n ⟨.p nilS,[],by simp,⟨?_,?_⟩,by simpa using hw⟩ ?_ ?_
 ·intro x hx
  simp only[beS,Zq,Xw,or_false]at hx
  rcases hx with rfl | rfl | rfl | rfl | rfl | rfl<;>exact .inl ⟨rfl,rfl⟩
 ·simp only[beS,X8,Zq,Xw,or_false,forall_eq_or_imp,forall_eq,List.Pairwise.nil,and_true]
  simp[hd]
 ·rintro j hj st ⟨vr1,m1,rfl,h1,hw1⟩
  obtain ⟨vr2,m2,e1,e2,e3⟩:=Wrx rg P c cl fr n0 j n hj hn (by omega) m1 (by simp; omega) h1 hw1
  refine ⟨_,e1,vr2,m2,rfl,?_,e3⟩
  rw[Xq]
  exact e2
 ·rintro st ⟨vr1,m1,rfl,h1,hw1⟩
  have g:¬(n:Int)<P.roots:=by omega
  exact ⟨.exit 0,_,by simp[Wpn,beB,g]; rfl,by simp,rfl,vr1,m1,by simp[beB],⟨rfl,rfl,rfl,rfl⟩,h1,hw1⟩
end
def Wa6(f:Int):List PV:=[iv 0,iv f,iv 0,iv 0,iv 0,iv 0,iv 0,iv 0,iv 0,iv 0,iv 0,iv 0,iv 0,iv 0,iv 0,iv 0,iv 0,iv 0,nilS,nilS,nilS,iv 0]
section
variable (rg:List Reg) (P:Prg) (c:Cfg) (cl:List Cel) (fr:List Int)
set_option maxRecDepth 20000 in
set_option maxHeartbeats 2000000 in
theorem Wrz(n0 t n:Nat)(ht:t<P.code.length)(hc4:P.code.length≤4)(hn:P.slots=(n:Int))(hn2:n≤4){lt lb lr ls lm lk:List (List PV)}{vt vb vr vs vm vk:AC}(m:List Reg)
  (hl1:lt.length≤100) (hl2:lb.length≤100) (hl3:ls.length≤100) (hl4:lm.length≤100) (hl5:lk.length≤100)
  (h:accS (rg.length+5) m (beS lt lb lr ls lm lk vt vb vr vs vm vk)) (hw:wf (beB rg P c cl fr vt vb vr vs vm vk++m)):
  ∃vt' vb' vs' vm' vk' m',Wpm W02 bm.run n0 ⟨[(8,I .i64 (t:Nat)),(5,.c (.ptr (rg.length+3) 0)),(4,.c (.ptr (rg.length+2) 0)),(3,.c (.ptr (rg.length+1) 0)),(2,.c (.ptr rg.length 0))],beB rg P c cl fr vt vb vr vs vm vk++m⟩=
    some (.normal,⟨[(8,I .i64 (t+1:Nat)),(5,.c (.ptr (rg.length+3) 0)),(4,.c (.ptr (rg.length+2) 0)),(3,.c (.ptr (rg.length+1) 0)),(2,.c (.ptr rg.length 0))],beB rg P c cl fr vt' vb' vr vs' vm' vk'++m'⟩)∧
   accS (rg.length+5) m' (beS (lt++[(Wa6 c.fuel)]) (lb++[[nilS]]) lr (ls++List.replicate n [iv 0,iv 0,iv 0]) (lm++[[iv 0]]) (lk++[[iv 0]]) vt' vb' vr vs' vm' vk')∧wf (beB rg P c cl fr vt' vb' vr vs' vm' vk'++m'):=by
 have ht2:(t:Int)<P.code.length:=by omega
 have hnx:IntKind.i64.wrap ((t:Int)+1)=(t:Int)+1:=W0g (by omega) (by omega)
 obtain ⟨vt1,m1,a1,a2,a3⟩:=accS.push (bytes:=224) (base:=beB rg P c cl fr vt vb vr vs vm vk) (m:=m) 0 (sz:=22) (l:=lt) (v:=vt) (Wa6 c.fuel) (by rw[W2t]; exact h) rfl (by omega) (by omega) hw
 rw[W2t]at a1 a2
 have a2':accS (rg.length+5) m1 (beS (lt++[(Wa6 c.fuel)]) lb lr ls lm lk vt1 vb vr vs vm vk):=a2
 have w1:=Wlg a3 a2'
 obtain ⟨vb1,m2,b1,b2,b3⟩:=accS.push (bytes:=24) (base:=beB rg P c cl fr vt1 vb vr vs vm vk) (m:=m1) 1 (sz:=1) (l:=lb) (v:=vb) [nilS] (by rw[W2t]; exact a2') rfl (by omega) (by omega) w1
 rw[W2t]at b1 b2
 have b2':accS (rg.length+5) m2 (beS (lt++[(Wa6 c.fuel)]) (lb++[[nilS]]) lr ls lm lk vt1 vb1 vr vs vm vk):=b2
 have w2:=Wlg b3 b2'
 obtain ⟨vm1,m3,c1,c2,c3⟩:=accS.push (bytes:=8) (base:=beB rg P c cl fr vt1 vb1 vr vs vm vk) (m:=m2) 4 (sz:=1) (l:=lm) (v:=vm) [iv 0] (by rw[W2t]; exact b2') rfl (by omega) (by omega) w2
 rw[W2t]at c1 c2
 have c2':accS (rg.length+5) m3 (beS (lt++[(Wa6 c.fuel)]) (lb++[[nilS]]) lr ls (lm++[[iv 0]]) lk vt1 vb1 vr vs vm1 vk):=c2
 have w3:=Wlg c3 c2'
 obtain ⟨vk1,m4,d1,d2,d3⟩:=accS.push (bytes:=8) (base:=beB rg P c cl fr vt1 vb1 vr vs vm1 vk) (m:=m3) 5 (sz:=1) (l:=lk) (v:=vk) [iv 0] (by rw[W2t]; exact c2') rfl (by omega) (by omega) w3
 rw[W2t]at d1 d2
 have d2':accS (rg.length+5) m4 (beS (lt++[(Wa6 c.fuel)]) (lb++[[nilS]]) lr ls (lm++[[iv 0]]) (lk++[[iv 0]]) vt1 vb1 vr vs vm1 vk1):=d2
 have w4:=Wlg d3 d2'
 obtain ⟨ex,s',e1,rfl,vs',m5,e2,e3,e4,e5⟩:=Wvo rg P c cl fr n0 n t hn hn2 m4 (by omega) d2' w4
 obtain ⟨q8,q5,q4,q3,q2⟩:=e3
 refine ⟨vt1,vb1,vs',vm1,vk1,m5,?_,e4,e5⟩
 have kt:=W38 a2' (i:=0) rfl
 have kb:=W38 b2' (i:=1) rfl
 have km:=W38 c2' (i:=4) rfl
 have kk:=W38 d2' (i:=5) rfl
 simp only at kt kb km kk
 have htk:Wa6 c.fuel=[iv 0,iv c.fuel,iv 0,iv 0,iv 0,iv 0,iv 0,iv 0,iv 0,iv 0,iv 0,iv 0,iv 0,iv 0,iv 0,iv 0,iv 0,iv 0,nilS,nilS,nilS,iv 0]:=rfl
 rw[W1m]at q8 q5 q4 q3 q2
 have x1:rg.length+(m.length+5)=rg.length+5+m.length:=by omega
 have x2:rg.length+(m1.length+5)=rg.length+5+m1.length:=by omega
 have x3:rg.length+(m2.length+5)=rg.length+5+m2.length:=by omega
 have x4:rg.length+(m3.length+5)=rg.length+5+m3.length:=by omega
 simp only[beB,beR]at a1 b1 c1 d1 e1 e2 ⊢
 rw[htk]at a1
 simp at a1 b1 c1 d1 e1 e2
 simp[Wpm,ht2,hnx]
 rw[x1,a1]
 simp[kt]
 rw[x2,b1]
 simp[kb]
 rw[x3,c1]
 simp[km]
 rw[x4,d1]
 simp[kk,e1,e2,q8,q5,q4,q3,q2,hnx]
theorem Wvq(n0 n:Nat)(hc4:P.code.length≤4)(hn:P.slots=(n:Int))(hn2:n≤4){lr:List (List PV)}{vr:AC}(m:List Reg)
  (h:accS (rg.length+5) m (beS [] [] lr [] [] [] (.p nilS) (.p nilS) vr (.p nilS) (.p nilS) (.p nilS))) (hw:wf (beB rg P c cl fr (.p nilS) (.p nilS) vr (.p nilS) (.p nilS) (.p nilS)++m)):
  ∃ex s',W02 (Wpm W02 bm.run n0) ⟨[(8,I .i64 0),(5,.c (.ptr (rg.length+3) 0)),(4,.c (.ptr (rg.length+2) 0)),(3,.c (.ptr (rg.length+1) 0)),(2,.c (.ptr rg.length 0))],beB rg P c cl fr (.p nilS) (.p nilS) vr (.p nilS) (.p nilS) (.p nilS)++m⟩=some (ex,s')∧
   (ex= .exit 2∧∃vt vb vs vm vk m',s'.regs=beB rg P c cl fr vt vb vr vs vm vk++m'∧(lkF s'.slots 5= .c (.ptr (rg.length+3) 0)∧lkF s'.slots 4= .c (.ptr (rg.length+2) 0))∧
    accS (rg.length+5) m' (beS (List.replicate P.code.length (Wa6 c.fuel)) (List.replicate P.code.length [nilS]) lr (List.replicate (P.code.length*n) [iv 0,iv 0,iv 0]) (List.replicate P.code.length [iv 0]) (List.replicate P.code.length [iv 0]) vt vb vr vs vm vk)∧wf (beB rg P c cl fr vt vb vr vs vm vk++m')):=by
 refine W0z (fun t st=>∃vt vb vs vm vk m',st=⟨[(8,I .i64 (t:Nat)),(5,.c (.ptr (rg.length+3) 0)),(4,.c (.ptr (rg.length+2) 0)),(3,.c (.ptr (rg.length+1) 0)),(2,.c (.ptr rg.length 0))],beB rg P c cl fr vt vb vr vs vm vk++m'⟩∧
   accS (rg.length+5) m' (beS (List.replicate t (Wa6 c.fuel)) (List.replicate t [nilS]) lr (List.replicate (t*n) [iv 0,iv 0,iv 0]) (List.replicate t [iv 0]) (List.replicate t [iv 0]) vt vb vr vs vm vk)∧wf (beB rg P c cl fr vt vb vr vs vm vk++m')) _ P.code.length ⟨_,_,_,_,_,m,rfl,by simpa using h,hw⟩ ?_ ?_
 ·rintro t ht st ⟨vt,vb,vs,vm,vk,m1,rfl,h1,hw1⟩
  have hb:t*n≤4*4:=Nat.mul_le_mul (by omega) hn2
  obtain ⟨vt',vb',vs',vm',vk',m',e1,e2,e3⟩:=Wrz rg P c cl fr n0 t n ht hc4 hn hn2 m1 (by simp; omega) (by simp; omega) (by simp; omega) (by simp; omega) (by simp; omega) h1 hw1
  refine ⟨_,e1,vt',vb',vs',vm',vk',m',rfl,?_,e3⟩
  rw[List.replicate_append_replicate,←Zy,←Xq,←Xq,←Xq]at e2
  exact e2
 ·rintro st ⟨vt,vb,vs,vm,vk,m1,rfl,h1,hw1⟩
  exact ⟨.exit 2,_,by simp[Wpm,beB]; rfl,by simp,rfl,vt,vb,vs,vm,vk,m1,by simp[beB],⟨rfl,rfl⟩,h1,hw1⟩
end
theorem Wwt(ks:List NT)(n:Nat)(a b:List PV)(h:nzR ks a=b):nzL ks (List.replicate n a)=List.replicate n b:=by
 induction n with
 | zero=>simp[nzL]
 | succ n ih=>rw[Xt,nzL,h,ih,←Xt]
theorem accV.deepZ{base m:List Reg}{v:AV}{sz:Nat}{l l':List (List PV)}{ks:List NT}{k:Nat}(h:accV base.length sz l v m)(hz:0<sz)(hl:l.length≤9223372036854775807)(hn:nzL ks l=l'):W5c (base++m) base.length (k+1) [.sl sz ks] v=some (.c (.p (.sl sz l'))):=by
 subst hn
 rcases h with ⟨rfl,rfl⟩ | ⟨j,rfl,hj⟩
 ·simp[hz,nzL]
 ·simp[hj,hl]
set_option maxHeartbeats 2000000 in
theorem Wh1(P:Prg)(c:Cfg)(hch:chkP P.roots P.cells P.slots P.code=0)(rg:List Reg)(hw:wf rg):bm.run (.fn 39) [prgP P,cfgA c] rg=some (ag (W1t P c).k,rg):=by
 obtain ⟨⟨r0,r4⟩,⟨c0,c6⟩,⟨s0,s2⟩,n1,n4⟩:=W6v hch
 have hcl:=W54 c0 c6
 obtain ⟨nr,hnr⟩:=Yo r0
 obtain ⟨nc,hnc⟩:=Yo c0
 obtain ⟨ns,hns⟩:=Yo s0
 have h16:=V0n nc (by omega) (rg++[prow P.roots P.cells P.slots P.code,.ac (c.k.map .p),beN,beN]) (W07 hw (by simp))
 obtain ⟨CL,hCL⟩:∃CL,CL=List.replicate nc cel0:=⟨_,rfl⟩
 rw[←hCL]at h16
 have hwB:wf (beB rg P c CL (upTo nc) (.p nilS) (.p nilS) (.p nilS) (.p nilS) (.p nilS) (.p nilS)):=by
  unfold beB
  exact W07 hw (by simp[beR])
 obtain ⟨ex,st1,e1,rfl,vr,m1,e2,⟨q5,q4,q3,q2⟩,h1,hw1⟩:=Wvp rg P c CL (upTo nc) rg.length nr hnr (by omega) hwB
 obtain ⟨ex2,st2,f1,rfl,vt,vb,vs,vm,vk,m2,f2,⟨p5,p4⟩,h2,hw2⟩:=Wvq rg P c CL (upTo nc) rg.length ns n4 hns (by omega) m1 h1 hw1
 have hall:=h2.1
 have at_:=hall _ (Zi (i:=0) rfl)
 have ab_:=hall _ (Zi (i:=1) rfl)
 have ar_:=hall _ (Zi (i:=2) rfl)
 have as_:=hall _ (Zi (i:=3) rfl)
 have am_:=hall _ (Zi (i:=4) rfl)
 have ak_:=hall _ (Zi (i:=5) rfl)
 simp only at at_ ab_ ar_ as_ am_ ak_
 have kn:∀{sz:Nat} {l:List (List PV)} {v:AC},accV (rg.length+5) sz l (.c v) m2→v.known=true:=by
  intro sz l v h
  rcases h with ⟨_,h⟩ | ⟨_,h,_⟩<;>cases h<;>rfl
 have hlp:∀x y:Reg,(rg.length+[prow P.roots P.cells P.slots P.code,.ac (c.k.map .p),x,y,Reg.ac [.p (slC CL),.p (slI (upTo nc))]].length)=rg.length+5:=fun _ _=>rfl
 have hbs:P.code.length*ns≤4*2:=Nat.mul_le_mul n4 (by omega)
 generalize hR:Reg.ac [vt,vb,vr,vs,.p (slC CL),.p (slI (upTo nc)),.p (iv 0),vm,vk]=R at*
 have dt:=accV.deepZ (base:=rg) (k:=m2.length+5) (ks:=W2w) (at_.back (p:=[prow P.roots P.cells P.slots P.code,.ac (c.k.map .p),R,R,.ac [.p (slC CL),.p (slI (upTo nc))]])) (by omega) (by simp; omega) (Wwt W2w P.code.length _ (thr0 c.fuel).k (by simp[Wa6,W2w,nzR,nzP,thr0,Thr.k,nzL]))
 have db:=accV.deepZ (base:=rg) (k:=m2.length+5) (ks:=[.sl 8 []]) (ab_.back (p:=[prow P.roots P.cells P.slots P.code,.ac (c.k.map .p),R,R,.ac [.p (slC CL),.p (slI (upTo nc))]])) (by omega) (by simp; omega) (Wwt [.sl 8 []] P.code.length _ [slE []] (by simp[nzR,nzP]))
 have dr:=accV.deep (base:=rg) (k:=m2.length+5) (ks:=[]) (ar_.back (p:=[prow P.roots P.cells P.slots P.code,.ac (c.k.map .p),R,R,.ac [.p (slC CL),.p (slI (upTo nc))]])) (by omega) (by simp; omega) (by simp)
 have ds:=accV.deep (base:=rg) (k:=m2.length+5) (ks:=[]) (as_.back (p:=[prow P.roots P.cells P.slots P.code,.ac (c.k.map .p),R,R,.ac [.p (slC CL),.p (slI (upTo nc))]])) (by omega) (by simp; omega) (by simp)
 have dm:=accV.deep (base:=rg) (k:=m2.length+5) (ks:=[]) (am_.back (p:=[prow P.roots P.cells P.slots P.code,.ac (c.k.map .p),R,R,.ac [.p (slC CL),.p (slI (upTo nc))]])) (by omega) (by simp; omega) (by simp)
 have dk:=accV.deep (base:=rg) (k:=m2.length+5) (ks:=[]) (ak_.back (p:=[prow P.roots P.cells P.slots P.code,.ac (c.k.map .p),R,R,.ac [.p (slC CL),.p (slI (upTo nc))]])) (by omega) (by simp; omega) (by simp)
 subst hR
 have g1:=kn at_
 have g2:=kn ab_
 have g3:=kn ar_
 have g4:=kn as_
 have g5:=kn am_
 have g6:=kn ak_
 rw[W1m]at q5 q4 q3 q2 p5 p4
 rw[←hnc]at h16
 simp only[beB,beR]at e1 e2 f1 f2
 simp at h16 e1 e2 f1 f2 dt db dr ds dm dk
 rw[R39]
 simp[s39,h16,e1,e2,q5,q4,q3,q2,f1,f2,p5,p4,g1,g2,g3,g4,g5,g6]
 rw[W1h _ _ _ _ _ _root_.rfl hw]
 simp[W42,dt,db,dr,ds,dm,dk]
 have z1:P.roots.toNat=nr:=by omega
 have z2:P.slots.toNat=ns:=by omega
 have z3:(W0o P.cells 0 6).toNat=nc:=by omega
 have hbS:W1t P c=⟨List.replicate P.code.length (thr0 c.fuel),List.replicate P.code.length [],List.replicate nr w0,List.replicate (P.code.length*ns) w0,CL,upTo nc,0,List.replicate P.code.length 0,List.replicate P.code.length 0⟩:=by
  unfold W1t; rw[z1,z2,z3,hCL]
 rw[hbS]
 simp[Ste.k,w0]
end Go.Sim
namespace Go.Sim
open Go.RowKit Go.Proofs.YtahoelmjfgoedaaGreat.T
theorem Wf6{α:Type}{l:List α}{bad:α→Bool}{f:α→Int}{d:α}(hb:∀x,bad x= !decide (f x=0))(h:(match l.findIdx? bad with | some i=>f (l.getD i d) | none=>0)=0):∀x∈l,f x=0:=by
 cases hf:l.findIdx? bad with
 | none=>
  rw[List.findIdx?_eq_none_iff]at hf
  intro x hx
  have:=hf x hx
  rw[hb]at this
  simpa using this
 | some i=>
  rw[hf]at h
  obtain ⟨h1,h2,_⟩:=List.findIdx?_eq_some_iff_getElem.1 hf
  have h3:l.getD i d=l[i]:=by rw[Zc,Z2 h1]; rfl
  simp only[h3]at h
  rw[hb,h]at h2
  cases h2
theorem Wjl{r ce s:Int}{code:List (List Ins)}(h:chkP r ce s code=0):(∀l∈code,l.length≤16)∧chkC r s code=0:=by
 unfold chkP at h
 split at h
 ·cases h
 ·split at h
  ·cases h
  ·split at h
   ·cases h
   ·rename_i h3
    refine ⟨fun l hl=> ?_,h⟩
    have hn:code.findIdx? W59=none:=by simpa using h3
    rw[List.findIdx?_eq_none_iff]at hn
    have:=hn l hl
    simpa[W59]using this
theorem Ws0{x:Ins}{r s n:Int}(h:insI x r s n=0):1≤x.op∧x.op≤25:=by
 unfold insI at h
 split at h
 ·cases h
 ·rename_i hne
  unfold shOf at hne
  split at hne
  ·rename_i hr
   have h0:x.op≠0:=by
    intro h0
    rw[h0]at hne
    exact hne (by decide)
   omega
  ·exact absurd rfl hne
theorem V0o(r s:Int)(l:List Ins):badL r s l= !decide (chkL r s l=0):=by
 unfold badL chkL
 cases hf:l.findIdx? (badI r s l)with
 | none=>simp
 | some i=>
  obtain ⟨h1,h2,_⟩:=List.findIdx?_eq_some_iff_getElem.1 hf
  have h3:l.getD i ins0=l[i]:=by rw[Zc,Z2 h1]; rfl
  simp only[h3,Option.isSome_some]
  exact h2.symm
theorem V0p{r ce s:Int}{code:List (List Ins)}(h:chkP r ce s code=0):∀l∈code,∀x∈l,1≤x.op∧x.op≤25:=by
 have hc:=(Wjl h).2
 have h1:∀l∈code,chkL r s l=0:=Wf6 (bad:=badL r s) (f:=chkL r s) (d:=[]) (V0o r s) hc
 intro l hl x hx
 exact Ws0 (Wf6 (bad:=badI r s l) (f:=fun x=>insI x r s l.length) (d:=ins0) (fun x=>rfl) (h1 l hl) x hx)
theorem Wvr(P:Prg)(c:Cfg)(h:newE P c=0):okS P c (W1t P c):=by
 have hch:chkP P.roots P.cells P.slots P.code=0:=by
  unfold newE at h
  split at h
  ·assumption
  ·exact h
 have hok:c.ok=true:=by
  unfold newE at h
  rw[if_pos hch]at h
  split at h
  ·assumption
  ·cases h
 obtain ⟨bR,bC,bS,n1,n4⟩:=W6v hch
 have hcl:=W54 bC.1 bC.2
 refine ⟨n1,n4,(Wjl hch).1,V0p hch,bR,bC,bS,hok,?_,?_,?_,?_,?_,?_,?_,?_,?_,?_,?_⟩
 ·simp[W1t]
 ·simp[W1t]
 ·simp[W1t]
 ·simp[W1t]
 ·simp[W1t,hcl]
 ·simp[W1t,upTo,hcl]; omega
 ·simp[W1t]
 ·simp[W1t]
 ·intro th hth
  rw[List.eq_of_mem_replicate hth]
  simp[Thr.okT,thr0]
 ·intro th hth
  rw[List.eq_of_mem_replicate hth]
  exact .inl rfl
 ·intro l hl
  rw[List.eq_of_mem_replicate hl]
  simp
end Go.Sim
namespace Go.Sim
open Go.RowKit Go.Proofs.YtahoelmjfgoedaaGreat.T
attribute [-simp] vfld W0n W1n
theorem V0q(code:List (List Ins)):(fewL code).length≤1000∧∀l∈fewL code,l.length≤1000:=by
 constructor
 ·simp[fewL]; omega
 ·intro l hl
  obtain ⟨x,_,rfl⟩:=Y1.1 hl
  simp; omega
theorem Wlh(u:Su):∀n,(u.touchN (n+1)).old=true:=by
 intro n
 rcases n with _ | _ | _ | _ | n<;>rfl
theorem V0r(u:Su)(n t:Nat)(hn:n<4)(ht:t<4):(u.touch n).S t=if t=n then true else u.S t:=by
 rcases n with _ | _ | _ | _ | n<;>rcases t with _ | _ | _ | _ | t<;>first | omega | rfl
theorem Wjm(u:Su):∀n t,n≤4→t<n→(u.touchN n).S t=true
 | 0,t,_,h=>by omega
 | n+1,t,hn,h=>by
  show ((u.touchN n).touch n).S t=true
  rw[V0r _ n t (by omega) (by omega)]
  by_cases e:t=n
  ·rw[if_pos e]
  ·rw[if_neg e]; exact Wjm u n t (by omega) (by omega)
theorem Ws1(P:Prg)(c:Cfg)(hS:okS P c (W1t P c)):okU (W1t P c) (su0.touchN P.code.length):=by
 have h1:=hS.n1
 have h4:=hS.n4
 obtain ⟨k,hk⟩:∃k,P.code.length=k+1:=⟨P.code.length-1,by omega⟩
 refine ⟨fun h=> ?_,fun t ht h=> ?_⟩
 ·rw[hk,Wlh]at h; cases h
 ·rw[hS.thr]at ht
  rw[Wjm su0 _ t h4 ht]at h; cases h
theorem V5a{β:Type}(P:Prg)(x:Option β):Sm (prgP P) (prgP P) x=x:=Wcb (by simp[flA,flP]) x
theorem V5b{β:Type}(c:Cfg)(x:Option β):Sm (cfgA c) (cfgA c) x=x:=Wcb (by simp[flA,flP]) x
set_option maxHeartbeats 2000000 in
theorem Wli(P0:Prg)(c:Cfg):bm.run (.fn 7) [prgP P0,cfgA c] []=some (Bo true,[]):=by
 obtain ⟨P,hP⟩:∃P:Prg,P={P0 with code:=fewL P0.code}:=⟨_,rfl⟩
 obtain ⟨hc,hl⟩:=V0q P0.code
 have hc':P.code.length≤1000:=by rw[hP]; exact hc
 have hl':∀l∈P.code,l.length≤1000:=by rw[hP]; exact hl
 have hw0:wf [prow P0.roots P0.cells P0.slots P0.code,.ac (c.k.map .p)]:=by simp[wf]
 have hw1:wf [prow P.roots P.cells P.slots P.code,.ac (c.k.map .p)]:=by simp[wf]
 have a0:=Wza [prow P0.roots P0.cells P0.slots P0.code,.ac (c.k.map .p)]
 have a1:=Wzn P0.roots P0.cells P0.slots P0.code _ hw0
 have eP:prgA P0.roots P0.cells P0.slots (fewL P0.code)=prgP P:=by rw[hP]
 rw[eP]at a1
 by_cases hE:newE P c=0
 ·obtain ⟨q,m',L,im,ia,vt,vb,vr,b1,hw2,hM⟩:=Wus P c hc' hl' hE _ hw1
  have hS:=Wvr P c hE
  have hch:chkP P.roots P.cells P.slots P.code=0:=by
   unfold newE at hE
   split at hE
   ·assumption
   ·exact hE
  have b2:=W77 P.roots P.cells P.slots P.code hc' hl' _ hw2
  rw[hch]at b2
  have b3:=W9p c _ hw2
  rw[hS.ok]at b3
  have b4:=Wh1 P c hch _ hw2
  obtain ⟨u',hU',b5⟩:=Wvm hM hS hw2 hch (Ws1 P c hS)
  generalize W0d im ia u' P c vt vb vr=C at*
  generalize hs:W1t P c=s at*
  rw[R7]
  simp at a0 a1 b1 b2 b3 b4 b5
  simp[s7,a0,a1,b1,b2,b3,b4,b5,V5a,V5b]
 ·have b1:=Wuq P c hc' hl' hE _ hw1
  have b2:=W77 P.roots P.cells P.slots P.code hc' hl' _ hw1
  have b3:=W9p c _ hw1
  by_cases hch:chkP P.roots P.cells P.slots P.code=0
  ·have hok:c.ok=false:=by
    cases h:c.ok
    ·rfl
    ·exact absurd (by unfold newE; rw[if_pos hch,if_pos h]) hE
   have hE3:newE P c=3:=by unfold newE; rw[if_pos hch,hok]; rfl
   rw[hE3]at b1
   rw[hch]at b2
   rw[hok]at b3
   rw[R7]
   simp at a0 a1 b1 b2 b3
   simp[s7,a0,a1,b1,b2,b3]
  ·have hE3:newE P c=chkP P.roots P.cells P.slots P.code:=by unfold newE; rw[if_neg hch]
   rw[hE3]at b1
   generalize chkP P.roots P.cells P.slots P.code=e at*
   rw[R7]
   simp at a0 a1 b1 b2 b3
   simp[s7,a0,a1,b1,b2,b3,hch]
end Go.Sim
namespace Go.Sim
open Go.RowKit Go.Proofs.YtahoelmjfgoedaaGreat Go.Proofs
set_option maxRecDepth 100000
section
variable {H:Type} {enc:TypeId×Value→H} {w:World}
abbrev bad0:Nat→Prop:=W04 Wtt Wgb []
theorem Wvs(b:Nat):¬bad0 b:=by
 rintro (h | ⟨id,r,c,h,_⟩)
 ·exact h
 ·simp at h
def Wf7(enc:TypeId×Value→H)(w:World)(t:TypeId){α:Type}(cells:α→List PV):Prop:=
 ∀(fuel:Nat) (cs:List Value) (d:DataW H) (ps:List MemPlace),DataW.trod enc Tryz.prog w 0 (fun _=>true) true fuel t cs=some (d,ps)→∃x:α,All2 (PRel w bad0) (cells x) cs
theorem W1o{t:TypeId}(ht:Tryz.prog.underlying t=some (.int .i64)):Wf7 enc w t (fun n:Int=>[iv n]):=by
 intro fuel cs d ps h
 obtain ⟨n,rfl,hx,hwf⟩:=DataW.trod_int ht h
 exact ⟨n,.v rfl,trivial⟩
theorem W1u{α β:Type}{R:α→β→Prop}{l r:List α}{cs:List β}{off c:Nat}(h1:All2 R l ((cs.drop off).take c))(h2:All2 R r (cs.drop (off+c))):All2 R (l++r) (cs.drop off):=by
 have:cs.drop off=(cs.drop off).take c++cs.drop (off+c):=by rw[←List.drop_drop,X5]
 rw[this]
 exact h1.append h2
theorem Wcr{α β:Type}{R:α→β→Prop}{cs:List β}{off:Nat}(h:cs.length≤off):All2 R ([]:List α) (cs.drop off):=by
 rw[List.drop_of_length_le h]
 trivial
theorem Wcs{α β:Type}{R:α→β→Prop}{l:List α}{cs:List β}(h:All2 R l (cs.drop 0)):All2 R l cs:=by simpa using h
theorem Wa0{t e:TypeId}{α:Type}{cells:α→List PV}{sz:Nat}(hr:Wf7 enc w e cells)(ht:Tryz.prog.underlying t=some (.slice e))(hsz:Tryz.prog.cellsOf e=sz)(hz:0<sz)(hlen:∀x,(cells x).length=sz):
  Wf7 enc w t (fun l:List α=>[.sl sz (l.map cells)]):=by
 intro fuel cs d ps h
 rcases DataW.trod_slice ht h with ⟨rfl,hx⟩ | ⟨a,len,cap,elems,rest,n,_,rfl,hx,_,hlc,hcm,hel,hes,_,_⟩
 ·exact ⟨[],.sl (fun _ _=> .bool false) hz rfl (Z8 _) (by decide) (fun i h=>by simp at h) (fun h=>by omega) (fun _ e=>by cases e) (fun i h=>by simp at h),trivial⟩
 ·have hml:maxLen=9223372036854775807:=by decide
  rw[hml]at hcm
  have hall:∀i,i<len→∃x:α,∃row:List Value,w.cells? 0 (a.add (i*sz)) sz=some row∧All2 (PRel w bad0) (cells x) row:=by
   intro i hi
   have he:=hes i hi
   rw[hsz]at he
   have hil:i<elems.length:=by omega
   rw[Z2 hil]at he
   obtain ⟨row,hrow,htr⟩:=Z0.1 he
   obtain ⟨x,h1⟩:=hr n row (elems[i]).1 (elems[i]).2 htr
   exact ⟨x,row,hrow,h1⟩
  have hlist:∀m,m≤len→∃l:List α,l.length=m∧∀i (hi:i<l.length),∃row,w.cells? 0 (a.add (i*sz)) sz=some row∧All2 (PRel w bad0) (cells l[i]) row:=by
   intro m
   induction m with
   | zero=>intro _; exact ⟨[],rfl,fun i h=>by simp at h⟩
   | succ m ih=>
    intro hm
    obtain ⟨l,l1,l4⟩:=ih (by omega)
    obtain ⟨x,row,r1,r2⟩:=hall m (by omega)
    refine ⟨l++[x],by simp[l1],fun i hi=> ?_⟩
    by_cases he:i<l.length
    ·rw[List.getElem_append_left he]
     exact l4 i he
    ·have hie:i=m:=by simp at hi; omega
     subst hie
     rw[List.getElem_append_right (by omega)]
     refine ⟨row,r1,?_⟩
     simpa[l1]using r2
  obtain ⟨l,l1,l4⟩:=hlist len (Z8 _)
  refine ⟨l,?_,trivial⟩
  have hadd:∀i j:Nat,(a.add (i*sz)).add j=a.add (i*sz+j):=fun i j=>Addr.add_add a (i*sz) j
  have key:∀i (hi:i<l.length) j,j<sz→∃u,w.cell? (a.add (i*sz+j))=some u∧∀(hj:j<(cells l[i]).length),PRel w bad0 (cells l[i])[j] u:=by
   intro i hi j hj
   obtain ⟨row,hrow,hrel⟩:=l4 i hi
   obtain ⟨_,hrl,hrg⟩:=World.cells?_some hrow
   have hjr:j<row.length:=by omega
   refine ⟨row[j],?_,fun hjc=>hrel.get j hjc hjr⟩
   have:=hrg j hj
   rw[hadd,Z2 hjr]at this
   exact this
  refine .sl (fun i j=>if h:i<l.length∧j<sz then (key i h.1 j h.2).choose else .bool false) hz (by simp; omega) (by omega) (by omega) (fun i hi=> ?_) (fun _=>⟨a,rfl,Wvs _⟩) (fun ad e i hi j hj=> ?_) (fun i hi j hj=> ?_)
  ·rw[Zu,hlen]
  ·cases e
   have hi':i<l.length:=by simpa using hi
   have hj':j<sz:=by rw[Zu,hlen]at hj; exact hj
   rw[dif_pos ⟨hi',hj'⟩]
   exact (key i hi' j hj').choose_spec.1
  ·have hi':i<l.length:=by simpa using hi
   have hj':j<sz:=by rw[Zu,hlen]at hj; exact hj
   rw[dif_pos ⟨hi',hj'⟩]
   have:=(key i hi' j hj').choose_spec.2 (by rw[hlen]; exact hj')
   simpa only[Zu]using this
theorem c2:Tryz.prog.cellsOf 2=1:=by kernel_rfl
theorem c3:Tryz.prog.cellsOf 3=1:=by kernel_rfl
theorem c22:Tryz.prog.cellsOf 22=1:=by kernel_rfl
theorem c108:Tryz.prog.cellsOf 108=1:=by kernel_rfl
theorem c156:Tryz.prog.cellsOf 156=5:=by kernel_rfl
theorem c24:Tryz.prog.cellsOf 24=4:=by kernel_rfl
theorem c26:Tryz.prog.cellsOf 26=5:=by kernel_rfl
theorem Ws2:Wf7 enc w 156 (Ins.k):=by
 intro fuel cs d ps h
 obtain ⟨xs,n,_,hx,hlen,hxs,hf⟩:=DataW.trod_struct Tryz.underlying156 h
 rw[c156]at hlen
 have hxs:xs.length=5:=hxs
 match xs,hxs,hf with
 | [x0,x1,x2,x3,x4],_,hf=>
  have h0:DataW.trod enc Tryz.prog w 0 (fun _=>true) true n 3 ((cs.drop 0).take (Tryz.prog.cellsOf 3))=some (x0.1,x0.2):=hf 0 _ rfl
  rw[c3]at h0
  obtain ⟨v0,r0⟩:=(W1o Tryz.underlying3) n _ x0.1 x0.2 h0
  have h1:DataW.trod enc Tryz.prog w 0 (fun _=>true) true n 3 ((cs.drop 1).take (Tryz.prog.cellsOf 3))=some (x1.1,x1.2):=hf 1 _ rfl
  rw[c3]at h1
  obtain ⟨v1,r1⟩:=(W1o Tryz.underlying3) n _ x1.1 x1.2 h1
  have h2:DataW.trod enc Tryz.prog w 0 (fun _=>true) true n 3 ((cs.drop 2).take (Tryz.prog.cellsOf 3))=some (x2.1,x2.2):=hf 2 _ rfl
  rw[c3]at h2
  obtain ⟨v2,r2⟩:=(W1o Tryz.underlying3) n _ x2.1 x2.2 h2
  have h3:DataW.trod enc Tryz.prog w 0 (fun _=>true) true n 3 ((cs.drop 3).take (Tryz.prog.cellsOf 3))=some (x3.1,x3.2):=hf 3 _ rfl
  rw[c3]at h3
  obtain ⟨v3,r3⟩:=(W1o Tryz.underlying3) n _ x3.1 x3.2 h3
  have h4:DataW.trod enc Tryz.prog w 0 (fun _=>true) true n 2 ((cs.drop 4).take (Tryz.prog.cellsOf 2))=some (x4.1,x4.2):=hf 4 _ rfl
  rw[c2]at h4
  obtain ⟨v4,r4⟩:=(W1o Tryz.underlying2) n _ x4.1 x4.2 h4
  exact ⟨⟨v0,v1,v2,v3,v4⟩,Wcs (W1u (off:=0) (c:=1) r0 (W1u (off:=1) (c:=1) r1 (W1u (off:=2) (c:=1) r2 (W1u (off:=3) (c:=1) r3 (W1u (off:=4) (c:=1) r4 (Wcr (by rw[hlen]; exact Z8 _)))))))⟩
theorem Wlj:Wf7 enc w 108 (fun l:List Ins=>[slN l]):=Wa0 Ws2 Tryz.underlying108 c156 (by decide) (fun _=>rfl)
theorem Wh2:Wf7 enc w 22 (fun l:List (List Ins)=>[slNN l]):=Wa0 Wlj Tryz.underlying22 c108 (by decide) (fun _=>rfl)
theorem Ws3:Wf7 enc w 24 (Prg.k):=by
 intro fuel cs d ps h
 obtain ⟨xs,n,_,hx,hlen,hxs,hf⟩:=DataW.trod_struct Tryz.underlying24 h
 rw[c24]at hlen
 have hxs:xs.length=4:=hxs
 match xs,hxs,hf with
 | [x0,x1,x2,x3],_,hf=>
  have h0:DataW.trod enc Tryz.prog w 0 (fun _=>true) true n 3 ((cs.drop 0).take (Tryz.prog.cellsOf 3))=some (x0.1,x0.2):=hf 0 _ rfl
  rw[c3]at h0
  obtain ⟨v0,r0⟩:=(W1o Tryz.underlying3) n _ x0.1 x0.2 h0
  have h1:DataW.trod enc Tryz.prog w 0 (fun _=>true) true n 3 ((cs.drop 1).take (Tryz.prog.cellsOf 3))=some (x1.1,x1.2):=hf 1 _ rfl
  rw[c3]at h1
  obtain ⟨v1,r1⟩:=(W1o Tryz.underlying3) n _ x1.1 x1.2 h1
  have h2:DataW.trod enc Tryz.prog w 0 (fun _=>true) true n 3 ((cs.drop 2).take (Tryz.prog.cellsOf 3))=some (x2.1,x2.2):=hf 2 _ rfl
  rw[c3]at h2
  obtain ⟨v2,r2⟩:=(W1o Tryz.underlying3) n _ x2.1 x2.2 h2
  have h3:DataW.trod enc Tryz.prog w 0 (fun _=>true) true n 22 ((cs.drop 3).take (Tryz.prog.cellsOf 22))=some (x3.1,x3.2):=hf 3 _ rfl
  rw[c22]at h3
  obtain ⟨v3,r3⟩:=Wh2 n _ x3.1 x3.2 h3
  exact ⟨⟨v0,v1,v2,v3⟩,Wcs (W1u (off:=0) (c:=1) r0 (W1u (off:=1) (c:=1) r1 (W1u (off:=2) (c:=1) r2 (W1u (off:=3) (c:=1) r3 (Wcr (by rw[hlen]; exact Z8 _))))))⟩
theorem Ws4:Wf7 enc w 26 (Cfg.k):=by
 intro fuel cs d ps h
 obtain ⟨xs,n,_,hx,hlen,hxs,hf⟩:=DataW.trod_struct Tryz.underlying26 h
 rw[c26]at hlen
 have hxs:xs.length=5:=hxs
 match xs,hxs,hf with
 | [x0,x1,x2,x3,x4],_,hf=>
  have h0:DataW.trod enc Tryz.prog w 0 (fun _=>true) true n 3 ((cs.drop 0).take (Tryz.prog.cellsOf 3))=some (x0.1,x0.2):=hf 0 _ rfl
  rw[c3]at h0
  obtain ⟨v0,r0⟩:=(W1o Tryz.underlying3) n _ x0.1 x0.2 h0
  have h1:DataW.trod enc Tryz.prog w 0 (fun _=>true) true n 3 ((cs.drop 1).take (Tryz.prog.cellsOf 3))=some (x1.1,x1.2):=hf 1 _ rfl
  rw[c3]at h1
  obtain ⟨v1,r1⟩:=(W1o Tryz.underlying3) n _ x1.1 x1.2 h1
  have h2:DataW.trod enc Tryz.prog w 0 (fun _=>true) true n 3 ((cs.drop 2).take (Tryz.prog.cellsOf 3))=some (x2.1,x2.2):=hf 2 _ rfl
  rw[c3]at h2
  obtain ⟨v2,r2⟩:=(W1o Tryz.underlying3) n _ x2.1 x2.2 h2
  have h3:DataW.trod enc Tryz.prog w 0 (fun _=>true) true n 3 ((cs.drop 3).take (Tryz.prog.cellsOf 3))=some (x3.1,x3.2):=hf 3 _ rfl
  rw[c3]at h3
  obtain ⟨v3,r3⟩:=(W1o Tryz.underlying3) n _ x3.1 x3.2 h3
  have h4:DataW.trod enc Tryz.prog w 0 (fun _=>true) true n 3 ((cs.drop 4).take (Tryz.prog.cellsOf 3))=some (x4.1,x4.2):=hf 4 _ rfl
  rw[c3]at h4
  obtain ⟨v4,r4⟩:=(W1o Tryz.underlying3) n _ x4.1 x4.2 h4
  exact ⟨⟨v0,v1,v2,v3,v4⟩,Wcs (W1u (off:=0) (c:=1) r0 (W1u (off:=1) (c:=1) r1 (W1u (off:=2) (c:=1) r2 (W1u (off:=3) (c:=1) r3 (W1u (off:=4) (c:=1) r4 (Wcr (by rw[hlen]; exact Z8 _)))))))⟩
theorem Wbi{l:List PV}{cs:Array Value}(h:All2 (PRel w bad0) l cs.toList):VRel w Wgb bad0 (ag l) (.agg cs):=by
 have hc:∀{p:List PV} {vs:List Value},All2 (PRel w bad0) p vs→All2 (CRel w Wgb bad0) (p.map .p) vs:=by
  intro p
  induction p with
  | nil=>intro vs h; cases vs with
   | nil=>trivial
   | cons _ _=>exact h.elim
  | cons x p ih=>intro vs h; cases vs with
   | nil=>exact h.elim
   | cons v vs=>exact ⟨h.1,ih h.2⟩
 obtain ⟨l'⟩:=cs
 exact .agg (hc h) (by simp[AC.known])
end
end Go.Sim
namespace Go.Proofs.YtahoelmjfgoedaaGreat.machineChecks
open Go.ChangeShapes Go.WideShapes Go.ChangeAt Go.RowKit
theorem andT{a b:Bool}(h:a=true)(k:b=true):(a&&b)=true:=by rw[h,k]; rfl
theorem jf0:(Rows.machineChecksRow.wf (OpenSpec.ofChange Rows.machineChecksSpec))=true:=by kernel_rfl
theorem jf1:(laidOutB Tryz.prog)=true:=by kernel_rfl
theorem jf2:(mapsRowed Tryz.prog)=true:=by kernel_rfl
theorem jf3:(Tryz.f7.params.all (Tryz.prog.readableRec ·))=true:=by kernel_rfl
theorem jf4:(namedTie Tryz.prog Rows.machineChecksRow.named Rows.machineChecksSpec.vars)=true:=by kernel_rfl
theorem jf5:((Rows.machineChecksRow.stops==[]))=true:=by kernel_rfl
theorem jf6:((Tryz.prog.stops==[]))=true:=by kernel_rfl
theorem jf7:((Rows.machineChecksRow.knobs==[]))=true:=by kernel_rfl
theorem jf8:((Tryz.prog.stopKnobs==[]))=true:=by kernel_rfl
theorem jf9:((Rows.machineChecksRow.inPlace==Tryz.prog.inPlace 7))=true:=by kernel_rfl
theorem jf10:((Rows.machineChecksRow.unfollowed==Tryz.prog.unfollowed 7))=true:=by kernel_rfl
theorem jf11:((Rows.machineChecksRow.recurses==Tryz.prog.recurses 7))=true:=by kernel_rfl
theorem jf12:((Rows.machineChecksRow.named==Tryz.prog.varsNamed 7))=true:=by kernel_rfl
theorem jf13:((Rows.machineChecksRow.maps==(Tryz.f7.params.toList++Rows.machineChecksSpec.plain.varTypes Tryz.prog).any (Tryz.prog.mapsRec ·)))=true:=by kernel_rfl
theorem jf14:((Rows.machineChecksRow.ifaces==(Tryz.f7.params.toList++Rows.machineChecksSpec.plain.varTypes Tryz.prog).any (Tryz.prog.ifacesRec ·)))=true:=by kernel_rfl
theorem jf15:((Rows.machineChecksRow.mapsOut==Tryz.prog.mapsAmong Tryz.f7.resultTypes.toList))=true:=by kernel_rfl
theorem jf16:((Rows.machineChecksRow.loops==(Tryz.f7.params.toList++Rows.machineChecksSpec.plain.varTypes Tryz.prog).any (Tryz.prog.loopsFrom ·)))=true:=by kernel_rfl
theorem jf17:((Rows.machineChecksRow.wideKeys==(Tryz.f7.params.toList++Rows.machineChecksSpec.plain.varTypes Tryz.prog++Tryz.f7.resultTypes.toList).any (Tryz.prog.wideKeysFrom ·)))=true:=by kernel_rfl
theorem jf18:(Rows.machineChecksSpec.vars.all (Tryz.prog.varReadable ·))=true:=by kernel_rfl
theorem jf19:(Tryz.f7.resultTypes.all (fun t=>Tryz.prog.readableRec t&&decide (t<Tryz.prog.types.size)))=true:=by kernel_rfl
theorem jf20:((Rows.machineChecksRow.ifacesOut==Tryz.f7.resultTypes.toList.any (Tryz.prog.ifacesRec ·)))=true:=by kernel_rfl
theorem jf21:((Rows.machineChecksRow.loopsOut==Tryz.f7.resultTypes.toList.any (Tryz.prog.loopsFrom ·)))=true:=by kernel_rfl
theorem jf22:((Rows.machineChecksRow.plainKeys==Tryz.prog.plainKeys))=true:=by kernel_rfl
theorem jf23:(Rows.machineChecksRow.shortTexts.isNone)=true:=by kernel_rfl
theorem jf24:(Tryz.prog.stopsHeard)=true:=by kernel_rfl
theorem jf25:(Tryz.prog.mayEnter)=true:=by kernel_rfl
theorem jf26:((Rows.machineChecksRow.lifted==Tryz.prog.liftsFinal))=true:=by kernel_rfl
theorem jf27:((Tryz.prog.make==some Rows.machineChecksRow.make))=true:=by kernel_rfl
theorem jf28:((Rows.machineChecksRow.kinds==(if Rows.machineChecksRow.domain.isEmpty then []else Tryz.f7.params.toList.map fun t=>match Tryz.prog.underlying t with | some (.int k)=>some k | _=>none)))=true:=by kernel_rfl
theorem jf29:((Rows.machineChecksRow.pinned==Rows.machineChecksRow.pinnedBy))=true:=by kernel_rfl
theorem jf30:((Rows.machineChecksRow.veiled==(Tryz.f7.params.toList++Rows.machineChecksSpec.plain.varTypes Tryz.prog++Tryz.f7.resultTypes.toList).any (Tryz.prog.veiledRec ·)))=true:=by kernel_rfl
theorem jf31:(Rows.machineChecksRow.veiledFits Tryz.prog Tryz.f7.params.toList (Tryz.f7.params.toList++Rows.machineChecksSpec.plain.varTypes Tryz.prog++Tryz.f7.resultTypes.toList))=true:=by kernel_rfl
set_option maxRecDepth 100000 in
theorem jf:joinedFacts Tryz.prog 7 Tryz.f7 Rows.machineChecksSpec Rows.machineChecksRow=true:=by
 unfold joinedFacts
 exact (andT (andT (andT (andT (andT (andT (andT (andT (andT (andT (andT (andT (andT (andT (andT (andT (andT (andT (andT (andT (andT (andT (andT (andT (andT (andT (andT (andT (andT (andT (andT jf0 jf1) jf2) jf3) jf4) jf5) jf6) jf7) jf8) jf9) jf10) jf11) jf12) jf13) jf14) jf15) jf16) jf17) jf18) jf19) jf20) jf21) jf22) jf23) jf24) jf25) jf26) jf27) jf28) jf29) jf30) jf31)
theorem hfn:Tryz.prog.funcNamed Rows.machineChecksRow.func=some 7:=by kernel_rfl
theorem V9r:Tryz.f7.isInstance Tryz.prog Rows.machineChecksRow.origin Rows.machineChecksRow.targs:=of_decide_eq_true (by kernel_rfl)
theorem V9s:Tryz.f7.isWrapper Tryz.prog Rows.machineChecksRow.wrapper Rows.machineChecksRow.mainSum:=by unfold Func.isWrapper; first | (rw[if_pos (by decide+kernel)]; kernel_rfl) | (rw[if_neg (by decide+kernel)]; exact ⟨rfl,rfl⟩)
end Go.Proofs.YtahoelmjfgoedaaGreat.machineChecks
namespace Go.Proofs.YtahoelmjfgoedaaGreat.machineChecks
open Go.ChangeShapes Go.WideShapes Go.ChangeAt Go.RowKit Go.Sim
theorem own:ownKnob Tryz.prog.godebug=none:=by kernel_rfl
theorem Ws5:laidOutB Tryz.prog=true:=by kernel_rfl
set_option maxRecDepth 100000 in
theorem lifted(os:Os)(started:os.Started)(H:Type)(enc:TypeId×Value→H):
  ReturnsInHanded {} Tryz.checked os 7 .any (Rows.machineChecksSpec.pre6 enc Tryz.prog Tryz.f7 Rows.machineChecksRow.domain false) (Rows.machineChecksSpec.post enc Tryz.prog Tryz.f7 false true false false):=by
 refine returnsInHanded_of_change (C:=Tryz.checked) own started (by kernel_rfl) Tryz.func7
  (ChangeSpec.witness6 (enc:=enc) (C:=Tryz.checked) false ⟨#[],#[.agg #[.int .i64 0,.int .i64 0,.int .i64 0,.slice none 0 0],.agg #[.int .i64 0,.int .i64 0,.int .i64 0,.int .i64 0,.int .i64 0]],[]⟩ 8 (by kernel_rfl) (by kernel_rfl) (by kernel_rfl) (by kernel_rfl)) ?_
 intro W base args ds gs before hval0 hW hcnd _
 have hval:∀(j:Nat) t v,Tryz.f7.params[j]?=some t→args[j]?=some v→Value.okWide Tryz.prog W .any base t v:=hval0
 have hW':=hW
 obtain ⟨p,q,hA0,hV,rfl,hfz,hnd⟩:=hW
 have hA:DataW.TrodAll enc Tryz.prog W 0 (fun _=>true) true Tryz.f7.params.toList args.toList ds p:=hA0
 rw[Tryz.params7]at hA hval
 obtain ⟨v0,vs0,d0,ds0,p0,q0,hargs,rfl,rfl,h0,r0⟩:=trodAll_cons hA
 obtain ⟨v1,vs1,d1,ds1,p1,q1,rfl,rfl,rfl,h1,r1⟩:=trodAll_cons r0
 obtain ⟨rfl,rfl,rfl⟩:=trodAll_nil r1
 obtain rfl:args= #[v0,v1]:=by cases args; simp_all
 obtain ⟨rfl,rfl⟩:=trodVars_none hV
 obtain ⟨cs0,rfl,hsz0⟩:=okWide_struct Tryz.underlying24 (hval 0 24 v0 rfl rfl)
 have k0:=h0
 have lt0:∀x∈p0,x.block<W.heap.size:=by obtain ⟨m,hm⟩:=k0; exact DataW.trod_lt m _ _ _ hm
 obtain ⟨fuel0,hf0⟩:=h0
 obtain ⟨x0,hx0⟩:=Ws3 fuel0 _ d0 p0 hf0
 obtain ⟨cs1,rfl,hsz1⟩:=okWide_struct Tryz.underlying26 (hval 1 26 v1 rfl rfl)
 have k1:=h1
 have lt1:∀x∈p1,x.block<W.heap.size:=by obtain ⟨m,hm⟩:=k1; exact DataW.trod_lt m _ _ _ hm
 obtain ⟨fuel1,hf1⟩:=h1
 obtain ⟨x1,hx1⟩:=Ws4 fuel1 _ d1 p1 hf1
 have hcall:=Wpv (vs:=[.agg cs0,.agg cs1]) W (Book.run_FS V94 (Wli x0 x1)) ⟨(Wbi (by simpa[Value.cells]using hx0)),(Wbi (by simpa[Value.cells]using hx1)),trivial⟩
 refine hcall.mono fun e W' ⟨he,bel⟩=> ?_
 subst he
 exact ⟨_,rfl,_,_,_,[],_,[],hW',trodAll_mk1 (shut_bool Tryz.underlying4 _),(trodAll_cons_mk (Below.trod Ws5 (by kernel_rfl) (of_decide_eq_true (by kernel_rfl)) k0 bel lt0) (trodAll_cons_mk (Below.trod Ws5 (by kernel_rfl) (of_decide_eq_true (by kernel_rfl)) k1 bel lt1) trodAll_mk0)),rfl,bel.frame _,fun h=>by cases h⟩
theorem proved:Rows.MachineChecksSaid:=
 OpenClaim.holds_of_wide 7 Tryz.f7 rfl rfl rfl rfl rfl rfl rfl ⟨rfl,rfl,rfl,rfl,rfl⟩ rfl rfl rfl rfl rfl hfn Tryz.func7 jf V9r V9s
  (fun os started H enc _=>lifted os started H enc)
#print axioms proved
end Go.Proofs.YtahoelmjfgoedaaGreat.machineChecks
namespace Go.Proofs.YtahoelmjfgoedaaGreat
theorem machineChecks_holds:Rows.MachineChecksSaid:=machineChecks.proved
end Go.Proofs.YtahoelmjfgoedaaGreat
