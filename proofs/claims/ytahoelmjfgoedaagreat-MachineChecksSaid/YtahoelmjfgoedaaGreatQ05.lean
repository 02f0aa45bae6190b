/- Part 5: what the last part leans on. -/
import Derived.Test.YtahoelmjfgoedaaGreatQ04
import Derived.Test.YtahoelmjfgoedaaGreatProg
import Derived.Conc.LoneSelect
import Derived.KernelRfl
import Derived.Laws.Rows
import Derived.IntWalk
set_option linter.unusedVariables false
set_option linter.unusedSimpArgs false
set_option linter.unusedSectionVars false
namespace Go.Sim
open Go.RowKit
variable {P:Program}
abbrev nilX:AX:= .k (.slice none 0 0)
def V4e:ACode:= .seq (.reg [⟨none,some 2,.mv (some 2) nilX⟩]) .ret
def W9i(sz bytes:Nat)(zs:List Value):ACode:= .seq (.reg [⟨none,some 5,.bsl (some 5) sz 0 zs []⟩,⟨none,some 6,.mv (some 6) (.t 0)⟩,⟨none,some 7,.app (some 7) sz bytes (.t 5) (.t 6)⟩,⟨none,some 2,.mv (some 2) (.t 7)⟩]) .ret
def W49(sz bytes:Nat)(zs:List Value):ACode:= .seq (.reg [⟨none,some 2,.mv (some 2) nilX⟩]) (.seq (.seq (.reg [⟨none,some 3,.mv (some 3) (.t 0)⟩,⟨none,some 4,.x (some 4) (.nilq 1 false) [.t 3]⟩]) (.cond (.t 4) V4e .skip)) (W9i sz bytes zs))
theorem Wpw:CallOk P fun _ _ _=>none:=⟨(fun _ _ _ _ _ h=>by cases h),(fun _ _ _ _ _ h=>by cases h)⟩
def W43(sz:Nat)(l:List (List PV))(rg:List Reg)(r:AV)(rg':List Reg):Prop:=
 (l=[]∧r= .c (.p nilS)∧rg'=rg)∨(r= .c (.own (rg.length+1) 0 sz l.length .free)∧rg'=rg++[.dead,.pc sz l])
theorem Wpx{f sz bytes:Nat}{zs:List Value}(hT:trF P f=some ⟨8,W49 sz bytes zs,[.tmp 2]⟩)(l:List (List PV))(hm:l.length≤140737488355328)(hb:l.length*bytes≤140737488355328)(rg:List Reg):
  FS P f [Sl sz l] rg (W43 sz l rg):=by
 obtain ⟨fn,hfn,hf2⟩:=Z0.1 hT
 split at hf2
 rotate_left
 ·cases hf2
 rename_i hname
 obtain ⟨c,hbd,hf3⟩:=Z0.1 hf2
 obtain ⟨ac,htr,hf4⟩:=Z0.1 hf3
 obtain ⟨rs,hrs,he⟩:=Z1.1 hf4
 injection he with e1 e2 e3
 subst e2 e3
 refine Wnr hfn hname hbd _ hrs htr (by rw[e1]; simp) ?_
 have hB:∀s:St,s.regs=rg→lk s.slots 0=Sl sz l→W2p P rg.length none (W9i sz bytes zs) (Fin2 P rg.length [.tmp 2] (W43 sz l rg)) s:=by
  intro s hs h0
  obtain ⟨sl,rg'⟩:=s
  simp only at hs h0
  subst hs
  have hev:evalG P W02 (fun _ _ _=>none) false rg'.length (W9i sz bytes zs) (.n (.l [2]) (.l [])) ⟨sl,rg'⟩=some (.ret,⟨[(2,.c (.own (rg'.length+1) 0 sz l.length .free))],rg'++[.dead,.pc sz l]⟩):=by
   simp[W9i,h0,vapp,W3p,W15,W1i,szOf,hm,hb]
  refine W1q (W9a LpOk.R Wpw (fun _=>rfl) _ _ _ _ _ hev) fun e1 s1 hs=> ?_
  obtain ⟨rfl,hw⟩:=hs
  exact Fin2.weak (.inr rfl) hw (vs:=[.c (.own (rg'.length+1) 0 sz l.length .free)]) (by simp) (.inr ⟨rfl,rfl⟩)
 refine W2k fun K hK=>W3b (hK _ ?_)
 refine W2k fun K2 hK2=> ?_
 refine W2k fun K3 hK3=>W3b ?_
 cases l with
 | cons x l=>
  simp only[opsW,itW,opW,St.put,St.putr,St.ev,W0w,lk,Zh,Y9,xW,W4g,if_true,Wkd]
  refine hK3 _ ?_
  refine W2h (t:=false) rfl (fun h=>by cases h) (fun _=>W3o ?_)
  exact hK2 _ (hB _ rfl rfl)
 | nil=>
  simp only[opsW,itW,opW,St.put,St.putr,St.ev,W0w,lk,Zh,Y9,xW,W4g,Wcv,if_true,Wkd]
  refine ⟨by simp,?_,?_⟩
  ·refine hK3 _ ?_
   refine W2h (t:=true) rfl (fun _=> ?_) (fun h=>by cases h)
   refine W2k fun K4 hK4=>W3b (hK4 _ ?_)
   refine W8n ?_
   exact Fin2.weak (.inr rfl) (Weak.refl _ _) (vs:=[.c (.p nilS)]) (by rfl) (.inl ⟨rfl,rfl,rfl⟩)
  ·refine hK3 _ ?_
   refine W2h (t:=false) rfl (fun h=>by cases h) (fun _=>W3o ?_)
   exact hK2 _ (hB _ rfl rfl)
theorem Weak.nilRow{n0:Nat}{rg:List Reg}{sz:Nat}(hz:0<sz):Weak P n0 ⟨[(0,.c (.p nilS))],rg⟩ ⟨[(0,.c (.own rg.length 0 sz 0 .free))],rg++[.pc sz []]⟩:=by
 intro N w0 env0 bad0 fps base a w hn hR
 obtain ⟨⟨env,hrs,hsl,hev⟩,hsz,hdf⟩:=hR
 obtain ⟨hrs',hev'⟩:=hrs.push_nil sz hz
 refine ⟨⟨env.push none,hrs',fun n=> ?_,hev.trans hev'⟩,hsz,hdf⟩
 have h0:VRel w env (W04 base env rg) (.c (.p nilS)) (a.tmps.getD 0 undef):=hsl 0
 by_cases e:n=0
 ·subst e
  show VRel w _ _ (.c (.own rg.length 0 sz 0 .free)) (a.tmps.getD 0 undef)
  rw[(W1w h0 (x:= .slice none 0 0) rfl).1]
  have hl:env.n=rg.length:=hrs.len
  refine .c ⟨?_,.inl ⟨?_,rfl,rfl,rfl⟩⟩
  ·show rg.length<env.n+1
   omega
  ·rw[←hl]
   exact Env.push_at env none
 ·have:lk [(0,(.c (.own rg.length 0 sz 0 .free):AV))] n= .c .any:=by
   simp[lk,Ne.symm e]
  show VRel w _ _ (lk [(0,(.c (.own rg.length 0 sz 0 .free):AV))] n) _
  rw[this]
  exact .c trivial
theorem Wz5{rg:List Reg}{m:Nat}{x:Reg}(h:rg[m]?=some x)(l:List Reg):(rg++l)[m]?=some x:=by
 rw[Zp (Z3.1 h).1]; exact h
theorem Wky{f sz bytes:Nat}{zs:List Value}(hT:trF P f=some ⟨8,W49 sz bytes zs,[.tmp 2]⟩)(id off len:Nat)(cap:Cap)(L:List (List PV))(hm:len≤140737488355328)(hb:len*bytes≤140737488355328)(rg:List Reg)(hr:rg[id]?=some (.pc sz L))(hL:off+len≤L.length):
  FS P f [.c (.own id off sz len cap)] rg (W43 sz ((L.drop off).take len) rg):=by
 have hll:((L.drop off).take len).length=len:=by simp; omega
 obtain ⟨fn,hfn,hf2⟩:=Z0.1 hT
 split at hf2
 rotate_left
 ·cases hf2
 rename_i hname
 obtain ⟨c,hbd,hf3⟩:=Z0.1 hf2
 obtain ⟨ac,htr,hf4⟩:=Z0.1 hf3
 obtain ⟨rs,hrs,he⟩:=Z1.1 hf4
 injection he with e1 e2 e3
 subst e2 e3
 refine Wnr hfn hname hbd _ hrs htr (by rw[e1]; simp) ?_
 have hB:∀s:St,s.regs=rg→lk s.slots 0= .c (.own id off sz len cap)→W2p P rg.length none (W9i sz bytes zs) (Fin2 P rg.length [.tmp 2] (W43 sz ((L.drop off).take len) rg)) s:=by
  intro s hs h0
  obtain ⟨sl,rg'⟩:=s
  simp only at hs h0
  subst hs
  have hg:=Wz5 hr [Reg.pc sz []]
  have hev:evalG P W02 (fun _ _ _=>none) false rg'.length (W9i sz bytes zs) (.n (.l [2]) (.l [])) ⟨sl,rg'⟩=some (.ret,⟨[(2,.c (.own (rg'.length+1) 0 sz len .free))],rg'++[.dead,.pc sz ((L.drop off).take len)]⟩):=by
   have hmin:len=min len (L.length-off):=by omega
   simp[W9i,h0,vapp,W3p,W15,W1i,szOf,hm,hb,hg,←hmin]
  refine W1q (W9a LpOk.R Wpw (fun _=>rfl) _ _ _ _ _ hev) fun e1 s1 hs=> ?_
  obtain ⟨rfl,hw⟩:=hs
  exact Fin2.weak (.inr rfl) hw (vs:=[.c (.own (rg'.length+1) 0 sz len .free)]) (by simp) (.inr ⟨by rw[hll]; rfl,rfl⟩)
 refine W2k fun K hK=>W3b (hK _ ?_)
 refine W2k fun K2 hK2=> ?_
 refine W2k fun K3 hK3=>W3b ?_
 cases len with
 | succ len=>
  simp only[opsW,itW,opW,St.put,St.putr,St.ev,W0w,lk,Zh,Y9,xW,W4g,if_true,Wkd]
  refine hK3 _ ?_
  refine W2h (t:=false) rfl (fun h=>by cases h) (fun _=>W3o ?_)
  exact hK2 _ (hB _ rfl rfl)
 | zero=>
  simp only[opsW,itW,opW,St.put,St.putr,St.ev,W0w,lk,Zh,Y9,xW,W4g,Wcv,if_true,Wkd]
  refine ⟨by simp,?_,?_⟩
  ·refine hK3 _ ?_
   refine W2h (t:=true) rfl (fun _=> ?_) (fun h=>by cases h)
   refine W2k fun K4 hK4=>W3b (hK4 _ ?_)
   refine W8n ?_
   exact Fin2.weak (.inr rfl) (Weak.refl _ _) (vs:=[.c (.p nilS)]) (by rfl) (.inl ⟨rfl,rfl,rfl⟩)
  ·refine hK3 _ ?_
   refine W2h (t:=false) rfl (fun h=>by cases h) (fun _=>W3o ?_)
   exact hK2 _ (hB _ rfl rfl)
theorem Wc7{f sz:Nat}{x:AV}(hz:0<sz){l:List (List PV)}{rg:List Reg}(hm:l.length≤140737488355328)(hw:wf rg)(h:FS P f [x] rg (W43 sz l rg)):FS P f [x] rg fun r rg'=>r=Sl sz l∧rg'=rg:=by
 refine h.post fun r rg' h=> ?_
 have key:Wc2 rg.length [[.sl sz []]] (r,rg')=(Sl sz l,rg):=by
  have hwa:rg.all (W18 rg.length)=true:=hw
  rcases h with ⟨rfl,rfl,rfl⟩ | ⟨rfl,rfl⟩
  ·simp[Wc2,hz,hwa]
  ·have h2:l.length≤9223372036854775807:=by omega
   simp[Wc2,hwa,h2]
 have:=Wav (P:=P) rg.length [[.sl sz []]] (r,rg')
 rw[key]at this
 exact ⟨_,_,this,rfl,rfl⟩
theorem Wep{f sz:Nat}{x:AV}(hz:0<sz){l:List (List PV)}{rg:List Reg}(hw:wf rg)(h:FS P f [x] rg (W43 sz l rg)):FS P f [x] rg fun r rg'=>r= .c (.own rg.length 0 sz l.length .free)∧rg'=rg++[.pc sz l]:=by
 refine h.post fun r rg' h=> ?_
 rcases h with ⟨rfl,rfl,rfl⟩ | ⟨rfl,rfl⟩
 ·exact ⟨_,_,Weak.nilRow hz,rfl,rfl⟩
 ·have h1:=We3 (P:=P) rg.length (.c (.own (rg.length+1) 0 sz l.length .free),rg++[.dead,.pc sz l])
  have key:finQ rg.length (.c (.own (rg.length+1) 0 sz l.length .free),rg++[.dead,.pc sz l])=(.c (.own rg.length 0 sz l.length .free),rg++[.pc sz l]):=by
   have d1:W3l (rg.length+1) ⟨[(0,.c (.own (rg.length+1) 0 sz l.length .free))],rg++[.dead,.pc sz l]⟩=⟨[(0,.c (.own (rg.length+1) 0 sz l.length .free))],rg++[.dead,.pc sz l]⟩:=by
    rw[W7q hw]
    simp[W1s]
   have d0:W3l (rg.length+0) ⟨[(0,.c (.own (rg.length+1) 0 sz l.length .free))],rg++[.dead,.pc sz l]⟩=⟨[(0,.c (.own rg.length 0 sz l.length .free))],rg++[.pc sz l]⟩:=by
    rw[W7q hw]
    simp[W1s,slNe,avNe,acNe,Wa4,W96,lkF,W0u,W12,dnR,W0p]
   have hl:(rg++[Reg.dead,.pc sz l]).length-rg.length=2:=by simp
   have hne:¬(rg++[Reg.dead,.pc sz l]).length=rg.length:=by simp
   simp only[finQ,hne,if_false,cmpP,hl,cmpS,d1,d0,lkF]
   rfl
  rw[key]at h1
  exact ⟨_,_,h1,rfl,rfl⟩
end Go.Sim
namespace Go.Sim
open Go.Conc Go.RowKit Go.Proofs
def zE:Value:= .agg #[.int .i64 0,.int .i64 0,.int .i64 0,.int .i64 0,.int .i64 0,.int .i64 0,.int .i64 0,.int .i64 0]
def zA:Array Value:= #[.int .i64 0,.int .i64 0,.int .i64 0,.int .i64 0,.int .i64 0,.int .i64 0,.int .i64 0,.int .i64 0]
def zC:Obj:= .cells zA 165
theorem Wz6:∃i,Tryz.prog.info? 165=some i∧i.size=8:=by
 have h:(Tryz.prog.info? 165).map (·.size)=some 8:=by kernel_rfl
 obtain ⟨i,hi,hb⟩:=Z1.1 h
 exact ⟨i,hi,hb⟩
set_option maxRecDepth 100000 in
theorem Wpy(w:World)(c cap s r:Nat)(buf:Array Value)(x0 x1 x2 x3 x4 x5 x6 x7:Value)(hc:w.heap[c]?=some (.chan cap buf false s r false))(hroom:buf.size<cap):
  Calls Tryz.prog 227 #[.chan (some c),.agg #[x0,x1,x2,x3,x4,x5,x6,x7]] w fun e w'=>e= .returned (.bool true)∧w'=(w.alloc (.cells #[x0,x1,x2,x3,x4,x5,x6,x7] 165)).setChan c cap (buf.push (.agg #[x0,x1,x2,x3,x4,x5,x6,x7])) false (s+1) r false:=by
 refine calls_of_loneTo fun cs=> ?_
 have e:Frame.enter Tryz.prog 227 #[.chan (some c),.agg #[x0,x1,x2,x3,x4,x5,x6,x7]] .normal=(base 227).at ⟨#[.chan (some c),.agg #[x0,x1,x2,x3,x4,x5,x6,x7],undef,undef,undef,undef,undef,undef,undef,undef],[]⟩ [.code (Tryz.f227.body.getD .skip)]:=by
  simp[Frame.enter,Frame.at,Tryz.func227,base,Tryz.f227]
 rw[e]
 have hcl:c<w.heap.size:=by
  rcases Ys c w.heap.size with h | h
  ·exact h
  ·rw[Xj h]at hc; cases hc
 refine LoneTo.goes (n:=40) ?_
 simp only[Tryz.f227,Option.getD_some]
 s_c stepG_seq
 s_reg
 s_op
 s_op
 s_c stepG_region_end
 s_c stepG_seq
 s_c stepG_seq
 s_c stepG_seq
 s_reg
 s_op
 s_c stepG_region_end
 s_reg
 s_op
 s_c stepG_region_end
 s_c stepG_seq
 s_reg
 s_stop
 refine LoneTo.step (step_lone_select_send_room (c:=c) (cap:=cap) (buf:=buf) (s:=s) (r:=r) (tm:=false) (v:= .agg #[x0,x1,x2,x3,x4,x5,x6,x7]) (z':=zE) (stepG_comm (cases:= #[scase c (.agg #[x0,x1,x2,x3,x4,x5,x6,x7]) zE]) (blocking:=false) (shape:= .select) (w':=w.alloc (.cells #[x0,x1,x2,x3,x4,x5,x6,x7] 165)) rfl rfl (by decide) (by simp[go_sem,execOp,scase,Act.eval,zE])) (by rw[Xy _ _ _ hcl]; exact hc) hroom) ?_
 rw[Frame.finish_at]
 walk_nrm
 refine LoneTo.goes (n:=30) ?_
 s_op
 s_op
 s_c stepG_region_end
 s_c stepG_block
 s_cond true
 s_c stepG_seq
 s_reg
 s_op
 s_c stepG_region_end
 s_c stepG_ret'
 s_stop
 exact LoneTo.done ⟨.returned (.bool true),_,rfl,⟨rfl,rfl⟩,rfl,rfl,rfl,rfl,_,Tryz.func227,by simp[results,Tryz.f227,Frame.at]⟩
set_option maxRecDepth 100000 in
theorem Wtu(w:World)(c cap s r:Nat)(buf:Array Value)(y0 y1 y2 y3 y4 y5 y6 y7:Value)(hc:w.heap[c]?=some (.chan cap buf false s r false))(hsome:0<buf.size)(hone:∀v∈[y0,y1,y2,y3,y4,y5,y6,y7],v.oneCell'=true)(hy:buf.getD 0 undef= .agg #[y0,y1,y2,y3,y4,y5,y6,y7]):
  Calls Tryz.prog 242 #[.chan (some c)] w fun e w'=>e= .returned (.tuple #[.agg #[y0,y1,y2,y3,y4,y5,y6,y7],.bool true])∧w'=((w.alloc zC).setChan c cap (buf.extract 1 buf.size) false s (r+1) false).setRow w.heap.size #[y0,y1,y2,y3,y4,y5,y6,y7]:=by
 refine calls_of_loneTo fun cs=> ?_
 have e:Frame.enter Tryz.prog 242 #[.chan (some c)] .normal=(base 242).at ⟨#[.chan (some c),undef,undef,undef,undef,undef,undef,undef,undef,undef,undef],[]⟩ [.code (Tryz.f242.body.getD .skip)]:=by
  simp[Frame.enter,Frame.at,Tryz.func242,base,Tryz.f242]
 rw[e]
 obtain ⟨ti,hti,hsz⟩:=Wz6
 have hcl:c<w.heap.size:=by
  rcases Ys c w.heap.size with h | h
  ·exact h
  ·rw[Xj h]at hc; cases hc
 refine LoneTo.goes (n:=40) ?_
 simp only[Tryz.f242,Option.getD_some]
 s_c stepG_seq
 s_reg
 s_op
 s_op
 s_c stepG_region_end
 s_c stepG_seq
 s_c stepG_seq
 s_reg
 s_op
 s_c stepG_region_end
 s_c stepG_seq
 s_reg
 s_stop
 refine LoneTo.step (step_lone_select_recv_buf (c:=c) (cap:=cap) (buf:=buf) (s:=s) (r:=r) (tm:=false) (closed:=false) (z:=zE) (stepG_comm (cases:= #[rcase c zE]) (blocking:=false) (shape:= .select) (w':=w.alloc zC) rfl rfl (by decide) (by simp[go_sem,execOp,rcase,Act.eval,zE,zC,zA])) (by rw[Xy _ _ _ hcl]; exact hc) hsome) ?_
 rw[Frame.finish_at,hy]
 walk_nrm
 refine LoneTo.goes (n:=30) ?_
 s_op
 s_op
 s_c stepG_region_end
 s_c stepG_block
 s_cond true
 s_c stepG_seq
 s_reg
 s_op
 have hst:∀(a:Act) (W:World) (cur:Array Value) (o:Oper) (x y:Operand),o.op= .store 165 x y→a.eval x= .pointer (some ⟨w.heap.size,0,none⟩)→a.eval y= .agg #[y0,y1,y2,y3,y4,y5,y6,y7]→W.heap[w.heap.size]?=some (.cells cur 165 (0,0))→cur.size=8→
   (execOp a.eval o).run Tryz.prog W= .ok .skip (W.setRow w.heap.size #[y0,y1,y2,y3,y4,y5,y6,y7]):=by
  intro a W cur o x y ho ex ey hg hc8
  have h:=W5u (w:=W) (P:=Tryz.prog) ho hti ex ey hg (by simp[hsz,Value.cells]) (by rw[hsz,hc8]; decide) (by simpa[Value.cells]using hone)
  rw[hsz]at h
  have hd:List.drop 8 cur.toList=[]:=List.drop_of_length_le (by simp[hc8])
  simpa[Value.cells,hc8,hd]using h
 have hcell:∀(W:World),W.heap[w.heap.size]?=some (.cells #[y0,y1,y2,y3,y4,y5,y6,y7] 165 (0,0))→∀j v,[y0,y1,y2,y3,y4,y5,y6,y7][j]?=some v→W.cell? ((⟨w.heap.size,0,none⟩:Addr).add j)=some v:=by
  intro W hg j v hj
  have:(⟨w.heap.size,0,none⟩:Addr).add j=⟨w.heap.size,j,none⟩:=by unfold Addr.add; split<;>simp_all
  rw[this]
  simp only[World.cell?,hg]
  simpa using hj
 have hld:∀(a:Act) (W:World) (o:Oper) (x:Operand),o.op= .load 165 x→a.eval x= .pointer (some ⟨w.heap.size,0,none⟩)→W.heap[w.heap.size]?=some (.cells #[y0,y1,y2,y3,y4,y5,y6,y7] 165 (0,0))→
   (execOp a.eval o).run Tryz.prog W= .ok (.value (.agg #[y0,y1,y2,y3,y4,y5,y6,y7])) W:=by
  intro a W o x ho ex hg
  exact W5t ho Tryz.underlying165 hti ex (vs:=[y0,y1,y2,y3,y4,y5,y6,y7]) (by rw[hsz]; rfl) (hcell W hg) (fun _=>rfl) (fun h=>by cases h)
 have hlv:∀(W:World),W.heap[w.heap.size]?=some (.cells #[y0,y1,y2,y3,y4,y5,y6,y7] 165 (0,0))→(loadVar 165 ⟨w.heap.size,0,none⟩).run Tryz.prog W= .ok (.agg #[y0,y1,y2,y3,y4,y5,y6,y7]) W:=by
  intro W hg
  have hr:=run_loadCells_list (P:=Tryz.prog) (w:=W) ⟨w.heap.size,0,none⟩ [y0,y1,y2,y3,y4,y5,y6,y7] (hcell W hg)
  rw[show [y0,y1,y2,y3,y4,y5,y6,y7].length=ti.size by rw[hsz]; rfl]at hr
  simp[loadVar,W23 Tryz.underlying165,aggD,W10 hti,hr]
 have h0:((w.alloc zC).setChan c cap (buf.extract 1 buf.size) false s (r+1) false).heap[w.heap.size]?=some (.cells zA 165 (0,0)):=by
  simp only[World.setChan]
  rw[X7 (by omega)]
  exact Xi _ _
 generalize hW0:(w.alloc zC).setChan c cap (buf.extract 1 buf.size) false s (r+1) false=W0 at*
 s_in
 refine goes_oper_k rfl rfl (by decide) (fun K hK=> ?_)
 rw[hst _ W0 zA _ (.tmp 2) (.tmp 8) rfl rfl rfl h0 rfl]
 refine hK _ _ ⟨trivial,?_⟩
 clear hK K
 walk_nrm
 have h1:(W0.setRow w.heap.size #[y0,y1,y2,y3,y4,y5,y6,y7]).heap[w.heap.size]?=some (.cells #[y0,y1,y2,y3,y4,y5,y6,y7] 165 (0,0)):=setRow_heap _ _ _ _ _ _ h0
 generalize hW1:W0.setRow w.heap.size #[y0,y1,y2,y3,y4,y5,y6,y7]=W1 at*
 s_c stepG_region_end
 s_reg
 s_op
 s_c stepG_region_end
 s_c stepG_inBlock
 s_c stepG_seq
 s_reg
 s_in
 refine goes_oper_k rfl rfl (by decide) (fun K hK=> ?_)
 rw[hld _ W1 _ (.tmp 2) rfl rfl h1]
 refine hK _ _ ⟨trivial,?_⟩
 clear hK K
 walk_nrm
 s_op
 s_in
 refine goes_oper_k rfl rfl (by decide) (fun K hK=> ?_)
 rw[hst _ W1 #[y0,y1,y2,y3,y4,y5,y6,y7] _ (.tmp 2) (.tmp 9) rfl rfl rfl h1 rfl]
 refine hK _ _ ⟨trivial,?_⟩
 clear hK K
 walk_nrm
 have h2:W1.setRow w.heap.size #[y0,y1,y2,y3,y4,y5,y6,y7]=W1:=setRow_self _ _ _ _ _ h1
 rw[h2]
 s_op
 s_c stepG_region_end
 s_c stepG_ret'
 s_stop
 refine LoneTo.done ⟨.returned (.tuple #[.agg #[y0,y1,y2,y3,y4,y5,y6,y7],.bool true]),_,rfl,⟨rfl,?_⟩,rfl,rfl,rfl,rfl,_,Tryz.func242,?_⟩
 ·rw[←hW1,←hW0]
 ·have:=hlv W1 h1
  simp[results,Tryz.f242,Frame.at,asAddr,this]
theorem Wj2{α:Type}{a:Array α}{x y:α}{g:Nat}(h:g<a.size):(a.push x).setIfInBounds g y=(a.setIfInBounds g y).push x:=by
 apply Array.ext'
 simp[Yd,h]
theorem Wtv{α:Type}{a:Array α}{x:α}{f:α→α}{n:Nat}(h:n=a.size):(a.push x).modify n f=a.push (f x):=by
 subst h
 apply Array.ext
 ·simp
 ·intro i h1 h2
  rw[Array.getElem_modify]
  by_cases hi:a.size=i
  ·subst hi; simp
  ·rw[if_neg hi,Array.getElem_push_lt (by simp at h2; omega),Array.getElem_push_lt (by simp at h2; omega)]
theorem Wgc{w:World}{g:Nat}{o:Obj}(h:w.heap[g]?=some o):g<w.heap.size:=by
 rcases Ys g w.heap.size with h' | h'
 ·exact h'
 ·rw[Xj h']at h; cases h
theorem cmap{w:World}{env:Env}{bad:Nat→Prop}:∀{p:List PV} {vs:List Value},All2 (PRel w bad) p vs→All2 (CRel w env bad) (p.map .p) vs
 | [],[],_=>trivial
 | [],_::_,h=>h.elim
 | _::_,[],h=>h.elim
 | _::_,_::_,⟨h,k⟩=>⟨h,cmap k⟩
theorem V4f{α:Type}{l:List α}(h:l.length=8):∃a b c d e f g i,l=[a,b,c,d,e,f,g,i]:=by
 match l,h with
 | [a,b,c,d,e,f,g,i],_=>exact ⟨a,b,c,d,e,f,g,i,rfl⟩
theorem RS.chan{P:Program}{w0 w w':World}{fps:List Nat}{base:Nat→Prop}{env:Env}{regs:List Reg}(hrs:RS P w0 w fps base env regs){id g c room s r:Nat}{q q':List PW}{buf:Array Value}{o:Obj}
  (hr:regs[id]?=some (.ob (.ch room q))) (he:env.f id=some (g,c)) (hg:g<w.heap.size)
  (hq:∀{w2:World} {env2:Env} {bad2:Nat→Prop},Ev w env (W04 base env regs) w2 env2 bad2→All2 (WRel w2 bad2) q' buf.toList)
  (hh:w'.heap=(w.heap.setIfInBounds g (.chan room buf false s r false)).push o) (ho:w'.os=w.os) (ht:w'.tape=w.tape) (hp:w'.output=w.output):
  RS P w0 w' fps base env (regs.set id (.ob (.ch room q')))∧Ev w env (W04 base env regs) w' env (W04 base env (regs.set id (.ob (.ch room q')))):=by
 obtain ⟨h1,e1⟩:=hrs.turn (w':={w with heap:=w.heap.setIfInBounds g (.chan room buf false s r false)}) (r':= .ob (.ch room q')) hr rfl he rfl rfl rfl (by simp) (fun b hb=>by simp[X7 (Ne.symm hb)]) rfl (fun hev=>
  ⟨g,c,he,buf,s,r,by simp[hg],hq hev⟩)
 obtain ⟨h2,e2⟩:=h1.grow o
 have h3:=h2.draw (w':=w') (by rw[hh]; rfl) (by rw[ho]; rfl) (by rw[ht]; rfl) (by rw[hp]; rfl)
 refine ⟨h3,?_⟩
 have e3:=e1.trans e2
 have hw:(World.alloc {w with heap:=w.heap.setIfInBounds g (.chan room buf false s r false)} o).heap=w'.heap:=by rw[hh]; rfl
 exact ⟨⟨by rw[←hw]; exact e3.same.size,fun b hb hn=>by rw[←hw]; exact e3.same.block b hb hn⟩,e3.sub,e3.le⟩
theorem Wz7{id room:Nat}{q:List PW}{p:List PV}{rg:List Reg}(hr:rg[id]?=some (.ob (.ch room q)))(hroom:q.length<room)(hp:p.length=8):
  FS Tryz.prog 227 [.c (.hnd .ch id),.agg (p.map .p)] rg fun r rg'=>r= .c (.p (.v (.bool true)))∧rg'=rg.set id (.ob (.ch room (q++[(true,p)]))):=by
 refine ⟨⟨_,Tryz.func227,by kernel_rfl,rfl⟩,fun w fps base env vs hrs hvs=> ?_⟩
 match vs,hvs with
 | [u0,u1],⟨h0,h1,_⟩=>
  obtain ⟨g,c,he,rfl⟩:=W60 h0
  obtain ⟨g',c',he',buf,s,r,hg,hq⟩:=hrs.reg id _ hr
  rw[he]at he'
  cases he'
  cases h1 with
  | agg h1 hk=>
   rename_i ws
   have h1':All2 (PRel w (W04 base env rg)) p ws:=(All2.unmap' h1).imp fun _ _ h=>h
   have h8:ws.length=8:=by rw[←h1'.len,hp]
   obtain ⟨y0,y1,y2,y3,y4,y5,y6,y7,rfl⟩:=V4f h8
   have hbl:buf.size=q.length:=by have:=hq.len; simpa using this.symm
   refine (Wpy w g room s r buf y0 y1 y2 y3 y4 y5 y6 y7 hg (by omega)).mono fun e w' ⟨e1,e2⟩=> ?_
   obtain ⟨h2,h3⟩:=hrs.chan (w':=w') (q':=q++[(true,p)]) (buf:=buf.push (.agg #[y0,y1,y2,y3,y4,y5,y6,y7])) (s:=s+1) (r:=r) (o:= .cells #[y0,y1,y2,y3,y4,y5,y6,y7] 165) hr he (Wgc hg)
    (fun hev=>by
     rw[Array.toList_push]
     exact (hq.imp fun _ _ h=>WRel.imp (fun _ _ r=>PRel.ev hev r) h).append ⟨⟨[y0,y1,y2,y3,y4,y5,y6,y7],rfl,h1'.imp fun _ _ r=>PRel.ev hev r⟩,trivial⟩)
    (by rw[e2]; simp only[World.setChan,World.alloc]; rw[Wj2 (Wgc hg)]) (by rw[e2]; rfl) (by rw[e2]; rfl) (by rw[e2]; rfl)
   exact ⟨_,_,_,env,e1,⟨rfl,rfl⟩,h2,W25 rfl,h3⟩
theorem V4g{id room:Nat}{q:List PW}{p:List PV}{rg:List Reg}(hr:rg[id]?=some (.ob (.ch room ((true,p)::q))))(hp:p.length=8):
  FS Tryz.prog 242 [.c (.hnd .ch id)] rg fun r rg'=>r= .tup [.agg (p.map .p),.c (.p (.v (.bool true)))]∧rg'=rg.set id (.ob (.ch room q)):=by
 refine ⟨⟨_,Tryz.func242,by kernel_rfl,rfl⟩,fun w fps base env vs hrs hvs=> ?_⟩
 match vs,hvs with
 | [u0],⟨h0,_⟩=>
  obtain ⟨g,c,he,rfl⟩:=W60 h0
  obtain ⟨g',c',he',buf,s,r,hg,hq⟩:=hrs.reg id _ hr
  rw[he]at he'
  cases he'
  obtain ⟨bl⟩:=buf
  match bl,hq with
  | u::us,⟨⟨ws,hu,h1'⟩,hq'⟩=>
   have h8:ws.length=8:=by rw[←h1'.len,hp]
   obtain ⟨y0,y1,y2,y3,y4,y5,y6,y7,rfl⟩:=V4f h8
   subst hu
   have hone:∀v∈[y0,y1,y2,y3,y4,y5,y6,y7],v.oneCell'=true:=by
    intro v hv
    obtain ⟨i,hi,rfl⟩:=List.getElem_of_mem hv
    exact PRel.one (h1'.get i (by rw[h1'.len]; exact hi) hi)
   refine (Wtu w g room s r ⟨_::us⟩ y0 y1 y2 y3 y4 y5 y6 y7 hg (by simp) hone rfl).mono fun e w' ⟨e1,e2⟩=> ?_
   have hgl:=Wgc hg
   obtain ⟨h2,h3⟩:=hrs.chan (w':=w') (q':=q) (buf:=⟨us⟩) (s:=s) (r:=r+1) (o:= .cells #[y0,y1,y2,y3,y4,y5,y6,y7] 165) hr he hgl
    (fun hev=>hq'.imp fun _ _ h=>WRel.imp (fun _ _ r=>PRel.ev hev r) h)
    (by
     rw[e2]
     simp only[World.setChan,World.alloc,World.setRow,zC]
     rw[Wj2 hgl,Wtv (by simp)]
     simp) (by rw[e2]; rfl) (by rw[e2]; rfl) (by rw[e2]; rfl)
   refine ⟨_,_,_,env,e1,⟨rfl,rfl⟩,h2,?_,h3⟩
   refine .tup (vs:=[.agg #[y0,y1,y2,y3,y4,y5,y6,y7],.bool true]) rfl fun i k1 k2=> ?_
   match i,k1 with
   | 0,_=>exact .agg (vs:=[y0,y1,y2,y3,y4,y5,y6,y7]) (cmap (h1'.imp fun _ _ r=>PRel.ev h3 r)) (by simp[AC.known])
   | 1,_=>exact W25 rfl
end Go.Sim
namespace Go.Sim
open Go.RowKit Go.Proofs.YtahoelmjfgoedaaGreat.T Go.Proofs.YtahoelmjfgoedaaGreat.B
theorem V8q:trF Go.Proofs.Tryz.prog 191=some ⟨8,W49 1 8 [.int .i64 0],[.tmp 2]⟩:=by kernel_rfl
theorem V8r:trF Go.Proofs.Tryz.prog 192=some ⟨8,W49 3 24 [.int .i64 0,.int .i64 0,.int .i64 0],[.tmp 2]⟩:=by kernel_rfl
theorem V8s:trF Go.Proofs.Tryz.prog 134=some ⟨8,W49 5 40 [.int .i64 0,.int .i64 0,.int .i64 0,.int .i64 0,.int .i64 0],[.tmp 2]⟩:=by kernel_rfl
theorem V8t:trF Go.Proofs.Tryz.prog 153=some ⟨8,W49 10 80 [.int .i64 0,.int .i64 0,.int .i64 0,.int .i64 0,.int .i64 0,.int .i64 0,.int .i64 0,.int .i64 0,.int .i64 0,.int .i64 0],[.tmp 2]⟩:=by kernel_rfl
theorem V8u:trF Go.Proofs.Tryz.prog 246=some ⟨8,W49 3 24 [.int .i64 0,.int .i64 0,.int .i64 0],[.tmp 2]⟩:=by kernel_rfl
theorem V8v:trF Go.Proofs.Tryz.prog 205=some ⟨8,W49 3 24 [.int .i64 0,.int .i64 0,.int .i64 0],[.tmp 2]⟩:=by kernel_rfl
theorem V8w:trF Go.Proofs.Tryz.prog 207=some ⟨8,W49 1 8 [.int .i64 0],[.tmp 2]⟩:=by kernel_rfl
open Classical in
noncomputable def cutO (sz:Nat) (rg:List Reg):AC→Option (List (List PV))
 | .p (.sl sz' l)=>if sz'=sz∧l.length≤1000000∧wf rg then some l else none
 | .own id off sz' len cap=>match rg[id]? with
  | some (.pc sz'' L)=>if sz'=sz∧sz''=sz∧off+len≤L.length∧len≤1000000∧wf rg then some ((L.drop off).take len)else none
  | _=>none
 | _=>none
theorem Wc8{sz:Nat}{l:List (List PV)}{rg:List Reg}(h:l.length≤1000000)(hw:wf rg):cutO sz rg (.p (.sl sz l))=some l:=if_pos ⟨rfl,h,hw⟩
theorem Wj3{sz id off len:Nat}{cap:Cap}{L:List (List PV)}{rg:List Reg}(hr:rg[id]?=some (.pc sz L))(hL:off+len≤L.length)(h:len≤1000000)(hw:wf rg):cutO sz rg (.own id off sz len cap)=some ((L.drop off).take len):=by
 unfold cutO
 simp only[hr]
 exact if_pos ⟨_root_.rfl,_root_.rfl,hL,h,hw⟩
theorem Wpz{f sz bytes:Nat}{zs:List Value}(hT:trF Go.Proofs.Tryz.prog f=some ⟨8,W49 sz bytes zs,[.tmp 2]⟩)(hb:bytes≤100){x:AC}{l:List (List PV)}{rg:List Reg}(h:cutO sz rg x=some l):FS Go.Proofs.Tryz.prog f [.c x] rg (W43 sz l rg)∧l.length≤1000000∧wf rg:=by
 unfold cutO at h
 split at h
 ·rename_i sz' l'
  split at h
  ·rename_i hc
   cases h
   obtain ⟨rfl,h1,h2⟩:=hc
   exact ⟨Wpx hT _ (by omega) (Y5 (Nat.mul_le_mul h1 hb) (by decide)) rg,h1,h2⟩
  ·cases h
 ·rename_i id off sz' len cap
  split at h
  ·rename_i sz'' L hr
   split at h
   ·rename_i hc
    cases h
    obtain ⟨rfl,rfl,h1,h2,h3⟩:=hc
    exact ⟨Wky hT id off len cap L (by omega) (Y5 (Nat.mul_le_mul h2 hb) (by decide)) rg hr h1,by simp; omega,h3⟩
   ·cases h
  ·cases h
 ·cases h
theorem W7r{f sz bytes:Nat}{zs:List Value}(hT:trF Go.Proofs.Tryz.prog f=some ⟨8,W49 sz bytes zs,[.tmp 2]⟩)(hz:0<sz)(hb:bytes≤100){x:AC}{l:List (List PV)}{rg:List Reg}(h:cutO sz rg x=some l):FS Go.Proofs.Tryz.prog f [.c x] rg fun r rg'=>r=Sl sz l∧rg'=rg:=by
 obtain ⟨h1,h2,h3⟩:=Wpz hT hb h
 exact Wc7 hz (by omega) h3 h1
theorem Wc9{f sz bytes:Nat}{zs:List Value}(hT:trF Go.Proofs.Tryz.prog f=some ⟨8,W49 sz bytes zs,[.tmp 2]⟩)(hz:0<sz)(hb:bytes≤100){x:AC}{l:List (List PV)}{rg:List Reg}(h:cutO sz rg x=some l):FS Go.Proofs.Tryz.prog f [.c x] rg fun r rg'=>r= .c (.own rg.length 0 sz l.length .free)∧rg'=rg++[.pc sz l]:=by
 obtain ⟨h1,h2,h3⟩:=Wpz hT hb h
 exact Wep hz h3 h1
def Wq0(id:Nat)(p:List AC)(rg:List Reg):Option (AV×List Reg):=match rg[id]?,W1g p with
 | some (.ob (.ch room q)),some ps=>if q.length<room∧ps.length=8 then some (Bo true,rg.set id (.ob (.ch room (q++[(true,ps)]))))else none
 | _,_=>none
def popO(id:Nat)(rg:List Reg):Option (AV×List Reg):=match rg[id]? with
 | some (.ob (.ch room ((true,p)::q)))=>if p.length=8 then some (.tup [.agg (p.map .p),Bo true],rg.set id (.ob (.ch room q)))else none
 | _=>none
theorem Wz8{id:Nat}{p:List AC}{rg rg':List Reg}{r:AV}(h:Wq0 id p rg=some (r,rg')):FS Go.Proofs.Tryz.prog 227 [.c (.hnd .ch id),.agg p] rg fun r1 rg1=>r1=r∧rg1=rg':=by
 unfold Wq0 at h
 split at h
 ·rename_i room q ps hr hp
  split at h
  ·rename_i hc
   cases h
   rw[W7d hp]
   exact Wz7 hr hc.1 hc.2
  ·cases h
 ·cases h
theorem V4h{id:Nat}{rg rg':List Reg}{r:AV}(h:popO id rg=some (r,rg')):FS Go.Proofs.Tryz.prog 242 [.c (.hnd .ch id)] rg fun r1 rg1=>r1=r∧rg1=rg':=by
 unfold popO at h
 split at h
 ·rename_i room p q hr
  split at h
  ·rename_i hc
   cases h
   exact V4g hr hc
  ·cases h
 ·cases h
open Classical in
noncomputable def Om:W0i:=fun k args rg=>match k,args with
 | .fn 15,[]=>some (Bo true,rg)
 | .fn 218,[.c (.p (.v (.int .i64 n)))]=>if 0≤n∧n<26 then some (strA (shL.getD n.toNat []),rg)else none
 | .fn 317,[.c (.p (.v (.int .i64 n)))]=>if 0≤n∧n<26 then some (strA (nmL.getD n.toNat []),rg)else none
 | .fn 334,[]=>some (.agg kindA,rg)
 | .fn 259,[.c (.p (.v (.string b)))]=>if b=⟨allS.toArray⟩then some (Sl 1 Wkx,rg)else none
 | .fn 191,[.c x]=>(cutO 1 rg x).map fun l=>(.c (.own rg.length 0 1 l.length .free),rg++[.pc 1 l])
 | .fn 192,[.c x]=>(cutO 3 rg x).map fun l=>(.c (.own rg.length 0 3 l.length .free),rg++[.pc 3 l])
 | .fn 134,[.c x]=>(cutO 5 rg x).map fun l=>(Sl 5 l,rg)
 | .fn 153,[.c x]=>(cutO 10 rg x).map fun l=>(Sl 10 l,rg)
 | .fn 246,[.c x]=>(cutO 3 rg x).map fun l=>(.c (.own rg.length 0 3 l.length .free),rg++[.pc 3 l])
 | .fn 205,[.c x]=>(cutO 3 rg x).map fun l=>(Sl 3 l,rg)
 | .fn 207,[.c x]=>(cutO 1 rg x).map fun l=>(Sl 1 l,rg)
 | .fn 227,[.c (.hnd .ch id),.agg p]=>Wq0 id p rg
 | .fn 242,[.c (.hnd .ch id)]=>popO id rg
 | _,_=>none
theorem V8x:CallOk Go.Proofs.Tryz.prog Om:=by
 refine ⟨fun f args regs r rg h=> ?_,fun id args regs r rg h=> ?_⟩
 ·unfold Om at h
  split at h
  ·rename_i e; cases e; cases h; exact Wts _
  ·rename_i n e
   cases e
   split at h
   ·rename_i hc; cases h; exact Wwh V4c hc.1 hc.2 _
   ·cases h
  ·rename_i n e
   cases e
   split at h
   ·rename_i hc; cases h; exact Wwh V8p hc.1 hc.2 _
   ·cases h
  ·rename_i e
   cases e
   cases h
   exact FS.overP (fun _=>rfl) Wj1 ((Book.evalK_ok Wps 2 4).fn 334 _ [] _ _ Weo) _
  ·rename_i b e
   cases e
   split at h
   ·rename_i hc
    cases h
    subst hc
    exact FS.overP (args:=[strA allS]) (fun ρ=>by simp[Wpt]) (fun ρ=>V4b ρ _ _) ((Book.evalS_ok V4d Wpr 400 12).fn 259 _ [] _ _ Wpu) _
   ·cases h
  ·rename_i x e
   cases e
   obtain ⟨l,hl,h⟩:=Z1.1 h
   cases h
   exact Wc9 V8q (by decide) (by decide) hl
  ·rename_i x e
   cases e
   obtain ⟨l,hl,h⟩:=Z1.1 h
   cases h
   exact Wc9 V8r (by decide) (by decide) hl
  ·rename_i x e
   cases e
   obtain ⟨l,hl,h⟩:=Z1.1 h
   cases h
   exact W7r V8s (by decide) (by decide) hl
  ·rename_i x e
   cases e
   obtain ⟨l,hl,h⟩:=Z1.1 h
   cases h
   exact W7r V8t (by decide) (by decide) hl
  ·rename_i x e
   cases e
   obtain ⟨l,hl,h⟩:=Z1.1 h
   cases h
   exact Wc9 V8u (by decide) (by decide) hl
  ·rename_i x e
   cases e
   obtain ⟨l,hl,h⟩:=Z1.1 h
   cases h
   exact W7r V8v (by decide) (by decide) hl
  ·rename_i x e
   cases e
   obtain ⟨l,hl,h⟩:=Z1.1 h
   cases h
   exact W7r V8w (by decide) (by decide) hl
  ·rename_i id p e
   cases e
   exact Wz8 h
  ·rename_i id e
   cases e
   exact V4h h
  ·cases h
 ·unfold Om at h
  split at h
  ·rename_i e; cases e
  ·rename_i e; cases e
  ·rename_i e; cases e
  ·rename_i e; cases e
  ·rename_i e; cases e
  ·rename_i e; cases e
  ·rename_i e; cases e
  ·rename_i e; cases e
  ·rename_i e; cases e
  ·rename_i e; cases e
  ·rename_i e; cases e
  ·rename_i e; cases e
  ·rename_i e; cases e
  ·rename_i e; cases e
  ·cases h
def V8y:List NT:=[.sl 22 W2w,.sl 1 [.sl 8 []],.sl 3 [],.sl 3 [],.sl 10 [],.sl 1 [],.any,.sl 1 [],.sl 1 [],.any,.sl 3 [],.sl 3 []]
def Wz9:List NT:=[.any,.any,.sl 3 [],.sl 3 [],.sl 10 [],.sl 1 [],.any,.sl 1 [],.sl 1 []]
def zL:List (Nat×List (List NT)):=[
 (152,[[.sl 3 []]]),(282,[[.sl 1 []]]),(333,[[.sl 1 []]]),(325,[[.sl 1 []]]),(198,[[.sl 3 [],.sl 3 []]]),(113,[[.sl 3 [],.sl 3 []]]),(44,[[.sl 3 [],.sl 3 []],[]]),(283,[[.sl 3 []]]),
 (259,[]),(303,[[.sl 3 []]]),(43,[W42]),(82,[[.sl 3 []]]),(186,[[.sl 3 []]]),(189,[[.sl 1 []]]),(190,[[.sl 1 []]]),(83,[[.sl 10 []]]),(187,[[.sl 1 []]]),(110,[Wz9]),(112,[[.sl 8 []]]),
 (111,[W2w]),(143,[W2w]),(235,[W2w]),(234,[W2w,[]]),(64,[W2w]),(236,[W2w]),(230,[W2w]),(232,[W2w]),(115,[[.sl 3 []],W2w]),
 (200,[[.sl 3 []],[.sl 3 []]]),(201,[[.sl 3 []],[.sl 3 []]]),(202,[[.sl 3 []],[.sl 3 []]]),(241,[Wyt]),(312,[Wyt]),
 (81,[[.sl 3 []]]),(148,[[.sl 1 []]]),(39,[W42]),(172,[W42]),(173,[W42]),(177,[W42]),(273,[W42]),(106,[W42,[]]),(107,[W42]),(108,[W42,[]]),(180,[W42]),(181,[W42,[]]),(182,[W42,[]]),(183,[W42,[]]),
 (41,[W42,[.sl 3 []]]),(42,[W42]),(30,[V8y]),(102,[[.sl 10 [],.sl 1 []]]),(275,[[.sl 10 [],.sl 1 []],[]]),(176,[[.sl 10 [],.sl 1 []],[]]),(276,[[.sl 10 [],.sl 1 []],[]]),
 (185,[[.sl 1 []]]),(109,[[.sl 3 []]]),(87,[[.sl 3 []]]),(178,[W2w]),(175,[[.sl 3 []],W2w]),(277,[Wyt]),(278,[W2w]),(184,[W2w,[]]),
 (63,[[.any,.any,.any,.sl 1 [.sl 5 []]]]),(16,[[.any,.any,.any,.sl 1 [.sl 5 []]]]),(17,[[.sl 1 []]]),(210,[[.sl 1 []]]),(211,[[.sl 1 []]]),(212,[[.sl 1 []]]),(165,[[.sl 1 []]]),(166,[[.sl 1 []]]),(167,[[.sl 1 []]])]
def zAt:List (Nat×List (List NT))→Nat→ZT
 | [],_=>none
 | (k,v)::r,f=>bif Nat.beq k f then some v else zAt r f
def Zm:Nat→ZT:=zAt zL
noncomputable def bm:Book:=⟨Go.Proofs.Tryz.prog,tab,lps,Om,Zm⟩
theorem V8z(l:List (List PV))(rg:List Reg)(h:l.length≤1000000)(hw:wf rg):bm.run (.fn 191) [Sl 1 l] rg=some (.c (.own rg.length 0 1 l.length .free),rg++[.pc 1 l]):=Book.run_or (by show (cutO 1 rg (.p (.sl 1 l))).map _=_; rw[Wc8 h hw]; rfl)
theorem V90(l:List (List PV))(rg:List Reg)(h:l.length≤1000000)(hw:wf rg):bm.run (.fn 192) [Sl 3 l] rg=some (.c (.own rg.length 0 3 l.length .free),rg++[.pc 3 l]):=Book.run_or (by show (cutO 3 rg (.p (.sl 3 l))).map _=_; rw[Wc8 h hw]; rfl)
theorem V91(l:List (List PV))(rg:List Reg)(h:l.length≤1000000)(hw:wf rg):bm.run (.fn 134) [Sl 5 l] rg=some (Sl 5 l,rg):=Book.run_or (by show (cutO 5 rg (.p (.sl 5 l))).map _=_; rw[Wc8 h hw]; rfl)
theorem V4i(id off len:Nat)(cap:Cap)(L:List (List PV))(rg:List Reg)(hr:rg[id]?=some (.pc 10 L))(hL:off+len≤L.length)(h:len≤1000000)(hw:wf rg):bm.run (.fn 153) [.c (.own id off 10 len cap)] rg=some (Sl 10 ((L.drop off).take len),rg):=Book.run_or (by show (cutO 10 rg (.own id off 10 len cap)).map _=_; rw[Wj3 hr hL h hw]; rfl)
theorem V92(l:List (List PV))(rg:List Reg)(h:l.length≤1000000)(hw:wf rg):bm.run (.fn 207) [Sl 1 l] rg=some (Sl 1 l,rg):=Book.run_or (by show (cutO 1 rg (.p (.sl 1 l))).map _=_; rw[Wc8 h hw]; rfl)
theorem V4j(id off len:Nat)(cap:Cap)(L:List (List PV))(rg:List Reg)(hr:rg[id]?=some (.pc 1 L))(hL:off+len≤L.length)(h:len≤1000000)(hw:wf rg):bm.run (.fn 207) [.c (.own id off 1 len cap)] rg=some (Sl 1 ((L.drop off).take len),rg):=Book.run_or (by show (cutO 1 rg (.own id off 1 len cap)).map _=_; rw[Wj3 hr hL h hw]; rfl)
theorem V4k{id room:Nat}{q:List PW}{ps:List PV}{rg:List Reg}(hr:rg[id]?=some (.ob (.ch room q)))(h:q.length<room)(h8:ps.length=8):bm.run (.fn 227) [.c (.hnd .ch id),.agg (ps.map .p)] rg=some (Bo true,rg.set id (.ob (.ch room (q++[(true,ps)])))):=by
 refine Book.run_or ?_
 show Wq0 id (ps.map .p) rg=_
 have hp:∀l:List PV,W1g (l.map .p)=some l:=by
  intro l
  induction l with
  | nil=>rfl
  | cons x l ih=>simp[W1g,ih]
 unfold Wq0
 simp only[hr,hp]
 exact if_pos ⟨h,h8⟩
theorem V93{id room:Nat}{q:List PW}{p:List PV}{rg:List Reg}(hr:rg[id]?=some (.ob (.ch room ((true,p)::q))))(h8:p.length=8):bm.run (.fn 242) [.c (.hnd .ch id)] rg=some (.tup [.agg (p.map .p),Bo true],rg.set id (.ob (.ch room q))):=by
 refine Book.run_or ?_
 show popO id rg=_
 unfold popO
 simp only[hr]
 exact if_pos h8
theorem V94:bm.Ok:=⟨Wiz,Wj0,V8x⟩
theorem Wza(rg:List Reg):bm.run (.fn 15) [] rg=some (Bo true,rg):=Book.run_or _root_.rfl
end Go.Sim
namespace Go.Sim
open Go.RowKit Go.Proofs.YtahoelmjfgoedaaGreat.T
theorem R_1{f:Nat}{k:KT}{z:ZT}{s:F1}(hS:SE1 f k s)(hT:tab[f]?=some (some (tOf PG f,k)))(hz:Zm f=z)(hn:Nat.ble 1 (tOf PG f).nt=true)(hO:∀a0 rg,Om (.fn f) [a0] rg=none)(a0:AV)(rg:List Reg):bm.run (.fn f) [a0] rg=s W02 bm.run z a0 rg:=by
 subst hz
 exact (Book.run_C (B:=bm) hT (hO a0 rg) (Yk hn)).trans (hS W02 bm.run (Zm f) a0 rg)
theorem R_2{f:Nat}{k:KT}{z:ZT}{s:F2}(hS:SE2 f k s)(hT:tab[f]?=some (some (tOf PG f,k)))(hz:Zm f=z)(hn:Nat.ble 2 (tOf PG f).nt=true)(hO:∀a0 a1 rg,Om (.fn f) [a0,a1] rg=none)(a0 a1:AV)(rg:List Reg):bm.run (.fn f) [a0,a1] rg=s W02 bm.run z a0 a1 rg:=by
 subst hz
 exact (Book.run_C (B:=bm) hT (hO a0 a1 rg) (Yk hn)).trans (hS W02 bm.run (Zm f) a0 a1 rg)
theorem R_3{f:Nat}{k:KT}{z:ZT}{s:F3}(hS:SE3 f k s)(hT:tab[f]?=some (some (tOf PG f,k)))(hz:Zm f=z)(hn:Nat.ble 3 (tOf PG f).nt=true)(hO:∀a0 a1 a2 rg,Om (.fn f) [a0,a1,a2] rg=none)(a0 a1 a2:AV)(rg:List Reg):bm.run (.fn f) [a0,a1,a2] rg=s W02 bm.run z a0 a1 a2 rg:=by
 subst hz
 exact (Book.run_C (B:=bm) hT (hO a0 a1 a2 rg) (Yk hn)).trans (hS W02 bm.run (Zm f) a0 a1 a2 rg)
theorem R_4{f:Nat}{k:KT}{z:ZT}{s:F4}(hS:SE4 f k s)(hT:tab[f]?=some (some (tOf PG f,k)))(hz:Zm f=z)(hn:Nat.ble 4 (tOf PG f).nt=true)(hO:∀a0 a1 a2 a3 rg,Om (.fn f) [a0,a1,a2,a3] rg=none)(a0 a1 a2 a3:AV)(rg:List Reg):bm.run (.fn f) [a0,a1,a2,a3] rg=s W02 bm.run z a0 a1 a2 a3 rg:=by
 subst hz
 exact (Book.run_C (B:=bm) hT (hO a0 a1 a2 a3 rg) (Yk hn)).trans (hS W02 bm.run (Zm f) a0 a1 a2 a3 rg)
theorem R_5{f:Nat}{k:KT}{z:ZT}{s:F5}(hS:SE5 f k s)(hT:tab[f]?=some (some (tOf PG f,k)))(hz:Zm f=z)(hn:Nat.ble 5 (tOf PG f).nt=true)(hO:∀a0 a1 a2 a3 a4 rg,Om (.fn f) [a0,a1,a2,a3,a4] rg=none)(a0 a1 a2 a3 a4:AV)(rg:List Reg):bm.run (.fn f) [a0,a1,a2,a3,a4] rg=s W02 bm.run z a0 a1 a2 a3 a4 rg:=by
 subst hz
 exact (Book.run_C (B:=bm) hT (hO a0 a1 a2 a3 a4 rg) (Yk hn)).trans (hS W02 bm.run (Zm f) a0 a1 a2 a3 a4 rg)
theorem R_1c{f:Nat}{k:KT}{z:ZT}{s:F1}(hS:SE1 f k s)(hT:tab[f]?=some (some (tOf PG f,k)))(hz:Zm f=z)(hn:Nat.ble 1 (tOf PG f).nt=true){a0:AV}{rg:List Reg}(hO:Om (.fn f) [a0] rg=none):bm.run (.fn f) [a0] rg=s W02 bm.run z a0 rg:=by
 subst hz
 exact (Book.run_C (B:=bm) hT hO (Yk hn)).trans (hS W02 bm.run (Zm f) a0 rg)
theorem R7(a0 a1:AV)(rg:List Reg):bm.run (.fn 7) [a0,a1] rg=s7 W02 bm.run none a0 a1 rg:=R_2 S7 (by kernel_rfl) (by kernel_rfl) (by kernel_rfl) (fun _ _ _=>rfl) a0 a1 rg
theorem R16(a0:AV)(rg:List Reg):bm.run (.fn 16) [a0] rg=s16 W02 bm.run (some [[.any,.any,.any,.sl 1 [.sl 5 []]]]) a0 rg:=R_1 S16 (by kernel_rfl) (by kernel_rfl) (by kernel_rfl) (fun _ _=>rfl) a0 rg
theorem R18(a0 a1:AV)(rg:List Reg):bm.run (.fn 18) [a0,a1] rg=s18 W02 bm.run none a0 a1 rg:=R_2 S18 (by kernel_rfl) (by kernel_rfl) (by kernel_rfl) (fun _ _ _=>rfl) a0 a1 rg
theorem R21(a0 a1:AV)(rg:List Reg):bm.run (.fn 21) [a0,a1] rg=s21 W02 bm.run none a0 a1 rg:=R_2 S21 (by kernel_rfl) (by kernel_rfl) (by kernel_rfl) (fun _ _ _=>rfl) a0 a1 rg
theorem R22(a0:AV)(rg:List Reg):bm.run (.fn 22) [a0] rg=s22 W02 bm.run none a0 rg:=R_1 S22 (by kernel_rfl) (by kernel_rfl) (by kernel_rfl) (fun _ _=>rfl) a0 rg
theorem R24(a0 a1:AV)(rg:List Reg):bm.run (.fn 24) [a0,a1] rg=s24 W02 bm.run none a0 a1 rg:=R_2 S24 (by kernel_rfl) (by kernel_rfl) (by kernel_rfl) (fun _ _ _=>rfl) a0 a1 rg
theorem R26(a0:AV)(rg:List Reg):bm.run (.fn 26) [a0] rg=s26 W02 bm.run none a0 rg:=R_1 S26 (by kernel_rfl) (by kernel_rfl) (by kernel_rfl) (fun _ _=>rfl) a0 rg
theorem R35(a0 a1:AV)(rg:List Reg):bm.run (.fn 35) [a0,a1] rg=s35 W02 bm.run none a0 a1 rg:=R_2 S35 (by kernel_rfl) (by kernel_rfl) (by kernel_rfl) (fun _ _ _=>rfl) a0 a1 rg
theorem R36(a0:AV)(rg:List Reg):bm.run (.fn 36) [a0] rg=s36 W02 bm.run none a0 rg:=R_1 S36 (by kernel_rfl) (by kernel_rfl) (by kernel_rfl) (fun _ _=>rfl) a0 rg
theorem R37(a0:AV)(rg:List Reg):bm.run (.fn 37) [a0] rg=s37 W02 bm.run none a0 rg:=R_1 S37 (by kernel_rfl) (by kernel_rfl) (by kernel_rfl) (fun _ _=>rfl) a0 rg
theorem R38(a0 a1 a2 a3 a4:AV)(rg:List Reg):bm.run (.fn 38) [a0,a1,a2,a3,a4] rg=s38 W02 bm.run none a0 a1 a2 a3 a4 rg:=R_5 S38 (by kernel_rfl) (by kernel_rfl) (by kernel_rfl) (fun _ _ _ _ _ _=>rfl) a0 a1 a2 a3 a4 rg
theorem R39(a0 a1:AV)(rg:List Reg):bm.run (.fn 39) [a0,a1] rg=s39 W02 bm.run (some [W42]) a0 a1 rg:=R_2 S39 (by kernel_rfl) (by kernel_rfl) (by kernel_rfl) (fun _ _ _=>rfl) a0 a1 rg
theorem R40(a0 a1 a2 a3:AV)(rg:List Reg):bm.run (.fn 40) [a0,a1,a2,a3] rg=s40 W02 bm.run none a0 a1 a2 a3 rg:=R_4 S40 (by kernel_rfl) (by kernel_rfl) (by kernel_rfl) (fun _ _ _ _ _=>rfl) a0 a1 a2 a3 rg
theorem R43(a0:AV)(rg:List Reg):bm.run (.fn 43) [a0] rg=s43 W02 bm.run (some [W42]) a0 rg:=R_1 S43 (by kernel_rfl) (by kernel_rfl) (by kernel_rfl) (fun _ _=>rfl) a0 rg
theorem R52(a0:AV)(rg:List Reg):bm.run (.fn 52) [a0] rg=s52 W02 bm.run none a0 rg:=R_1 S52 (by kernel_rfl) (by kernel_rfl) (by kernel_rfl) (fun _ _=>rfl) a0 rg
theorem R53(a0:AV)(rg:List Reg):bm.run (.fn 53) [a0] rg=s53 W02 bm.run none a0 rg:=R_1 S53 (by kernel_rfl) (by kernel_rfl) (by kernel_rfl) (fun _ _=>rfl) a0 rg
theorem R58(a0:AV)(rg:List Reg):bm.run (.fn 58) [a0] rg=s58 W02 bm.run none a0 rg:=R_1 S58 (by kernel_rfl) (by kernel_rfl) (by kernel_rfl) (fun _ _=>rfl) a0 rg
theorem R59(a0:AV)(rg:List Reg):bm.run (.fn 59) [a0] rg=s59 W02 bm.run none a0 rg:=R_1 S59 (by kernel_rfl) (by kernel_rfl) (by kernel_rfl) (fun _ _=>rfl) a0 rg
theorem R60(a0:AV)(rg:List Reg):bm.run (.fn 60) [a0] rg=s60 W02 bm.run none a0 rg:=R_1 S60 (by kernel_rfl) (by kernel_rfl) (by kernel_rfl) (fun _ _=>rfl) a0 rg
theorem R61(a0:AV)(rg:List Reg):bm.run (.fn 61) [a0] rg=s61 W02 bm.run none a0 rg:=R_1 S61 (by kernel_rfl) (by kernel_rfl) (by kernel_rfl) (fun _ _=>rfl) a0 rg
theorem R62(a0:AV)(rg:List Reg):bm.run (.fn 62) [a0] rg=s62 W02 bm.run none a0 rg:=R_1 S62 (by kernel_rfl) (by kernel_rfl) (by kernel_rfl) (fun _ _=>rfl) a0 rg
theorem R63(a0:AV)(rg:List Reg):bm.run (.fn 63) [a0] rg=s63 W02 bm.run (some [[.any,.any,.any,.sl 1 [.sl 5 []]]]) a0 rg:=R_1 S63 (by kernel_rfl) (by kernel_rfl) (by kernel_rfl) (fun _ _=>rfl) a0 rg
theorem R64(a0:AV)(rg:List Reg):bm.run (.fn 64) [a0] rg=s64 W02 bm.run (some [W2w]) a0 rg:=R_1 S64 (by kernel_rfl) (by kernel_rfl) (by kernel_rfl) (fun _ _=>rfl) a0 rg
theorem R65(a0:AV)(rg:List Reg):bm.run (.fn 65) [a0] rg=s65 W02 bm.run none a0 rg:=R_1 S65 (by kernel_rfl) (by kernel_rfl) (by kernel_rfl) (fun _ _=>rfl) a0 rg
theorem R66(a0 a1:AV)(rg:List Reg):bm.run (.fn 66) [a0,a1] rg=s66 W02 bm.run none a0 a1 rg:=R_2 S66 (by kernel_rfl) (by kernel_rfl) (by kernel_rfl) (fun _ _ _=>rfl) a0 a1 rg
theorem R68(a0:AV)(rg:List Reg):bm.run (.fn 68) [a0] rg=s68 W02 bm.run none a0 rg:=R_1 S68 (by kernel_rfl) (by kernel_rfl) (by kernel_rfl) (fun _ _=>rfl) a0 rg
theorem R69(a0 a1:AV)(rg:List Reg):bm.run (.fn 69) [a0,a1] rg=s69 W02 bm.run none a0 a1 rg:=R_2 S69 (by kernel_rfl) (by kernel_rfl) (by kernel_rfl) (fun _ _ _=>rfl) a0 a1 rg
theorem R70(a0:AV)(rg:List Reg):bm.run (.fn 70) [a0] rg=s70 W02 bm.run none a0 rg:=R_1 S70 (by kernel_rfl) (by kernel_rfl) (by kernel_rfl) (fun _ _=>rfl) a0 rg
theorem R71(a0 a1 a2:AV)(rg:List Reg):bm.run (.fn 71) [a0,a1,a2] rg=s71 W02 bm.run none a0 a1 a2 rg:=R_3 S71 (by kernel_rfl) (by kernel_rfl) (by kernel_rfl) (fun _ _ _ _=>rfl) a0 a1 a2 rg
theorem R72(a0 a1:AV)(rg:List Reg):bm.run (.fn 72) [a0,a1] rg=s72 W02 bm.run none a0 a1 rg:=R_2 S72 (by kernel_rfl) (by kernel_rfl) (by kernel_rfl) (fun _ _ _=>rfl) a0 a1 rg
theorem R73(a0:AV)(rg:List Reg):bm.run (.fn 73) [a0] rg=s73 W02 bm.run none a0 rg:=R_1 S73 (by kernel_rfl) (by kernel_rfl) (by kernel_rfl) (fun _ _=>rfl) a0 rg
theorem R74(a0:AV)(rg:List Reg):bm.run (.fn 74) [a0] rg=s74 W02 bm.run none a0 rg:=R_1 S74 (by kernel_rfl) (by kernel_rfl) (by kernel_rfl) (fun _ _=>rfl) a0 rg
theorem R75(a0:AV)(rg:List Reg):bm.run (.fn 75) [a0] rg=s75 W02 bm.run none a0 rg:=R_1 S75 (by kernel_rfl) (by kernel_rfl) (by kernel_rfl) (fun _ _=>rfl) a0 rg
theorem R82(a0:AV)(rg:List Reg):bm.run (.fn 82) [a0] rg=s82 W02 bm.run (some [[.sl 3 []]]) a0 rg:=R_1 S82 (by kernel_rfl) (by kernel_rfl) (by kernel_rfl) (fun _ _=>rfl) a0 rg
theorem R83(a0:AV)(rg:List Reg):bm.run (.fn 83) [a0] rg=s83 W02 bm.run (some [[.sl 10 []]]) a0 rg:=R_1 S83 (by kernel_rfl) (by kernel_rfl) (by kernel_rfl) (fun _ _=>rfl) a0 rg
theorem R91(a0 a1:AV)(rg:List Reg):bm.run (.fn 91) [a0,a1] rg=s91 W02 bm.run none a0 a1 rg:=R_2 S91 (by kernel_rfl) (by kernel_rfl) (by kernel_rfl) (fun _ _ _=>rfl) a0 a1 rg
theorem R92(a0 a1:AV)(rg:List Reg):bm.run (.fn 92) [a0,a1] rg=s92 W02 bm.run none a0 a1 rg:=R_2 S92 (by kernel_rfl) (by kernel_rfl) (by kernel_rfl) (fun _ _ _=>rfl) a0 a1 rg
theorem R93(a0 a1:AV)(rg:List Reg):bm.run (.fn 93) [a0,a1] rg=s93 W02 bm.run none a0 a1 rg:=R_2 S93 (by kernel_rfl) (by kernel_rfl) (by kernel_rfl) (fun _ _ _=>rfl) a0 a1 rg
theorem R94(a0 a1:AV)(rg:List Reg):bm.run (.fn 94) [a0,a1] rg=s94 W02 bm.run none a0 a1 rg:=R_2 S94 (by kernel_rfl) (by kernel_rfl) (by kernel_rfl) (fun _ _ _=>rfl) a0 a1 rg
theorem R95(a0 a1:AV)(rg:List Reg):bm.run (.fn 95) [a0,a1] rg=s95 W02 bm.run none a0 a1 rg:=R_2 S95 (by kernel_rfl) (by kernel_rfl) (by kernel_rfl) (fun _ _ _=>rfl) a0 a1 rg
theorem R96(a0 a1:AV)(rg:List Reg):bm.run (.fn 96) [a0,a1] rg=s96 W02 bm.run none a0 a1 rg:=R_2 S96 (by kernel_rfl) (by kernel_rfl) (by kernel_rfl) (fun _ _ _=>rfl) a0 a1 rg
theorem R97(a0 a1:AV)(rg:List Reg):bm.run (.fn 97) [a0,a1] rg=s97 W02 bm.run none a0 a1 rg:=R_2 S97 (by kernel_rfl) (by kernel_rfl) (by kernel_rfl) (fun _ _ _=>rfl) a0 a1 rg
theorem R98(a0 a1 a2:AV)(rg:List Reg):bm.run (.fn 98) [a0,a1,a2] rg=s98 W02 bm.run none a0 a1 a2 rg:=R_3 S98 (by kernel_rfl) (by kernel_rfl) (by kernel_rfl) (fun _ _ _ _=>rfl) a0 a1 a2 rg
theorem R99(a0 a1 a2:AV)(rg:List Reg):bm.run (.fn 99) [a0,a1,a2] rg=s99 W02 bm.run none a0 a1 a2 rg:=R_3 S99 (by kernel_rfl) (by kernel_rfl) (by kernel_rfl) (fun _ _ _ _=>rfl) a0 a1 a2 rg
theorem R100(a0 a1:AV)(rg:List Reg):bm.run (.fn 100) [a0,a1] rg=s100 W02 bm.run none a0 a1 rg:=R_2 S100 (by kernel_rfl) (by kernel_rfl) (by kernel_rfl) (fun _ _ _=>rfl) a0 a1 rg
theorem R101(a0:AV)(rg:List Reg):bm.run (.fn 101) [a0] rg=s101 W02 bm.run none a0 rg:=R_1 S101 (by kernel_rfl) (by kernel_rfl) (by kernel_rfl) (fun _ _=>rfl) a0 rg
theorem R102(a0:AV)(rg:List Reg):bm.run (.fn 102) [a0] rg=s102 W02 bm.run (some [[.sl 10 [],.sl 1 []]]) a0 rg:=R_1 S102 (by kernel_rfl) (by kernel_rfl) (by kernel_rfl) (fun _ _=>rfl) a0 rg
theorem R103(a0 a1:AV)(rg:List Reg):bm.run (.fn 103) [a0,a1] rg=s103 W02 bm.run none a0 a1 rg:=R_2 S103 (by kernel_rfl) (by kernel_rfl) (by kernel_rfl) (fun _ _ _=>rfl) a0 a1 rg
theorem R104(a0 a1 a2:AV)(rg:List Reg):bm.run (.fn 104) [a0,a1,a2] rg=s104 W02 bm.run none a0 a1 a2 rg:=R_3 S104 (by kernel_rfl) (by kernel_rfl) (by kernel_rfl) (fun _ _ _ _=>rfl) a0 a1 a2 rg
theorem R105(a0 a1 a2:AV)(rg:List Reg):bm.run (.fn 105) [a0,a1,a2] rg=s105 W02 bm.run none a0 a1 a2 rg:=R_3 S105 (by kernel_rfl) (by kernel_rfl) (by kernel_rfl) (fun _ _ _ _=>rfl) a0 a1 a2 rg
theorem R110(a0:AV)(rg:List Reg):bm.run (.fn 110) [a0] rg=s110 W02 bm.run (some [Wz9]) a0 rg:=R_1 S110 (by kernel_rfl) (by kernel_rfl) (by kernel_rfl) (fun _ _=>rfl) a0 rg
theorem R111(a0:AV)(rg:List Reg):bm.run (.fn 111) [a0] rg=s111 W02 bm.run (some [W2w]) a0 rg:=R_1 S111 (by kernel_rfl) (by kernel_rfl) (by kernel_rfl) (fun _ _=>rfl) a0 rg
theorem R112(a0:AV)(rg:List Reg):bm.run (.fn 112) [a0] rg=s112 W02 bm.run (some [[.sl 8 []]]) a0 rg:=R_1 S112 (by kernel_rfl) (by kernel_rfl) (by kernel_rfl) (fun _ _=>rfl) a0 rg
theorem R123(a0:AV)(rg:List Reg):bm.run (.fn 123) [a0] rg=s123 W02 bm.run none a0 rg:=R_1 S123 (by kernel_rfl) (by kernel_rfl) (by kernel_rfl) (fun _ _=>rfl) a0 rg
theorem R128(a0 a1:AV)(rg:List Reg):bm.run (.fn 128) [a0,a1] rg=s128 W02 bm.run none a0 a1 rg:=R_2 S128 (by kernel_rfl) (by kernel_rfl) (by kernel_rfl) (fun _ _ _=>rfl) a0 a1 rg
theorem R129(a0:AV)(rg:List Reg):bm.run (.fn 129) [a0] rg=s129 W02 bm.run none a0 rg:=R_1 S129 (by kernel_rfl) (by kernel_rfl) (by kernel_rfl) (fun _ _=>rfl) a0 rg
theorem R130(a0 a1 a2:AV)(rg:List Reg):bm.run (.fn 130) [a0,a1,a2] rg=s130 W02 bm.run none a0 a1 a2 rg:=R_3 S130 (by kernel_rfl) (by kernel_rfl) (by kernel_rfl) (fun _ _ _ _=>rfl) a0 a1 a2 rg
theorem R131(a0:AV)(rg:List Reg):bm.run (.fn 131) [a0] rg=s131 W02 bm.run none a0 rg:=R_1 S131 (by kernel_rfl) (by kernel_rfl) (by kernel_rfl) (fun _ _=>rfl) a0 rg
theorem R132(a0:AV)(rg:List Reg):bm.run (.fn 132) [a0] rg=s132 W02 bm.run none a0 rg:=R_1 S132 (by kernel_rfl) (by kernel_rfl) (by kernel_rfl) (fun _ _=>rfl) a0 rg
theorem R133(a0 a1 a2:AV)(rg:List Reg):bm.run (.fn 133) [a0,a1,a2] rg=s133 W02 bm.run none a0 a1 a2 rg:=R_3 S133 (by kernel_rfl) (by kernel_rfl) (by kernel_rfl) (fun _ _ _ _=>rfl) a0 a1 a2 rg
theorem R135(a0:AV)(rg:List Reg):bm.run (.fn 135) [a0] rg=s135 W02 bm.run none a0 rg:=R_1 S135 (by kernel_rfl) (by kernel_rfl) (by kernel_rfl) (fun _ _=>rfl) a0 rg
theorem R136(a0 a1 a2 a3:AV)(rg:List Reg):bm.run (.fn 136) [a0,a1,a2,a3] rg=s136 W02 bm.run none a0 a1 a2 a3 rg:=R_4 S136 (by kernel_rfl) (by kernel_rfl) (by kernel_rfl) (fun _ _ _ _ _=>rfl) a0 a1 a2 a3 rg
theorem R137(a0 a1 a2 a3:AV)(rg:List Reg):bm.run (.fn 137) [a0,a1,a2,a3] rg=s137 W02 bm.run none a0 a1 a2 a3 rg:=R_4 S137 (by kernel_rfl) (by kernel_rfl) (by kernel_rfl) (fun _ _ _ _ _=>rfl) a0 a1 a2 a3 rg
theorem R138(a0 a1:AV)(rg:List Reg):bm.run (.fn 138) [a0,a1] rg=s138 W02 bm.run none a0 a1 rg:=R_2 S138 (by kernel_rfl) (by kernel_rfl) (by kernel_rfl) (fun _ _ _=>rfl) a0 a1 rg
theorem R139(a0:AV)(rg:List Reg):bm.run (.fn 139) [a0] rg=s139 W02 bm.run none a0 rg:=R_1 S139 (by kernel_rfl) (by kernel_rfl) (by kernel_rfl) (fun _ _=>rfl) a0 rg
theorem R140(a0 a1:AV)(rg:List Reg):bm.run (.fn 140) [a0,a1] rg=s140 W02 bm.run none a0 a1 rg:=R_2 S140 (by kernel_rfl) (by kernel_rfl) (by kernel_rfl) (fun _ _ _=>rfl) a0 a1 rg
theorem R144(a0:AV)(rg:List Reg):bm.run (.fn 144) [a0] rg=s144 W02 bm.run none a0 rg:=R_1 S144 (by kernel_rfl) (by kernel_rfl) (by kernel_rfl) (fun _ _=>rfl) a0 rg
theorem R152(a0 a1:AV)(rg:List Reg):bm.run (.fn 152) [a0,a1] rg=s152 W02 bm.run (some [[.sl 3 []]]) a0 a1 rg:=R_2 S152 (by kernel_rfl) (by kernel_rfl) (by kernel_rfl) (fun _ _ _=>rfl) a0 a1 rg
theorem R159(a0 a1:AV)(rg:List Reg):bm.run (.fn 159) [a0,a1] rg=s159 W02 bm.run none a0 a1 rg:=R_2 S159 (by kernel_rfl) (by kernel_rfl) (by kernel_rfl) (fun _ _ _=>rfl) a0 a1 rg
theorem R160(a0 a1:AV)(rg:List Reg):bm.run (.fn 160) [a0,a1] rg=s160 W02 bm.run none a0 a1 rg:=R_2 S160 (by kernel_rfl) (by kernel_rfl) (by kernel_rfl) (fun _ _ _=>rfl) a0 a1 rg
theorem R161(a0:AV)(rg:List Reg):bm.run (.fn 161) [a0] rg=s161 W02 bm.run none a0 rg:=R_1 S161 (by kernel_rfl) (by kernel_rfl) (by kernel_rfl) (fun _ _=>rfl) a0 rg
theorem R162(a0 a1:AV)(rg:List Reg):bm.run (.fn 162) [a0,a1] rg=s162 W02 bm.run none a0 a1 rg:=R_2 S162 (by kernel_rfl) (by kernel_rfl) (by kernel_rfl) (fun _ _ _=>rfl) a0 a1 rg
theorem R163(a0 a1 a2:AV)(rg:List Reg):bm.run (.fn 163) [a0,a1,a2] rg=s163 W02 bm.run none a0 a1 a2 rg:=R_3 S163 (by kernel_rfl) (by kernel_rfl) (by kernel_rfl) (fun _ _ _ _=>rfl) a0 a1 a2 rg
theorem R164(a0 a1:AV)(rg:List Reg):bm.run (.fn 164) [a0,a1] rg=s164 W02 bm.run none a0 a1 rg:=R_2 S164 (by kernel_rfl) (by kernel_rfl) (by kernel_rfl) (fun _ _ _=>rfl) a0 a1 rg
theorem R165(a0:AV)(rg:List Reg):bm.run (.fn 165) [a0] rg=s165 W02 bm.run (some [[.sl 1 []]]) a0 rg:=R_1 S165 (by kernel_rfl) (by kernel_rfl) (by kernel_rfl) (fun _ _=>rfl) a0 rg
theorem R166(a0:AV)(rg:List Reg):bm.run (.fn 166) [a0] rg=s166 W02 bm.run (some [[.sl 1 []]]) a0 rg:=R_1 S166 (by kernel_rfl) (by kernel_rfl) (by kernel_rfl) (fun _ _=>rfl) a0 rg
theorem R167(a0:AV)(rg:List Reg):bm.run (.fn 167) [a0] rg=s167 W02 bm.run (some [[.sl 1 []]]) a0 rg:=R_1 S167 (by kernel_rfl) (by kernel_rfl) (by kernel_rfl) (fun _ _=>rfl) a0 rg
theorem R168(a0 a1 a2:AV)(rg:List Reg):bm.run (.fn 168) [a0,a1,a2] rg=s168 W02 bm.run none a0 a1 a2 rg:=R_3 S168 (by kernel_rfl) (by kernel_rfl) (by kernel_rfl) (fun _ _ _ _=>rfl) a0 a1 a2 rg
theorem R186(a0:AV)(rg:List Reg):bm.run (.fn 186) [a0] rg=s186 W02 bm.run (some [[.sl 3 []]]) a0 rg:=R_1 S186 (by kernel_rfl) (by kernel_rfl) (by kernel_rfl) (fun _ _=>rfl) a0 rg
theorem R187(a0:AV)(rg:List Reg):bm.run (.fn 187) [a0] rg=s187 W02 bm.run (some [[.sl 1 []]]) a0 rg:=R_1 S187 (by kernel_rfl) (by kernel_rfl) (by kernel_rfl) (fun _ _=>rfl) a0 rg
theorem R188(a0:AV)(rg:List Reg):bm.run (.fn 188) [a0] rg=s188 W02 bm.run none a0 rg:=R_1 S188 (by kernel_rfl) (by kernel_rfl) (by kernel_rfl) (fun _ _=>rfl) a0 rg
theorem R189(a0:AV)(rg:List Reg):bm.run (.fn 189) [a0] rg=s189 W02 bm.run (some [[.sl 1 []]]) a0 rg:=R_1 S189 (by kernel_rfl) (by kernel_rfl) (by kernel_rfl) (fun _ _=>rfl) a0 rg
theorem R190(a0:AV)(rg:List Reg):bm.run (.fn 190) [a0] rg=s190 W02 bm.run (some [[.sl 1 []]]) a0 rg:=R_1 S190 (by kernel_rfl) (by kernel_rfl) (by kernel_rfl) (fun _ _=>rfl) a0 rg
theorem R193(a0 a1:AV)(rg:List Reg):bm.run (.fn 193) [a0,a1] rg=s193 W02 bm.run none a0 a1 rg:=R_2 S193 (by kernel_rfl) (by kernel_rfl) (by kernel_rfl) (fun _ _ _=>rfl) a0 a1 rg
theorem R194(a0:AV)(rg:List Reg):bm.run (.fn 194) [a0] rg=s194 W02 bm.run none a0 rg:=R_1 S194 (by kernel_rfl) (by kernel_rfl) (by kernel_rfl) (fun _ _=>rfl) a0 rg
theorem R209(a0 a1:AV)(rg:List Reg):bm.run (.fn 209) [a0,a1] rg=s209 W02 bm.run none a0 a1 rg:=R_2 S209 (by kernel_rfl) (by kernel_rfl) (by kernel_rfl) (fun _ _ _=>rfl) a0 a1 rg
theorem R210(a0:AV)(rg:List Reg):bm.run (.fn 210) [a0] rg=s210 W02 bm.run (some [[.sl 1 []]]) a0 rg:=R_1 S210 (by kernel_rfl) (by kernel_rfl) (by kernel_rfl) (fun _ _=>rfl) a0 rg
theorem R211(a0:AV)(rg:List Reg):bm.run (.fn 211) [a0] rg=s211 W02 bm.run (some [[.sl 1 []]]) a0 rg:=R_1 S211 (by kernel_rfl) (by kernel_rfl) (by kernel_rfl) (fun _ _=>rfl) a0 rg
theorem R212(a0:AV)(rg:List Reg):bm.run (.fn 212) [a0] rg=s212 W02 bm.run (some [[.sl 1 []]]) a0 rg:=R_1 S212 (by kernel_rfl) (by kernel_rfl) (by kernel_rfl) (fun _ _=>rfl) a0 rg
theorem R217(a0 a1:AV)(rg:List Reg):bm.run (.fn 217) [a0,a1] rg=s217 W02 bm.run none a0 a1 rg:=R_2 S217 (by kernel_rfl) (by kernel_rfl) (by kernel_rfl) (fun _ _ _=>rfl) a0 a1 rg
theorem R219(a0 a1 a2 a3:AV)(rg:List Reg):bm.run (.fn 219) [a0,a1,a2,a3] rg=s219 W02 bm.run none a0 a1 a2 a3 rg:=R_4 S219 (by kernel_rfl) (by kernel_rfl) (by kernel_rfl) (fun _ _ _ _ _=>rfl) a0 a1 a2 a3 rg
theorem R220(a0:AV)(rg:List Reg):bm.run (.fn 220) [a0] rg=s220 W02 bm.run none a0 rg:=R_1 S220 (by kernel_rfl) (by kernel_rfl) (by kernel_rfl) (fun _ _=>rfl) a0 rg
theorem R221(a0:AV)(rg:List Reg):bm.run (.fn 221) [a0] rg=s221 W02 bm.run none a0 rg:=R_1 S221 (by kernel_rfl) (by kernel_rfl) (by kernel_rfl) (fun _ _=>rfl) a0 rg
theorem R222(a0 a1 a2:AV)(rg:List Reg):bm.run (.fn 222) [a0,a1,a2] rg=s222 W02 bm.run none a0 a1 a2 rg:=R_3 S222 (by kernel_rfl) (by kernel_rfl) (by kernel_rfl) (fun _ _ _ _=>rfl) a0 a1 a2 rg
theorem R223(a0 a1:AV)(rg:List Reg):bm.run (.fn 223) [a0,a1] rg=s223 W02 bm.run none a0 a1 rg:=R_2 S223 (by kernel_rfl) (by kernel_rfl) (by kernel_rfl) (fun _ _ _=>rfl) a0 a1 rg
theorem R224(a0 a1 a2:AV)(rg:List Reg):bm.run (.fn 224) [a0,a1,a2] rg=s224 W02 bm.run none a0 a1 a2 rg:=R_3 S224 (by kernel_rfl) (by kernel_rfl) (by kernel_rfl) (fun _ _ _ _=>rfl) a0 a1 a2 rg
theorem R225(a0:AV)(rg:List Reg):bm.run (.fn 225) [a0] rg=s225 W02 bm.run none a0 rg:=R_1 S225 (by kernel_rfl) (by kernel_rfl) (by kernel_rfl) (fun _ _=>rfl) a0 rg
theorem R226(a0 a1 a2 a3:AV)(rg:List Reg):bm.run (.fn 226) [a0,a1,a2,a3] rg=s226 W02 bm.run none a0 a1 a2 a3 rg:=R_4 S226 (by kernel_rfl) (by kernel_rfl) (by kernel_rfl) (fun _ _ _ _ _=>rfl) a0 a1 a2 a3 rg
theorem R238(a0:AV)(rg:List Reg):bm.run (.fn 238) [a0] rg=s238 W02 bm.run none a0 rg:=R_1 S238 (by kernel_rfl) (by kernel_rfl) (by kernel_rfl) (fun _ _=>rfl) a0 rg
theorem R260(a0 a1:AV)(rg:List Reg):bm.run (.fn 260) [a0,a1] rg=s260 W02 bm.run none a0 a1 rg:=R_2 S260 (by kernel_rfl) (by kernel_rfl) (by kernel_rfl) (fun _ _ _=>rfl) a0 a1 rg
theorem R261(a0 a1:AV)(rg:List Reg):bm.run (.fn 261) [a0,a1] rg=s261 W02 bm.run none a0 a1 rg:=R_2 S261 (by kernel_rfl) (by kernel_rfl) (by kernel_rfl) (fun _ _ _=>rfl) a0 a1 rg
theorem R262(a0 a1:AV)(rg:List Reg):bm.run (.fn 262) [a0,a1] rg=s262 W02 bm.run none a0 a1 rg:=R_2 S262 (by kernel_rfl) (by kernel_rfl) (by kernel_rfl) (fun _ _ _=>rfl) a0 a1 rg
theorem R263(a0 a1:AV)(rg:List Reg):bm.run (.fn 263) [a0,a1] rg=s263 W02 bm.run none a0 a1 rg:=R_2 S263 (by kernel_rfl) (by kernel_rfl) (by kernel_rfl) (fun _ _ _=>rfl) a0 a1 rg
theorem R264(a0 a1:AV)(rg:List Reg):bm.run (.fn 264) [a0,a1] rg=s264 W02 bm.run none a0 a1 rg:=R_2 S264 (by kernel_rfl) (by kernel_rfl) (by kernel_rfl) (fun _ _ _=>rfl) a0 a1 rg
theorem R265(a0 a1:AV)(rg:List Reg):bm.run (.fn 265) [a0,a1] rg=s265 W02 bm.run none a0 a1 rg:=R_2 S265 (by kernel_rfl) (by kernel_rfl) (by kernel_rfl) (fun _ _ _=>rfl) a0 a1 rg
theorem R281(a0 a1:AV)(rg:List Reg):bm.run (.fn 281) [a0,a1] rg=s281 W02 bm.run none a0 a1 rg:=R_2 S281 (by kernel_rfl) (by kernel_rfl) (by kernel_rfl) (fun _ _ _=>rfl) a0 a1 rg
theorem R282(a0 a1:AV)(rg:List Reg):bm.run (.fn 282) [a0,a1] rg=s282 W02 bm.run (some [[.sl 1 []]]) a0 a1 rg:=R_2 S282 (by kernel_rfl) (by kernel_rfl) (by kernel_rfl) (fun _ _ _=>rfl) a0 a1 rg
theorem R287(a0 a1:AV)(rg:List Reg):bm.run (.fn 287) [a0,a1] rg=s287 W02 bm.run none a0 a1 rg:=R_2 S287 (by kernel_rfl) (by kernel_rfl) (by kernel_rfl) (fun _ _ _=>rfl) a0 a1 rg
theorem R288(a0 a1 a2:AV)(rg:List Reg):bm.run (.fn 288) [a0,a1,a2] rg=s288 W02 bm.run none a0 a1 a2 rg:=R_3 S288 (by kernel_rfl) (by kernel_rfl) (by kernel_rfl) (fun _ _ _ _=>rfl) a0 a1 a2 rg
theorem R289(a0 a1:AV)(rg:List Reg):bm.run (.fn 289) [a0,a1] rg=s289 W02 bm.run none a0 a1 rg:=R_2 S289 (by kernel_rfl) (by kernel_rfl) (by kernel_rfl) (fun _ _ _=>rfl) a0 a1 rg
theorem R290(a0 a1 a2:AV)(rg:List Reg):bm.run (.fn 290) [a0,a1,a2] rg=s290 W02 bm.run none a0 a1 a2 rg:=R_3 S290 (by kernel_rfl) (by kernel_rfl) (by kernel_rfl) (fun _ _ _ _=>rfl) a0 a1 a2 rg
theorem R291(a0 a1:AV)(rg:List Reg):bm.run (.fn 291) [a0,a1] rg=s291 W02 bm.run none a0 a1 rg:=R_2 S291 (by kernel_rfl) (by kernel_rfl) (by kernel_rfl) (fun _ _ _=>rfl) a0 a1 rg
theorem R292(a0 a1:AV)(rg:List Reg):bm.run (.fn 292) [a0,a1] rg=s292 W02 bm.run none a0 a1 rg:=R_2 S292 (by kernel_rfl) (by kernel_rfl) (by kernel_rfl) (fun _ _ _=>rfl) a0 a1 rg
theorem R293(a0 a1 a2:AV)(rg:List Reg):bm.run (.fn 293) [a0,a1,a2] rg=s293 W02 bm.run none a0 a1 a2 rg:=R_3 S293 (by kernel_rfl) (by kernel_rfl) (by kernel_rfl) (fun _ _ _ _=>rfl) a0 a1 a2 rg
theorem R294(a0 a1:AV)(rg:List Reg):bm.run (.fn 294) [a0,a1] rg=s294 W02 bm.run none a0 a1 rg:=R_2 S294 (by kernel_rfl) (by kernel_rfl) (by kernel_rfl) (fun _ _ _=>rfl) a0 a1 rg
theorem R295(a0 a1 a2:AV)(rg:List Reg):bm.run (.fn 295) [a0,a1,a2] rg=s295 W02 bm.run none a0 a1 a2 rg:=R_3 S295 (by kernel_rfl) (by kernel_rfl) (by kernel_rfl) (fun _ _ _ _=>rfl) a0 a1 a2 rg
theorem R296(a0 a1 a2:AV)(rg:List Reg):bm.run (.fn 296) [a0,a1,a2] rg=s296 W02 bm.run none a0 a1 a2 rg:=R_3 S296 (by kernel_rfl) (by kernel_rfl) (by kernel_rfl) (fun _ _ _ _=>rfl) a0 a1 a2 rg
theorem R297(a0 a1:AV)(rg:List Reg):bm.run (.fn 297) [a0,a1] rg=s297 W02 bm.run none a0 a1 rg:=R_2 S297 (by kernel_rfl) (by kernel_rfl) (by kernel_rfl) (fun _ _ _=>rfl) a0 a1 rg
theorem R298(a0 a1 a2:AV)(rg:List Reg):bm.run (.fn 298) [a0,a1,a2] rg=s298 W02 bm.run none a0 a1 a2 rg:=R_3 S298 (by kernel_rfl) (by kernel_rfl) (by kernel_rfl) (fun _ _ _ _=>rfl) a0 a1 a2 rg
theorem R299(a0 a1:AV)(rg:List Reg):bm.run (.fn 299) [a0,a1] rg=s299 W02 bm.run none a0 a1 rg:=R_2 S299 (by kernel_rfl) (by kernel_rfl) (by kernel_rfl) (fun _ _ _=>rfl) a0 a1 rg
theorem R302(a0:AV)(rg:List Reg):bm.run (.fn 302) [a0] rg=s302 W02 bm.run none a0 rg:=R_1 S302 (by kernel_rfl) (by kernel_rfl) (by kernel_rfl) (fun _ _=>rfl) a0 rg
theorem R303(a0 a1:AV)(rg:List Reg):bm.run (.fn 303) [a0,a1] rg=s303 W02 bm.run (some [[.sl 3 []]]) a0 a1 rg:=R_2 S303 (by kernel_rfl) (by kernel_rfl) (by kernel_rfl) (fun _ _ _=>rfl) a0 a1 rg
theorem R304(a0 a1:AV)(rg:List Reg):bm.run (.fn 304) [a0,a1] rg=s304 W02 bm.run none a0 a1 rg:=R_2 S304 (by kernel_rfl) (by kernel_rfl) (by kernel_rfl) (fun _ _ _=>rfl) a0 a1 rg
theorem R306(a0:AV)(rg:List Reg):bm.run (.fn 306) [a0] rg=s306 W02 bm.run none a0 rg:=R_1 S306 (by kernel_rfl) (by kernel_rfl) (by kernel_rfl) (fun _ _=>rfl) a0 rg
theorem R307(a0 a1:AV)(rg:List Reg):bm.run (.fn 307) [a0,a1] rg=s307 W02 bm.run none a0 a1 rg:=R_2 S307 (by kernel_rfl) (by kernel_rfl) (by kernel_rfl) (fun _ _ _=>rfl) a0 a1 rg
theorem R308(a0 a1:AV)(rg:List Reg):bm.run (.fn 308) [a0,a1] rg=s308 W02 bm.run none a0 a1 rg:=R_2 S308 (by kernel_rfl) (by kernel_rfl) (by kernel_rfl) (fun _ _ _=>rfl) a0 a1 rg
theorem R309(a0 a1:AV)(rg:List Reg):bm.run (.fn 309) [a0,a1] rg=s309 W02 bm.run none a0 a1 rg:=R_2 S309 (by kernel_rfl) (by kernel_rfl) (by kernel_rfl) (fun _ _ _=>rfl) a0 a1 rg
theorem R310(a0 a1:AV)(rg:List Reg):bm.run (.fn 310) [a0,a1] rg=s310 W02 bm.run none a0 a1 rg:=R_2 S310 (by kernel_rfl) (by kernel_rfl) (by kernel_rfl) (fun _ _ _=>rfl) a0 a1 rg
theorem R313(a0 a1:AV)(rg:List Reg):bm.run (.fn 313) [a0,a1] rg=s313 W02 bm.run none a0 a1 rg:=R_2 S313 (by kernel_rfl) (by kernel_rfl) (by kernel_rfl) (fun _ _ _=>rfl) a0 a1 rg
theorem R314(a0:AV)(rg:List Reg):bm.run (.fn 314) [a0] rg=s314 W02 bm.run none a0 rg:=R_1 S314 (by kernel_rfl) (by kernel_rfl) (by kernel_rfl) (fun _ _=>rfl) a0 rg
theorem R325(a0 a1 a2:AV)(rg:List Reg):bm.run (.fn 325) [a0,a1,a2] rg=s325 W02 bm.run (some [[.sl 1 []]]) a0 a1 a2 rg:=R_3 S325 (by kernel_rfl) (by kernel_rfl) (by kernel_rfl) (fun _ _ _ _=>rfl) a0 a1 a2 rg
theorem R332(a0 a1:AV)(rg:List Reg):bm.run (.fn 332) [a0,a1] rg=s332 W02 bm.run none a0 a1 rg:=R_2 S332 (by kernel_rfl) (by kernel_rfl) (by kernel_rfl) (fun _ _ _=>rfl) a0 a1 rg
theorem R333(a0 a1 a2:AV)(rg:List Reg):bm.run (.fn 333) [a0,a1,a2] rg=s333 W02 bm.run (some [[.sl 1 []]]) a0 a1 a2 rg:=R_3 S333 (by kernel_rfl) (by kernel_rfl) (by kernel_rfl) (fun _ _ _ _=>rfl) a0 a1 a2 rg
theorem R335(a0 a1:AV)(rg:List Reg):bm.run (.fn 335) [a0,a1] rg=s335 W02 bm.run none a0 a1 rg:=R_2 S335 (by kernel_rfl) (by kernel_rfl) (by kernel_rfl) (fun _ _ _=>rfl) a0 a1 rg
theorem R336(a0 a1 a2:AV)(rg:List Reg):bm.run (.fn 336) [a0,a1,a2] rg=s336 W02 bm.run none a0 a1 a2 rg:=R_3 S336 (by kernel_rfl) (by kernel_rfl) (by kernel_rfl) (fun _ _ _ _=>rfl) a0 a1 a2 rg
theorem R340(a0 a1:AV)(rg:List Reg):bm.run (.fn 340) [a0,a1] rg=s340 W02 bm.run none a0 a1 rg:=R_2 S340 (by kernel_rfl) (by kernel_rfl) (by kernel_rfl) (fun _ _ _=>rfl) a0 a1 rg
end Go.Sim
namespace Go.Sim
open Go.RowKit
attribute [simp] Fin Rc cons? W08 Wc5 vbox W0x W06 W1m
section
variable (o n:Nat) (agg:Bool) (l xs:List AC)
@[simp low] theorem V4l:W0n o n agg (some (.ac l))=if o+n≤l.length then pack agg ((l.drop o).take n)else none:=_root_.id rfl
@[simp low] theorem V6b:vfld o n agg (.agg l)=if o+n≤l.length then pack agg ((l.drop o).take n)else none:=_root_.id rfl
@[simp low] theorem V15:W1n o n xs (some (.ac l))=if xs.length=n∧o+n≤l.length then some (.ac (l.take o++xs++l.drop (o+n)))else none:=_root_.id rfl
end
@[simp] theorem Wwi {α β:Type} (f:α→β) (l:List α):(l.map f).take l.length=l.map f:=Ze (by simp)
@[simp] theorem Ins.eta (x:Ins):Ins.mk x.op x.a x.b x.c x.n=x:=_root_.id rfl
@[simp] theorem V95 (n:Nat):n+1+1=n+2:=_root_.id rfl
@[simp] theorem V96 (n:Nat):n+1+2=n+3:=_root_.id rfl
@[simp] theorem V97 (n:Nat):n+1+3=n+4:=_root_.id rfl
theorem Wkz{body:St→Option (Exit×St)}{s:St}(h:body s=none):W02 body s=none:=by
 cases hl:W02 body s with
 | none=>rfl
 | some x=>
  obtain ⟨n,hn⟩:=loopR_some.1 hl
  cases n with
  | zero=>cases hn
  | succ n=>rw[loopE,h]at hn; cases hn
noncomputable def Wtw (body:St→Option (Exit×St)):Option (Exit×St)→Option (Exit×St)
 | some (.normal,s)=>W02 body s
 | o=>o
theorem W09(body:St→Option (Exit×St))(s:St):W02 body s=Wtw body (body s):=by
 cases h:body s with
 | none=>exact Wkz h
 | some x=>
  obtain ⟨e,s1⟩:=x
  cases e with
  | normal=>exact W51 h
  | _=>exact W3d h (by simp)
@[simp] theorem W4m (body:St→Option (Exit×St)) (s:St):Wtw body (some (.normal,s))=W02 body s:=_root_.rfl
@[simp] theorem V98 (body:St→Option (Exit×St)) (s:St):Wtw body (some (.ret,s))=some (.ret,s):=_root_.rfl
@[simp] theorem V99 (body:St→Option (Exit×St)) (i:Nat) (s:St):Wtw body (some (.exit i,s))=some (.exit i,s):=_root_.rfl
theorem W0y{body:St→Option (Exit×St)}(F:Nat→St)(n:Nat)(hb:∀i,i<n→body (F i)=some (.normal,F (i+1))){e:Exit}{s':St}(he:body (F n)=some (e,s'))(hne:e≠ .normal):W02 body (F 0)=some (e,s'):=by
 have:∀k,k≤n→W02 body (F (n-k))=some (e,s'):=by
  intro k
  induction k with
  | zero=>exact fun _=>W3d he hne
  | succ k ih=>
   intro hk
   have h1:=hb (n-(k+1)) (by omega)
   rw[show n-(k+1)+1=n-k by omega]at h1
   rw[W51 h1]
   exact ih (by omega)
 have h:=this n (Z8 _)
 rwa[Nat.sub_self]at h
theorem W9j{α:Type}{body:St→Option (Exit×St)}(bad:α→Bool)(S T:Nat→St){k:Nat}{E:St}:∀(l:List α) (j:Nat),(∀i x,l[i]?=some x→body (S (j+i))=if bad x=true then some (.ret,T (j+i))else some (.normal,S (j+i+1)))→body (S (j+l.length))=some (.exit k,E)→
  W02 body (S j)=match l.findIdx? bad with
   | some i=>some (.ret,T (j+i))
   | none=>some (.exit k,E)
 | [],j,_,he=>by
  rw[List.findIdx?_nil]
  exact W3d (by simpa using he) (by simp)
 | x::l,j,hb,he=>by
  have h0:=hb 0 x rfl
  rw[Nat.add_zero]at h0
  rw[Xm]
  by_cases hx:bad x=true
  ·rw[if_pos hx]at h0 ⊢
   exact W3d h0 (by simp)
  ·rw[if_neg hx]at h0 ⊢
   rw[W51 h0,W9j bad S T l (j+1) (fun i y hy=>by
    have:=hb (i+1) y (by simpa using hy)
    rwa[show j+(i+1)=j+1+i by omega]at this) (by
    have:=he
    rwa[Yh,show j+(l.length+1)=j+1+l.length by omega]at this)]
   cases l.findIdx? bad with
   | none=>rfl
   | some i=>simp only[Yi]; rw[show j+1+i=j+(i+1)by omega]
theorem W2r{α:Type}{body:St→Option (Exit×St)}(l:List α)(bad:α→Bool)(S T:Nat→St){k:Nat}{E:St}(hb:∀i x,l[i]?=some x→body (S i)=if bad x=true then some (.ret,T i)else some (.normal,S (i+1)))(he:body (S l.length)=some (.exit k,E)):
  W02 body (S 0)=match l.findIdx? bad with
   | some i=>some (.ret,T i)
   | none=>some (.exit k,E):=by
 have:=W9j bad S T (k:=k) (E:=E) l 0 (fun i x h=>by simpa using hb i x h) (by simpa using he)
 simpa using this
theorem W0b{rg:List Reg}{m:Nat}{x:Reg}(h:rg[m]?=some x)(l:List Reg):(rg++l)[m]?=some x:=by
 rw[Zp (Z3.1 h).1]; exact h
theorem W16{rg:List Reg}{m:Nat}{x:Reg}(h:rg[m]?=some x):m<rg.length:=(Z3.1 h).1
@[simp] theorem W0g {n:Int} (h1: -9223372036854775808≤n) (h2:n<9223372036854775808):IntKind.i64.wrap n=n:=by
 exact Go.IntWalk.i64_in n ⟨h1,by omega⟩
@[simp] theorem Vad (v:AV) (m:List Reg) (hv:avLt 0 v=true):gcF 0 (v,m)=(v,[]):=V24 v [] m V1y hv
@[simp] theorem V9a (k:Nat) (neg:Bool) (v:AV) (rg:List Reg):xE (.nilq k neg) [v] rg=(W4g k v).map fun b=>(Bo (if neg then !b else b),rg):=by
 show (match W4g k v with | some b=>some (Bo (if neg then !b else b),rg) | none=>none)=_
 cases W4g k v<;>rfl
@[simp] theorem V6c:W4g 0 nilp=some true:=_root_.id rfl
@[simp] theorem V6d (id off:Nat):W4g 0 (.c (.ptr id off))=some false:=_root_.id rfl
@[simp] theorem V6e:W4g 1 (.c (.p (.v (.slice none 0 0))))=some true:=_root_.id rfl
@[simp] theorem V9b (a:Array UInt8) (k:IntKind) (i:Int):vixt (.c (.p (.v (.string ⟨a⟩)))) (I k i)=if 0≤i then (a[i.toNat]?).map fun u=>I .u8 u.toNat else none:=_root_.rfl
@[simp] theorem Wtx (rg:List Reg) (n:Nat) (agg:Bool) (l:List PV):W01 rg n agg (.c (.rp l))=if n≤l.length then pack agg ((l.take n).map .p)else none:=_root_.rfl
theorem V4m(n:Nat)(xs l:List AC)(h:xs.length=n)(h2:l.length=n):W1n 0 n xs (some (.ac l))=some (.ac xs):=by
 subst h
 simp[W1n,h2]
mutual
def flP:PV→Bool
 | .v x=>W2d x
 | .sl _ l=>flL l
def flL:List (List PV)→Bool
 | []=>true
 | r::l=>flR r&&flL l
def flR:List PV→Bool
 | []=>true
 | x::r=>flP x&&flR r
end
theorem Wq1{x:Value}(h:W2d x=true):valB x x=true:=by
 cases x with
 | bool b=>simp[valB]
 | int k n=>simp[valB]
 | string b=>simp[valB]
 | nilFunc=>rfl
 | nilIface=>rfl
 | pointer a=>cases a with
  | none=>rfl
  | some a=>cases h
 | slice a n c=>cases a with
  | some a=>cases h
  | none=>cases n with
   | succ n=>cases h
   | zero=>cases c with
    | succ c=>cases h
    | zero=>rfl
 | map a=>cases a with
  | none=>rfl
  | some a=>cases h
 | chan a=>cases a with
  | none=>rfl
  | some a=>cases h
 | _=>cases h
mutual
theorem Wj4:∀{x:PV},flP x=true→pvB x x=true
 | .v x,h=>by
  simp only[flP]at h
  simp only[pvB,Wq1 h]
 | .sl n l,h=>by
  simp only[flP]at h
  simp only[pvB,beq_self_eq_true,Xp,W6p h]
theorem W6p:∀{l:List (List PV)},flL l=true→W8x l l=true
 | [],_=>by simp only[W8x]
 | r::l,h=>by
  simp only[flL,Z4]at h
  simp only[W8x,W9k h.1,W6p h.2,Bool.and_self]
theorem W9k:∀{l:List PV},flR l=true→rowB l l=true
 | [],_=>by simp only[rowB]
 | x::l,h=>by
  simp only[flR,Z4]at h
  simp only[rowB,Wj4 h.1,W9k h.2,Bool.and_self]
end
def flA:AC→Bool
 | .p x=>flP x
 | .tight _ l=>flL l
 | .rp l=>flR l
 | .own _ _ _ _ _ | .ptr _ _ | .ept _ _ _ _ | .hnd _ _ | .any=>true
 | _=>false
theorem Wq2(c:Cap):capB c c=true:=by cases c<;>simp[capB]
theorem Wca{x:AC}(h:flA x=true):acB x x=true:=by
 cases x with
 | p x=>exact Wj4 h
 | tight n l=>simp only[acB,beq_self_eq_true,Xp]; exact W6p h
 | rp l=>exact W9k h
 | own a b c d e=>simp[acB,Wq2]
 | ptr a b=>simp[acB]
 | ept a b c d=>simp[acB]
 | hnd a b=>simp[acB]
 | any=>rfl
 | fn f a b=>cases h
theorem Wb5{l:List AC}(h:l.all flA=true):W3q acB l l=true:=by
 induction l with
 | nil=>rfl
 | cons x l ih=>
  simp only[Y2,Z4]at h
  simp only[W3q,Wca h.1,ih h.2,Bool.and_self]
def flV:AV→Bool
 | .c x=>flA x
 | .agg l=>l.all flA
 | .tup _=>false
@[simp] theorem Wcb {β:Type} {a:AV} (h:flV a=true) (x:Option β):Sm a a x=x:=by
 unfold Sm
 rw[if_pos]
 cases a with
 | c y=>simp only[avB]; exact Wca h
 | agg l=>simp only[avB]; exact Wb5 h
 | tup l=>cases h
section
variable (n:Nat)
@[simp] theorem Vau (x:AC):flV (.c x)=flA x:=_root_.id rfl
@[simp] theorem Wq3 (l:List AC):flV (.agg l)=l.all flA:=_root_.id rfl
@[simp] theorem Vav (x:PV):flA (.p x)=flP x:=_root_.id rfl
@[simp] theorem V9c (a b c d:Nat) (e:Cap):flA (.own a b c d e)=true:=_root_.id rfl
@[simp] theorem V9d (a b:Nat):flA (.ptr a b)=true:=_root_.id rfl
@[simp] theorem V9e (k:HK) (a:Nat):flA (.hnd k a)=true:=_root_.id rfl
@[simp] theorem Vaw (x:Value):flP (.v x)=W2d x:=by simp only[flP]
@[simp] theorem Vae (l:List (List PV)):flP (.sl n l)=flL l:=by simp only[flP]
@[simp] theorem Vax:flR []=true:=by simp only[flR]
@[simp] theorem V9f (x:PV) (l:List PV):flR (x::l)=(flP x&&flR l):=by simp only[flR]
@[simp] theorem Vay:flL []=true:=by simp only[flL]
@[simp] theorem Vaz (x:List PV) (l:List (List PV)):flL (x::l)=(flR x&&flL l):=by simp only[flL]
@[simp] theorem V6f (k:IntKind) (n:Int):W2d (.int k n)=true:=_root_.id rfl
@[simp] theorem V4n (b:Bool):W2d (.bool b)=true:=_root_.id rfl
end
theorem W44{α:Type}(f:α→List PV)(h:∀x,flR (f x)=true):∀l:List α,flL (l.map f)=true
 | []=>by simp
 | x::l=>by simp[h x,W44 f h l]
theorem Wzb(l:List PV)(h:flR l=true):(l.map AC.p).all flA=true:=by
 induction l with
 | nil=>rfl
 | cons x l ih=>
  simp only[V9f,Z4]at h
  simp[h.1,ih h.2]
@[simp] theorem fl_I (l:List Int):flL (l.map fun n=>[iv n])=true:=W44 _ (fun n=>by simp) l
@[simp] theorem fl_3 (l:List Tri):flL (l.map Tri.k)=true:=W44 _ (fun n=>by simp) l
@[simp] theorem fl_E (l:List Ent):flL (l.map Ent.k)=true:=W44 _ (fun n=>by simp[Ent.k]) l
@[simp] theorem fl_C (l:List Cel):flL (l.map Cel.k)=true:=W44 _ (fun n=>by simp[Cel.k]) l
@[simp] theorem fl_N (l:List Ins):flL (l.map Ins.k)=true:=W44 _ (fun n=>by simp) l
@[simp] theorem Vb0 (l:List (List Ins)):flL (l.map fun x=>[slN x])=true:=W44 _ (fun n=>by simp) l
@[simp] theorem Vb1 (l:List (List Ent)):flL (l.map fun x=>[slE x])=true:=W44 _ (fun n=>by simp) l
@[simp] theorem V4o (th:Thr):flR th.k=true:=by simp[Thr.k]
@[simp] theorem fl_T (l:List Thr):flL (l.map Thr.k)=true:=W44 _ (fun n=>by simp) l
@[simp] theorem V4p (s:Ste):flR s.k=true:=by simp[Ste.k]
@[simp] theorem V4q (l:List PV) (h:flR l=true):(l.map AC.p).all flA=true:=Wzb l h
end Go.Sim
namespace Go.Sim
open Go.RowKit Go.Proofs.YtahoelmjfgoedaaGreat.T
attribute [-simp] vfld W0n W1n
def inB(n lo hi:Int):Bool:=decide (lo≤n)&&decide (n≤hi)
@[simp] theorem Vaf (n lo hi:Int) (rg:List Reg):bm.run (.fn 71) [I .i64 n,I .i64 lo,I .i64 hi] rg=some (Bo (inB n lo hi),rg):=by
 rw[R71]
 by_cases h:lo≤n<;>simp[s71,h,inB]
def W0o(n lo hi:Int):Int:=if n<lo then lo else if hi<n then hi else n
@[simp] theorem V4r (n lo hi:Int) (rg:List Reg):bm.run (.fn 133) [I .i64 n,I .i64 lo,I .i64 hi] rg=some (I .i64 (W0o n lo hi),rg):=by
 rw[R133]
 by_cases h:n<lo<;>simp[s133,h,W0o]
@[simp] theorem V9g (a b:Int) (rg:List Reg):bm.run (.fn 307) [I .i64 a,I .i64 b] rg=some (I .i64 (IntKind.i64.wrap (a+b)),rg):=by
 rw[R307]; simp[s307]
@[simp] theorem V9h (a b:Int) (rg:List Reg):bm.run (.fn 335) [I .i64 a,I .i64 b] rg=some (I .i64 (IntKind.i64.wrap (a*b)),rg):=by
 rw[R335]; simp[s335]
def W9l(op:Int):Bool:=(decide (11≤op)&&decide (op≤16))||(decide (18≤op)&&decide (op≤25))
@[simp] theorem V16 (op:Int) (rg:List Reg):bm.run (.fn 225) [I .i64 op] rg=some (Bo (W9l op),rg):=by
 rw[R225]
 by_cases h:(11:Int)≤op<;>by_cases h2:op≤16<;>by_cases h3:(18:Int)≤op<;>simp[s225,h,h2,h3,W9l]<;>omega
def Wgd(letter r s code:Int):Int:=if letter=114 then 3 else if letter=103 then IntKind.i64.wrap ((if r<0 then 0 else r)-1)else if letter=115 then IntKind.i64.wrap ((if s<0 then 0 else s)-1)else if letter=102 then 1 else if letter=116 then code else if letter=45 then 0 else-1
def W30(letter n r s code:Int):Bool:=decide (letter=110)||(decide (0≤n)&&decide (n≤Wgd letter r s code))
abbrev pAV(r c s:Int)(k:PV):AV:= .agg [.p (iv r),.p (iv c),.p (iv s),.p k]
theorem Wty(letter n r c s code:Int)(k:PV)(rg:List Reg)(hw:wf rg):bm.run (.fn 219) [I .u8 letter,I .i64 n,pAV r c s k,I .i64 code] rg=some (Bo (W30 letter n r s code),rg):=by
 rw[R219]
 by_cases h1:letter=110
 ·simp[s219,W30,h1,hw]
 by_cases hn:(0:Int)≤n<;>by_cases h2:letter=114<;>by_cases h3:letter=103<;>by_cases h4:letter=115<;>by_cases h5:letter=102<;>by_cases h6:letter=116<;>by_cases h7:letter=45<;>first | (exfalso; omega) | simp[s219,W30,Wgd,h1,h2,h3,h4,h5,h6,h7,hn,hw]
end Go.Sim
namespace Go.Sim
open Go.RowKit Go.Proofs.YtahoelmjfgoedaaGreat.T
attribute [-simp] vfld W0n W1n
attribute [simp] V4m
abbrev av3(x:Tri):AV:= .agg [.p (iv x.a),.p (iv x.b),.p (iv x.c)]
@[simp] theorem wfA {rg m:List Reg} (h:wf rg) (hm:m.all (W18 (rg.length+m.length))=true):wf (rg++m):=W07 h hm
def W21(n:Int):Tri:=⟨n,0,0⟩
@[simp] theorem W6c (n:Int) (rg:List Reg) (hw:wf rg):bm.run (.fn 238) [I .i64 n] rg=some (av3 (W21 n),rg):=by
 rw[R238]; simp[s238,hw,W21]
theorem V4s(a b c:Int)(rg:List Reg)(hw:wf rg):bm.run (.fn 194) [.agg [.p (iv a),.p (iv b),.p (iv c)]] rg=some (Bo (decide (0<b)),rg):=by
 rw[R194]; simp[s194,hw]
def Thr.done(th:Thr)(n:Int):Bool:= !decide (th.status=0)||(decide (th.mi.kind=0)&&(decide (th.fuel≤0)|| !inB th.pc 0 (n-1)))
theorem W6d(th:Thr)(l:List Ins)(hl:l.length≤1000)(rg:List Reg)(hw:wf rg):bm.run (.fn 69) [ag th.k,.c (.p (slN l))] rg=some (Bo (th.done l.length),rg):=by
 rw[R69]
 have e:IntKind.i64.wrap ((l.length:Int)-1)=(l.length:Int)-1:=W0g (by omega) (by omega)
 by_cases h1:th.status=0<;>by_cases h2:th.mi.kind=0<;>by_cases h3:th.fuel≤0<;>simp[s69,hw,h1,h2,h3,Thr.done,e]
def ins0:Ins:=⟨0,0,0,0,0⟩
def Thr.nxt(th:Thr)(l:List Ins):Ins×Bool:=if (th.done l.length|| !decide (th.mi.kind=0))=true then (ins0,false)else (l.getD th.pc.toNat ins0,true)
abbrev insA(x:Ins):AV:= .agg [.p (iv x.op),.p (iv x.a),.p (iv x.b),.p (iv x.c),.p (iv x.n)]
theorem Thr.done_pc{th:Thr}{n:Int}(h:th.done n=false)(hk:th.mi.kind=0):0≤th.pc∧th.pc<n:=by
 simp only[Thr.done,hk,inB,Bool.or_eq_false_iff,Bool.and_eq_false_iff,decide_true,Xp,Bool.or_eq_false_iff,Bool.not_eq_false',Z4,Zf]at h
 omega
theorem Wtz(th:Thr)(l:List Ins)(hl:l.length≤1000)(rg:List Reg)(hw:wf rg):bm.run (.fn 140) [ag th.k,.c (.p (slN l))] rg=some (.tup [insA (th.nxt l).1,Bo (th.nxt l).2],rg):=by
 rw[R140]
 cases hd:th.done l.length with
 | true=>simp[s140,hw,W6d,hl,hd,Thr.nxt,ins0]
 | false=>
  by_cases hk:th.mi.kind=0
  ·obtain ⟨h0,h1⟩:=Thr.done_pc hd hk
   have h2:th.pc.toNat<l.length:=by omega
   have h3:l[th.pc.toNat]?=some (l[th.pc.toNat]'h2):=Z2 h2
   have h4:l.getD th.pc.toNat ins0=l[th.pc.toNat]'h2:=by rw[Zc,h3]; rfl
   generalize l[th.pc.toNat]'h2=x at h3 h4
   simp[s140,hw,W6d,hl,hd,hk,h0,h3,h4,Thr.nxt]
  ·simp[s140,hw,W6d,hl,hd,hk,Thr.nxt,ins0]
def Thr.get(th:Thr)(r:Int):Tri:=if r=0 then th.r0 else if r=1 then th.r1 else if r=2 then th.r2 else if r=3 then th.r3 else ⟨0,0,0⟩
theorem Wge(th:Thr)(r:Int)(rg:List Reg)(hw:wf rg):bm.run (.fn 309) [ag th.k,I .i64 r] rg=some (av3 (th.get r),rg):=by
 rw[R309]
 by_cases h0:r=0
 ·simp[s309,hw,h0,Thr.get,inB]
 by_cases h1:r=1
 ·simp[s309,hw,h1,Thr.get,inB]
 by_cases h2:r=2
 ·simp[s309,hw,h2,Thr.get,inB]
 by_cases h3:r=3
 ·simp[s309,hw,h3,Thr.get,inB]
 ·have:inB r 0 3=false:=by simp[inB]; omega
  simp[s309,hw,this,Thr.get,h0,h1,h2,h3]
def Thr.okT(th:Thr):Prop:=th.mi.seen.length≤1000∧th.bag.length≤1000∧th.snap.length≤1000
theorem Wl0(th:Thr)(ht:th.okT)(rg:List Reg)(hw:wf rg):bm.run (.fn 111) [ag th.k] rg=some (ag th.k,rg):=by
 rw[R111]
 obtain ⟨h1,h2,h3⟩:=ht
 have h1':th.mi.seen.length≤1000000:=by omega
 have h2':th.bag.length≤1000000:=by omega
 have h3':th.snap.length≤1000000:=by omega
 have g1:th.mi.seen.length≤9223372036854775807:=by omega
 have g2:th.bag.length≤9223372036854775807:=by omega
 have g3:th.snap.length≤9223372036854775807:=by omega
 simp[s111,hw,V8z,V90,Thr.k,h1',h2',h3',g1,g2,g3,W2w]
end Go.Sim
namespace Go.Sim
open Go.RowKit Go.Proofs.YtahoelmjfgoedaaGreat.T
attribute [-simp] vfld W0n W1n
abbrev ov(n:Int):PV:= .v (.int .u8 n)
abbrev oL(b:List Int):List (List PV):=b.map fun x=>[ov x]
abbrev oS(b:List Int):AV:=Sl 1 (oL b)
def be8(n:Int):List Int:=[n/72057594037927936%256,n/281474976710656%256,n/1099511627776%256,n/4294967296%256,n/16777216%256,n/65536%256,n/256%256,n%256]
theorem W6e(y:Int):IntKind.u8.wrap y=y%256:=by
 simp[IntKind.wrap,IntKind.bits,IntKind.signed]
theorem W45(y:Int):IntKind.u64.wrap y=y%18446744073709551616:=by
 simp[IntKind.wrap,IntKind.bits,IntKind.signed]
theorem shr8:(2:Int)^min 8 IntKind.u64.bits=256:=rfl
def by8(x:Int):List Int:=[x/256/256/256/256/256/256/256%256,x/256/256/256/256/256/256%256,x/256/256/256/256/256%256,x/256/256/256/256%256,x/256/256/256%256,x/256/256%256,x/256%256,x%256]
theorem Wwj(n:Int):by8 (IntKind.u64.wrap n)=be8 n:=by
 rw[W45]
 simp only[by8,be8,List.cons.injEq,and_true]
 refine ⟨?_,?_,?_,?_,?_,?_,?_,?_⟩<;>omega
theorem Wj5(n0:Nat)(a:AV)(x:Int)(rg:List Reg):
  W02 (W4l W02 bm.run n0) ⟨[(20,I .i64 0),(19,I .i64 8),(8,I .u64 x),(7,.c (.ept rg.length 1 0 0)),(2,I .i64 8),(0,a)],rg++[.pc 1 [[ov 0],[ov 0],[ov 0],[ov 0],[ov 0],[ov 0],[ov 0],[ov 0]]]⟩=
   some (.exit 0,⟨[(21,Bo false),(20,I .i64 8),(19,I .i64 8),(8,I .u64 (x/256/256/256/256/256/256/256/256)),(7,.c (.ept rg.length 1 0 0)),(2,I .i64 8),(0,a)],rg++[.pc 1 (oL (by8 x))]⟩):=by
 rw[W09]; simp[W4l,shr8,W6e]
 rw[W09]; simp[W4l,shr8,W6e]
 rw[W09]; simp[W4l,shr8,W6e]
 rw[W09]; simp[W4l,shr8,W6e]
 rw[W09]; simp[W4l,shr8,W6e]
 rw[W09]; simp[W4l,shr8,W6e]
 rw[W09]; simp[W4l,shr8,W6e]
 rw[W09]; simp[W4l,shr8,W6e]
 rw[W09]; simp[W4l,by8]
theorem Wzc(b e:List Int)(h8:e.length=8)(hb:b.length≤1000000)(rg:List Reg):vapp (rg++[.pc 1 (oL e)]) 1 1 (.c (.tight 1 (oL b))) (.c (.own rg.length 0 1 8 (.ex 8)))=some (.c (.own (rg.length+1) 0 1 (b.length+8) .free),rg++[.pc 1 (oL e),.pc 1 (oL (b++e))]):=by
 have hg:(rg++[Reg.pc 1 (oL e)])[rg.length]?=some (.pc 1 (oL e)):=by simp
 have ht:((oL e).drop 0).take 8=oL e:=Ze (by simp[h8])
 unfold vapp W3p
 simp only[W15,hg,W1i,szOf,if_true,ht]
 rw[if_pos ⟨by simp[h8],by simp⟩,if_pos ⟨by simp,by omega,by simp; omega,by simp; omega⟩]
 simp
theorem Wu0(e:List Int)(h8:e.length=8)(rg:List Reg):vapp (rg++[.pc 1 (oL e)]) 1 1 (.c (.p nilS)) (.c (.own rg.length 0 1 8 (.ex 8)))=some (.c (.own (rg.length+1) 0 1 8 .free),rg++[.pc 1 (oL e),.pc 1 (oL e)]):=by
 have hg:(rg++[Reg.pc 1 (oL e)])[rg.length]?=some (.pc 1 (oL e)):=by simp
 have ht:((oL e).drop 0).take 8=oL e:=Ze (by simp[h8])
 unfold vapp W3p
 simp only[W15,hg,W1i,szOf,if_true,ht]
 rw[if_pos ⟨by simp[h8],by simp⟩,if_pos ⟨by omega,by omega⟩]
 simp
theorem Wzd(b:List Int)(n:Int)(hb:b.length≤1000000)(rg:List Reg)(hw:wf rg):bm.run (.fn 333) [oS b,I .i64 n,I .i64 8] rg=some (oS (b++be8 n),rg):=by
 have hl:=Wj5 rg.length (oS b) (IntKind.u64.wrap n) rg
 rw[Wwj]at hl
 have h8:(be8 n).length=8:=rfl
 generalize be8 n=e at*
 have h0:(0:Int)≤b.length:=by omega
 have hp:=Wzc b e h8 hb rg
 rw[R333]
 simp[s333,hl]
 simp[vsls,W0m,vsla]
 rw[hp]
 have h3:b.length+8≤9223372036854775807:=by omega
 have ht:(List.map (fun x=>[ov x]) b++List.map (fun x=>[ov x]) e).length=b.length+8:=by simp[h8]
 have ht2:List.take (b.length+8) (List.map (fun x=>[ov x]) b++List.map (fun x=>[ov x]) e)=List.map (fun x=>[ov x]) b++List.map (fun x=>[ov x]) e:=Ze (by omega)
 simp[hw,h3,ht2,Wkq,Wp6]
 simp[h8]
theorem Wu1(n:Int)(rg:List Reg)(hw:wf rg):bm.run (.fn 333) [.c (.p nilS),I .i64 n,I .i64 8] rg=some (oS (be8 n),rg):=by
 have hl:=Wj5 rg.length (.c (.p nilS)) (IntKind.u64.wrap n) rg
 rw[Wwj]at hl
 have h8:(be8 n).length=8:=rfl
 generalize be8 n=e at*
 have hp:=Wu0 e h8 rg
 rw[R333]
 simp[s333,hl]
 simp[vsls,W0m,vsla]
 rw[hp]
 have ht2:List.take 8 (List.map (fun x=>[ov x]) e)=List.map (fun x=>[ov x]) e:=Ze (by simp[h8])
 simp[hw,ht2,Wkq,Wp6,h8]
end Go.Sim
namespace Go.Sim
open Go.RowKit
theorem W0z{body:St→Option (Exit×St)}(Inv:Nat→St→Prop)(Q:Exit→St→Prop)(n:Nat){s:St}(h0:Inv 0 s)(hs:∀i,i<n→∀s,Inv i s→∃s',body s=some (.normal,s')∧Inv (i+1) s')
  (he:∀s,Inv n s→∃e s',body s=some (e,s')∧e≠ .normal∧Q e s'):∃e s',W02 body s=some (e,s')∧Q e s':=by
 have:∀k,k≤n→∀s,Inv (n-k) s→∃e s',W02 body s=some (e,s')∧Q e s':=by
  intro k
  induction k with
  | zero=>
   intro _ s hi
   obtain ⟨e,s',h1,h2,h3⟩:=he s hi
   exact ⟨e,s',W3d h1 h2,h3⟩
  | succ k ih=>
   intro hk s hi
   obtain ⟨s1,h1,h2⟩:=hs (n-(k+1)) (by omega) s hi
   rw[show n-(k+1)+1=n-k by omega]at h2
   obtain ⟨e,s',h3,h4⟩:=ih (by omega) s1 h2
   exact ⟨e,s',by rw[W51 h1]; exact h3,h4⟩
 exact this n (Z8 _) s (by rw[Nat.sub_self]; exact h0)
def accV(n0 sz:Nat)(l:List (List PV))(v:AV)(m:List Reg):Prop:=(l=[]∧v= .c (.p nilS))∨∃k,v= .c (.own (n0+k) 0 sz l.length .free)∧m[k]?=some (.pc sz l)
theorem accV.nil(n0 sz:Nat)(m:List Reg):accV n0 sz [] (.c (.p nilS)) m:= .inl ⟨rfl,rfl⟩
theorem accV.more{n0 sz:Nat}{l:List (List PV)}{v:AV}{m:List Reg}(h:accV n0 sz l v m)(m2:List Reg):accV n0 sz l v (m++m2):=by
 rcases h with h | ⟨k,h1,h2⟩
 ·exact .inl h
 ·exact .inr ⟨k,h1,W0b h2 m2⟩
theorem accV.app{base m:List Reg}{v y:AV}{sz bytes:Nat}{l xs:List (List PV)}(h:accV base.length sz l v m)(hy:W15 (base++m) y=some xs)(hn:W1i y=some xs.length)(hz:szOf y=none∨szOf y=some sz)
  (hb:l.length+xs.length≤140737488355328) (hb2:(l.length+xs.length)*bytes≤140737488355328) (hw:wf (base++m)):
  ∃v' m',vapp (base++m) sz bytes v y=some (v',base++m')∧accV base.length sz (l++xs) v' m'∧wf (base++m'):=by
 rcases h with ⟨rfl,rfl⟩ | ⟨k,rfl,hk⟩
 ·refine ⟨.c (.own (base.length+m.length) 0 sz xs.length .free),m++[.pc sz xs],?_,.inr ⟨m.length,by simp,by simp⟩,?_⟩
  ·have h1:xs.length≤140737488355328:=by simpa using hb
   have h2:xs.length*bytes≤140737488355328:=by simpa using hb2
   unfold vapp W3p
   simp only[hy,hn]
   rw[if_pos ⟨trivial,hz⟩,if_pos ⟨h1,h2⟩]
   simp
  ·rw[←Z6]
   exact W07 hw (by simp)
 ·have hlt:k<m.length:=(Z3.1 hk).1
  refine ⟨.c (.own (base.length+m.length) 0 sz (l++xs).length .free),m.set k .dead++[.pc sz (l++xs)],?_,.inr ⟨m.length,by simp,by simp⟩,?_⟩
  ·unfold vapp W3p
   simp only[hy,hn]
   rw[if_pos ⟨trivial,hz⟩]
   have hg:(base++m)[base.length+k]?=some (.pc sz l):=by rw[W0e]; exact hk
   simp only[hg]
   rw[if_pos ⟨trivial,trivial,Z8 _,hb,hb2⟩]
   simp
  ·rw[←Z6]
   have hw2:wf (base++m.set k .dead):=by
    have:=W2l (id:=base.length+k) (r:= .dead) hw rfl
    rwa[W1z]at this
   exact W07 hw2 (by simp)
theorem accV.push{base m:List Reg}{v:AV}{sz bytes:Nat}{l:List (List PV)}(x:List PV)(h:accV base.length sz l v m)(hb:l.length+1≤140737488355328)(hb2:(l.length+1)*bytes≤140737488355328)(hw:wf (base++m)):
  ∃v' m',vapp (base++(m++[.pc sz [x]])) sz bytes v (.c (.own (base.length+m.length) 0 sz 1 .free))=some (v',base++m')∧accV base.length sz (l++[x]) v' m'∧wf (base++m'):=by
 refine accV.app (y:= .c (.own (base.length+m.length) 0 sz 1 .free)) (xs:=[x]) (m:=m++[.pc sz [x]]) (h.more _) ?_ rfl (.inr rfl) hb hb2 (by rw[←Z6]; exact W07 hw (by simp))
 have hg:(base++(m++[Reg.pc sz [x]]))[base.length+m.length]?=some (.pc sz [x]):=by rw[W0e]; simp
 simp[W15,hg]
theorem accV.deep{base m:List Reg}{v:AV}{sz:Nat}{l:List (List PV)}{ks:List NT}{k:Nat}(h:accV base.length sz l v m)(hz:0<sz)(hl:l.length≤9223372036854775807)(hn:nzL ks l=l):W5c (base++m) base.length (k+1) [.sl sz ks] v=some (.c (.p (.sl sz l))):=by
 rcases h with ⟨rfl,rfl⟩ | ⟨j,rfl,hj⟩
 ·simp[hz]
 ·simp[hj,hl,hn]
theorem Wl1(f g:Nat→Nat)(x:FA):W58 f (W58 g x)=W58 (fun i=>f (g i)) x:=by cases x<;>rfl
theorem W6q(f g:Nat→Nat)(x:AC):W12 f (W12 g x)=W12 (fun i=>f (g i)) x:=by
 cases x<;>simp[W12,Wl1,Yq]
mutual
theorem W6r(f g:Nat→Nat):∀v:AV,W0u f (W0u g v)=W0u (fun i=>f (g i)) v
 | .c x=>by simp only[W0u,W6q]
 | .agg l=>by simp only[W0u,X2,Yq,W6q]
 | .tup l=>by simp only[W0u,W9m f g l]
theorem W9m(f g:Nat→Nat):∀l:List AV,W1y f (W1y g l)=W1y (fun i=>f (g i)) l
 | []=>by simp only[W1y]
 | v::r=>by simp only[W1y,W6r f g v,W9m f g r]
end
theorem Wb6(f g:Nat→Nat):∀l:List (Nat×AV),W4d f (W4d g l)=W4d (fun i=>f (g i)) l
 | []=>rfl
 | (k,v)::r=>by simp only[W4d,W6r,Wb6 f g r]
theorem W9n(f g:Nat→Nat)(r:Reg):W0p f (W0p g r)=W0p (fun i=>f (g i)) r:=by
 cases r<;>simp[W0p,W6q,Wb6,Yq]
theorem Wze(x:FA):W58 (fun i=>i) x=x:=by cases x<;>rfl
theorem Wgf(x:AC):W12 (fun i=>i) x=x:=by
 have h:∀l:List FA,l.map (W58 (fun i=>i))=l:=fun l=>by
  induction l with
  | nil=>rfl
  | cons a l ih=>rw[Zh,Wze,ih]
 cases x<;>simp[W12,h]
theorem Wgg(l:List AC):l.map (W12 (fun i=>i))=l:=by
 induction l with
 | nil=>rfl
 | cons a l ih=>rw[Zh,Wgf,ih]
mutual
theorem W6s:∀v:AV,W0u (fun i=>i) v=v
 | .c x=>by simp only[W0u,Wgf]
 | .agg l=>by simp only[W0u,Wgg]
 | .tup l=>by simp only[W0u,Wj6 l]
theorem Wj6:∀l:List AV,W1y (fun i=>i) l=l
 | []=>by simp only[W1y]
 | v::r=>by simp only[W1y,W6s v,Wj6 r]
end
theorem Wq4:∀l:List (Nat×AV),W4d (fun i=>i) l=l
 | []=>rfl
 | (k,v)::r=>by simp only[W4d,W6s,Wq4 r]
theorem W7s(r:Reg):W0p (fun i=>i) r=r:=by
 cases r with
 | ac l=>simp only[W0p,Wgg]
 | es sz l=>
  have h:∀l:List (List AC),l.map (fun x=>x.map (W12 (fun i=>i)))=l:=fun l=>by
   induction l with
   | nil=>rfl
   | cons a l ih=>rw[Zh,Wgg,ih]
  simp only[W0p,h]
 | lp f j sl st pe=>simp only[W0p,Wq4]
 | _=>rfl
theorem Wj7(l:List Reg):l.map (W0p (fun i=>i))=l:=by
 induction l with
 | nil=>rfl
 | cons a l ih=>rw[Zh,W7s,ih]
theorem W5n(ρ:Nat→Nat)(r:Reg):W1s (some (W0p ρ r))=W1s (some r):=by cases r<;>rfl
theorem W4n{α:Type}{g:α→α}{p q:α→Bool}(hf:∀x,p x=true→q (g x)=true):∀{l:List α},l.all p=true→(l.map g).all q=true
 | [],_=>rfl
 | a::l,h=>by
  simp only[Y2,Z4]at h
  rw[Zh,Y2,hf a h.1,W4n hf h.2]; rfl
section
variable {n id:Nat} (hid:id<n)
include hid
theorem Wq5{x:Nat}(h:x≠id)(h2:x<n):dnR id x<n-1:=by
 simp only[dnR]; split<;>omega
theorem Wq6{x:FA}(h:faNe n id x=true):faLt (n-1) (W58 (dnR id) x)=true:=by
 cases x with
 | p x=>rfl
 | ptr y off=>simp only[faNe,Z4,Zf]at h; simpa[W58,faLt]using Wq5 hid h.1 h.2
theorem Wcc{x:AC}(h:acNe n id x=true):acLt (n-1) (W12 (dnR id) x)=true:=by
 cases x with
 | own y off sz len cap=>simp only[acNe,Z4,Zf]at h; simpa[W12,acLt]using Wq5 hid h.1 h.2
 | ptr y off=>simp only[acNe,Z4,Zf]at h; simpa[W12,acLt]using Wq5 hid h.1 h.2
 | ept y sz i j=>simp only[acNe,Z4,Zf]at h; simpa[W12,acLt]using Wq5 hid h.1 h.2
 | hnd k y=>simp only[acNe,Z4,Zf]at h; simpa[W12,acLt]using Wq5 hid h.1 h.2
 | fn f a b=>
  simp only[acNe,Z4]at h
  simp only[W12,acLt,Z4]
  exact ⟨W4n (fun x hx=>Wq6 hid hx) h.1,W4n (fun x hx=>Wq6 hid hx) h.2⟩
 | _=>rfl
end
mutual
theorem Wq7{n id:Nat}(hid:id<n):∀{v:AV},avNe n id v=true→avLt (n-1) (W0u (dnR id) v)=true
 | .c x,h=>by
  simp only[avNe]at h
  simp only[W0u,avLt,Wcc hid h]
 | .agg l,h=>by
  simp only[avNe]at h
  simp only[W0u,avLt]
  exact W4n (fun x hx=>Wcc hid hx) h
 | .tup l,h=>by
  simp only[avNe]at h
  simp only[W0u,avLt]
  exact Wj8 hid h
theorem Wj8{n id:Nat}(hid:id<n):∀{l:List AV},Wc3 n id l=true→W3g (n-1) (W1y (dnR id) l)=true
 | [],_=>by simp only[W1y,W3g]
 | v::r,h=>by
  simp only[Wc3,Z4]at h
  simp only[W1y,W3g,Wq7 hid h.1,Wj8 hid h.2,Bool.and_self]
end
theorem Wq8{n id:Nat}(hid:id<n):∀{l:List (Nat×AV)},slNe n id l=true→slLt (n-1) (W4d (dnR id) l)=true
 | [],_=>rfl
 | (k,v)::r,h=>by
  simp only[slNe,Z4]at h
  simp only[W4d,slLt,Wq7 hid h.1,Wq8 hid h.2,Bool.and_self]
theorem Wu2{n id:Nat}(hid:id<n){r:Reg}(h:Wa4 n id r=true):W18 (n-1) (W0p (dnR id) r)=true:=by
 cases r with
 | ac l=>exact W4n (fun x hx=>Wcc hid hx) h
 | es sz l=>
  have h2:l.all (fun k=>k.all (acNe n id))=true:=h
  show (l.map (fun k=>k.map (W12 (dnR id)))).all (fun k=>k.all (acLt (n-1)))=true
  refine W4n (p:=fun k:List AC=>k.all (acNe n id)) (q:=fun k:List AC=>k.all (acLt (n-1))) (g:=fun k:List AC=>k.map (W12 (dnR id))) (fun k hk=> ?_) h2
  exact W4n (fun x hx=>Wcc hid hx) hk
 | lp f j sl st pe=>exact Wq8 hid h
 | _=>rfl
structure Kept(n0:Nat)(ρ:Nat→Nat)(rg rg':List Reg):Prop where
 low:∀i,i<n0→ρ i=i
 len:n0≤rg'.length
 old:rg'.take n0=(rg.take n0).map (W0p ρ)
 get:∀i r,rg[i]?=some r→W1s (some r)=false→rg'[ρ i]?=some (W0p ρ r)
 lt:∀i j r r',rg[i]?=some r→rg[j]?=some r'→W1s (some r)=false→W1s (some r')=false→i<j→ρ i<ρ j
theorem Kept.refl{n0:Nat}{rg:List Reg}(h:n0≤rg.length):Kept n0 (fun i=>i) rg rg:=⟨fun _ _=>rfl,h,by rw[Wj7],fun i r hr _=>by rw[W7s]; exact hr,fun _ _ _ _ _ _ _ _ h=>h⟩
theorem Kept.trans{n0:Nat}{f g:Nat→Nat}{a b c:List Reg}(h1:Kept n0 f a b)(h2:Kept n0 g b c):Kept n0 (fun i=>g (f i)) a c:=by
 refine ⟨fun i hi=>by rw[h1.low i hi,h2.low i hi],h2.len,by rw[h2.old,h1.old,X2]; exact Yg fun r _=>W9n g f r,fun i r hr hd=> ?_,fun i j r r' hr hr' hd hd' hl=> ?_⟩
 ·rw[←W9n]
  exact h2.get _ _ (h1.get i r hr hd) (by rw[W5n]; exact hd)
 ·exact h2.lt _ _ _ _ (h1.get i r hr hd) (h1.get j r' hr' hd') (by rw[W5n]; exact hd) (by rw[W5n]; exact hd') (h1.lt i j r r' hr hr' hd hd' hl)
theorem Weq{n0 id:Nat}(h0:n0≤id)(v:AV){rg:List Reg}(hl:n0≤rg.length)(hw:wf rg):∃ρ rg',W3l id ⟨[(0,v)],rg⟩=⟨[(0,W0u ρ v)],rg'⟩∧Kept n0 ρ rg rg'∧wf rg':=by
 unfold W3l
 split
 ·rename_i h
  simp only[Z4,Za]at h
  obtain ⟨hd,hs,hr⟩:=h
  have hlt:id<rg.length:=by
   rcases Ys id rg.length with h | h
   ·exact h
   ·rw[Yt h]at hd; cases hd
  have hne:∀i r,rg[i]?=some r→W1s (some r)=false→i≠id:=by
   rintro i r hr' hdr rfl
   rw[hr',hdr]at hd; cases hd
  refine ⟨dnR id,(rg.eraseIdx id).map (W0p (dnR id)),by simp[W96,lkF],⟨fun i hi=>by simp only[dnR]; rw[if_neg (by omega)],?_,?_,fun i r hr hdr=> ?_,fun i j r r' hr hr' hd1 hd2 hij=> ?_⟩,?_⟩
  ·simp[List.length_eraseIdx,hlt]; omega
  ·rw[←List.map_take]
   congr 1
   apply Yx
   intro i
   rw[Zx,Zx,Xv]
   split
   ·rw[if_pos (by omega)]
   ·rfl
  ·have:=hne i r hr hdr
   rw[Zz,Xv]
   simp only[dnR]
   split
   ·rw[if_neg (by omega),show i-1+1=i by omega,hr]; rfl
   ·rw[if_pos (by omega),hr]; rfl
  ·have:=hne i r hr hd1
   have:=hne j r' hr' hd2
   simp only[dnR]
   split<;>split<;>omega
  ·have e:((rg.eraseIdx id).map (W0p (dnR id))).length=rg.length-1:=by simp[List.length_eraseIdx,hlt]
   unfold wf
   rw[e]
   exact W4n (fun r hr=>Wu2 hlt hr) (Za.2 fun r hm=>hr r (List.mem_of_mem_eraseIdx hm))
 ·exact ⟨fun i=>i,rg,by rw[W6s],.refl hl,hw⟩
theorem Wer{n0:Nat}:∀(k:Nat) (v:AV) (rg:List Reg),n0≤rg.length→wf rg→∃ρ rg',cmpS n0 k ⟨[(0,v)],rg⟩=⟨[(0,W0u ρ v)],rg'⟩∧Kept n0 ρ rg rg'∧wf rg'
 | 0,v,rg,hl,hw=>⟨fun i=>i,rg,by rw[W6s]; rfl,.refl hl,hw⟩
 | k+1,v,rg,hl,hw=>by
  obtain ⟨f,r1,e1,k1,w1⟩:=Weq (n0:=n0) (id:=n0+k) (X4 _ _) v hl hw
  obtain ⟨g,r2,e2,k2,w2⟩:=Wer k (W0u f v) r1 k1.len w1
  exact ⟨fun i=>g (f i),r2,by rw[cmpS,e1,e2,W6r],k1.trans k2,w2⟩
theorem Wq9{n0:Nat}(v:AV){rg:List Reg}(hl:n0≤rg.length)(hw:wf rg):∃ρ rg',finQ n0 (v,rg)=(W0u ρ v,rg')∧Kept n0 ρ rg rg'∧wf rg':=by
 unfold finQ
 split
 ·exact ⟨fun i=>i,rg,by rw[W6s],.refl hl,hw⟩
 ·obtain ⟨f,r1,e1,k1,w1⟩:=Wer (n0:=n0) (rg.length-n0) v rg hl hw
  refine ⟨f,r1,?_,k1,w1⟩
  simp only[cmpP,e1]
  rfl
def faP(S:Nat→Prop):FA→Prop
 | .p _=>True
 | .ptr x _=>S x
def acP(S:Nat→Prop):AC→Prop
 | .own x _ _ _ _ | .ptr x _ | .ept x _ _ _ | .hnd _ x=>S x
 | .fn _ a b=>(∀x∈a,faP S x)∧∀x∈b,faP S x
 | _=>True
def regP(S:Nat→Prop):Reg→Prop
 | .ac l=>∀x∈l,acP S x
 | .es _ l=>∀k∈l,∀x∈k,acP S x
 | _=>True
def cP(S:Nat→Prop):AV→Prop
 | .c x=>acP S x
 | .agg l=>∀x∈l,acP S x
 | .tup l=>∀x,AV.c x∈l→acP S x
theorem Wes{n:Nat}:∀{l:List AV},W3g n l=true→∀v∈l,avLt n v=true
 | [],_,v,hv=>by cases hv
 | a::l,h,v,hv=>by
  simp only[W3g,Z4]at h
  rcases Zq.1 hv with rfl | hv
  ·exact h.1
  ·exact Wes h.2 v hv
theorem Wwk{n:Nat}{x:FA}(h:faLt n x=true):faP (· <n) x:=by
 cases x with
 | p x=>trivial
 | ptr y off=>simpa[faLt,faP]using h
theorem Wet{n:Nat}{x:AC}(h:acLt n x=true):acP (· <n) x:=by
 cases x with
 | fn f a b=>
  simp only[acLt,Z4,Za]at h
  exact ⟨fun x hx=>Wwk (h.1 x hx),fun x hx=>Wwk (h.2 x hx)⟩
 | _=>first | trivial | simpa[acLt,acP]using h
theorem V4t(x:FA):faP (fun _=>True) x:=by cases x<;>trivial
theorem Wgh(x:AC):acP (fun _=>True) x:=by
 cases x with
 | fn f a b=>exact ⟨fun x _=>V4t x,fun x _=>V4t x⟩
 | _=>trivial
theorem Wzf{n0:Nat}(v:AV){rg:List Reg}(hl:n0≤rg.length)(hw:wf rg):∃(ρ:Nat→Nat) (rg':List Reg) (S:Nat→Prop),finQ n0 (gcF n0 (v,rg))=(W0u ρ v,rg')∧wf rg'∧n0≤rg'.length∧rg'.take n0=(rg.take n0).map (W0p ρ)∧
  (∀i,i<n0→ρ i=i∧S i)∧cP S v∧(∀i r,S i→rg[i]?=some r→regP S r)∧(∀i r,S i→rg[i]?=some r→W1s (some r)=false→rg'[ρ i]?=some (W0p ρ r))∧
  (∀i j r r',S i→S j→rg[i]?=some r→rg[j]?=some r'→W1s (some r)=false→W1s (some r')=false→i<j→ρ i<ρ j):=by
 unfold gcF
 split
 ·rename_i h
  simp only[Z4,Zf,Za]at h
  obtain ⟨h1,h2,h3⟩:=h
  have ht:(rg.take n0).length=n0:=by simp; omega
  have hg:∀i r,i<n0→rg[i]?=some r→(rg.take n0)[i]?=some r:=fun i r hi hr=>by rw[Zx,if_pos hi]; exact hr
  refine ⟨fun i=>i,rg.take n0,(· <n0),?_,?_,by omega,by rw[Wj7,List.take_take,Nat.min_self],fun i hi=>⟨rfl,hi⟩,?_,fun i r hi hr=> ?_,fun i r hi hr _=> ?_,fun i j _ _ _ _ _ _ _ _ h=>h⟩
  ·rw[W6s,finQ,if_pos ht]
  ·unfold wf
   rw[ht]
   exact Za.2 h3
  ·cases v with
   | c x=>exact Wet (by simpa[avLt]using h2)
   | agg l=>
    simp only[avLt,Za]at h2
    exact fun x hx=>Wet (h2 x hx)
   | tup l=>exact fun x hx=>Wet (by simpa[avLt]using Wes (by simpa[avLt]using h2) _ hx)
  ·have:=h3 r (Zi (hg i r hi hr))
   cases r with
   | ac l=>
    simp only[W18,Za]at this
    exact fun x hx=>Wet (this x hx)
   | es sz l=>
    simp only[W18,Za]at this
    exact fun k hk x hx=>Wet (this k hk x hx)
   | _=>trivial
  ·rw[W7s]; exact hg i r hi hr
 ·obtain ⟨f,r1,e1,k1,w1⟩:=Wq9 (n0:=n0) v hl hw
  refine ⟨f,r1,fun _=>True,e1,w1,k1.len,k1.old,fun i hi=>⟨k1.low i hi,trivial⟩,?_,fun i r _ _=> ?_,fun i r _ h hd=>k1.get i r h hd,fun i j r r' _ _=>k1.lt i j r r'⟩
  ·cases v with
   | c x=>exact Wgh x
   | agg l=>exact fun x _=>Wgh x
   | tup l=>exact fun x _=>Wgh x
  ·cases r with
   | ac l=>exact fun x _=>Wgh x
   | es sz l=>exact fun _ _ x _=>Wgh x
   | _=>trivial
theorem Wgi{base m:List Reg}(v:AV)(hb:wf base)(hw:wf (base++m)):∃(ρ:Nat→Nat) (m':List Reg) (S:Nat→Prop),finQ base.length (gcF base.length (v,base++m))=(W0u ρ v,base++m')∧wf (base++m')∧
  (∀i,i<base.length→ρ i=i∧S i)∧cP S v∧(∀i r,S i→(base++m)[i]?=some r→regP S r)∧(∀i r,S i→(base++m)[i]?=some r→W1s (some r)=false→(base++m')[ρ i]?=some (W0p ρ r))∧
  (∀i j r r',S i→S j→(base++m)[i]?=some r→(base++m)[j]?=some r'→W1s (some r)=false→W1s (some r')=false→i<j→ρ i<ρ j):=by
 obtain ⟨ρ,rg',S,h1,h2,h3,h4,h5,h6,h7,h8,h9⟩:=Wzf (n0:=base.length) v (rg:=base++m) (by simp) hw
 have e:base.map (W0p ρ)=base:=by
  have hb':base.all (W18 base.length)=true:=hb
  rw[Za]at hb'
  conv=>rhs; rw[←List.map_id base]
  exact Yg fun r hr=>W68 (fun i hi=>(h5 i hi).1) (hb' r hr)
 rw[List.take_left,e]at h4
 have e2:rg'=base++rg'.drop base.length:=by
  have:=X5 base.length rg'
  rw[h4]at this
  exact this.symm
 refine ⟨ρ,rg'.drop base.length,S,?_,?_,h5,h6,h7,?_,h9⟩
 ·rw[h1,←e2]
 ·rw[←e2]; exact h2
 ·rw[←e2]; exact h8
def accE(n0 sz:Nat)(l:List (List AC))(v:AV)(m:List Reg):Prop:=(l=[]∧v= .c (.p nilS))∨∃k,v= .c (.own (n0+k) 0 sz l.length .free)∧m[k]?=some (.es sz l)
theorem accE.nil(n0 sz:Nat)(m:List Reg):accE n0 sz [] (.c (.p nilS)) m:= .inl ⟨rfl,rfl⟩
theorem accE.more{n0 sz:Nat}{l:List (List AC)}{v:AV}{m:List Reg}(h:accE n0 sz l v m)(m2:List Reg):accE n0 sz l v (m++m2):=by
 rcases h with h | ⟨k,h1,h2⟩
 ·exact .inl h
 ·exact .inr ⟨k,h1,W0b h2 m2⟩
theorem accE.push{base m:List Reg}{v:AV}{sz bytes:Nat}{l:List (List AC)}(x:List AC)(h:accE base.length sz l v m)(hb:l.length+1≤140737488355328)(hb2:(l.length+1)*bytes≤140737488355328)(hw:wf (base++m))
  (hx:x.all (acLt (base.length+m.length))=true) (hl:l.all (fun k=>k.all (acLt (base.length+m.length)))=true):
  ∃v' m',vapp (base++(m++[.es sz [x]])) sz bytes v (.c (.own (base.length+m.length) 0 sz 1 .free))=some (v',base++m')∧accE base.length sz (l++[x]) v' m'∧wf (base++m')∧
   (∀(q:Nat) (r:Reg),m[q]?=some r→(∀s k,r≠ .es s k)→m'[q]?=some r):=by
 have hg:(base++(m++[Reg.es sz [x]]))[base.length+m.length]?=some (.es sz [x]):=by rw[W0e]; simp
 have hP:W15 (base++(m++[Reg.es sz [x]])) (.c (.own (base.length+m.length) 0 sz 1 .free))=none:=by simp only[W15,hg]
 have hE:elemsX (base++(m++[Reg.es sz [x]])) (.c (.own (base.length+m.length) 0 sz 1 .free))=some [x]:=by simp[elemsX,hg,esOf]
 have hv:vapp (base++(m++[Reg.es sz [x]])) sz bytes v (.c (.own (base.length+m.length) 0 sz 1 .free))=Wg0 (base++(m++[Reg.es sz [x]])) v (.c (.own (base.length+m.length) 0 sz 1 .free)) sz bytes:=by
  unfold vapp W3p
  simp only[hP]
 rw[hv]
 have hx2:∀n,base.length+m.length≤n→x.all (acLt n)=true:=fun n hn=>W1k (fun _=>W3s hn) hx
 have hl2:∀n,base.length+m.length≤n→l.all (fun k=>k.all (acLt n))=true:=fun n hn=>W1k (fun _=>W1k fun _=>W3s hn) hl
 unfold Wg0
 simp only[hE,W1i]
 rcases h with ⟨rfl,rfl⟩ | ⟨k,rfl,hk⟩
 ·refine ⟨.c (.own (base.length+(m.length+1)) 0 sz 1 .free),m++[.es sz [x]]++[.es sz [x]],?_,.inr ⟨m.length+1,by simp,by simp⟩,?_,fun q r hq _=>by rw[Z6]; exact W0b hq _⟩
  ·have h1:(1:Nat)*bytes≤140737488355328:=by simpa using hb2
   have h2:(1:Nat)≤140737488355328:=by omega
   simp[szOf]at h1 ⊢
   exact h1
  ·rw[Z6,←Z6]
   refine W07 hw ?_
   simp only[Xf,Y2,X6,W18,Yu,Z5,Yh,Yv]
   rw[hx2 _ (by simp)]; rfl
 ·have hlt:k<m.length:=(Z3.1 hk).1
  have hgk:(base++(m++[Reg.es sz [x]]))[base.length+k]?=some (.es sz l):=by rw[W0e]; exact W0b hk _
  refine ⟨.c (.own (base.length+(m.length+1)) 0 sz (l.length+1) .free),(m++[Reg.es sz [x]]).set k .dead++[Reg.es sz (l++[x])],?_,.inr ⟨m.length+1,by simp,by simp⟩,?_,fun q r hq hr=> ?_⟩
  ·simp only[hgk,szOf,esOf,Zn]
   simp[hb,hb2]
  ·rw[←Z6]
   have hw1:wf (base++(m++[Reg.es sz [x]])):=by
    rw[←Z6]
    refine W07 hw ?_
    simp only[Y2,X6,W18,Yu,Z5,Yh,Yv]
    exact hx2 _ (by simp)
   have hw2:wf (base++(m++[Reg.es sz [x]]).set k .dead):=by
    have:=W2l (id:=base.length+k) (r:= .dead) hw1 rfl
    rwa[W1z]at this
   refine W07 hw2 ?_
   simp only[Xf,Y2,X6,W18,Yu,Z5,Yh,Yv,List.length_set]
   rw[hl2 _ (by omega),hx2 _ (by omega)]; rfl
  ·have hne:k≠q:=by rintro rfl; rw[hk]at hq; cases hq; exact hr _ _ rfl
   rw[Zp (by simp; have:=(Z3.1 hq).1; omega),Zv hne]
   exact W0b hq _
end Go.Sim
namespace Go.Sim
open Go.RowKit Go.Proofs.YtahoelmjfgoedaaGreat.T
attribute [-simp] vfld W0n W1n
theorem Weu(rg:List Reg):bm.run (.fn 334) [] rg=some (.agg kindA,rg):=Book.run_or _root_.rfl
theorem Wev:kindA.length=52:=_root_.rfl
theorem V4u{op:Int}(h:op<0∨26≤op)(rg:List Reg)(hw:wf rg):bm.run (.fn 302) [I .i64 op] rg=some (.agg [.p (.v (.string ⟨#[]⟩)),.p (.v (.string ⟨#[]⟩))],rg):=by
 rw[R302]
 by_cases h2:op<0
 ·simp[s302,Weu,Wev,h2,hw]
 ·have h3:(26:Int)≤op:=h.resolve_left h2
  simp[s302,Weu,Wev,h2,h3,hw]
theorem W9o(op:Int)(rg:List Reg)(hw:wf rg):bm.run (.fn 218) [I .i64 op] rg=some (strA (shOf op),rg):=by
 by_cases h:0≤op∧op<26
 ·refine Book.run_or ?_
  show (if 0≤op∧op<26 then some (strA (shL.getD op.toNat []),rg)else none)=_
  rw[if_pos h,shOf,if_pos h]
 ·have hO:Om (.fn 218) [I .i64 op] rg=none:=by
   show (if 0≤op∧op<26 then some (strA (shL.getD op.toNat []),rg)else none)=_
   rw[if_neg h]
  rw[R_1c (z:=none) S218 (by kernel_rfl) (by kernel_rfl) (by kernel_rfl) hO]
  simp[s218,V4u (op:=op) (by omega),hw,shOf,h,strA]
set_option maxRecDepth 100000 in
theorem Wqa(rg:List Reg):bm.run (.fn 259) [strA allS] rg=some (Sl 1 Wkx,rg):=by
 refine Book.run_or ?_
 show (if (⟨allS.toArray⟩:ByteArray)=⟨allS.toArray⟩then some (Sl 1 Wkx,rg)else none)=_
 exact if_pos _root_.rfl
set_option maxRecDepth 100000 in
theorem Wzg:∀n,n<26→1≤n→wordL[2*n-1]?=some (shL.getD n []):=by decide
set_option maxRecDepth 100000 in
theorem W4o(op:Int)(rg:List Reg)(hw:wf rg):bm.run (.fn 161) [I .i64 op] rg=some (strA (shOf op),rg):=by
 rw[R161]
 have hwr:bm.run (.fn 259) [.c (.p (.v (.string ⟨allS.toArray⟩)))] rg=some (Sl 1 Wkx,rg):=Wqa rg
 rw[show (⟨allS.toArray⟩:ByteArray)=⟨#[104,97,108,116,32,45,45,45,45,32,115,101,116,32,114,45,45,110,32,99,111,112,121,32,114,114,45,45,32,97,100,100,32,114,114,114,45,32,115,117,98,32,114,114,114,45,32,109,117,108,32,114,114,114,45,32,100,105,118,32,114,114,114,45,32,106,117,109,112,32,45,45,45,116,32,122,101,114,111,32,114,45,45,116,32,115,97,109,101,32,114,114,45,116,32,108,111,111,107,32,114,103,45,45,32,112,117,116,32,103,114,45,45,32,115,119,97,112,32,114,114,114,103,32,108,111,97,100,32,114,114,45,102,32,115,116,111,114,101,32,114,114,45,102,32,99,97,115,32,114,114,114,102,32,102,101,110,99,101,32,45,45,45,45,32,110,101,119,32,114,45,45,45,32,102,114,101,101,32,114,45,45,45,32,114,101,116,105,114,101,32,114,45,45,45,32,103,117,97,114,100,32,114,45,45,115,32,99,108,101,97,114,32,45,45,45,115,32,101,110,116,101,114,32,45,45,45,45,32,108,101,97,118,101,32,45,45,45,45,32,113,117,105,101,116,32,45,45,45,45]⟩from _root_.rfl]at hwr
 by_cases h1:op<1
 ·have e:shOf op=[]:=by
   unfold shOf
   split
   ·rename_i h
    obtain rfl:op=0:=by omega
    rfl
   ·rfl
  simp[s161,h1,e,strA]
 ·by_cases h2:(25:Int)<op
  ·have e:shOf op=[]:=by unfold shOf; rw[if_neg (by omega)]
   simp[s161,h1,h2,e,strA]
  ·have e1:IntKind.i64.wrap (2*op)=2*op:=W0g (by omega) (by omega)
   have e2:IntKind.i64.wrap (2*op-1)=2*op-1:=W0g (by omega) (by omega)
   have e3:(0:Int)≤2*op-1:=by omega
   have e7:(1:Int)≤2*op:=by omega
   have e4:(2*op-1).toNat=2*op.toNat-1:=by omega
   have e5:shOf op=shL.getD op.toNat []:=by unfold shOf; rw[if_pos (by omega)]
   have e6:=Wzg op.toNat (by omega) (by omega)
   simp[s161,h1,h2,hwr,e1,e2,e3,e4,e5,e7,Wkx,e6,strA]
def Wgj(l:List UInt8)(x:Ins)(r s code:Int):Bool:=match l with
 | [p,q,t,w]=>W30 p.toNat x.a r s code&&(W30 q.toNat x.b r s code&&(W30 t.toNat x.c r s code&&W30 w.toNat x.n r s code))
 | _=>false
def insI(x:Ins)(r s code:Int):Int:=if shOf x.op=[]then 2 else if Wgj (shOf x.op) x r s code=true then 0 else 3
def okL(u:UInt8):Bool:=u==110||(u==114||(u==103||(u==115||(u==102||(u==116||u==45)))))
theorem Wu3:∀n,n<26→shL.getD n []=[]∨((shL.getD n []).length=4∧(shL.getD n []).all okL=true):=by decide
theorem Wew(op:Int):shOf op=[]∨∃x y z w,shOf op=[x,y,z,w]∧okL x=true∧okL y=true∧okL z=true∧okL w=true:=by
 unfold shOf
 split
 ·rename_i h
  rcases Wu3 op.toNat (by omega)with h1 | ⟨h1,h2⟩
  ·exact .inl h1
  ·right
   generalize shL.getD op.toNat []=l at h1 h2
   match l,h1,h2 with
   | [x,y,z,w],_,h2=>
    simp only[Y2,X6,Yu,Z4]at h2
    exact ⟨x,y,z,w,_root_.rfl,h2.1,h2.2.1,h2.2.2.1,h2.2.2.2⟩
 ·exact .inl _root_.rfl
theorem Wb7(l:List UInt8):vbin .eql (strA l) (.c (.p (.v (.string ⟨#[]⟩))))=some (Bo (decide (l=[]))):=by
 show some (Bo ((⟨l.toArray⟩:ByteArray).toList==(⟨#[]⟩:ByteArray).toList))=_
 have e1:∀m:List UInt8,(⟨m.toArray⟩:ByteArray).toList=m:=fun m=>by
  simp[Go.ByteArray.toList_mk]
 rw[e1,show (⟨#[]⟩:ByteArray)=⟨([]:List UInt8).toArray⟩from _root_.rfl,e1]
 cases l<;>simp
theorem Wqb(op a b c n r ce s code:Int)(k:PV)(rg:List Reg)(hw:wf rg):bm.run (.fn 130) [.agg [.p (iv op),.p (iv a),.p (iv b),.p (iv c),.p (iv n)],pAV r ce s k,I .i64 code] rg=some (I .i64 (insI ⟨op,a,b,c,n⟩ r s code),rg):=by
 rw[R130]
 have hwf:wf (rg++[Reg.ac [.p (iv op),.p (iv a),.p (iv b),.p (iv c),.p (iv n)],.ac [.p (iv r),.p (iv ce),.p (iv s),.p k]]):=W07 hw (by simp)
 rcases Wew op with h | ⟨x,y,z,w,h,hx,hy,hz,hww⟩
 ·simp[s130,W9o,hwf,insI,h,hw,Wb7]
 ·let rows:=rg++[Reg.ac [.p (iv op),.p (iv a),.p (iv b),.p (iv c),.p (iv n)],.ac [.p (iv r),.p (iv ce),.p (iv s),.p k]]
  let S:Int→St:=fun i=>⟨[(24,I .i64 i),(23,.agg [.p (iv a),.p (iv b),.p (iv c),.p (iv n)]),(7,strA [x,y,z,w]),(4,.c (.ptr (rg.length+1) 0)),(2,I .i64 code)],rows⟩
  have rd:∀(i:Nat) (u:UInt8) (v:Int),i<4→[x,y,z,w][i]?=some u→[a,b,c,n][i]?=some v→W6b W02 bm.run rg.length (S i)=if W30 u.toNat v r s code=true then some (.normal,S ((i+1:Nat):Int))else some (.ret,⟨[(6,I .i64 3)],rows⟩):=by
   intro i u v hi hu hv
   have f:=Wty u.toNat v r ce s code k rows hwf
   simp only[rows]at f
   rcases (show i=0∨i=1∨i=2∨i=3 by omega)with rfl | rfl | rfl | rfl<;>simp only[List.getElem?_cons_zero,List.getElem?_cons_succ,Yp]at hu hv<;>subst hu hv
   ·cases g:W30 x.toNat a r s code<;>rw[g]at f<;>simp[W6b,S,rows,strA,f]
   ·cases g:W30 y.toNat b r s code<;>rw[g]at f<;>simp[W6b,S,rows,strA,f]
   ·cases g:W30 z.toNat c r s code<;>rw[g]at f<;>simp[W6b,S,rows,strA,f]
   ·cases g:W30 w.toNat n r s code<;>rw[g]at f<;>simp[W6b,S,rows,strA,f]
  have en:W6b W02 bm.run rg.length (S 4)=some (.exit 0,⟨[(25,Bo false),(24,I .i64 4),(23,.agg [.p (iv a),.p (iv b),.p (iv c),.p (iv n)]),(7,strA [x,y,z,w]),(4,.c (.ptr (rg.length+1) 0)),(2,I .i64 code)],rows⟩):=by
   simp[W6b,S]
  have r0:=rd 0 x a (by omega) _root_.rfl _root_.rfl
  have r1:=rd 1 y b (by omega) _root_.rfl _root_.rfl
  have r2:=rd 2 z c (by omega) _root_.rfl _root_.rfl
  have r3:=rd 3 w n (by omega) _root_.rfl _root_.rfl
  have key:W02 (W6b W02 bm.run rg.length) (S 0)=if Wgj [x,y,z,w] ⟨op,a,b,c,n⟩ r s code=true then some (.exit 0,⟨[(25,Bo false),(24,I .i64 4),(23,.agg [.p (iv a),.p (iv b),.p (iv c),.p (iv n)]),(7,strA [x,y,z,w]),(4,.c (.ptr (rg.length+1) 0)),(2,I .i64 code)],rows⟩)else some (.ret,⟨[(6,I .i64 3)],rows⟩):=by
   simp only[Wgj]
   rw[W09,show S 0=S ((0:Nat):Int)from _root_.rfl,r0]
   by_cases g1:W30 x.toNat a r s code=true
   rotate_left
   ·rw[if_neg g1]
    simp[g1]
   rw[if_pos g1,W4m,W09,r1]
   by_cases g2:W30 y.toNat b r s code=true
   rotate_left
   ·rw[if_neg g2]
    simp[g2]
   rw[if_pos g2,W4m,W09,r2]
   by_cases g3:W30 z.toNat c r s code=true
   rotate_left
   ·rw[if_neg g3]
    simp[g3]
   rw[if_pos g3,W4m,W09,r3]
   by_cases g4:W30 w.toNat n r s code=true
   rotate_left
   ·rw[if_neg g4]
    simp[g4]
   rw[if_pos g4,W4m]
   rw[show S (((3:Nat)+1:Nat):Int)=S 4 from _root_.rfl,W3d en (by simp)]
   simp[g1,g2,g3,g4]
  simp only[S,rows]at key
  by_cases g:Wgj [x,y,z,w] ⟨op,a,b,c,n⟩ r s code=true
  ·rw[if_pos g]at key
   simp[s130,W9o,hwf,insI,h,hw,key,g,Wb7]
  ·rw[if_neg g]at key
   simp[s130,W9o,hwf,insI,h,hw,key,g,Wb7]
def Wb8(a b c n i:Int):Int:=if i=0 then a else if i=1 then b else if i=2 then c else n
theorem Wqc(op a b c n i:Int)(rg:List Reg)(hw:wf rg):bm.run (.fn 162) [.agg [.p (iv op),.p (iv a),.p (iv b),.p (iv c),.p (iv n)],I .i64 i] rg=some (I .i64 (Wb8 a b c n i),rg):=by
 rw[R162]
 by_cases h0:i=0
 ·simp[s162,h0,Wb8,hw]
 by_cases h1:i=1
 ·simp[s162,h1,Wb8,hw]
 by_cases h2:i=2
 ·simp[s162,h2,Wb8,hw]
 ·simp[s162,h0,h1,h2,Wb8,hw]
def Wcd(letter r s code:Int):Int:=if letter=114 then 3 else if letter=103 then IntKind.i64.wrap ((if r<0 then 0 else r)-1)else if letter=115 then IntKind.i64.wrap ((if s<0 then 0 else s)-1)else if letter=102 then 1 else if letter=116 then code else 0
theorem Wu4(letter r c s code:Int)(k:PV)(rg:List Reg)(hw:wf rg):bm.run (.fn 163) [I .u8 letter,pAV r c s k,I .i64 code] rg=some (I .i64 (Wcd letter r s code),rg):=by
 rw[R163]
 by_cases h1:letter=114
 ·simp[s163,Wcd,h1,hw]
 by_cases h2:letter=103
 ·simp[s163,Wcd,h2,hw]
 by_cases h3:letter=115
 ·simp[s163,Wcd,h3,hw]
 by_cases h4:letter=102
 ·simp[s163,Wcd,h4,hw]
 by_cases h5:letter=116
 ·simp[s163,Wcd,h5,hw]
 ·simp[s163,Wcd,h1,h2,h3,h4,h5,hw]
theorem V4v{u:UInt8}(h:okL u=true)(r s code:Int):((u.toNat:Nat):Int)=110∨Wcd u.toNat r s code=Wgd u.toNat r s code:=by
 simp only[okL,Bool.or_eq_true,Xs]at h
 rcases h with rfl | rfl | rfl | rfl | rfl | rfl | rfl<;>simp[Wcd,Wgd]
theorem Wzh(op a b c n r ce s code:Int)(k:PV)(rg:List Reg)(hw:wf rg):bm.run (.fn 98) [.agg [.p (iv op),.p (iv a),.p (iv b),.p (iv c),.p (iv n)],pAV r ce s k,I .i64 code] rg=some (I .i64 (insI ⟨op,a,b,c,n⟩ r s code),rg):=by
 rw[R98]
 have hwf:wf (rg++[Reg.ac [.p (iv op),.p (iv a),.p (iv b),.p (iv c),.p (iv n)],.ac [.p (iv r),.p (iv ce),.p (iv s),.p k]]):=W07 hw (by simp)
 rcases Wew op with h | ⟨x,y,z,w,h,hx,hy,hz,hww⟩
 ·simp[s98,W4o,hwf,insI,h,hw,Wb7]
 ·let rows:=rg++[Reg.ac [.p (iv op),.p (iv a),.p (iv b),.p (iv c),.p (iv n)],.ac [.p (iv r),.p (iv ce),.p (iv s),.p k]]
  let S:Int→St:=fun i=>⟨[(8,I .i64 i),(7,strA [x,y,z,w]),(4,.c (.ptr (rg.length+1) 0)),(3,.c (.ptr rg.length 0)),(2,I .i64 code)],rows⟩
  have rd:∀(i:Nat) (u:UInt8) (v:Int),i<4→okL u=true→[x,y,z,w][i]?=some u→Wb8 a b c n i=v→Wc6 W02 bm.run rg.length (S i)=if W30 u.toNat v r s code=true then some (.normal,S ((i+1:Nat):Int))else some (.ret,⟨[(6,I .i64 3)],rows⟩):=by
   intro i u v hi ho hu hv
   have f:=Wqc op a b c n i rows hwf
   have m:=Wu4 u.toNat r ce s code k rows hwf
   rw[hv]at f
   simp only[rows]at f m
   have h4:(i:Int)<4:=by omega
   have hat:vixt (strA [x,y,z,w]) (I .i64 i)=some (I .u8 u.toNat):=by
    show vixt (.c (.p (.v (.string ⟨[x,y,z,w].toArray⟩)))) (I .i64 i)=_
    simp[hu]
   have hnx:IntKind.i64.wrap ((i:Int)+1)=(i:Int)+1:=W0g (by omega) (by omega)
   by_cases e:((u.toNat:Nat):Int)=110
   ·simp[Wc6,S,rows,h4,f,hat,e,W30,hnx]
   ·have hm:=(V4v ho r s code).resolve_left e
    rw[hm]at m
    by_cases e2:v<0
    ·have e3:¬0≤v:=by omega
     simp[Wc6,S,rows,h4,f,m,hat,e,e2,e3,W30,hnx]
    ·have e3:0≤v:=by omega
     by_cases e4:Wgd u.toNat r s code<v
     ·have e5:¬v≤Wgd u.toNat r s code:=by omega
      simp[Wc6,S,rows,h4,f,m,hat,e,e2,e3,e4,e5,W30,hnx]
     ·have e5:v≤Wgd u.toNat r s code:=by omega
      simp[Wc6,S,rows,h4,f,m,hat,e,e2,e3,e4,e5,W30,hnx]
  have en:Wc6 W02 bm.run rg.length (S 4)=some (.exit 0,⟨[(16,Bo false),(8,I .i64 4),(7,strA [x,y,z,w]),(4,.c (.ptr (rg.length+1) 0)),(3,.c (.ptr rg.length 0)),(2,I .i64 code)],rows⟩):=by
   simp[Wc6,S]
  have r0:=rd 0 x a (by omega) hx _root_.rfl _root_.rfl
  have r1:=rd 1 y b (by omega) hy _root_.rfl _root_.rfl
  have r2:=rd 2 z c (by omega) hz _root_.rfl _root_.rfl
  have r3:=rd 3 w n (by omega) hww _root_.rfl _root_.rfl
  have key:W02 (Wc6 W02 bm.run rg.length) (S 0)=if Wgj [x,y,z,w] ⟨op,a,b,c,n⟩ r s code=true then some (.exit 0,⟨[(16,Bo false),(8,I .i64 4),(7,strA [x,y,z,w]),(4,.c (.ptr (rg.length+1) 0)),(3,.c (.ptr rg.length 0)),(2,I .i64 code)],rows⟩)else some (.ret,⟨[(6,I .i64 3)],rows⟩):=by
   simp only[Wgj]
   rw[W09,show S 0=S ((0:Nat):Int)from _root_.rfl,r0]
   by_cases g1:W30 x.toNat a r s code=true
   rotate_left
   ·rw[if_neg g1]
    simp[g1]
   rw[if_pos g1,W4m,W09,r1]
   by_cases g2:W30 y.toNat b r s code=true
   rotate_left
   ·rw[if_neg g2]
    simp[g2]
   rw[if_pos g2,W4m,W09,r2]
   by_cases g3:W30 z.toNat c r s code=true
   rotate_left
   ·rw[if_neg g3]
    simp[g3]
   rw[if_pos g3,W4m,W09,r3]
   by_cases g4:W30 w.toNat n r s code=true
   rotate_left
   ·rw[if_neg g4]
    simp[g4]
   rw[if_pos g4,W4m]
   rw[show S (((3:Nat)+1:Nat):Int)=S 4 from _root_.rfl,W3d en (by simp)]
   simp[g1,g2,g3,g4]
  simp only[S,rows]at key
  by_cases g:Wgj [x,y,z,w] ⟨op,a,b,c,n⟩ r s code=true
  ·rw[if_pos g]at key
   simp[s98,W4o,hwf,insI,h,hw,key,g,Wb7]
  ·rw[if_neg g]at key
   simp[s98,W4o,hwf,insI,h,hw,key,g,Wb7]
abbrev cfgA(c:Cfg):AV:= .agg [.p (iv c.scheme),.p (iv c.order),.p (iv c.thr),.p (iv c.fuel),.p (iv c.depth)]
def Cfg.ok(c:Cfg):Bool:=inB c.scheme 0 3&&(inB c.order 0 1&&(inB c.thr 1 8&&(inB c.fuel 0 16&&inB c.depth 1 4)))
theorem Wj9(c:Cfg)(rg:List Reg)(hw:wf rg):bm.run (.fn 60) [cfgA c] rg=some (I .i64 (if c.ok=true then 0 else 3),rg):=by
 rw[R60]
 cases h1:inB c.scheme 0 3
 ·simp[s60,hw,h1,Cfg.ok]
 cases h2:inB c.order 0 1
 ·simp[s60,hw,h1,h2,Cfg.ok]
 cases h3:inB c.thr 1 8
 ·simp[s60,hw,h1,h2,h3,Cfg.ok]
 cases h4:inB c.fuel 0 16
 ·simp[s60,hw,h1,h2,h3,h4,Cfg.ok]
 cases h5:inB c.depth 1 4<;>simp[s60,hw,h1,h2,h3,h4,h5,Cfg.ok]
@[simp] theorem Wwl (n lo hi:Int) (rg:List Reg):bm.run (.fn 99) [I .i64 n,I .i64 lo,I .i64 hi] rg=some (Bo (inB n lo hi),rg):=by
 rw[R99]
 by_cases h:lo≤n<;>simp[s99,h,inB]
@[simp] theorem Wwm (n hi:Int) (rg:List Reg):bm.run (.fn 97) [I .i64 n,I .i64 hi] rg=some (Bo (inB n 0 hi),rg):=by
 rw[R97]
 by_cases h:(0:Int)≤n<;>simp[s97,h,inB]
theorem W9p(c:Cfg)(rg:List Reg)(hw:wf rg):bm.run (.fn 37) [cfgA c] rg=some (Bo c.ok,rg):=by
 rw[R37]
 cases h1:inB c.scheme 0 3
 ·simp[s37,hw,h1,Cfg.ok]
 cases h2:inB c.order 0 1
 ·simp[s37,hw,h1,h2,Cfg.ok]
 cases h3:inB c.thr 1 8
 ·simp[s37,hw,h1,h2,h3,Cfg.ok]
 cases h4:inB c.fuel 0 16
 ·simp[s37,hw,h1,h2,h3,h4,Cfg.ok]
 cases h5:inB c.depth 1 4<;>simp[s37,hw,h1,h2,h3,h4,h5,Cfg.ok]
abbrev rowN(x:Ins):Reg:= .ac [.p (iv x.op),.p (iv x.a),.p (iv x.b),.p (iv x.c),.p (iv x.n)]
theorem Wu5(l:List Ins)(rg:List Reg):bm.run (.fn 129) [.c (.p (slN l))] rg=some (Bo (decide (16<l.length)),rg):=by
 rw[R129]
 simp[s129]
 omega
theorem Wzi(r ce s:Int)(kk:PV)(l:List Ins)(hl:l.length≤1000)(i:Nat)(x:Ins)(hx:l[i]?=some x)(n0 pt:Nat)(v36 v37 v38:AV)(R:List Reg)(hw:wf R)(hp:R[pt]?=some (.ac [.p (iv r),.p (iv ce),.p (iv s),.p kk])):
  Wg9 W02 bm.run n0 ⟨[(44,I .i64 i),(43,I .i64 l.length),(42,.c (.p (slN l))),(38,v38),(37,v37),(36,v36),(4,.c (.p (slN l))),(1,.c (.ptr pt 0))],R⟩=
   if (!decide (insI x r s l.length=0))=true then some (.ret,⟨[(2,I .i64 (insI x r s l.length))],R++[rowN x]⟩)else some (.normal,⟨[(44,I .i64 ((i+1:Nat):Int)),(43,I .i64 l.length),(42,.c (.p (slN l))),(38,v38),(37,v37),(36,v36),(4,.c (.p (slN l))),(1,.c (.ptr pt 0))],R++[rowN x]⟩):=by
 have hi:i<l.length:=(Z3.1 hx).1
 have hi2:(i:Int)<l.length:=by omega
 have hnx:IntKind.i64.wrap ((i:Int)+1)=(i:Int)+1:=W0g (by omega) (by omega)
 have hp2:=W0b hp [rowN x]
 have hwf:wf (R++[rowN x]):=W07 hw (by simp)
 have hc:=Wqb x.op x.a x.b x.c x.n r ce s l.length kk (R++[rowN x]) hwf
 by_cases h:insI x r s l.length=0
 ·simp[Wg9,hi2,hx,hp2,hc,h,hnx]
 ·simp[Wg9,hi2,hx,hp2,hc,h,hnx]
def badI(r s:Int)(l:List Ins)(x:Ins):Bool:= !decide (insI x r s l.length=0)
theorem Wu6(l:List Ins)(i:Nat)(x:Ins)(hx:l[i]?=some x):(l.take (i+1)).map rowN=(l.take i).map rowN++[rowN x]:=by
 rw[Zs,hx]
 simp
theorem Wqd(R:List Reg)(hw:wf R)(l:List Ins):wf (R++l.map rowN):=W07 hw (by simp)
def chkL(r s:Int)(l:List Ins):Int:=match l.findIdx? (badI r s l)with
 | some i=>insI (l.getD i ins0) r s l.length
 | none=>0
theorem Wzj(r ce s:Int)(kk:PV)(l:List Ins)(hl:l.length≤1000)(n0 pt:Nat)(v36 v37 v38:AV)(R:List Reg)(hw:wf R)(hp:R[pt]?=some (.ac [.p (iv r),.p (iv ce),.p (iv s),.p kk])):
  W02 (Wg9 W02 bm.run n0) ⟨[(44,I .i64 0),(43,I .i64 l.length),(42,.c (.p (slN l))),(38,v38),(37,v37),(36,v36),(4,.c (.p (slN l))),(1,.c (.ptr pt 0))],R⟩=
   match l.findIdx? (badI r s l)with
   | some i=>some (.ret,⟨[(2,I .i64 (chkL r s l))],R++(l.take (i+1)).map rowN⟩)
   | none=>some (.exit 3,⟨[(45,Bo false),(44,I .i64 l.length),(43,I .i64 l.length),(42,.c (.p (slN l))),(38,v38),(37,v37),(36,v36),(4,.c (.p (slN l))),(1,.c (.ptr pt 0))],R++l.map rowN⟩):=by
 have h:=W2r (body:=Wg9 W02 bm.run n0) l (badI r s l)
  (fun i=>⟨[(44,I .i64 (i:Int)),(43,I .i64 l.length),(42,.c (.p (slN l))),(38,v38),(37,v37),(36,v36),(4,.c (.p (slN l))),(1,.c (.ptr pt 0))],R++(l.take i).map rowN⟩)
  (fun i=>⟨[(2,I .i64 (insI (l.getD i ins0) r s l.length))],R++(l.take (i+1)).map rowN⟩) (k:=3)
  (E:=⟨[(45,Bo false),(44,I .i64 l.length),(43,I .i64 l.length),(42,.c (.p (slN l))),(38,v38),(37,v37),(36,v36),(4,.c (.p (slN l))),(1,.c (.ptr pt 0))],R++l.map rowN⟩)
  (fun i x hx=>by
   have hr:=Wzi r ce s kk l hl i x hx n0 pt v36 v37 v38 (R++(l.take i).map rowN) (Wqd R hw _) (W0b hp _)
   rw[Z6,←Wu6 l i x hx]at hr
   have hg:l.getD i ins0=x:=by rw[Zc,hx]; rfl
   simp only[hg]
   exact hr)
  (by simp[Wg9])
 simp only[List.take_zero,Y9,Zr]at h
 rw[show ((0:Nat):Int)=0 from _root_.rfl]at h
 rw[h]
 unfold chkL
 cases hf:l.findIdx? (badI r s l)<;>simp
def badL(r s:Int)(l:List Ins):Bool:=(l.findIdx? (badI r s l)).isSome
def chkC(r s:Int)(code:List (List Ins)):Int:=match code.findIdx? (badL r s)with
 | some j=>chkL r s (code.getD j [])
 | none=>0
def W76(code:List (List Ins))(j:Nat):List Reg:=((code.take j).flatMap id).map rowN
theorem Wgk(code:List (List Ins))(j:Nat)(l:List Ins)(h:code[j]?=some l):W76 code (j+1)=W76 code j++l.map rowN:=by
 unfold W76
 rw[Zs,h]
 simp
theorem Wzk(r ce s:Int)(kk:PV)(code:List (List Ins))(hc:code.length≤1000)(hl:∀l∈code,l.length≤1000)(n0 pt:Nat)(R:List Reg)(hw:wf R)(hp:R[pt]?=some (.ac [.p (iv r),.p (iv ce),.p (iv s),.p kk])):
  ∃e sl m,W02 (Wkw W02 bm.run n0) ⟨[(38,I .i64 0),(37,I .i64 code.length),(36,.c (.p (slNN code))),(1,.c (.ptr pt 0))],R⟩=some (e,⟨sl,R++m⟩)∧
   ((e= .exit 1∧chkC r s code=0)∨(e= .ret∧lk sl 2=I .i64 (chkC r s code))):=by
 have h:=W2r (body:=Wkw W02 bm.run n0) code (badL r s)
  (fun j=>⟨[(38,I .i64 (j:Int)),(37,I .i64 code.length),(36,.c (.p (slNN code))),(1,.c (.ptr pt 0))],R++W76 code j⟩)
  (fun j=>⟨[(2,I .i64 (chkL r s (code.getD j [])))],R++(W76 code j++((code.getD j []).take (((code.getD j []).findIdx? (badI r s (code.getD j []))).getD 0+1)).map rowN)⟩) (k:=1)
  (E:=⟨[(39,Bo false),(38,I .i64 code.length),(37,I .i64 code.length),(36,.c (.p (slNN code))),(1,.c (.ptr pt 0))],R++W76 code code.length⟩)
  (fun j l hj=>by
   have hlt:j<code.length:=(Z3.1 hj).1
   have hlt2:(j:Int)<code.length:=by omega
   have hnx:IntKind.i64.wrap ((j:Int)+1)=(j:Int)+1:=W0g (by omega) (by omega)
   have hg:code.getD j []=l:=by rw[Zc,hj]; rfl
   have hi:=Wzj r ce s kk l (hl l (Zi hj)) n0 pt (.c (.p (slNN code))) (I .i64 code.length) (I .i64 j) (R++W76 code j) (Wqd R hw _) (W0b hp _)
   simp only[hg]
   cases hf:l.findIdx? (badI r s l)with
   | some i=>
    rw[hf]at hi
    simp[Wkw,hlt2,hj,hi,badL,hf]
   | none=>
    rw[hf]at hi
    simp[Wkw,hlt2,hj,hi,badL,hf,hnx,Wgk code j l hj])
  (by simp[Wkw])
 simp only[W76,List.take_zero,Ye,Y9,Zr]at h
 rw[show ((0:Nat):Int)=0 from _root_.rfl]at h
 rw[h]
 unfold chkC
 cases hf:code.findIdx? (badL r s)with
 | some j=>exact ⟨.ret,_,_,_root_.rfl,.inr ⟨_root_.rfl,by simp⟩⟩
 | none=>exact ⟨.exit 1,_,_,_root_.rfl,.inl ⟨_root_.rfl,_root_.rfl⟩⟩
def W59(l:List Ins):Bool:=decide (16<l.length)
theorem Wgl(code:List (List Ins))(hc:code.length≤1000)(rg:List Reg):bm.run (.fn 128) [.c (.p (slNN code)),.c (.fn (.func 129) [] [])] rg=some (Bo (code.findIdx? W59).isSome,rg):=by
 have h:=W2r (body:=Wim W02 bm.run rg.length) code W59
  (fun j=>⟨[(8,I .i64 (j:Int)),(7,I .i64 code.length),(1,.c (.fn (.func 129) [] [])),(0,.c (.p (slNN code)))],rg⟩)
  (fun j=>⟨[(4,I .i64 (j:Int))],rg⟩) (k:=0)
  (E:=⟨[(9,Bo false),(8,I .i64 code.length),(7,I .i64 code.length),(1,.c (.fn (.func 129) [] [])),(0,.c (.p (slNN code)))],rg⟩)
  (fun j l hj=>by
   have hlt:j<code.length:=(Z3.1 hj).1
   have hlt2:(j:Int)<code.length:=by omega
   have hnx:IntKind.i64.wrap ((j:Int)+1)=(j:Int)+1:=W0g (by omega) (by omega)
   by_cases h16:16<l.length<;>simp[Wim,hlt2,hj,Wu5,W59,h16,hnx])
  (by simp[Wim])
 rw[show ((0:Nat):Int)=0 from _root_.rfl]at h
 have h2:bm.run (.fn 217) [.c (.p (slNN code)),.c (.fn (.func 129) [] [])] rg=some (I .i64 (match code.findIdx? W59 with | some j=>(j:Int) | none=> -1),rg):=by
  rw[R217]
  cases hf:code.findIdx? W59 with
  | some j=>rw[hf]at h; simp[s217,h]
  | none=>rw[hf]at h; simp[s217,h]
 rw[R128]
 cases hf:code.findIdx? W59 with
 | some j=>rw[hf]at h2; simp[s128,h2]
 | none=>rw[hf]at h2; simp[s128,h2]
def chkP(r ce s:Int)(code:List (List Ins)):Int:=if (!inB r 0 4||(!inB ce 0 6|| !inB s 0 2))=true then 3 else if inB code.length 1 4=false then 4 else if (code.findIdx? W59).isSome=true then 4 else chkC r s code
abbrev prgA(r ce s:Int)(code:List (List Ins)):AV:=pAV r ce s (slNN code)
theorem W9q(r ce s:Int)(code:List (List Ins))(hc:code.length≤1000)(hl:∀l∈code,l.length≤1000)(rg:List Reg)(hw:wf rg):bm.run (.fn 59) [prgA r ce s code] rg=some (I .i64 (chkP r ce s code),rg):=by
 rw[R59]
 cases h1:inB r 0 4
 ·simp[s59,hw,h1,chkP]
 cases h2:inB ce 0 6
 ·simp[s59,hw,h1,h2,chkP]
 cases h3:inB s 0 2
 ·simp[s59,hw,h1,h2,h3,chkP]
 cases h4:inB code.length 1 4
 ·simp[s59,hw,h1,h2,h3,h4,chkP]
 cases h5:(code.findIdx? W59).isSome
 ·obtain ⟨e,sl,m,ho,hr⟩:=Wzk r ce s (slNN code) code hc hl rg.length rg.length (rg++[.ac [.p (iv r),.p (iv ce),.p (iv s),.p (slNN code)]]) (W07 hw (by simp)) (by simp)
  rw[Z6]at ho
  rcases hr with ⟨rfl,h0⟩ | ⟨rfl,h0⟩
  ·simp[s59,hw,h1,h2,h3,h4,h5,chkP,Wgl,hc]
   simp at ho
   simp[ho,hw,h0]
  ·simp[s59,hw,h1,h2,h3,h4,h5,chkP,Wgl,hc]
   simp at ho
   simp[ho,hw,h0]
 ·simp[s59,hw,h1,h2,h3,h4,h5,chkP,Wgl,hc]
abbrev prow(r ce s:Int)(code:List (List Ins)):Reg:= .ac [.p (iv r),.p (iv ce),.p (iv s),.p (slNN code)]
theorem V4w(r ce s:Int)(code:List (List Ins))(hc:code.length≤1000)(n0 pt:Nat)(R:List Reg)(hp:R[pt]?=some (prow r ce s code)):
  ∃e sl,W02 (Wku W02 bm.run n0) ⟨[(3,I .i64 0),(1,.c (.ptr pt 0))],R⟩=some (e,⟨sl,R⟩)∧
   ((e= .exit 0∧(code.findIdx? W59).isSome=false∧lk sl 1= .c (.ptr pt 0))∨(e= .ret∧(code.findIdx? W59).isSome=true∧lk sl 2=I .i64 4)):=by
 have h:=W2r (body:=Wku W02 bm.run n0) code W59 (fun j=>⟨[(3,I .i64 (j:Int)),(1,.c (.ptr pt 0))],R⟩) (fun j=>⟨[(2,I .i64 4)],R⟩) (k:=0)
  (E:=⟨[(37,Bo false),(3,I .i64 code.length),(1,.c (.ptr pt 0))],R⟩)
  (fun j l hj=>by
   have hlt:j<code.length:=(Z3.1 hj).1
   have hlt2:(j:Int)<code.length:=by omega
   have hnx:IntKind.i64.wrap ((j:Int)+1)=(j:Int)+1:=W0g (by omega) (by omega)
   by_cases h16:16<l.length
   ·have h16':(16:Int)<l.length:=by omega
    simp[Wku,hlt2,hj,hp,W59,h16,h16',hnx]
   ·have h16':¬(16:Int)<l.length:=by omega
    simp[Wku,hlt2,hj,hp,W59,h16,h16',hnx])
  (by simp[Wku,hp])
 rw[show ((0:Nat):Int)=0 from _root_.rfl]at h
 cases hf:code.findIdx? W59 with
 | some j=>rw[hf]at h; exact ⟨.ret,_,h,.inr ⟨_root_.rfl,_root_.rfl,_root_.rfl⟩⟩
 | none=>rw[hf]at h; exact ⟨.exit 0,_,h,.inl ⟨_root_.rfl,_root_.rfl,by simp⟩⟩
theorem Wzl(r ce s:Int)(code:List (List Ins))(j:Nat)(l:List Ins)(hj:code[j]?=some l)(hl:l.length≤1000)(n0 pt:Nat)(R:List Reg)(hw:wf R)(hp:R[pt]?=some (prow r ce s code)):
  W02 (Wks W02 bm.run n0) ⟨[(5,I .i64 0),(4,I .i64 j),(1,.c (.ptr pt 0))],R⟩=
   match l.findIdx? (badI r s l)with
   | some i=>some (.ret,⟨[(2,I .i64 (chkL r s l))],R⟩)
   | none=>some (.exit 4,⟨[(61,Bo false),(5,I .i64 l.length),(4,I .i64 j),(1,.c (.ptr pt 0))],R⟩):=by
 have h:=W2r (body:=Wks W02 bm.run n0) l (badI r s l) (fun i=>⟨[(5,I .i64 (i:Int)),(4,I .i64 j),(1,.c (.ptr pt 0))],R⟩)
  (fun i=>⟨[(2,I .i64 (insI (l.getD i ins0) r s l.length))],R⟩) (k:=4)
  (E:=⟨[(61,Bo false),(5,I .i64 l.length),(4,I .i64 j),(1,.c (.ptr pt 0))],R⟩)
  (fun i x hx=>by
   have hlt:i<l.length:=(Z3.1 hx).1
   have hlt2:(i:Int)<l.length:=by omega
   have hnx:IntKind.i64.wrap ((i:Int)+1)=(i:Int)+1:=W0g (by omega) (by omega)
   have hg:l.getD i ins0=x:=by rw[Zc,hx]; rfl
   have hcx:=Wzh x.op x.a x.b x.c x.n r ce s l.length (slNN code) R hw
   simp only[hg]
   by_cases hz:insI x r s l.length=0
   ·simp[Wks,hlt2,hj,hx,hp,hcx,hz,hnx,badI]
   ·simp[Wks,hlt2,hj,hx,hp,hcx,hz,hnx,badI])
  (by simp[Wks,hj,hp])
 rw[show ((0:Nat):Int)=0 from _root_.rfl]at h
 rw[h]
 unfold chkL
 cases hf:l.findIdx? (badI r s l)<;>simp
theorem Wzm(r ce s:Int)(code:List (List Ins))(hc:code.length≤1000)(hl:∀l∈code,l.length≤1000)(n0 pt:Nat)(R:List Reg)(hw:wf R)(hp:R[pt]?=some (prow r ce s code)):
  ∃e sl,W02 (Wkt W02 bm.run n0) ⟨[(4,I .i64 0),(1,.c (.ptr pt 0))],R⟩=some (e,⟨sl,R⟩)∧
   ((e= .exit 2∧chkC r s code=0)∨(e= .ret∧lk sl 2=I .i64 (chkC r s code))):=by
 have h:=W2r (body:=Wkt W02 bm.run n0) code (badL r s) (fun j=>⟨[(4,I .i64 (j:Int)),(1,.c (.ptr pt 0))],R⟩)
  (fun j=>⟨[(2,I .i64 (chkL r s (code.getD j [])))],R⟩) (k:=2)
  (E:=⟨[(51,Bo false),(4,I .i64 code.length),(1,.c (.ptr pt 0))],R⟩)
  (fun j l hj=>by
   have hlt:j<code.length:=(Z3.1 hj).1
   have hlt2:(j:Int)<code.length:=by omega
   have hnx:IntKind.i64.wrap ((j:Int)+1)=(j:Int)+1:=W0g (by omega) (by omega)
   have hg:code.getD j []=l:=by rw[Zc,hj]; rfl
   have hi:=Wzl r ce s code j l hj (hl l (Zi hj)) n0 pt R hw hp
   simp only[hg]
   cases hf:l.findIdx? (badI r s l)with
   | some i=>
    rw[hf]at hi
    simp[Wkt,hlt2,hj,hp,hi,badL,hf]
   | none=>
    rw[hf]at hi
    simp[Wkt,hlt2,hj,hp,hi,badL,hf,hnx])
  (by simp[Wkt,hp])
 rw[show ((0:Nat):Int)=0 from _root_.rfl]at h
 rw[h]
 unfold chkC
 cases hf:code.findIdx? (badL r s)with
 | some j=>exact ⟨.ret,_,_root_.rfl,.inr ⟨_root_.rfl,by simp⟩⟩
 | none=>exact ⟨.exit 2,_,_root_.rfl,.inl ⟨_root_.rfl,_root_.rfl⟩⟩
theorem W77(r ce s:Int)(code:List (List Ins))(hc:code.length≤1000)(hl:∀l∈code,l.length≤1000)(rg:List Reg)(hw:wf rg):bm.run (.fn 36) [prgA r ce s code] rg=some (I .i64 (chkP r ce s code),rg):=by
 rw[R36]
 cases h1:inB r 0 4
 ·simp[s36,hw,h1,chkP]
 cases h2:inB ce 0 6
 ·simp[s36,hw,h1,h2,chkP]
 cases h3:inB s 0 2
 ·simp[s36,hw,h1,h2,h3,chkP]
 by_cases h4:(code.length:Int)<1
 ·have:inB code.length 1 4=false:=by simp[inB]; omega
  simp[s36,hw,h1,h2,h3,h4,chkP,this]
 by_cases h6:(4:Int)<code.length
 ·have:inB code.length 1 4=false:=by simp[inB]; omega
  simp[s36,hw,h1,h2,h3,h4,h6,chkP,this]
 have h7:inB code.length 1 4=true:=by simp[inB]; omega
 have hw2:wf (rg++[prow r ce s code]):=W07 hw (by simp)
 have hp2:(rg++[prow r ce s code])[rg.length]?=some (prow r ce s code):=by simp
 obtain ⟨e1,sl1,ho1,hr1⟩:=V4w r ce s code hc rg.length rg.length (rg++[prow r ce s code]) hp2
 obtain ⟨e2,sl2,ho2,hr2⟩:=Wzm r ce s code hc hl rg.length rg.length (rg++[prow r ce s code]) hw2 hp2
 rcases hr1 with ⟨rfl,g1,g2⟩ | ⟨rfl,g1,g2⟩
 ·rcases hr2 with ⟨rfl,g3⟩ | ⟨rfl,g3⟩
  ·simp[s36,hw,h1,h2,h3,h4,h6,h7,chkP,ho1,g1,g2,ho2,g3]
  ·simp[s36,hw,h1,h2,h3,h4,h6,h7,chkP,ho1,g1,g2,ho2,g3]
 ·simp[s36,hw,h1,h2,h3,h4,h6,h7,chkP,ho1,g1,g2]
def thr0(fuel:Int):Thr:=⟨0,fuel,0,⟨0,0,0⟩,⟨0,0,0⟩,⟨0,0,0⟩,⟨0,0,0⟩,⟨0,0,0,[]⟩,[],[],0⟩
theorem Wqe(c:Cfg)(rg:List Reg)(hw:wf rg):bm.run (.fn 64) [cfgA c] rg=some (ag (thr0 (W0o c.fuel 0 16)).k,rg):=by
 rw[R64]
 simp[s64,hw,W2w,thr0,Thr.k]
def fewL(code:List (List Ins)):List (List Ins):=(code.take 6).map fun l=>l.take 20
def Wqf(B:List Reg)(pt q:Nat)(code:List (List Ins))(i:Nat)(st:St):Prop:=
 ∃v m,st=⟨[(4,I .i64 i),(3,v),(2,.c (.ptr q 0)),(1,.c (.ptr pt 0))],B++m⟩∧accV B.length 1 ((fewL (code.take i)).map fun l=>[slN l]) v m∧wf (B++m)
theorem Wu7(r ce s:Int)(code:List (List Ins))(B:List Reg)(pt q:Nat)(hp:B[pt]?=some (prow r ce s code))(n0:Nat)(i:Nat)(hi:i<code.length)(hi6:i<6)(st:St)(h:Wqf B pt q code i st):∃st',Wel W02 bm.run n0 st=some (.normal,st')∧Wqf B pt q code (i+1) st':=by
 obtain ⟨v,m,rfl,ha,hw⟩:=h
 have hx:code[i]?=some code[i]:=Z2 hi
 generalize code[i]=l at hx
 have hi2:(i:Int)<code.length:=by omega
 have hi3:(i:Int)<6:=by omega
 have hnx:IntKind.i64.wrap ((i:Int)+1)=(i:Int)+1:=W0g (by omega) (by omega)
 have hlen:((fewL (code.take i)).map fun l=>[slN l]).length≤6:=by simp[fewL]; omega
 have hf:(fewL (code.take (i+1))).map (fun l=>[slN l])=(fewL (code.take i)).map (fun l=>[slN l])++[[slN (l.take 20)]]:=by
  unfold fewL
  rw[List.take_take,List.take_take,show min 6 (i+1)=i+1 by omega,show min 6 i=i by omega,Zs,hx]
  simp
 obtain ⟨v',m',h1,h2,h3⟩:=accV.push (bytes:=24) [slN (l.take 20)] ha (by omega) (by omega) hw
 refine ⟨⟨[(4,I .i64 ((i+1:Nat):Int)),(3,v'),(2,.c (.ptr q 0)),(1,.c (.ptr pt 0))],B++m'⟩,?_,v',m',_root_.rfl,by rw[hf]; exact h2,h3⟩
 have hpm:=W0b hp m
 by_cases h20:(20:Int)<l.length
 ·have h21:(20:Int)≤l.length:=by omega
  unfold slN at h1
  rw[List.map_take]at h1
  simp[Wel,hpm,hi2,hi3,hx,h20,h21,hnx,vsls,W0m,h1]
 ·have h22:l.take 20=l:=Ze (by omega)
  rw[h22]at h1
  simp[Wel,hpm,hi2,hi3,hx,h20,hnx,h1]
theorem Wzn(r ce s:Int)(code:List (List Ins))(rg:List Reg)(hw:wf rg):bm.run (.fn 16) [prgA r ce s code] rg=some (prgA r ce s (fewL code),rg):=by
 let B:=rg++[prow r ce s code,.ac [.p (iv 0),.p (iv 0),.p (iv 0),.p nilS]]
 have hB:B.length=rg.length+2:=by simp[B]
 have hwB:wf B:=W07 hw (by simp)
 have hp:B[rg.length]?=some (prow r ce s code):=by simp[B]
 have hq:B[rg.length+1]?=some (.ac [.p (iv 0),.p (iv 0),.p (iv 0),.p nilS]):=by simp[B]
 let k:=min code.length 6
 obtain ⟨e,st,hl,he,v,m,rfl,ha,hwm⟩:=W0z (body:=Wel W02 bm.run rg.length) (Wqf B rg.length (rg.length+1) code)
  (fun e st=>e= .exit 0∧∃v m,st=⟨[(14,Bo false),(4,I .i64 k),(3,v),(2,.c (.ptr (rg.length+1) 0)),(1,.c (.ptr rg.length 0))],B++m⟩∧accV B.length 1 ((fewL code).map fun l=>[slN l]) v m∧wf (B++m)) k
  (s:=⟨[(4,I .i64 0),(3,.c (.p nilS)),(2,.c (.ptr (rg.length+1) 0)),(1,.c (.ptr rg.length 0))],B⟩)
  ⟨.c (.p nilS),[],by simp,accV.nil _ _ _,by simpa using hwB⟩
  (fun i hi st h=>Wu7 r ce s code B rg.length (rg.length+1) hp rg.length i (by omega) (by omega) st h)
  (fun st h=>by
   obtain ⟨v,m,rfl,ha,hwm⟩:=h
   have hpm:=W0b hp m
   refine ⟨.exit 0,⟨[(14,Bo false),(4,I .i64 k),(3,v),(2,.c (.ptr (rg.length+1) 0)),(1,.c (.ptr rg.length 0))],B++m⟩,?_,by simp,_root_.rfl,v,m,_root_.rfl,?_,hwm⟩
   ·rcases Ys code.length 6 with h6 | h6
    ·have hk:k=code.length:=by omega
     simp[Wel,hpm,hk]
    ·have hk:k=6:=by omega
     by_cases h7:(6:Int)<code.length
     ·simp[Wel,hpm,hk,h7]
     ·simp[Wel,hpm,hk,h7]
   ·have:fewL (code.take k)=fewL code:=by
     unfold fewL
     rw[List.take_take]
     congr 1
     rcases Ys code.length 6 with h6 | h6
     ·rw[Ze (by omega),Ze (by omega)]
     ·congr 1
      omega
    rw[this]at ha
    exact ha)
 subst he
 rw[R16]
 have hlen:(fewL code).length≤9223372036854775807:=by simp[fewL]; omega
 have hnz:nzL [.sl 5 []] ((fewL code).map fun l=>[slN l])=(fewL code).map fun l=>[slN l]:=by
  rw[W93,X2]
  refine Yg fun l _=> ?_
  simp[nzR]
 rcases ha with ⟨h0,rfl⟩ | ⟨j,rfl,hj⟩
 ·have h1:fewL code=[]:=by simpa using h0
  rw[h1]
  simp only[B]at hl
  simp[s16,hl,hw]
 ·simp only[B,hB]at hl
  rw[show rg.length+2+j=rg.length+(j+2)by omega]at hl
  simp only[Ym]at hl
  simp[s16,hl,hw,hj,hlen,hnz]
def W5e(code:List (List Ins))(i:Nat):List (List PV):=(code.take i).map (fun l=>[slN l])++List.replicate (code.length-i) [nilS]
theorem Wl2(code:List (List Ins))(i:Nat)(l:List Ins)(h:code[i]?=some l):(W5e code i).set i [slN l]=W5e code (i+1):=by
 have hi:i<code.length:=(Z3.1 h).1
 unfold W5e
 rw[Zs,h]
 have hl:((code.take i).map fun l=>[slN l]).length=i:=by simp; omega
 rw[List.set_append_right _ _ (by omega),hl,Nat.sub_self,show code.length-i=(code.length-(i+1))+1 by omega,Xt]
 simp
theorem Wl3(code:List (List Ins))(i:Nat)(hi:i<code.length):(W5e code i)[i]?=some [nilS]:=by
 unfold W5e
 have hlen:((code.take i).map fun l=>[slN l]).length=i:=by simp; omega
 rw[Y3 (by omega),hlen,Nat.sub_self,List.getElem?_replicate,if_pos (by omega)]
theorem Wl4(r ce s:Int)(code:List (List Ins))(hc:code.length≤1000)(hl:∀l∈code,l.length≤1000)(rg:List Reg)(hw:wf rg):bm.run (.fn 63) [prgA r ce s code] rg=some (prgA r ce s code,rg):=by
 let rows:Nat→List Reg:=fun i=>rg++[prow r ce s code,.ac [.p (iv 0),.p (iv 0),.p (iv 0),.p nilS],.ac [.p (iv r),.p (iv ce),.p (iv s),.own (rg.length+3) 0 1 code.length .free],.pc 1 (W5e code i)]
 have hwr:∀i,wf (rows i):=fun i=>W07 hw (by simp)
 have h:=W0y (body:=Wtj W02 bm.run rg.length) (fun i=>⟨[(14,I .i64 (i:Int)),(13,I .i64 code.length),(3,.c (.ptr (rg.length+2) 0)),(2,.c (.ptr (rg.length+1) 0)),(1,.c (.ptr rg.length 0))],rows i⟩) code.length
  (fun i hi=>by
   have hx:code[i]?=some code[i]:=Z2 hi
   generalize code[i]=l at hx
   have hi2:(i:Int)<code.length:=by omega
   have hnx:IntKind.i64.wrap ((i:Int)+1)=(i:Int)+1:=W0g (by omega) (by omega)
   have hll:=hl l (Zi hx)
   have hcl:=V91 (l.map Ins.k) (rows i) (by simp; omega) (hwr i)
   have hg:=Wl3 code i hi
   have hs:=Wl2 code i l hx
   simp only[rows]at hcl ⊢
   simp[Wtj,hi2,hx,hcl,hg,hs,hnx])
  (e:= .exit 0) (s':=⟨[(15,Bo false),(14,I .i64 code.length),(13,I .i64 code.length),(3,.c (.ptr (rg.length+2) 0)),(2,.c (.ptr (rg.length+1) 0)),(1,.c (.ptr rg.length 0))],rows code.length⟩)
  (by simp[Wtj]) (by simp)
 have hF:W5e code code.length=code.map fun l=>[slN l]:=by simp[W5e]
 have hF0:W5e code 0=List.replicate code.length [nilS]:=by simp[W5e]
 have hnz:nzL [.sl 5 []] (code.map fun l=>[slN l])=code.map fun l=>[slN l]:=by
  rw[W93,X2]
  refine Yg fun l _=> ?_
  simp[nzR]
 have hb1:(code.length:Int)≤140737488355328:=by omega
 have hb2:(code.length:Int)*24≤140737488355328:=by omega
 have hb3:code.length≤9223372036854775807:=by omega
 simp only[rows,hF,hF0]at h
 rw[show ((0:Nat):Int)=0 from _root_.rfl]at h
 rw[R63]
 simp[s63,hw,vmks,W0m,hb1,hb2,h,hb3,hnz]
def W1c(n:Nat)(a1:AV):List (Nat×AV):=[(6,a1),(2,.c (.ptr n 0))]
theorem accV.appK{base m:List Reg}{v y:AV}{sz bytes:Nat}{l xs:List (List PV)}(h:accV base.length sz l v m)(hy:W15 (base++m) y=some xs)(hn:W1i y=some xs.length)(hz:szOf y=none∨szOf y=some sz)
  (hb:l.length+xs.length≤140737488355328) (hb2:(l.length+xs.length)*bytes≤140737488355328) (hw:wf (base++m)):
  ∃v' m',vapp (base++m) sz bytes v y=some (v',base++m')∧accV base.length sz (l++xs) v' m'∧wf (base++m')∧(∀(q:Nat) (cs:List AC),m[q]?=some (Reg.ac cs)→m'[q]?=some (Reg.ac cs)):=by
 rcases h with ⟨rfl,rfl⟩ | ⟨k,rfl,hk⟩
 ·refine ⟨.c (.own (base.length+m.length) 0 sz xs.length .free),m++[.pc sz xs],?_,.inr ⟨m.length,by simp,by simp⟩,?_,fun q cs hq=>W0b hq _⟩
  ·have h1:xs.length≤140737488355328:=by simpa using hb
   have h2:xs.length*bytes≤140737488355328:=by simpa using hb2
   unfold vapp W3p
   simp only[hy,hn]
   rw[if_pos ⟨trivial,hz⟩,if_pos ⟨h1,h2⟩]
   simp
  ·rw[←Z6]
   exact W07 hw (by simp)
 ·have hlt:k<m.length:=(Z3.1 hk).1
  refine ⟨.c (.own (base.length+m.length) 0 sz (l++xs).length .free),m.set k .dead++[.pc sz (l++xs)],?_,.inr ⟨m.length,by simp,by simp⟩,?_,fun q cs hq=>W0b (by rw[Zv (by intro e; subst e; rw[hk]at hq; cases hq)]; exact hq) _⟩
  ·unfold vapp W3p
   simp only[hy,hn]
   rw[if_pos ⟨trivial,hz⟩]
   have hg:(base++m)[base.length+k]?=some (.pc sz l):=by rw[W0e]; exact hk
   simp only[hg]
   rw[if_pos ⟨trivial,trivial,Z8 _,hb,hb2⟩]
   simp
  ·rw[←Z6]
   have hw2:wf (base++m.set k .dead):=by
    have:=W2l (id:=base.length+k) (r:= .dead) hw rfl
    rwa[W1z]at this
   exact W07 hw2 (by simp)
theorem accV.pushK{base m:List Reg}{v:AV}{sz bytes:Nat}{l:List (List PV)}(x:List PV)(h:accV base.length sz l v m)(hb:l.length+1≤140737488355328)(hb2:(l.length+1)*bytes≤140737488355328)(hw:wf (base++m)):
  ∃v' m',vapp (base++(m++[.pc sz [x]])) sz bytes v (.c (.own (base.length+m.length) 0 sz 1 .free))=some (v',base++m')∧accV base.length sz (l++[x]) v' m'∧wf (base++m')∧(∀(q:Nat) (cs:List AC),m[q]?=some (Reg.ac cs)→m'[q]?=some (Reg.ac cs)):=by
 have hg:(base++(m++[Reg.pc sz [x]]))[base.length+m.length]?=some (.pc sz [x]):=by rw[W0e]; simp
 obtain ⟨v',m',h1,h2,h3,h4⟩:=accV.appK (bytes:=bytes) (y:= .c (.own (base.length+m.length) 0 sz 1 .free)) (xs:=[x]) (m:=m++[.pc sz [x]]) (h.more _) (by simp[W15,hg]) rfl (.inr rfl) hb hb2 (by rw[←Z6]; exact W07 hw (by simp))
 exact ⟨v',m',h1,h2,h3,fun q cs hq=>h4 q cs (W0b hq _)⟩
theorem accV.lt{n0 sz:Nat}{l:List (List PV)}{v:AV}{m:List Reg}(h:accV n0 sz l v m){k:Nat}(hk:n0+m.length≤k):avLt k v=true:=by
 rcases h with ⟨rfl,rfl⟩ | ⟨j,rfl,hj⟩
 ·rfl
 ·have:=(Z3.1 hj).1
  simp[avLt,acLt]; omega
theorem accV.back{n0 sz:Nat}{l:List (List PV)}{v:AV}{m p:List Reg}(h:accV (n0+p.length) sz l v m):accV n0 sz l v (p++m):=by
 rcases h with h | ⟨j,rfl,hj⟩
 ·exact .inl h
 ·exact .inr ⟨p.length+j,by rw[X9],by rw[W0e]; exact hj⟩
theorem accV.ac{n0 sz:Nat}{l:List (List PV)}{v:AV}{m:List Reg}(h:accV n0 sz l v m):∃x,v= .c x:=by
 rcases h with ⟨rfl,rfl⟩ | ⟨j,rfl,hj⟩<;>exact ⟨_,rfl⟩
theorem V4x{rg m:List Reg}{v w:AC}{f j:Nat}{sl:List (Nat×AV)}{st st':LpSt}{pe pe':Option LpEx}(h:wf (rg++[.ac [v],.lp f j sl st pe]++m))(hv:acLt (rg.length+2+m.length) w=true):wf (rg++[.ac [w],.lp f j sl st' pe']++m):=by
 have hv2:acLt (rg.length+(m.length+2)) w=true:=by rw[←hv]; congr 1; omega
 simp only[wf,Xf,Y2,X6,W18,Z5,Yh,Yv,Z4,Yu]at h ⊢
 refine ⟨⟨h.1.1,?_,h.1.2.2⟩,h.2⟩
 rw[←hv]
theorem Wu8(rg m:List Reg)(a1:AV)(v:AC)(l:List (List PV))(a b c:PV)(h:accV (rg.length+2) 3 l (.c v) m)(hb:l.length≤1000)(hw:wf (rg++[.ac [v],.lp 303 0 (W1c rg.length a1) .ready none]++m)):
  ∃v' m',bm.run (.yl (rg.length+1)) [.agg [.p a,.p b,.p c]] (rg++[.ac [v],.lp 303 0 (W1c rg.length a1) .ready none]++m)=some (Bo true,rg++[.ac [v'],.lp 303 0 (W1c rg.length a1) .ready none]++m')∧accV (rg.length+2) 3 (l++[[a,b,c]]) (.c v') m'∧wf (rg++[.ac [v'],.lp 303 0 (W1c rg.length a1) .ready none]++m')∧(∀(q:Nat) (cs:List AC),m[q]?=some (Reg.ac cs)→m'[q]?=some (Reg.ac cs)):=by
 rw[Book.run_yl (B:=bm) (f:=303) (j:=0) (sl:=W1c rg.length a1) (q:=l303_0) (by simp) rfl rfl rfl]
 simp[l303_0,Wpp,Wpq,W1c,Wfz,W7p]
 have hwb:wf (rg++[.ac [v],.lp 303 0 (W1c rg.length a1) .busy none]++(m++[.ac [.p a,.p b,.p c]])):=by
  rw[←Z6]
  exact W07 (V4x hw (by have:=h.lt (k:=rg.length+2+m.length) (Z8 _); simpa[avLt]using this)) (by simp)
 have hl2:(rg++[Reg.ac [v],.lp 303 0 (W1c rg.length a1) .busy none]).length=rg.length+2:=by simp
 obtain ⟨v',m',e1,e2,e3,e6⟩:=accV.pushK (bytes:=24) [a,b,c] (by rw[hl2]; exact h.more [.ac [.p a,.p b,.p c]]) (by omega) (by omega) hwb
 obtain ⟨x,rfl⟩:=e2.ac
 rw[hl2]at e2
 have e4:=V4x (st':= .ready) (pe':=none) e3 (by have:=e2.lt (k:=rg.length+2+m'.length) (Z8 _); simpa[avLt]using this)
 refine ⟨x,m',?_,e2,by simpa[W1c]using e4,fun q cs hq=>e6 q cs (W0b hq _)⟩
 simp[W1c]at e1
 have e5:rg.length+(m.length+3)=rg.length+2+(m.length+1):=by omega
 rw[e5,e1]
 have hc:cellsOf (.c x)=some [x]:=by rcases e2 with ⟨_,h⟩ | ⟨_,h,_⟩<;>cases h<;>rfl
 simp[W7o,hc,inR]
def plc(k lo e:Int)(j:Nat):List PV:=[iv k,iv (lo+(j:Int).tdiv e),iv ((j:Int).tmod e)]
def W0j(rg:List Reg)(a1:AV)(v:AC)(m:List Reg):List Reg:=rg++[.ac [v],.lp 303 0 (W1c rg.length a1) .ready none]++m
theorem Wu9(rg:List Reg)(a1 arr:AV)(n0 i q cnt:Nat)(k lo n e:Int)(hlo:0≤lo∧lo≤8)(hn:0≤n∧n≤8)(he:0≤e∧e≤8)(hcnt:(cnt:Int)=n*e)(l:List (List PV))(hb:l.length+cnt≤1000)(v:AC)(m:List Reg)
  (h:accV (rg.length+2) 3 l (.c v) m) (hw:wf (W0j rg a1 v m)) (hq:m[q]?=some (.ac [.p (iv k),.p (iv lo),.p (iv n),.p (iv e)])):
  ∃ex s',W02 (Wix W02 bm.run n0) ⟨[(15,I .i64 0),(14,I .i64 (n*e)),(7,I .i64 i),(6,arr),(4,.c (.ptr (rg.length+(q+2)) 0)),(0,.c (.hnd .yl (rg.length+1)))],W0j rg a1 v m⟩=some (ex,s')∧
   (ex= .exit 2∧∃v' m',s'.regs=W0j rg a1 v' m'∧lkF s'.slots 7=I .i64 i∧lkF s'.slots 6=arr∧lkF s'.slots 0= .c (.hnd .yl (rg.length+1))∧accV (rg.length+2) 3 (l++(List.range cnt).map (plc k lo e)) (.c v') m'∧wf (W0j rg a1 v' m')∧∀(q:Nat) (cs:List AC),m[q]?=some (.ac cs)→m'[q]?=some (.ac cs)):=by
 refine W0z (fun j s=>∃v' m',s=⟨[(15,I .i64 (j:Nat)),(14,I .i64 (n*e)),(7,I .i64 i),(6,arr),(4,.c (.ptr (rg.length+(q+2)) 0)),(0,.c (.hnd .yl (rg.length+1)))],W0j rg a1 v' m'⟩∧accV (rg.length+2) 3 (l++(List.range j).map (plc k lo e)) (.c v') m'∧wf (W0j rg a1 v' m')∧∀(q:Nat) (cs:List AC),m[q]?=some (.ac cs)→m'[q]?=some (.ac cs)) _ cnt ⟨v,m,rfl,by simpa using h,hw,fun _ _ h=>h⟩ ?_ ?_
 ·rintro j hj s ⟨v1,m1,rfl,h1,hw1,hk1⟩
  obtain ⟨v2,m2,e1,e2,e3,e4⟩:=Wu8 rg m1 a1 v1 _ (iv k) (iv (lo+(j:Int).tdiv e)) (iv ((j:Int).tmod e)) h1 (by simp; omega) hw1
  have hq1:=hk1 q _ hq
  have hjn:(j:Int)<n*e:=by omega
  have hen:e≠0:=by rintro rfl; omega
  have hnx:IntKind.i64.wrap ((j:Int)+1)=(j:Int)+1:=W0g (by omega) (by omega)
  refine ⟨_,?_,v2,m2,rfl,by simpa[List.range_succ,plc]using e2,e3,fun q cs h=>e4 q cs (hk1 q cs h)⟩
  simp only[W0j,W1c]at e1 ⊢
  simp at e1
  have he1:0<e:=by omega
  have hd0:0≤(j:Int)/e:=Int.ediv_nonneg (by omega) (by omega)
  have hd1:(j:Int)/e≤j:=Int.ediv_le_self _ (by omega)
  have hwa:IntKind.i64.wrap ((j:Int)/e)=(j:Int)/e:=W0g (by omega) (by omega)
  have hwb:IntKind.i64.wrap (lo+(j:Int)/e)=lo+(j:Int)/e:=W0g (by omega) (by omega)
  simp[Wix,hjn,hq1,hen,hnx,hwa,hwb,e1]
 ·rintro s ⟨v1,m1,rfl,h1,hw1,hk1⟩
  have hjn:¬(cnt:Int)<n*e:=by omega
  refine ⟨.exit 2,_,by simp[Wix,hjn]; rfl,by simp,rfl,v1,m1,?_⟩
  exact ⟨rfl,rfl,rfl,rfl,h1,hw1,hk1⟩
def spl(x:Int×Int×Int×Int):List (List PV):=(List.range (x.2.2.1*x.2.2.2).toNat).map (plc x.1 x.2.1 x.2.2.2)
def spC(x:Int×Int×Int×Int):List AC:=[.p (iv x.1),.p (iv x.2.1),.p (iv x.2.2.1),.p (iv x.2.2.2)]
def okSp(x:Int×Int×Int×Int):Prop:=(0≤x.2.1∧x.2.1≤8)∧(0≤x.2.2.1∧x.2.2.1≤8)∧(0≤x.2.2.2∧x.2.2.2≤8)
theorem W3m{x:Int×Int×Int×Int}(h:okSp x):(spl x).length≤64:=by
 obtain ⟨_,h2,h3⟩:=h
 have:x.2.2.1*x.2.2.2≤8*8:=Int.mul_le_mul h2.2 h3.2 h3.1 (by omega)
 simp[spl]; omega
theorem Wua(rg:List Reg)(a1 arr:AV)(n0 i:Nat)(hi:i<8)(x:Int×Int×Int×Int)(hox:okSp x)(hix:vixv 8 4 true (I .i64 i) arr=some (.agg (spC x)))(l:List (List PV))(hb:l.length≤900)(v:AC)(m:List Reg)
  (h:accV (rg.length+2) 3 l (.c v) m) (hw:wf (W0j rg a1 v m)):
  ∃v' m',Wen W02 bm.run n0 ⟨[(7,I .i64 i),(6,arr),(0,.c (.hnd .yl (rg.length+1)))],W0j rg a1 v m⟩=some (.normal,⟨[(7,I .i64 (i+1:Nat)),(6,arr),(0,.c (.hnd .yl (rg.length+1)))],W0j rg a1 v' m'⟩)∧accV (rg.length+2) 3 (l++spl x) (.c v') m'∧wf (W0j rg a1 v' m'):=by
 have hlen:=W3m hox
 obtain ⟨k,lo,n,e⟩:=x
 obtain ⟨h1,h2,h3⟩:=hox
 simp only at h1 h2 h3
 have hne:0≤n*e:=Int.mul_nonneg h2.1 h3.1
 have hne2:n*e≤8*8:=Int.mul_le_mul h2.2 h3.2 h3.1 (by omega)
 have hwn:IntKind.i64.wrap (n*e)=n*e:=W0g (by omega) (by omega)
 have hw2:wf (W0j rg a1 v (m++[.ac [.p (iv k),.p (iv lo),.p (iv n),.p (iv e)]])):=by
  unfold W0j at hw ⊢
  rw[←Z6]
  exact W07 hw (by simp)
 obtain ⟨ex,s',e1,rfl,v',m',e2,e3,e4,e5,e6,e7,e8⟩:=Wu9 rg a1 arr n0 i m.length (n*e).toNat k lo n e h1 h2 h3 (by omega) l (by omega) v _ (h.more [.ac [.p (iv k),.p (iv lo),.p (iv n),.p (iv e)]]) hw2 (by simp)
 refine ⟨v',m',?_,e6,e7⟩
 have hi2:(i:Int)<8:=by omega
 have hnx:IntKind.i64.wrap ((i:Int)+1)=(i:Int)+1:=W0g (by omega) (by omega)
 simp only[W0j,W1c]at e1 e2 ⊢
 rw[W1m]at e3 e4 e5
 simp at e1
 simp[-Wok]at hix
 simp[-Wok,Wen,hi2,hnx,hwn,hix,spC,e1,e2,e3,e4,e5]
theorem Wzo(rg:List Reg)(a1 arr:AV)(n0:Nat)(xs:List (Int×Int×Int×Int))(hxl:xs.length=8)(hox:∀x∈xs,okSp x)(hix:∀i x,xs[i]?=some x→vixv 8 4 true (I .i64 (i:Nat)) arr=some (.agg (spC x)))(v:AC)(m:List Reg)
  (h:accV (rg.length+2) 3 [] (.c v) m) (hw:wf (W0j rg a1 v m)):
  ∃ex s',W02 (Wen W02 bm.run n0) ⟨[(7,I .i64 0),(6,arr),(0,.c (.hnd .yl (rg.length+1)))],W0j rg a1 v m⟩=some (ex,s')∧(ex= .exit 0∧∃v' m',s'.regs=W0j rg a1 v' m'∧accV (rg.length+2) 3 (xs.flatMap spl) (.c v') m'∧wf (W0j rg a1 v' m')):=by
 have hts:∀i (hi:i<xs.length),xs.take (i+1)=xs.take i++[xs[i]]:=fun i hi=>by rw[Zs,Z2 hi]; rfl
 have hlen:∀i,i≤8→((xs.take i).flatMap spl).length≤i*64:=by
  intro i
  induction i with
  | zero=>simp
  | succ i ih=>
   intro hi
   have h1:=ih (by omega)
   rw[hts i (by omega),Yc]
   have:=W3m (hox _ (Zl (show i<xs.length by omega)))
   simp only[Ya,Ye,Zr,Z5]
   omega
 refine W0z (fun i s=>∃v' m',s=⟨[(7,I .i64 (i:Nat)),(6,arr),(0,.c (.hnd .yl (rg.length+1)))],W0j rg a1 v' m'⟩∧accV (rg.length+2) 3 ((xs.take i).flatMap spl) (.c v') m'∧wf (W0j rg a1 v' m')) _ 8 ⟨v,m,rfl,by simpa using h,hw⟩ ?_ ?_
 ·rintro i hi s ⟨v1,m1,rfl,h1,hw1⟩
  have hx:xs[i]?=some xs[i]:=Z2 (by omega)
  obtain ⟨v2,m2,e1,e2,e3⟩:=Wua rg a1 arr n0 i hi xs[i] (hox _ (Zl _)) (hix i _ hx) _ (by have:=hlen i (by omega); omega) v1 m1 h1 hw1
  refine ⟨_,e1,v2,m2,rfl,?_,e3⟩
  rw[hts i (by omega),Yc]
  simpa only[Ya,Ye,Zr]using e2
 ·rintro s ⟨v1,m1,rfl,h1,hw1⟩
  refine ⟨.exit 0,_,by simp[Wen]; rfl,by simp,rfl,v1,m1,rfl,?_,hw1⟩
  rwa[Ze (by omega)]at h1
theorem Wub{rg:List Reg}(hw:wf rg){a1:AV}(ha:avLt rg.length a1=true){v:AC}{m:List Reg}{l:List (List PV)}(h:accV (rg.length+2) 3 l (.c v) m)(k:Nat):
  ∃v' m',W3l (rg.length+(k+2)) ⟨[(0,.tup [])],W0j rg a1 v m⟩=⟨[(0,.tup [])],W0j rg a1 v' m'⟩∧accV (rg.length+2) 3 l (.c v') m':=by
 have e:W0j rg a1 v m=rg++(.ac [v]:: .lp 303 0 (W1c rg.length a1) .ready none::m):=by simp[W0j]
 rw[e,W7q hw]
 split
 ·rename_i hc
  simp only[Z4]at hc
  have hd:W1s m[k]?=true:=by simpa using hc.1
  have hlp:W0p (dnR (rg.length+(k+2))) (.lp 303 0 (W1c rg.length a1) .ready none)= .lp 303 0 (W1c rg.length a1) .ready none:=by
   refine W68 (n:=rg.length+1) (fun i hi=>by simp only[dnR]; rw[if_neg (by omega)]) ?_
   have:=W9e (m:=rg.length+1) (Nat.le_succ _) ha
   simp[W18,W1c,slLt,this,avLt,acLt]
  refine ⟨W12 (dnR (rg.length+(k+2))) v,(m.eraseIdx k).map (W0p (dnR (rg.length+(k+2)))),?_,?_⟩
  ·simp only[W0p,Reg.lp.injEq,true_and,and_true]at hlp
   simp[W0j,hlp,W0p,W96,lkF,W0u,W1y]
  ·rcases h with ⟨rfl,h⟩ | ⟨j,h,hj⟩
   ·cases h; exact .inl ⟨rfl,rfl⟩
   ·cases h
    have hjk:j≠k:=by rintro rfl; rw[hj]at hd; cases hd
    by_cases hlt:k<j
    ·refine .inr ⟨j-1,?_,?_⟩
     ·simp only[W12,dnR]
      rw[if_pos (by omega),show rg.length+2+j-1=rg.length+2+(j-1)by omega]
     ·rw[Zz,Xv,if_neg (by omega),show j-1+1=j by omega,hj]; rfl
    ·refine .inr ⟨j,?_,?_⟩
     ·simp only[W12,dnR]
      rw[if_neg (by omega)]
     ·rw[Zz,Xv,if_pos (by omega),hj]; rfl
 ·exact ⟨v,m,by rw[e],h⟩
theorem Wqg{rg:List Reg}(hw:wf rg){a1:AV}(ha:avLt rg.length a1=true){l:List (List PV)}(d:Nat):∀(k:Nat) (v:AC) (m:List Reg),accV (rg.length+2) 3 l (.c v) m→
  ∃v' m',cmpS (rg.length+2+d) k ⟨[(0,.tup [])],W0j rg a1 v m⟩=⟨[(0,.tup [])],W0j rg a1 v' m'⟩∧accV (rg.length+2) 3 l (.c v') m'
 | 0,v,m,h=>⟨v,m,rfl,h⟩
 | k+1,v,m,h=>by
  obtain ⟨v1,m1,e1,h1⟩:=Wub hw ha h (d+k)
  have e2:rg.length+2+d+k=rg.length+(d+k+2):=by omega
  obtain ⟨v2,m2,e3,h2⟩:=Wqg hw ha d k v1 m1 h1
  exact ⟨v2,m2,by rw[cmpS,e2,e1,e3],h2⟩
theorem Wzp{rg:List Reg}(hw:wf rg){a1:AV}(ha:avLt rg.length a1=true){l:List (List PV)}(d:Nat){v:AC}{m:List Reg}(h:accV (rg.length+2) 3 l (.c v) m):
  ∃v' m',finQ (rg.length+2+d) (gcF (rg.length+2+d) (.tup [],W0j rg a1 v m))=(.tup [],W0j rg a1 v' m')∧accV (rg.length+2) 3 l (.c v') m':=by
 have key:∀(v:AC) (m:List Reg),accV (rg.length+2) 3 l (.c v) m→∃v' m',finQ (rg.length+2+d) (.tup [],W0j rg a1 v m)=(.tup [],W0j rg a1 v' m')∧accV (rg.length+2) 3 l (.c v') m':=by
  intro v m h
  unfold finQ
  split
  ·exact ⟨v,m,rfl,h⟩
  ·obtain ⟨v',m',e,h'⟩:=Wqg hw ha d ((W0j rg a1 v m).length-(rg.length+2+d)) v m h
   refine ⟨v',m',?_,h'⟩
   simp only[cmpP,e]
   rfl
 unfold gcF
 split
 ·rename_i hc
  have e:(W0j rg a1 v m).take (rg.length+2+d)=W0j rg a1 v (m.take d):=by
   unfold W0j
   rw[List.take_append,Ze (by simp[X9])]
   simp
  simp only[e]at hc ⊢
  refine key v _ ?_
  rcases h with h | ⟨j,h,hj⟩
  ·exact .inl h
  ·cases h
   refine .inr ⟨j,rfl,?_⟩
   simp[W0j,W18,acLt]at hc
   rw[Zx,if_pos (by omega),hj]
 ·exact key v m h
theorem Wuc(rg:List Reg)(hr:wf rg)(a1:AV)(ha:avLt rg.length a1=true)(p:Nat)(xs:List (Int×Int×Int×Int))(hp:rg[p]?=some (.ac (xs.flatMap spC)))(hxl:xs.length=8)(hox:∀x∈xs,okSp x)
  (hix:∀i x,xs[i]?=some x→vixv 8 4 true (I .i64 (i:Nat)) (.agg (xs.flatMap spC))=some (.agg (spC x))) (hkn:(xs.flatMap spC).length=32∧∀c∈xs.flatMap spC,c.known=true) (v:AC) (m:List Reg)
  (h:accV (rg.length+2) 3 [] (.c v) m) (hw:wf (W0j rg a1 v m)):
  ∃v' m',bm.run (.fn 304) [.c (.hnd .yl (rg.length+1)),.c (.ptr p 0)] (W0j rg a1 v m)=some (.tup [],W0j rg a1 v' m')∧accV (rg.length+2) 3 (xs.flatMap spl) (.c v') m':=by
 obtain ⟨ex,s',e1,rfl,v1,m1,e2,h1,hw1⟩:=Wzo rg a1 (.agg (xs.flatMap spC)) (W0j rg a1 v m).length xs hxl hox hix v m h hw
 obtain ⟨v2,m2,e3,h2⟩:=Wzp hr ha m.length h1
 refine ⟨v2,m2,?_,h2⟩
 have hpp:(W0j rg a1 v m)[p]?=some (.ac (xs.flatMap spC)):=by
  unfold W0j; rw[Z6]; exact W0b hp _
 have hlen:(W0j rg a1 v m).length=rg.length+2+m.length:=by simp[W0j]; omega
 have hld:W01 (W0j rg a1 v m) 32 true (.c (.ptr p 0))=some (.agg (xs.flatMap spC)):=by
  show W0n 0 32 true (W0j rg a1 v m)[p]?=_
  rw[hpp]
  generalize xs.flatMap spC=cs at hkn
  have h1:cs.take 32=cs:=Ze (by omega)
  simp[W0n,hkn.1,h1]
  exact hkn.2
 rw[R304]
 unfold s304
 rw[hld]
 simp only[B1,Zn]
 rw[e1]
 simp[e2,hlen,e3]
theorem Wgm(rg:List Reg)(hr:wf rg)(p:Nat)(hpl:p<rg.length)(xs:List (Int×Int×Int×Int))(hp:rg[p]?=some (.ac (xs.flatMap spC)))(hxl:xs.length=8)(hox:∀x∈xs,okSp x)
  (hix:∀i x,xs[i]?=some x→vixv 8 4 true (I .i64 (i:Nat)) (.agg (xs.flatMap spC))=some (.agg (spC x))) (hkn:(xs.flatMap spC).length=32∧∀c∈xs.flatMap spC,c.known=true) (hll:(xs.flatMap spl).length≤1000):
  bm.run (.fn 303) [.c (.p nilS),.c (.fn (.func 304) [] [.ptr p 0])] rg=some (Sl 3 (xs.flatMap spl),rg):=by
 have hw0:wf (W0j rg (.c (.fn (.func 304) [] [.ptr p 0])) (.p nilS) []):=by
  unfold W0j
  rw[Zr]
  refine W07 hr ?_
  simp[W1c,W18,slLt,avLt,acLt,faLt]
  try omega
 obtain ⟨v',m',e1,h1⟩:=Wuc rg hr (.c (.fn (.func 304) [] [.ptr p 0])) (by simp[avLt,acLt,faLt,hpl]) p xs hp hxl hox hix hkn (.p nilS) [] (.nil _ _ _) hw0
 have hd:=fun k=>accV.deep (base:=rg) (k:=k) (ks:=[]) (accV.back (p:=[.ac [v'],.dead]) h1) (by omega) (by omega) (by simp)
 rw[R303]
 simp[W0j,W1c]at e1
 simp[s303,lpCall,Wof,e1]
 rw[W1h _ _ _ _ _ _root_.rfl hr]
 simp at hd
 simp[hd]
theorem Wja{rg m:List Reg}{v:AV}(hw:wf rg)(hv:avLt rg.length v=false)(hm:∀k:Nat,W1s m[k]?=false):finQ rg.length (gcF rg.length (v,rg++m))=(v,rg++m):=by
 have h1:∀(k:Nat) (sl:List (Nat×AV)),cmpS rg.length k ⟨sl,rg++m⟩=⟨sl,rg++m⟩:=by
  intro k
  induction k with
  | zero=>intro sl; rfl
  | succ k ih=>
   intro sl
   rw[cmpS,W7q hw,hm k]
   simp[ih]
 unfold gcF finQ
 simp only[hv,Bool.false_and,Bool.and_false,Y6,if_false]
 split
 ·rfl
 ·simp only[cmpP,h1]; rfl
def W2s(r ce s cl:Int):List (Int×Int×Int×Int):=[(1,0,W0o r 0 4,1),(2,1,W0o ce 0 6,1),(3,1,W0o ce 0 6,2),(4,0,1,1),(5,0,(if 4<cl then 4 else cl),W0o s 0 2),(6,0,1,1),(7,0,(if 4<cl then 4 else cl),1),(8,0,(if 4<cl then 4 else cl),1)]
theorem W2x(n hi:Int)(h:0≤hi):0≤W0o n 0 hi∧W0o n 0 hi≤hi:=by
 unfold W0o
 split
 ·omega
 ·split<;>omega
set_option maxHeartbeats 2000000 in
theorem Wqh(r ce s:Int)(code:List (List Ins))(hc:code.length≤1000)(rg:List Reg)(hw:wf rg):bm.run (.fn 221) [prgA r ce s code] rg=some (.c (.fn (.func 304) [] [.ptr (rg.length+1) 0]),rg++[prow r ce s code,.ac ((W2s r ce s code.length).flatMap spC)]):=by
 have hf:=Wja (m:=[prow r ce s code,.ac ((W2s r ce s code.length).flatMap spC)]) (v:= .c (.fn (.func 304) [] [.ptr (rg.length+1) 0])) hw (by simp[avLt,acLt,faLt]) (fun k=>by rcases k with _ | _ | k<;>rfl)
 rw[R221]
 simp[W2s,spC]at hf
 simp[s221,hw,hf,W2s,spC]
def W6t(r ce s cl:Int):List (List PV):=(W2s r ce s cl).flatMap spl
theorem Wce(r ce s:Int)(cl:Nat):∀x∈W2s r ce s cl,okSp x:=by
 have h1:=W2x r 4 (by omega)
 have h2:=W2x ce 6 (by omega)
 have h3:=W2x s 2 (by omega)
 simp only[W2s,Zq,Xw,or_false]
 rintro x (rfl | rfl | rfl | rfl | rfl | rfl | rfl | rfl)<;>simp only[okSp]<;>refine ⟨by omega,⟨?_,?_⟩,by omega⟩<;>(try split)<;>omega
theorem Wb9(r ce s:Int)(cl:Nat):(W6t r ce s cl).length≤1000:=by
 have h:=Wce r ce s cl
 unfold W6t W2s at*
 simp only[Zq,Xw,or_false,forall_eq_or_imp,forall_eq]at h
 have:=W3m h.1; have:=W3m h.2.1; have:=W3m h.2.2.1; have:=W3m h.2.2.2.1; have:=W3m h.2.2.2.2.1; have:=W3m h.2.2.2.2.2.1; have:=W3m h.2.2.2.2.2.2.1; have:=W3m h.2.2.2.2.2.2.2
 simp only[Ya,Ye,Z5,Yv]
 omega
theorem Wl5(r ce s:Int)(code:List (List Ins))(hc:code.length≤1000)(rg:List Reg)(hw:wf rg):bm.run (.fn 131) [prgA r ce s code] rg=some (Sl 3 (W6t r ce s code.length),rg):=by
 have hw1:wf (rg++[prow r ce s code]):=W07 hw (by simp)
 have h1:=Wqh r ce s code hc _ hw1
 have hw2:wf (rg++[prow r ce s code]++[prow r ce s code,.ac ((W2s r ce s code.length).flatMap spC)]):=W07 hw1 (by simp[W2s,spC,W18,acLt])
 have h2:=Wgm _ hw2 (rg.length+1+1) (by simp) (W2s r ce s code.length) (by rw[Z6]; simp) rfl (Wce r ce s code.length)
  (fun i x hx=>by
   rcases i with _ | _ | _ | _ | _ | _ | _ | _ | i<;>first | (cases hx; simp[W2s,spC,vixv,W0m]) | (simp[W2s]at hx))
  (by simp[W2s,spC]) (Wb9 r ce s code.length)
 rw[R131]
 simp at h1 h2
 simp[s131,hw,h1]
 rw[R220]
 simp[s220,h2,W6t,hw]
theorem Wzq(b:Nat)(n:Int)(rg:List Reg)(h0:0≤n)(h1:n≤9223372036854775807)(h2:(b:Int)*n≤281474976710544):xE (.mkch b) [I .i64 n] rg=some (.c (.hnd .ch rg.length),rg++[.ob (.ch n.toNat [])]):=by
 show (if 0≤n∧n≤9223372036854775807∧(b:Int)*n≤281474976710544 then _ else none)=_
 rw[if_pos ⟨h0,h1,h2⟩]
@[simp] theorem V6g (rg:List Reg):xE .mkmap [] rg=some (.c (.hnd .mp rg.length),rg++[.ob (.mp [])]):=rfl
@[simp] theorem Wjb (id cap:Nat) (q:List PW) (rg:List Reg) (h:rg[id]?=some (.ob (.ch cap q))):xE .chlen [.c (.hnd .ch id)] rg=some (I .i64 q.length,rg):=by
 show (match rg[id]? with | some (.ob (.ch _ q))=>_ | _=>none)=_
 rw[h]
@[simp] theorem Wud (id cap:Nat) (q:List PW) (rg:List Reg) (h:rg[id]?=some (.ob (.ch cap q))):xE .chcap [.c (.hnd .ch id)] rg=some (I .i64 cap,rg):=by
 show (match rg[id]? with | some (.ob (.ch cap _))=>_ | _=>none)=_
 rw[h]
theorem Wl6(d:Int)(rg:List Reg)(hw:wf rg):bm.run (.fn 65) [I .i64 d] rg=some (.c (.ptr (rg.length+1) 0),rg++[.ob (.ch (W0o d 0 4).toNat []),.ac [.hnd .ch rg.length]]):=by
 have hc:=W2x d 4 (by omega)
 have hm:=Wzq 64 (W0o d 0 4) rg hc.1 (by omega) (by omega)
 have hf:=Wja (m:=[.ob (.ch (W0o d 0 4).toNat []),.ac [.hnd .ch rg.length]]) (v:= .c (.ptr (rg.length+1) 0)) hw (by simp[avLt,acLt]) (fun k=>by rcases k with _ | _ | k<;>rfl)
 rw[R65]
 simp[s65,hw,hm,hf]
def W4p(k:Int):Bool:=inB k 1 8&&(!decide (k=2)&& !decide (k=4))
theorem Wqi(k i s:Int)(rg:List Reg)(hw:wf rg):bm.run (.fn 132) [.agg [.p (iv k),.p (iv i),.p (iv s)]] rg=some (Bo (W4p k),rg):=by
 rw[R132]
 cases h:inB k 1 8
 ·simp[s132,hw,h,W4p]
 ·by_cases h2:k=2
  ·subst h2; simp[s132,hw,h,W4p]
  ·by_cases h3:k=4
   ·subst h3; simp[s132,hw,h,W4p]
   ·simp[s132,hw,h,h2,h3,W4p]
def K3:Bool×List IntKind:=(true,[.i64,.i64,.i64])
def plcI(k lo e:Int)(j:Nat):List Int:=[k,lo+(j:Int).tdiv e,(j:Int).tmod e]
def splI(x:Int×Int×Int×Int):List (List Int):=(List.range (x.2.2.1*x.2.2.2).toNat).map (plcI x.1 x.2.1 x.2.2.2)
def W28(r ce s cl:Int):List (List Int):=(W2s r ce s cl).flatMap splI
theorem V9i(x:Int×Int×Int×Int):spl x=(splI x).map (List.map iv):=by
 simp[spl,splI,plc,plcI]
theorem Wex(r ce s cl:Int):W6t r ce s cl=(W28 r ce s cl).map (List.map iv):=by
 simp only[W6t,W28,W2s,Ya,Ye,Zr,Yz,V9i]
theorem Wl7{x:Int×Int×Int×Int}(h:okSp x):(splI x).Nodup:=by
 unfold splI
 rw[List.nodup_iff_pairwise_ne,List.pairwise_map]
 refine List.Pairwise.imp_of_mem ?_ (List.nodup_range)
 intro a b ha hb hne he
 simp only[plcI,List.cons.injEq,and_true,true_and]at he
 have h1:=Int.mul_tdiv_add_tmod (a:Int) x.2.2.2
 have h2:=Int.mul_tdiv_add_tmod (b:Int) x.2.2.2
 have h3:(a:Int).tdiv x.2.2.2=(b:Int).tdiv x.2.2.2:=by omega
 rw[h3,he.2]at h1
 omega
theorem W9r{x:Int×Int×Int×Int}{p:List Int}(h:p∈splI x):p.head?=some x.1:=by
 simp only[splI,Y1]at h
 obtain ⟨j,_,rfl⟩:=h
 rfl
theorem W6f(r ce s:Int)(cl:Nat):(W28 r ce s cl).Nodup:=by
 have h:=Wce r ce s cl
 have hk:(W2s r ce s cl).Pairwise (fun x y=>x.1≠y.1):=by simp[W2s]
 unfold W28
 generalize W2s r ce s cl=xs at h hk
 induction xs with
 | nil=>simp
 | cons x xs ih=>
  rw[Ya,List.nodup_append]
  rw[X8]at hk
  refine ⟨Wl7 (h x (by simp)),ih (fun y hy=>h y (by simp[hy])) hk.2,?_⟩
  rintro a ha b hb rfl
  obtain ⟨y,hy,hb⟩:=List.mem_flatMap.1 hb
  have e1:=W9r ha
  rw[W9r hb]at e1
  exact hk.1 y hy (Y7 e1).symm
def mpW(l:List (List Int×List Int)):List (PW×PW):=l.map fun p=>((true,p.1.map iv),(true,p.2.map iv))
theorem key3{l:List Int}(h:l.length=3):W27 K3 (true,l.map iv)=some l:=by
 obtain ⟨a,b,c,rfl⟩:∃a b c,l=[a,b,c]:=by
  rcases l with _ | ⟨a,_ | ⟨b,_ | ⟨c,_ | ⟨d,l⟩⟩⟩⟩<;>simp at h
  exact ⟨_,_,_,rfl⟩
 simp[W27,K3,W2f]
theorem W6g:∀{l:List (List Int×List Int)},(∀p∈l,p.1.length=3)→(l.map (·.1)).Nodup→Wdj K3 (mpW l)=true
 | [],_,_=>rfl
 | p::l,h,hn=>by
  rw[Zh,List.nodup_cons]at hn
  have ih:=W6g (fun q hq=>h q (by simp[hq])) hn.2
  have h1:=key3 (h p (by simp))
  simp only[mpW,Zh,Wdj,h1]at ih ⊢
  rw[ih]
  simp only[Option.isSome_some,Xp,Yu,Za,Y1]
  rintro _ ⟨q,hq,rfl⟩
  rw[key3 (h q (by simp[hq]))]
  have:p.1≠q.1:=fun e=>hn.1 (e▸List.mem_map_of_mem hq)
  simp[this]
theorem Wey{l:List (List Int×List Int)}(h:∀p∈l,p.1.length=3){k v:List Int}(hk:k∉l.map (·.1)):W7a K3 k (true,k.map iv) (true,v.map iv) (mpW l)=mpW (l++[(k,v)]):=by
 unfold W7a
 rw[if_neg]
 ·simp[mpW]
 ·simp only[mpW,List.any_map,Xx,not_exists,not_and]
  intro q hq
  simp only[Function.comp,kEq,key3 (h q hq),Yp,Zf]
  exact fun e=>hk (e▸List.mem_map_of_mem hq)
def ownB(p:List Int):Bool:=W4p (p.headD 0)&& !decide (p.headD 0=3)
def W1d(rg:List Reg)(pr:Reg)(v:AC)(M:List (List Int×List Int))(m:List Reg):List Reg:=rg++[pr,.ob (.mp (mpW M)),.ac [v,.hnd .mp (rg.length+1),.p nilS]]++m
def M0(L:List (List Int)):List (List Int×List Int):=(L.filter ownB).map fun p=>(p,[0,0,0])
theorem V4y{M:List (List Int×List Int)}(h2:∀p∈M,p.1.length=3)(hn:(M.map (·.1)).Nodup){k i s a b c:Int}(hk:[k,i,s]∉M.map (·.1)){id:Nat}{rg:List Reg}(hr:rg[id]?=some (.ob (.mp (mpW M)))):
  xE (.upd (true,[.i64,.i64,.i64])) [.c (.hnd .mp id),.agg [.p (iv k),.p (iv i),.p (iv s)],.agg [.p (iv a),.p (iv b),.p (iv c)]] rg=some (.tup [],rg.set id (.ob (.mp (mpW (M++[([k,i,s],[a,b,c])]))))):=by
 have h1:=W6g h2 hn
 have h3:=Wey h2 (v:=[a,b,c]) hk
 have h4:=key3 (l:=[k,i,s]) rfl
 simp only[K3,Zh,Y9]at h1 h3 h4
 simp[xE,avPW,hr,h1,h3,h4]
theorem Wqj(rg:List Reg)(pr:Reg)(n0:Nat)(P:List (List Int))(hP:P.Nodup)(h3:∀p∈P,p.length=3)(hlen:P.length≤1000)(j:Nat)(k i s:Int)(hx:P[j]?=some [k,i,s])(v:AC)(m:List Reg)
  (h:accV (rg.length+3) 3 (((P.take j).filter ownB).map (List.map iv)) (.c v) m) (hw:wf (W1d rg pr v (M0 (P.take j)) m)):
  ∃v' m',Wga W02 bm.run n0 ⟨[(12,I .i64 (j:Nat)),(11,I .i64 P.length),(10,Sl 3 (P.map (List.map iv))),(3,.c (.ptr (rg.length+2) 0))],W1d rg pr v (M0 (P.take j)) m⟩=some (.normal,⟨[(12,I .i64 (j+1:Nat)),(11,I .i64 P.length),(10,Sl 3 (P.map (List.map iv))),(3,.c (.ptr (rg.length+2) 0))],W1d rg pr v' (M0 (P.take (j+1))) m'⟩)∧
   accV (rg.length+3) 3 (((P.take (j+1)).filter ownB).map (List.map iv)) (.c v') m'∧wf (W1d rg pr v' (M0 (P.take (j+1))) m'):=by
 have hj:j<P.length:=(Z3.1 hx).1
 have hj2:(j:Int)<P.length:=by omega
 have hnx:IntKind.i64.wrap ((j:Int)+1)=(j:Int)+1:=W0g (by omega) (by omega)
 have ht:P.take (j+1)=P.take j++[[k,i,s]]:=by rw[Zs,hx]; rfl
 have hwb:wf (W1d rg pr v (M0 (P.take j)) m++[.ac [.p (iv k),.p (iv i),.p (iv s)]]):=W07 hw (by simp)
 have hh:=Wqi k i s _ hwb
 simp[W1d]at hh
 have hma:∀(v:AC) M (m x:List Reg),W1d rg pr v M m++x=W1d rg pr v M (m++x):=fun v M m x=>by simp[W1d]
 cases ho:ownB [k,i,s]
 ·have hM:M0 (P.take (j+1))=M0 (P.take j):=by simp[M0,ht,ho]
  have hL:(P.take (j+1)).filter ownB=(P.take j).filter ownB:=by simp[ht,ho]
  refine ⟨v,m++[.ac [.p (iv k),.p (iv i),.p (iv s)]],?_,by rw[hL]; exact h.more _,by rw[hM,←hma]; exact hwb⟩
  rw[hM]
  cases hb:W4p k
  ·rw[hb]at hh
   simp[Wga,W1d,hj2,hx,hnx,hh]
  ·have hk3:k=3:=by simpa[ownB,hb]using ho
   subst hk3
   rw[hb]at hh
   simp[Wga,W1d,hj2,hx,hnx,hh]
 ·have hb:W4p k=true:=by simp[ownB]at ho; exact ho.1
  have hk3:¬k=3:=by simp[ownB]at ho; exact ho.2
  rw[hb]at hh
  have hM:M0 (P.take (j+1))=M0 (P.take j)++[([k,i,s],[0,0,0])]:=by simp[M0,ht,ho]
  have hL:(P.take (j+1)).filter ownB=(P.take j).filter ownB++[[k,i,s]]:=by simp[ht,ho]
  have hl3:(rg++[pr,.ob (.mp (mpW (M0 (P.take j)))),.ac [v,.hnd .mp (rg.length+1),.p nilS]]).length=rg.length+3:=by simp
  have hfl:((P.take j).filter ownB).length≤j:=Y5 (List.length_filter_le _ _) (by simp; omega)
  obtain ⟨v',m',e1,e2,e3,e6⟩:=accV.pushK (bytes:=24) (base:=rg++[pr,.ob (.mp (mpW (M0 (P.take j)))),.ac [v,.hnd .mp (rg.length+1),.p nilS]]) (m:=m++[.ac [.p (iv k),.p (iv i),.p (iv s)]]) [iv k,iv i,iv s] (by rw[hl3]; exact h.more _) (by simp; omega) (by simp; omega) (by have:=hwb; rw[hma]at this; exact this)
  obtain ⟨x,rfl⟩:=e2.ac
  rw[hl3]at e2
  have hc:cellsOf (.c x)=some [x]:=by rcases e2 with ⟨_,h⟩ | ⟨_,h,_⟩<;>cases h<;>rfl
  have hq:m'[m.length]?=some (.ac [.p (iv k),.p (iv i),.p (iv s)]):=e6 _ _ (by simp)
  have hk2:∀p∈M0 (P.take j),p.1.length=3:=by
   intro p hp
   simp only[M0,Y1,Zj]at hp
   obtain ⟨a,ha,rfl⟩:=hp
   exact h3 a (List.mem_of_mem_take ha.1)
  have hkey:(M0 (P.take j)).map (·.1)=(P.take j).filter ownB:=by simp[M0,Yq]
  have hnd:((M0 (P.take j)).map (·.1)).Nodup:=by rw[hkey]; exact (hP.sublist (List.take_sublist _ _)).sublist List.filter_sublist
  have hnk:[k,i,s]∉(M0 (P.take j)).map (·.1):=by
   rw[hkey]
   intro hm
   have hm2:=(Zj.1 hm).1
   have:=hP.sublist (List.take_sublist (j+1) P)
   rw[ht,List.nodup_append]at this
   exact this.2.2 _ hm2 _ (by simp) _root_.rfl
  have hkb:=W6g hk2 hnd
  have hst:=Wey hk2 (v:=[0,0,0]) hnk
  simp at e1
  have e5:rg.length+(m.length+4)=rg.length+3+(m.length+1):=by omega
  refine ⟨x,m',?_,by rw[hL]; simpa using e2,?_⟩
  ·rw[hM]
   simp[Wga,W1d,hj2,hx,hnx,hh,hk3]
   rw[e5]
   have hup:=fun (rg:List Reg) id=>V4y (rg:=rg) (id:=id) (a:=0) (b:=0) (c:=0) hk2 hnd hnk
   have hfv:flV (.c v)=true:=by rcases h with ⟨_,h⟩ | ⟨_,h,_⟩<;>cases h<;>rfl
   simp[e1,hc,hq,hfv,hup]
  ·have hx3:acLt (rg.length+3+m'.length) x=true:=by
    have:=e2.lt (k:=rg.length+3+m'.length) (Z8 _)
    simpa[avLt]using this
   simp only[W1d,wf,Xf,Y2,X6,W18,acLt,Z5,Yh,Yv,Z4,Yu]at e3 ⊢
   exact ⟨⟨e3.1.1,e3.1.2.1,trivial,hx3,e3.1.2.2.2.2⟩,e3.2⟩
theorem Wue(rg:List Reg)(pr:Reg)(n0:Nat)(P:List (List Int))(hP:P.Nodup)(h3:∀p∈P,p.length=3)(hlen:P.length≤1000)(hw:wf (W1d rg pr (.p nilS) [] [])):
  ∃ex s',W02 (Wga W02 bm.run n0) ⟨[(12,I .i64 0),(11,I .i64 P.length),(10,Sl 3 (P.map (List.map iv))),(3,.c (.ptr (rg.length+2) 0))],W1d rg pr (.p nilS) [] []⟩=some (ex,s')∧
   (ex= .exit 0∧∃v' m',s'.regs=W1d rg pr v' (M0 P) m'∧lkF s'.slots 3= .c (.ptr (rg.length+2) 0)∧accV (rg.length+3) 3 ((P.filter ownB).map (List.map iv)) (.c v') m'∧wf (W1d rg pr v' (M0 P) m')):=by
 refine W0z (fun j s=>∃v' m',s=⟨[(12,I .i64 (j:Nat)),(11,I .i64 P.length),(10,Sl 3 (P.map (List.map iv))),(3,.c (.ptr (rg.length+2) 0))],W1d rg pr v' (M0 (P.take j)) m'⟩∧accV (rg.length+3) 3 (((P.take j).filter ownB).map (List.map iv)) (.c v') m'∧wf (W1d rg pr v' (M0 (P.take j)) m')) _ P.length ⟨.p nilS,[],rfl,.nil _ _ _,hw⟩ ?_ ?_
 ·rintro j hj s ⟨v1,m1,rfl,h1,hw1⟩
  have hx:P[j]?=some P[j]:=Z2 hj
  have hl:=h3 _ (Zl hj)
  obtain ⟨a,b,c,he⟩:∃a b c,P[j]=[a,b,c]:=by
   generalize P[j]=l at hl
   rcases l with _ | ⟨a,_ | ⟨b,_ | ⟨c,_ | ⟨d,l⟩⟩⟩⟩<;>simp at hl
   exact ⟨_,_,_,rfl⟩
  rw[he]at hx
  obtain ⟨v2,m2,e1,e2,e3⟩:=Wqj rg pr n0 P hP h3 hlen j a b c hx v1 m1 h1 hw1
  exact ⟨_,e1,v2,m2,rfl,e2,e3⟩
 ·rintro s ⟨v1,m1,rfl,h1,hw1⟩
  rw[Ze (Z8 _)]at h1 hw1 ⊢
  refine ⟨.exit 0,_,by simp[Wga]; rfl,by simp,rfl,v1,m1,rfl,rfl,h1,hw1⟩
end Go.Sim
namespace Go.Sim
open Go.RowKit
structure Mv(ρ:Nat→Nat)(S:Nat→Prop)(rg rg':List Reg):Prop where
 cl:∀i r,S i→rg[i]?=some r→regP S r
 get:∀i r,S i→rg[i]?=some r→W1s (some r)=false→rg'[ρ i]?=some (W0p ρ r)
 inj:∀i j r r',S i→S j→rg[i]?=some r→rg[j]?=some r'→W1s (some r)=false→W1s (some r')=false→ρ i=ρ j→i=j
theorem Mv.app(rg m:List Reg):Mv (fun i=>i) (fun _=>True) rg (rg++m):=by
 refine ⟨fun i r _ _=> ?_,fun i r _ h _=>by rw[W7s]; exact W0b h m,fun _ _ _ _ _ _ _ _ _ _ h=>h⟩
 cases r with
 | ac l=>exact fun x _=>Wgh x
 | es sz l=>exact fun _ _ x _=>Wgh x
 | _=>trivial
theorem Mv.of{ρ:Nat→Nat}{S:Nat→Prop}{rg rg':List Reg}(h1:∀i r,S i→rg[i]?=some r→regP S r)(h2:∀i r,S i→rg[i]?=some r→W1s (some r)=false→rg'[ρ i]?=some (W0p ρ r))
  (h3:∀i j r r',S i→S j→rg[i]?=some r→rg[j]?=some r'→W1s (some r)=false→W1s (some r')=false→i<j→ρ i<ρ j):Mv ρ S rg rg':=by
 refine ⟨h1,h2,fun i j r r' hi hj hr hr' hd hd' he=> ?_⟩
 rcases Nat.lt_trichotomy i j with h | h | h
 ·have:=h3 i j r r' hi hj hr hr' hd hd' h; omega
 ·exact h
 ·have:=h3 j i r' r hj hi hr' hr hd' hd h; omega
def slW(rg:List Reg)(sz:Nat)(l:List (List PV))(x:AC):Prop:=(l=[]∧x= .p nilS)∨∃id cap,x= .own id 0 sz l.length cap∧rg[id]?=some (.pc sz l)
def slF(rg:List Reg)(sz:Nat)(l:List (List PV))(x:AC):Prop:=(l=[]∧x= .p nilS)∨∃id,x= .own id 0 sz l.length .free∧rg[id]?=some (.pc sz l)
section
variable {ρ:Nat→Nat} {S:Nat→Prop} {rg rg':List Reg} (hm:Mv ρ S rg rg')
include hm
theorem Mv.slW{sz:Nat}{l:List (List PV)}{x:AC}(hx:acP S x)(h:slW rg sz l x):slW rg' sz l (W12 ρ x):=by
 rcases h with ⟨rfl,rfl⟩ | ⟨id,cap,rfl,h2⟩
 ·exact .inl ⟨rfl,rfl⟩
 ·exact .inr ⟨ρ id,cap,rfl,hm.get id _ hx h2 rfl⟩
theorem Mv.slF{sz:Nat}{l:List (List PV)}{x:AC}(hx:acP S x)(h:slF rg sz l x):slF rg' sz l (W12 ρ x):=by
 rcases h with ⟨rfl,rfl⟩ | ⟨id,rfl,h2⟩
 ·exact .inl ⟨rfl,rfl⟩
 ·exact .inr ⟨ρ id,rfl,hm.get id _ hx h2 rfl⟩
end
def memR(rg:List Reg)(im:Nat)(K:List (List Int))(M:List (List Int×List Int))(tr:List (List PV)):Prop:=
 ∃vl iw vt,rg[im]?=some (.ac [vl,.hnd .mp iw,vt])∧rg[iw]?=some (.ob (.mp (mpW M)))∧slW rg 3 (K.map (List.map iv)) vl∧slF rg 6 tr vt
theorem Mv.mem{ρ:Nat→Nat}{S:Nat→Prop}{rg rg':List Reg}(hm:Mv ρ S rg rg'){im:Nat}{K M tr}(hS:S im)(h:memR rg im K M tr):memR rg' (ρ im) K M tr:=by
 obtain ⟨vl,iw,vt,h1,h2,h3,h4⟩:=h
 have hc:=hm.cl im _ hS h1
 simp only[regP,Zq,Xw,or_false,forall_eq_or_imp,forall_eq]at hc
 obtain ⟨c1,c2,c3⟩:=hc
 exact ⟨_,ρ iw,_,hm.get im _ hS h1 rfl,hm.get iw _ c2 h2 rfl,hm.slW c1 h3,hm.slF c3 h4⟩
theorem memR.more{rg:List Reg}{im:Nat}{K M tr}(h:memR rg im K M tr)(m:List Reg):memR (rg++m) im K M tr:=(Mv.app rg m).mem trivial h
def slO(rg:List Reg)(sz:Nat)(l:List (List PV))(x:AC):Prop:=(l=[]∧x= .p nilS)∨x= .p (.sl sz l)∨∃id off cap L,x= .own id off sz l.length cap∧rg[id]?=some (.pc sz L)∧off+l.length≤L.length∧(L.drop off).take l.length=l
def rwE(rg:List Reg)(sz:Nat)(l:List (List AC))(x:AC):Prop:=(l=[]∧x= .p nilS)∨∃id,x= .own id 0 sz l.length .free∧rg[id]?=some (.es sz l)
theorem Wqk(ρ:Nat→Nat)(l:List PV):(l.map AC.p).map (W12 ρ)=l.map AC.p:=by
 rw[X2]; rfl
section
variable {ρ:Nat→Nat} {S:Nat→Prop} {rg rg':List Reg} (hm:Mv ρ S rg rg')
include hm
theorem Mv.slO{sz:Nat}{l:List (List PV)}{x:AC}(hx:acP S x)(h:slO rg sz l x):slO rg' sz l (W12 ρ x):=by
 rcases h with ⟨rfl,rfl⟩ | rfl | ⟨id,off,cap,L,rfl,h2,h3⟩
 ·exact .inl ⟨rfl,rfl⟩
 ·exact .inr (.inl rfl)
 ·exact .inr (.inr ⟨ρ id,off,cap,L,rfl,hm.get id _ hx h2 rfl,h3⟩)
theorem Mv.rwE{sz:Nat}{l:List (List AC)}{x:AC}(hx:acP S x)(h:rwE rg sz l x):rwE rg' sz (l.map fun k=>k.map (W12 ρ)) (W12 ρ x)∧∀k∈l,∀y∈k,acP S y:=by
 rcases h with ⟨rfl,rfl⟩ | ⟨id,rfl,h2⟩
 ·exact ⟨.inl ⟨rfl,rfl⟩,by simp⟩
 ·exact ⟨.inr ⟨ρ id,by simp[W12],hm.get id _ hx h2 rfl⟩,hm.cl id _ hx h2⟩
end
def trA(rg:List Reg)(tr:List (Int×Cel×List Int))(x:AC):Prop:=
 ∃L,rwE rg 12 L x∧L.length=tr.length∧∀(i:Nat) (t:Int×Cel×List Int),tr[i]?=some t→∃vr,L[i]?=some (.p (iv t.1)::(t.2.1.k.map .p++[vr]))∧slO rg 1 (t.2.2.map fun n=>[iv n]) vr
theorem Mv.trA{ρ:Nat→Nat}{S:Nat→Prop}{rg rg':List Reg}(hm:Mv ρ S rg rg'){tr:List (Int×Cel×List Int)}{x:AC}(hx:acP S x)(h:trA rg tr x):trA rg' tr (W12 ρ x):=by
 obtain ⟨L,h1,h2,h3⟩:=h
 obtain ⟨h4,h5⟩:=hm.rwE hx h1
 refine ⟨_,h4,by simpa using h2,fun i t ht=> ?_⟩
 obtain ⟨vr,h6,h7⟩:=h3 i t ht
 refine ⟨W12 ρ vr,?_,hm.slO (h5 _ (Zi h6) vr (by simp)) h7⟩
 rw[Zz,h6]
 simp only[Yi,Zh,Yz,Wqk,Y9,W12]
def arR(rg:List Reg)(ia:Nat)(cells:List Cel)(row:List Int)(tr:List (Int×Cel×List Int)):Prop:=
 ∃vt vc vr,rg[ia]?=some (.ac [vt,.p (.v (.bool true)),vc,vr])∧slW rg 10 (cells.map Cel.k) vc∧slO rg 1 (row.map fun n=>[iv n]) vr∧trA rg tr vt
theorem Mv.ar{ρ:Nat→Nat}{S:Nat→Prop}{rg rg':List Reg}(hm:Mv ρ S rg rg'){ia:Nat}{cells row tr}(hS:S ia)(h:arR rg ia cells row tr):arR rg' (ρ ia) cells row tr:=by
 obtain ⟨vt,vc,vr,h1,h2,h3,h4⟩:=h
 have hc:=hm.cl ia _ hS h1
 simp only[regP,Zq,Xw,or_false,forall_eq_or_imp,forall_eq]at hc
 obtain ⟨c1,_,c2,c3⟩:=hc
 exact ⟨_,_,_,hm.get ia _ hS h1 rfl,hm.slW c2 h2,hm.slO c3 h3,hm.trA c1 h4⟩
theorem arR.more{rg:List Reg}{ia:Nat}{cells row tr}(h:arR rg ia cells row tr)(m:List Reg):arR (rg++m) ia cells row tr:=(Mv.app rg m).ar trivial h
theorem trA.nil(rg:List Reg):trA rg [] (.p nilS):=⟨[],.inl ⟨rfl,rfl⟩,rfl,by simp⟩
end Go.Sim
namespace Go.Sim
open Go.RowKit Go.Proofs.YtahoelmjfgoedaaGreat.T
attribute [-simp] vfld W0n W1n
def stayV(m m':List Reg):Prop:=∀(q:Nat) (r:Reg),m[q]?=some r→(∀s l,r≠ .pc s l)→m'[q]?=some r
def stayE(m m':List Reg):Prop:=∀(q:Nat) (r:Reg),m[q]?=some r→(∀s l,r≠ .es s l)→m'[q]?=some r
theorem accV.pushS{base m:List Reg}{v:AV}{sz bytes:Nat}{l:List (List PV)}(x:List PV)(h:accV base.length sz l v m)(hb:l.length+1≤140737488355328)(hb2:(l.length+1)*bytes≤140737488355328)(hw:wf (base++m)):
  ∃v' m',vapp (base++(m++[.pc sz [x]])) sz bytes (.c v') (.c (.own (base.length+m.length) 0 sz 1 .free))=vapp (base++(m++[.pc sz [x]])) sz bytes (.c v') (.c (.own (base.length+m.length) 0 sz 1 .free))∧
   vapp (base++(m++[.pc sz [x]])) sz bytes v (.c (.own (base.length+m.length) 0 sz 1 .free))=some (.c v',base++m')∧accV base.length sz (l++[x]) (.c v') m'∧wf (base++m')∧stayV m m':=by
 have hg:(base++(m++[Reg.pc sz [x]]))[base.length+m.length]?=some (.pc sz [x]):=by rw[W0e]; simp
 have hw1:wf (base++(m++[Reg.pc sz [x]])):=by rw[←Z6]; exact W07 hw (by simp)
 have hsz:sz=sz:=rfl
 rcases h with ⟨rfl,rfl⟩ | ⟨k,rfl,hk⟩
 ·refine ⟨.own (base.length+(m.length+1)) 0 sz 1 .free,m++[.pc sz [x]]++[.pc sz [x]],rfl,?_,.inr ⟨m.length+1,by simp,by simp⟩,?_,fun q r hq _=>by rw[Z6]; exact W0b hq _⟩
  ·have h2:(1:Nat)*bytes≤140737488355328:=by simpa using hb2
   unfold vapp W3p
   simp only[W15,hg,W1i]
   simp[szOf]at h2 ⊢
   simp[h2]
  ·rw[Z6,←Z6]
   exact W07 hw (by simp)
 ·have hlt:k<m.length:=(Z3.1 hk).1
  have hgk:(base++(m++[Reg.pc sz [x]]))[base.length+k]?=some (.pc sz l):=by rw[W0e]; exact W0b hk _
  refine ⟨.own (base.length+(m.length+1)) 0 sz (l.length+1) .free,(m++[Reg.pc sz [x]]).set k .dead++[Reg.pc sz (l++[x])],rfl,?_,.inr ⟨m.length+1,by simp,by simp⟩,?_,fun q r hq hr=> ?_⟩
  ·unfold vapp W3p
   simp only[W15,hg,W1i,hgk,szOf]
   simp[hb,hb2]
  ·rw[←Z6]
   have hw2:wf (base++(m++[Reg.pc sz [x]]).set k .dead):=by
    have:=W2l (id:=base.length+k) (r:= .dead) hw1 rfl
    rwa[W1z]at this
   exact W07 hw2 (by simp)
  ·have hne:k≠q:=by rintro rfl; rw[hk]at hq; cases hq; exact hr _ _ rfl
   rw[Zp (by simp; have:=(Z3.1 hq).1; omega),Zv hne]
   exact W0b hq _
theorem accV.stayE{n0 sz:Nat}{l:List (List PV)}{v:AV}{m m':List Reg}(h:accV n0 sz l v m)(hs:stayE m m'):accV n0 sz l v m':=by
 rcases h with h | ⟨k,h1,h2⟩
 ·exact .inl h
 ·exact .inr ⟨k,h1,hs _ _ h2 (fun _ _ e=>by cases e)⟩
theorem accE.stayV{n0 sz:Nat}{l:List (List AC)}{v:AV}{m m':List Reg}(h:accE n0 sz l v m)(hs:stayV m m'):accE n0 sz l v m':=by
 rcases h with h | ⟨k,h1,h2⟩
 ·exact .inl h
 ·exact .inr ⟨k,h1,hs _ _ h2 (fun _ _ e=>by cases e)⟩
theorem accE.ac{n0 sz:Nat}{l:List (List AC)}{v:AV}{m:List Reg}(h:accE n0 sz l v m):∃x,v= .c x:=by
 rcases h with ⟨rfl,rfl⟩ | ⟨j,rfl,hj⟩<;>exact ⟨_,rfl⟩
theorem accE.lt{n0 sz:Nat}{l:List (List AC)}{v:AV}{m:List Reg}(h:accE n0 sz l v m){k:Nat}(hk:n0+m.length≤k):avLt k v=true:=by
 rcases h with ⟨rfl,rfl⟩ | ⟨j,rfl,hj⟩
 ·rfl
 ·have:=(Z3.1 hj).1
  simp[avLt,acLt]; omega
theorem Wwn(a b:Int)(id:Nat)(rg:List Reg)(hw:wf rg)(hr:rg[id]?=some (.pc 1 [[iv a],[iv b]])):bm.run (.fn 58) [.c (.own id 0 1 2 .free)] rg=some (I .i64 (if a=0 then b else a),rg):=by
 rw[R58]
 simp[s58]
 rw[W09]
 by_cases ha:a=0
 ·subst ha
  simp[Wkv,hr]
  rw[W09]
  by_cases hb:b=0
  ·subst hb
   simp[Wkv,hr]
   rw[W09]
   simp[Wkv,hr]
  ·simp[Wkv,hr,hb]
 ·simp[Wkv,hr,ha]
theorem W1r{rg:List Reg}{q:Nat}{r:Reg}(h:rg[q]?=some r)(x:Reg):(rg.set q x)[q]?=some x:=by
 have hq:q<rg.length:=W16 h
 simp[hq]
structure Su where
 sh:Int
 t0:Int
 t1:Int
 t2:Int
 t3:Int
 b0:Int
 b1:Int
 b2:Int
 b3:Int
 old:Bool
 s0:Bool
 s1:Bool
 s2:Bool
 s3:Bool
abbrev uv(n:Int):AC:= .p (.v (.int .u64 n))
abbrev bv(b:Bool):AC:= .p (.v (.bool b))
abbrev ic(n:Int):AC:= .p (iv n)
def W0d(im ia:Nat)(u:Su)(P:Prg)(c:Cfg)(vt vb vr:AC):List AC:=
 [.ptr im 0,.ptr ia 0,uv u.sh,uv u.t0,uv u.t1,uv u.t2,uv u.t3,uv u.b0,uv u.b1,uv u.b2,uv u.b3,bv u.old,bv u.s0,bv u.s1,bv u.s2,bv u.s3,
  ic P.roots,ic P.cells,ic P.slots,.p (slNN P.code),ic c.scheme,ic c.order,ic c.thr,ic c.fuel,ic c.depth,vt,vb,vr]
def Su.touch(u:Su)(t:Nat):Su:=
 match t with
 | 0=>{u with old:=true,s0:=true}
 | 1=>{u with old:=true,s1:=true}
 | 2=>{u with old:=true,s2:=true}
 | _=>{u with old:=true,s3:=true}
theorem Wql(q t:Nat)(ht:t<4)(im ia:Nat)(u:Su)(P:Prg)(c:Cfg)(vt vb vr:AC)(rg:List Reg)(hr:rg[q]?=some (.ac (W0d im ia u P c vt vb vr))):
  bm.run (.fn 66) [.c (.ptr q 0),I .i64 (t:Nat)] rg=some (.tup [],rg.set q (.ac (W0d im ia (u.touch t) P c vt vb vr))):=by
 rw[R66]
 have hs:=fun x=>W1r hr x
 rcases t with _ | _ | _ | _ | t
 ·simp[s66,hr,hs,W0d,Su.touch]
 ·simp[s66,hr,hs,W0d,Su.touch]
 ·simp[s66,hr,hs,W0d,Su.touch]
 ·simp[s66,hr,hs,W0d,Su.touch]
 ·omega
def penC(b:List Int):AC:=if b=[]then .p nilS else .p (.sl 1 (oL b))
theorem pput(b:List Int)(n:Int)(hb:b.length≤1000000)(rg:List Reg)(hw:wf rg):bm.run (.fn 333) [.c (penC b),I .i64 n,I .i64 8] rg=some (.c (penC (b++be8 n)),rg):=by
 have hne:b++be8 n≠[]:=by simp[be8]
 unfold penC
 rw[if_neg hne]
 by_cases h:b=[]
 ·subst h
  rw[if_pos rfl]
  exact Wu1 n rg hw
 ·rw[if_neg h]
  exact Wzd b n hb rg hw
structure RdN(rg:List Reg)(pt:Nat)(l:List Int)(a:AV):Prop where
 len:vlen a=some (I .i64 l.length)
 at_:∀(i:Nat) (x:Int),l[i]?=some x→∃p,vixs 1 (I .i64 (i:Nat)) a=some p∧∀r,W01 (rg.set pt r) 1 false p=some (I .i64 x)
theorem RdN.val(rg:List Reg)(pt:Nat)(l:List Int):RdN rg pt l (.c (.p (slI l))):=by
 refine ⟨by simp,fun i x hx=>⟨.c (.rp [iv x]),by simp[hx],fun r=>by simp⟩⟩
theorem RdN.own{rg:List Reg}{pt id:Nat}{l:List Int}(hne:pt≠id)(hr:rg[id]?=some (.pc 1 (l.map fun n=>[iv n]))):RdN rg pt l (.c (.own id 0 1 l.length .free)):=by
 refine ⟨by simp,fun i x hx=>⟨.c (.ept id 1 i 0),?_,fun r=> ?_⟩⟩
 ·have hi:(i:Int)<l.length:=by have:=(Z3.1 hx).1; omega
  simp[vixs,Wa5,W0m,hi]
 ·have hg:(rg.set pt r)[id]?=some (.pc 1 (l.map fun n=>[iv n])):=by rw[Zv hne]; exact hr
  simp[hg,hx]
theorem Wgn{rg:List Reg}{pt:Nat}{l:List Int}{a:AV}(hR:RdN rg pt l a)(b:List Int)(hp:rg[pt]?=some (.ac [penC b]))(hb:b.length+8*l.length≤1000000)(hw:wf rg):
  bm.run (.fn 294) [.c (.ptr pt 0),a] rg=some (.tup [],rg.set pt (.ac [penC (b++l.flatMap be8)])):=by
 have hs:=fun x=>W1r hp x
 have hac:∀b,acLt rg.length (penC b)=true:=fun b=>by unfold penC; split<;>rfl
 have hwf:∀b,wf (rg.set pt (.ac [penC b])):=fun b=>W2l hw (by simp[hac])
 have h0:rg.set pt (.ac [penC b])=rg:=by
  apply Yx
  intro i
  by_cases h:pt=i
  ·subst h; rw[hs,hp]
  ·rw[Zv h]
 have hlen:∀j,j≤l.length→((l.take j).flatMap be8).length=8*j:=by
  intro j
  induction j with
  | zero=>simp
  | succ j ih=>
   intro hj
   have hx:l[j]?=some l[j]:=Z2 (by omega)
   rw[Zs,hx,Yc,Z5,ih (by omega)]
   simp[be8]; omega
 have key:=W0y (body:=Wiu W02 bm.run rg.length) (fun j=>⟨[(8,I .i64 (j:Nat)),(7,I .i64 l.length),(6,a),(0,.c (.ptr pt 0))],rg.set pt (.ac [penC (b++(l.take j).flatMap be8)])⟩) l.length (fun i hi=>by
   have hx:l[i]?=some l[i]:=Z2 hi
   have ht:l.take (i+1)=l.take i++[l[i]]:=by rw[Zs,hx]; rfl
   obtain ⟨p,p1,p2⟩:=hR.at_ i _ hx
   generalize l[i]=x at*
   have hi2:(i:Int)<l.length:=by omega
   have hnx:IntKind.i64.wrap ((i:Int)+1)=(i:Int)+1:=W0g (by omega) (by omega)
   have hpu:=pput (b++(l.take i).flatMap be8) x (by rw[Z5,hlen i (by omega)]; omega) _ (hwf (b++(l.take i).flatMap be8))
   have hft:b++(l.take (i+1)).flatMap be8=b++(l.take i).flatMap be8++be8 x:=by rw[ht,Yc]; simp
   have hck:cellsOf (.c (penC (b++(l.take i).flatMap be8++be8 x)))=some [penC (b++(l.take i).flatMap be8++be8 x)]:=by unfold penC; split<;>rfl
   rw[hft]
   generalize b++(l.take i).flatMap be8=bb at*
   have hk:(penC bb).known=true:=by unfold penC; split<;>rfl
   simp[Wiu,hi2,hnx,p1,p2,hs,hk,hpu,hck]) (e:= .exit 0) (s':=⟨[(9,Bo false),(8,I .i64 l.length),(7,I .i64 l.length),(6,a),(0,.c (.ptr pt 0))],rg.set pt (.ac [penC (b++l.flatMap be8)])⟩) (by simp[Wiu]) (by simp)
 simp only[List.take_zero,Ye,Zr,h0]at key
 rw[show ((0:Nat):Int)=0 from _root_.rfl]at key
 rw[R294]
 simp[s294,hR.len,key]
theorem W4a(n:Nat)(b:List Int):acLt n (penC b)=true:=by unfold penC; split<;>rfl
theorem Wez{rg:List Reg}{pt:Nat}{l:List Int}{a:AV}(hR:RdN rg pt l a)(b:List Int)(hp:rg[pt]?=some (.ac [penC b]))(hb:b.length+8*l.length≤1000000)(hw:wf rg)
  (hR2:∀(i:Nat) (x:Int),l[i]?=some x→∃p,vixs 1 (I .i64 (i:Nat)) a=some p∧∀r m,W01 (rg.set pt r++m) 1 false p=some (I .i64 x)):
  bm.run (.fn 292) [.c (.ptr pt 0),a] rg=some (.tup [],rg.set pt (.ac [penC (b++l.flatMap be8)])):=by
 have hpt:=W16 hp
 have hs:=fun x=>W1r hp x
 have hwf:∀b,wf (rg.set pt (.ac [penC b])):=fun b=>W2l hw (by simp[W4a])
 have h0:rg.set pt (.ac [penC b])=rg:=by
  apply Yx
  intro i
  by_cases h:pt=i
  ·subst h; rw[hs,hp]
  ·rw[Zv h]
 have hlen:∀j,j≤l.length→((l.take j).flatMap be8).length=8*j:=by
  intro j
  induction j with
  | zero=>simp
  | succ j ih=>
   intro hj
   have hx:l[j]?=some l[j]:=Z2 (by omega)
   rw[Zs,hx,Yc,Z5,ih (by omega)]
   simp[be8]; omega
 obtain ⟨ex,s',e1,rfl,m,e2⟩:=W0z (body:=Wit W02 bm.run rg.length)
  (fun j st=>∃m,st=⟨[(8,I .i64 (j:Nat)),(7,I .i64 l.length),(6,a),(0,.c (.ptr pt 0))],rg.set pt (.ac [penC (b++(l.take j).flatMap be8)])++m⟩∧∀n,m.all (W18 n)=true)
  (fun ex s'=>ex= .exit 0∧∃m,s'.regs=rg.set pt (.ac [penC (b++l.flatMap be8)])++m) l.length
  (s:=⟨[(8,I .i64 0),(7,I .i64 l.length),(6,a),(0,.c (.ptr pt 0))],rg⟩) ⟨[],by simp[h0],fun _=>rfl⟩
  (by
   rintro i hi st ⟨m,rfl,hm⟩
   have hx:l[i]?=some l[i]:=Z2 hi
   have ht:l.take (i+1)=l.take i++[l[i]]:=by rw[Zs,hx]; rfl
   obtain ⟨p,p1,p2⟩:=hR2 i _ hx
   have hli:=hlen i (by omega)
   generalize l[i]=x at*
   have hi2:(i:Int)<l.length:=by omega
   have hnx:IntKind.i64.wrap ((i:Int)+1)=(i:Int)+1:=W0g (by omega) (by omega)
   have hft:b++(l.take (i+1)).flatMap be8=b++(l.take i).flatMap be8++be8 x:=by rw[ht,Yc]; simp
   have hbl:(b++(l.take i).flatMap be8).length+8≤1000000:=by rw[Z5,hli]; omega
   rw[hft]
   generalize b++(l.take i).flatMap be8=bb at*
   have hwm:wf (rg.set pt (.ac [penC bb])++(m++[Reg.pc 1 [[iv x]]])):=W07 (hwf bb) (by simp[hm])
   have hnr:=Wgn (rg:=rg.set pt (.ac [penC bb])++(m++[Reg.pc 1 [[iv x]]])) (pt:=pt) (l:=[x]) (.own (id:=rg.length+m.length) (by omega) (by
    rw[show rg.length=(rg.set pt (.ac [penC bb])).length by simp,W0e]; simp)) bb (W0b (hs _) _) (by simpa using hbl) hwm
   have hss:(rg.set pt (.ac [penC bb])++(m++[Reg.pc 1 [[iv x]]])).set pt (.ac [penC (bb++be8 x)])=rg.set pt (.ac [penC (bb++be8 x)])++(m++[Reg.pc 1 [[iv x]]]):=by
    rw[Yd _ _ (by simpa using hpt),Xo]
   simp only[Ya,Ye,Zr]at hnr
   rw[hss]at hnr
   refine ⟨_,?_,m++[.pc 1 [[iv x]]],rfl,fun n=>by simp[hm]⟩
   simp at hnr
   simp[Wit,hi2,hnx,p1,p2,hnr])
  (by
   rintro st ⟨m,rfl,hm⟩
   rw[Ze (Z8 _)]
   exact ⟨.exit 0,_,by simp[Wit]; rfl,by simp,rfl,m,rfl⟩)
 rw[R292]
 simp[s292,hR.len,e1,e2]
 rw[W20 (by simp) (hwf _) (by rfl)]
 simp
theorem Wzr(rg:List Reg)(pt:Nat)(l:List Int)(i:Nat)(x:Int)(hx:l[i]?=some x):∃p,vixs 1 (I .i64 (i:Nat)) (.c (.p (slI l)))=some p∧∀r m,W01 (rg.set pt r++m) 1 false p=some (I .i64 x):=
 ⟨.c (.rp [iv x]),by simp[hx],fun r m=>by simp⟩
theorem Wzs{rg:List Reg}{pt id:Nat}{l:List Int}(hne:pt≠id)(hr:rg[id]?=some (.pc 1 (l.map fun n=>[iv n])))(i:Nat)(x:Int)(hx:l[i]?=some x):
  ∃p,vixs 1 (I .i64 (i:Nat)) (.c (.own id 0 1 l.length .free))=some p∧∀r m,W01 (rg.set pt r++m) 1 false p=some (I .i64 x):=by
 refine ⟨.c (.ept id 1 i 0),?_,fun r m=> ?_⟩
 ·have hi:(i:Int)<l.length:=by have:=(Z3.1 hx).1; omega
  simp[vixs,Wa5,W0m,hi]
 ·have hg:(rg.set pt r++m)[id]?=some (.pc 1 (l.map fun n=>[iv n])):=W0b (by rw[Zv hne]; exact hr) m
  simp[hg,hx]
theorem W2b{rg:List Reg}{pt id:Nat}{l:List Int}(hne:pt≠id)(hr:rg[id]?=some (.pc 1 (l.map fun n=>[iv n])))(b:List Int)(hp:rg[pt]?=some (.ac [penC b]))(hb:b.length+8*l.length≤1000000)(hw:wf rg):
  bm.run (.fn 292) [.c (.ptr pt 0),.c (.own id 0 1 l.length .free)] rg=some (.tup [],rg.set pt (.ac [penC (b++l.flatMap be8)])):=Wez (.own hne hr) b hp hb hw (Wzs hne hr)
theorem Wqm{rg:List Reg}{pt:Nat}(l:List Int)(b:List Int)(hp:rg[pt]?=some (.ac [penC b]))(hb:b.length+8*l.length≤1000000)(hw:wf rg):
  bm.run (.fn 292) [.c (.ptr pt 0),.c (.p (slI l))] rg=some (.tup [],rg.set pt (.ac [penC (b++l.flatMap be8)])):=Wez (.val rg pt l) b hp hb hw (Wzr rg pt l)
theorem Wzt{rg:List Reg}{pt:Nat}(l:List Int)(b:List Int)(hp:rg[pt]?=some (.ac [penC b]))(hb:b.length+8*l.length≤1000000)(hw:wf rg):
  bm.run (.fn 294) [.c (.ptr pt 0),.c (.p (slI l))] rg=some (.tup [],rg.set pt (.ac [penC (b++l.flatMap be8)])):=Wgn (.val rg pt l) b hp hb hw
theorem Wgo{rg:List Reg}{pt id:Nat}{l:List Int}(hne:pt≠id)(hr:rg[id]?=some (.pc 1 (l.map fun n=>[iv n])))(b:List Int)(hp:rg[pt]?=some (.ac [penC b]))(hb:b.length+8*l.length≤1000000)(hw:wf rg):
  bm.run (.fn 294) [.c (.ptr pt 0),.c (.own id 0 1 l.length .free)] rg=some (.tup [],rg.set pt (.ac [penC (b++l.flatMap be8)])):=Wgn (.own hne hr) b hp hb hw
def wdO(x:Tri):List Int:=be8 x.a++(be8 x.b++be8 x.c)
theorem W31(x:Tri):(wdO x).length=24:=rfl
theorem W7t{rg:List Reg}{pt:Nat}{l:List Tri}{a:AV}(b:List Int)(hv:vlen a=some (I .i64 l.length))(hp:rg[pt]?=some (.ac [penC b]))(hb:b.length+24*l.length≤1000000)(hw:wf rg)
  (hR2:∀(i:Nat) (x:Tri),l[i]?=some x→∃p,vixs 3 (I .i64 (i:Nat)) a=some p∧∀r m,W01 (rg.set pt r++m) 3 true p=some (av3 x)):
  bm.run (.fn 289) [.c (.ptr pt 0),a] rg=some (.tup [],rg.set pt (.ac [penC (b++l.flatMap wdO)])):=by
 have hpt:=W16 hp
 have hs:=fun x=>W1r hp x
 have hwf:∀b,wf (rg.set pt (.ac [penC b])):=fun b=>W2l hw (by simp[W4a])
 have h0:rg.set pt (.ac [penC b])=rg:=by
  apply Yx
  intro i
  by_cases h:pt=i
  ·subst h; rw[hs,hp]
  ·rw[Zv h]
 have hlen:∀j,j≤l.length→((l.take j).flatMap wdO).length=24*j:=by
  intro j
  induction j with
  | zero=>simp
  | succ j ih=>
   intro hj
   have hx:l[j]?=some l[j]:=Z2 (by omega)
   rw[Zs,hx,Yc,Z5,ih (by omega)]
   simp[W31]; omega
 obtain ⟨ex,s',e1,rfl,m,e2⟩:=W0z (body:=Wir W02 bm.run rg.length)
  (fun j st=>∃m,st=⟨[(8,I .i64 (j:Nat)),(7,I .i64 l.length),(6,a),(0,.c (.ptr pt 0))],rg.set pt (.ac [penC (b++(l.take j).flatMap wdO)])++m⟩∧∀n,m.all (W18 n)=true)
  (fun ex s'=>ex= .exit 0∧∃m,s'.regs=rg.set pt (.ac [penC (b++l.flatMap wdO)])++m) l.length
  (s:=⟨[(8,I .i64 0),(7,I .i64 l.length),(6,a),(0,.c (.ptr pt 0))],rg⟩) ⟨[],by simp[h0],fun _=>rfl⟩
  (by
   rintro i hi st ⟨m,rfl,hm⟩
   have hx:l[i]?=some l[i]:=Z2 hi
   have ht:l.take (i+1)=l.take i++[l[i]]:=by rw[Zs,hx]; rfl
   obtain ⟨p,p1,p2⟩:=hR2 i _ hx
   have hli:=hlen i (by omega)
   generalize l[i]=x at*
   have hi2:(i:Int)<l.length:=by omega
   have hnx:IntKind.i64.wrap ((i:Int)+1)=(i:Int)+1:=W0g (by omega) (by omega)
   have hft:b++(l.take (i+1)).flatMap wdO=b++(l.take i).flatMap wdO++be8 x.a++(be8 x.b++be8 x.c):=by rw[ht,Yc]; simp[wdO]
   have hbl:(b++(l.take i).flatMap wdO).length+24≤1000000:=by rw[Z5,hli]; omega
   rw[hft]
   generalize b++(l.take i).flatMap wdO=bb at*
   have hl1:∀b,(rg.set pt (.ac [penC b])).length=rg.length:=fun _=>by simp
   have hwm:wf (rg.set pt (.ac [penC bb])++(m++[Reg.ac [.p (iv x.a),.p (iv x.b),.p (iv x.c)],Reg.pc 1 [[iv x.a]]])):=W07 (hwf bb) (by simp[hm])
   have hnr:=Wgo (rg:=rg.set pt (.ac [penC bb])++(m++[Reg.ac [.p (iv x.a),.p (iv x.b),.p (iv x.c)],Reg.pc 1 [[iv x.a]]])) (pt:=pt) (id:=rg.length+(m.length+1)) (l:=[x.a]) (by omega) (by
    rw[←hl1 bb,W0e]; simp) bb (W0b (hs _) _) (by simp; omega) hwm
   have hss:∀b1 b2 M,(rg.set pt (.ac [penC b1])++M).set pt (.ac [penC b2])=rg.set pt (.ac [penC b2])++M:=fun b1 b2 M=>by
    rw[Yd _ _ (by simpa using hpt),Xo]
   simp only[Ya,Ye,Zr]at hnr
   rw[hss]at hnr
   have hwm2:wf (rg.set pt (.ac [penC (bb++be8 x.a)])++(m++[Reg.ac [.p (iv x.a),.p (iv x.b),.p (iv x.c)],Reg.pc 1 [[iv x.a]],Reg.pc 1 [[iv x.b],[iv x.c]]])):=W07 (hwf _) (by simp[hm])
   have hsm:=W2b (rg:=rg.set pt (.ac [penC (bb++be8 x.a)])++(m++[Reg.ac [.p (iv x.a),.p (iv x.b),.p (iv x.c)],Reg.pc 1 [[iv x.a]],Reg.pc 1 [[iv x.b],[iv x.c]]])) (pt:=pt) (id:=rg.length+(m.length+2)) (l:=[x.b,x.c]) (by omega) (by
    rw[←hl1 (bb++be8 x.a),W0e]; simp) (bb++be8 x.a) (W0b (hs _) _) (by simp[be8]; omega) hwm2
   simp only[Ya,Ye,Zr]at hsm
   rw[hss]at hsm
   refine ⟨_,?_,m++[Reg.ac [.p (iv x.a),.p (iv x.b),.p (iv x.c)],Reg.pc 1 [[iv x.a]],Reg.pc 1 [[iv x.b],[iv x.c]]],rfl,fun n=>by simp[hm]⟩
   have hge:∀b (k:Nat) (M:List Reg),(rg.set pt (.ac [penC b])++M)[rg.length+k]?=M[k]?:=fun b k M=>by rw[←hl1 b,W0e]
   simp at hnr hsm
   simp[Wir,hi2,hnx,p1,p2,hge,hnr,hsm]
   )
  (by
   rintro st ⟨m,rfl,hm⟩
   rw[Ze (Z8 _)]
   exact ⟨.exit 0,_,by simp[Wir]; rfl,by simp,rfl,m,rfl⟩)
 rw[R289]
 simp[s289,hv,e1,e2]
 rw[W20 (by simp) (hwf _) (by rfl)]
 simp
def wdsO(l:List Tri):List Int:=be8 l.length++l.flatMap wdO
def nmsO(l:List Int):List Int:=be8 l.length++l.flatMap be8
theorem Wgp(rg:List Reg)(pt:Nat)(l:List Tri)(i:Nat)(x:Tri)(hx:l[i]?=some x):∃p,vixs 3 (I .i64 (i:Nat)) (.c (.p (sl3 l)))=some p∧∀r m,W01 (rg.set pt r++m) 3 true p=some (av3 x):=
 ⟨.c (.rp [iv x.a,iv x.b,iv x.c]),by simp[hx],fun r m=>by simp⟩
theorem Wl8{rg:List Reg}{pt:Nat}(l:List Tri)(b:List Int)(hp:rg[pt]?=some (.ac [penC b]))(hb:b.length+8+24*l.length≤1000000)(hw:wf rg):
  bm.run (.fn 288) [.c (.ptr pt 0),.c (.p (sl3 l)),.c (.fn (.func 289) [.ptr pt 0] [])] rg=some (.tup [],rg.set pt (.ac [penC (b++wdsO l)])):=by
 have hpt:=W16 hp
 have hs:=fun x=>W1r hp x
 have hwf:∀b,wf (rg.set pt (.ac [penC b])):=fun b=>W2l hw (by simp[W4a])
 have hw1:wf (rg++[Reg.pc 1 [[iv l.length]]]):=W07 hw (by simp)
 have h1:=W2b (rg:=rg++[Reg.pc 1 [[iv l.length]]]) (pt:=pt) (id:=rg.length) (l:=[(l.length:Int)]) (by omega) (by simp) b (W0b hp _) (by simp; omega) hw1
 have hss:∀b,(rg++[Reg.pc 1 [[iv l.length]]]).set pt (.ac [penC b])=rg.set pt (.ac [penC b])++[Reg.pc 1 [[iv l.length]]]:=fun b=>Yd _ _ hpt
 simp only[Ya,Ye,Zr]at h1
 rw[hss]at h1
 have hw2:wf (rg.set pt (.ac [penC (b++be8 l.length)])++[Reg.pc 1 [[iv l.length]]]):=W07 (hwf _) (by simp)
 have h2:=W7t (rg:=rg.set pt (.ac [penC (b++be8 l.length)])++[Reg.pc 1 [[iv l.length]]]) (pt:=pt) (l:=l) (a:= .c (.p (sl3 l))) (b++be8 l.length) (by simp) (W0b (hs _) _) (by simp[be8]; omega) hw2 (Wgp _ pt l)
 have hss2:∀b1 b2 M,(rg.set pt (.ac [penC b1])++M).set pt (.ac [penC b2])=rg.set pt (.ac [penC b2])++M:=fun b1 b2 M=>by
  rw[Yd _ _ (by simpa using hpt),Xo]
 rw[hss2,Z6]at h2
 have hfin:b++wdsO l=b++(be8 l.length++l.flatMap wdO):=rfl
 rw[hfin,R288]
 simp at h1 h2
 simp[s288,h1,h2]
 rw[W20 (by simp) (hwf _) (by rfl)]
 simp
theorem Wqn{rg:List Reg}{pt:Nat}(l:List Int)(b:List Int)(hp:rg[pt]?=some (.ac [penC b]))(hb:b.length+8+8*l.length≤1000000)(hw:wf rg):
  bm.run (.fn 295) [.c (.ptr pt 0),.c (.p (slI l)),.c (.fn (.func 294) [.ptr pt 0] [])] rg=some (.tup [],rg.set pt (.ac [penC (b++nmsO l)])):=by
 have hpt:=W16 hp
 have hs:=fun x=>W1r hp x
 have hwf:∀b,wf (rg.set pt (.ac [penC b])):=fun b=>W2l hw (by simp[W4a])
 have hw1:wf (rg++[Reg.pc 1 [[iv l.length]]]):=W07 hw (by simp)
 have h1:=W2b (rg:=rg++[Reg.pc 1 [[iv l.length]]]) (pt:=pt) (id:=rg.length) (l:=[(l.length:Int)]) (by omega) (by simp) b (W0b hp _) (by simp; omega) hw1
 have hss:∀b,(rg++[Reg.pc 1 [[iv l.length]]]).set pt (.ac [penC b])=rg.set pt (.ac [penC b])++[Reg.pc 1 [[iv l.length]]]:=fun b=>Yd _ _ hpt
 simp only[Ya,Ye,Zr]at h1
 rw[hss]at h1
 have hw2:wf (rg.set pt (.ac [penC (b++be8 l.length)])++[Reg.pc 1 [[iv l.length]]]):=W07 (hwf _) (by simp)
 have h2:=Wzt (rg:=rg.set pt (.ac [penC (b++be8 l.length)])++[Reg.pc 1 [[iv l.length]]]) (pt:=pt) l (b++be8 l.length) (W0b (hs _) _) (by simp[be8]; omega) hw2
 have hss2:∀b1 b2 M,(rg.set pt (.ac [penC b1])++M).set pt (.ac [penC b2])=rg.set pt (.ac [penC b2])++M:=fun b1 b2 M=>by
  rw[Yd _ _ (by simpa using hpt),Xo]
 rw[hss2,Z6]at h2
 have hfin:b++nmsO l=b++(be8 l.length++l.flatMap be8):=rfl
 rw[hfin,R295]
 simp at h1 h2
 simp[s295,h1,h2]
 rw[W20 (by simp) (hwf _) (by rfl)]
 simp
theorem Wgq{rg:List Reg}{pt:Nat}(l:List Int)(b:List Int)(hp:rg[pt]?=some (.ac [penC b]))(hb:b.length+8+8*l.length≤1000000)(hw:wf rg):
  bm.run (.fn 293) [.c (.ptr pt 0),.c (.p (slI l)),.c (.fn (.func 292) [.ptr pt 0] [])] rg=some (.tup [],rg.set pt (.ac [penC (b++nmsO l)])):=by
 have hpt:=W16 hp
 have hs:=fun x=>W1r hp x
 have hwf:∀b,wf (rg.set pt (.ac [penC b])):=fun b=>W2l hw (by simp[W4a])
 have hw1:wf (rg++[Reg.pc 1 [[iv l.length]]]):=W07 hw (by simp)
 have h1:=W2b (rg:=rg++[Reg.pc 1 [[iv l.length]]]) (pt:=pt) (id:=rg.length) (l:=[(l.length:Int)]) (by omega) (by simp) b (W0b hp _) (by simp; omega) hw1
 have hss:∀b,(rg++[Reg.pc 1 [[iv l.length]]]).set pt (.ac [penC b])=rg.set pt (.ac [penC b])++[Reg.pc 1 [[iv l.length]]]:=fun b=>Yd _ _ hpt
 simp only[Ya,Ye,Zr]at h1
 rw[hss]at h1
 have hw2:wf (rg.set pt (.ac [penC (b++be8 l.length)])++[Reg.pc 1 [[iv l.length]]]):=W07 (hwf _) (by simp)
 have h2:=Wqm (rg:=rg.set pt (.ac [penC (b++be8 l.length)])++[Reg.pc 1 [[iv l.length]]]) (pt:=pt) l (b++be8 l.length) (W0b (hs _) _) (by simp[be8]; omega) hw2
 have hss2:∀b1 b2 M,(rg.set pt (.ac [penC b1])++M).set pt (.ac [penC b2])=rg.set pt (.ac [penC b2])++M:=fun b1 b2 M=>by
  rw[Yd _ _ (by simpa using hpt),Xo]
 rw[hss2,Z6]at h2
 have hfin:b++nmsO l=b++(be8 l.length++l.flatMap be8):=rfl
 rw[hfin,R293]
 simp at h1 h2
 simp[s293,h1,h2]
 rw[W20 (by simp) (hwf _) (by rfl)]
 simp
def mixX(a b:Int):Int:=IntKind.u64.wrap (IntKind.u64.wrap (11400714819323198485*a)+b)
def mixY(a b:Int):Int:=IntKind.u64.wrap (bits BinOp.xor IntKind.u64 (mixX a b) (mixX a b/4294967296)*13787848793156543929)
def mixI(a b:Int):Int:=bits BinOp.xor IntKind.u64 (mixY a b) (mixY a b/536870912)
theorem Wqo(a b:Int)(rg:List Reg):bm.run (.fn 332) [I .u64 a,I .u64 b] rg=some (I .u64 (mixI a b),rg):=by
 rw[R332]
 simp[s332,mixI,mixY,mixX]
 rfl
theorem Wzu(y k:Int)(hk:0<k):IntKind.u64.wrap ((IntKind.u64.wrap y).tdiv k)=IntKind.u64.wrap y/k:=by
 have h0:0≤IntKind.u64.wrap y:=by rw[W45]; omega
 have h1:IntKind.u64.wrap y<18446744073709551616:=by rw[W45]; omega
 generalize IntKind.u64.wrap y=x at*
 rw[Int.tdiv_eq_ediv_of_nonneg h0,W45]
 have h2:0≤x/k:=Int.ediv_nonneg h0 (by omega)
 have h3:x/k≤x:=Int.ediv_le_self _ h0
 exact Int.emod_eq_of_lt h2 (by omega)
theorem Wjc(a b:Int)(rg:List Reg):bm.run (.fn 260) [I .u64 a,I .u64 b] rg=some (I .u64 (mixI a b),rg):=by
 rw[R260]
 simp[s260,mixI,mixY,mixX,Wzu]
def sumW(seed:Int)(b:List Int):Int:=b.foldl (fun a x=>mixI a (IntKind.u64.wrap x)) (mixI seed (IntKind.u64.wrap b.length))
theorem Wzv(seed:Int)(b:List Int)(hb:b.length≤1000000)(rg:List Reg):bm.run (.fn 287) [I .u64 seed,oS b] rg=some (I .u64 (sumW seed b),rg):=by
 have key:=W0y (body:=Wiq W02 bm.run rg.length) (fun j=>⟨[(15,I .i64 (j:Nat)),(14,I .i64 b.length),(13,oS b),(5,I .u64 ((b.take j).foldl (fun a x=>mixI a (IntKind.u64.wrap x)) (mixI seed (IntKind.u64.wrap b.length))))],rg⟩) b.length (fun i hi=>by
   have hx:b[i]?=some b[i]:=Z2 hi
   have ht:b.take (i+1)=b.take i++[b[i]]:=by rw[Zs,hx]; rfl
   generalize b[i]=x at*
   have hi2:(i:Int)<b.length:=by omega
   have hnx:IntKind.i64.wrap ((i:Int)+1)=(i:Int)+1:=W0g (by omega) (by omega)
   rw[ht,List.foldl_append]
   simp[Wiq,hi2,hnx,hx,Wqo]) (e:= .exit 0) (s':=⟨[(16,Bo false),(15,I .i64 b.length),(14,I .i64 b.length),(13,oS b),(5,I .u64 (sumW seed b))],rg⟩) (by
   rw[Ze (Z8 _)]
   simp[Wiq,sumW]) (by simp)
 rw[show ((0:Nat):Int)=0 from _root_.rfl]at key
 rw[R287]
 simp at key
 simp[s287,Wqo,key]
theorem Wcf(seed:Int)(b:List Int)(hb:b.length≤1000000)(rg:List Reg):bm.run (.fn 164) [I .u64 seed,oS b] rg=some (I .u64 (sumW seed b),rg):=by
 have key:=W0y (body:=Wih W02 bm.run rg.length) (fun j=>⟨[(6,I .i64 (j:Nat)),(5,I .u64 ((b.take j).foldl (fun a x=>mixI a (IntKind.u64.wrap x)) (mixI seed (IntKind.u64.wrap b.length)))),(1,oS b)],rg⟩) b.length (fun i hi=>by
   have hx:b[i]?=some b[i]:=Z2 hi
   have ht:b.take (i+1)=b.take i++[b[i]]:=by rw[Zs,hx]; rfl
   generalize b[i]=x at*
   have hi2:(i:Int)<b.length:=by omega
   have hnx:IntKind.i64.wrap ((i:Int)+1)=(i:Int)+1:=W0g (by omega) (by omega)
   rw[ht,List.foldl_append]
   simp[Wih,hi2,hnx,hx,Wjc]) (e:= .exit 0) (s':=⟨[(15,Bo false),(6,I .i64 b.length),(5,I .u64 (sumW seed b)),(1,oS b)],rg⟩) (by
   rw[Ze (Z8 _)]
   simp[Wih,sumW]) (by simp)
 rw[show ((0:Nat):Int)=0 from _root_.rfl]at key
 rw[R164]
 simp at key
 simp[s164,Wjc,key]
theorem Wcg(i:Int)(b:List Int)(hb:b.length≤1000000)(rg:List Reg):bm.run (.fn 209) [I .i64 i,oS b] rg=some (I .u64 (sumW (IntKind.u64.wrap i) b),rg):=by
 rw[R209]
 simp[s209,Wzv _ b hb]
theorem Wuf{rg:List Reg}{pt:Nat}{r:Reg}(hp:rg[pt]?=some r):rg.set pt r=rg:=by
 apply Yx
 intro i
 by_cases h:pt=i
 ·subst h; rw[W1r hp,hp]
 ·rw[Zv h]
theorem W3k{rg:List Reg}{pt:Nat}(h:pt<rg.length)(b1 b2:List Int)(M:List Reg):(rg.set pt (.ac [penC b1])++M).set pt (.ac [penC b2])=rg.set pt (.ac [penC b2])++M:=by
 rw[Yd _ _ (by simpa using h),Xo]
theorem Wch{α:Type}{body:St→Option (Exit×St)}{rg:List Reg}{pt:Nat}{l:List α}{a:AV}{x1:AV}{E:List (Nat×AV)}(O:α→List Int)(b:List Int)(hp:rg[pt]?=some (.ac [penC b]))(hl:l.length≤1000000)
  (hround:∀(i:Nat) x bb m,l[i]?=some x→bb.length+(O x).length≤b.length+(l.flatMap O).length→(i:Int)<l.length→IntKind.i64.wrap ((i:Int)+1)=(i:Int)+1→(∀n,m.all (W18 n)=true)→
   ∃m',body ⟨[(7,I .i64 i),(6,I .i64 l.length),(5,a),(1,x1)],rg.set pt (.ac [penC bb])++m⟩=some (.normal,⟨[(7,I .i64 ((i:Int)+1)),(6,I .i64 l.length),(5,a),(1,x1)],rg.set pt (.ac [penC (bb++O x)])++m'⟩)∧∀n,m'.all (W18 n)=true)
  (hend:∀rg',body ⟨[(7,I .i64 l.length),(6,I .i64 l.length),(5,a),(1,x1)],rg'⟩=some (.exit 0,⟨E,rg'⟩)):
  ∃m,W02 body ⟨[(7,I .i64 0),(6,I .i64 l.length),(5,a),(1,x1)],rg⟩=some (.exit 0,⟨E,rg.set pt (.ac [penC (b++l.flatMap O)])++m⟩):=by
 obtain ⟨ex,s',e1,rfl,m,rfl⟩:=W0z (body:=body)
  (fun j st=>∃m,st=⟨[(7,I .i64 (j:Nat)),(6,I .i64 l.length),(5,a),(1,x1)],rg.set pt (.ac [penC (b++(l.take j).flatMap O)])++m⟩∧∀n,m.all (W18 n)=true)
  (fun ex s'=>ex= .exit 0∧∃m,s'=⟨E,rg.set pt (.ac [penC (b++l.flatMap O)])++m⟩) l.length
  (s:=⟨[(7,I .i64 0),(6,I .i64 l.length),(5,a),(1,x1)],rg⟩) ⟨[],by simp[Wuf hp],fun _=>rfl⟩
  (by
   rintro i hi st ⟨m,rfl,hm⟩
   have hx:l[i]?=some l[i]:=Z2 hi
   have ht:l.take (i+1)=l.take i++[l[i]]:=by rw[Zs,hx]; rfl
   have hsp:l.flatMap O=(l.take i).flatMap O++(O l[i]++(l.drop (i+1)).flatMap O):=by
    conv=>lhs; rw[←X5 i l,List.drop_eq_getElem_cons hi]
    rw[Yc,Ya]
   obtain ⟨m',e,hm'⟩:=hround i _ (b++(l.take i).flatMap O) m hx (by rw[hsp]; simp; omega) (by omega) (W0g (by omega) (by omega)) hm
   refine ⟨_,e,m',?_,hm'⟩
   rw[ht,Yc]
   simp)
  (by
   rintro st ⟨m,rfl,hm⟩
   rw[Ze (Z8 _)]
   exact ⟨.exit 0,_,hend _,by simp,rfl,m,rfl⟩)
 exact ⟨m,e1⟩
theorem W4q(l:List Tri):(l.flatMap wdO).length=24*l.length:=by
 induction l with
 | nil=>rfl
 | cons x l ih=>simp[ih,W31]; omega
theorem W4b{rg:List Reg}{pt:Nat}(hw:wf rg)(b:List Int):wf (rg.set pt (.ac [penC b])):=W2l hw (by simp[W4a])
theorem Wjd{rg:List Reg}{pt pw:Nat}(hpw:rg[pw]?=some (.ac [.ptr pt 0]))(hne:pt≠pw)(b:List Int)(M:List Reg):(rg.set pt (.ac [penC b])++M)[pw]?=some (.ac [.ptr pt 0]):=W0b (by rw[Zv hne]; exact hpw) M
section
variable {rg:List Reg} {pt pw:Nat} (b:List Int) (hp:rg[pt]?=some (.ac [penC b])) (hpw:rg[pw]?=some (.ac [.ptr pt 0])) (hne:pt≠pw) (hw:wf rg)
include hp hpw hne hw
theorem Wzw(l:List Tri)(hb:b.length+24*l.length≤1000000):
  bm.run (.fn 297) [.c (.p (sl3 l)),.c (.ptr pw 0)] rg=some (.tup [],rg.set pt (.ac [penC (b++l.flatMap wdO)])):=by
 have hpt:=W16 hp
 obtain ⟨m,e⟩:=Wch (body:=Wiv W02 bm.run rg.length) (l:=l) (a:= .c (.p (sl3 l))) (x1:= .c (.ptr pw 0)) (E:=[(8,Bo false),(7,I .i64 l.length),(6,I .i64 l.length),(5,.c (.p (sl3 l))),(1,.c (.ptr pw 0))]) wdO b hp (by omega)
  (by
   intro i x bb m hx hbl hi2 hnx hm
   rw[W4q,W31]at hbl
   have hl1:∀b,(rg.set pt (.ac [penC b])).length=rg.length:=fun _=>by simp
   have hge:∀b (k:Nat) (M:List Reg),(rg.set pt (.ac [penC b])++M)[rg.length+k]?=M[k]?:=fun b k M=>by rw[←hl1 b,W0e]
   have hs:=fun x=>W1r hp x
   have hwm:wf (rg.set pt (.ac [penC bb])++(m++[Reg.ac [.p (iv x.a),.p (iv x.b),.p (iv x.c)],Reg.pc 1 [[iv x.a],[iv x.b]]])):=W07 (W4b hw bb) (by simp[hm])
   have h1:=W2b (pt:=pt) (id:=rg.length+(m.length+1)) (l:=[x.a,x.b]) (by omega) (by rw[hge]; simp) bb (W0b (hs _) _) (by simp; omega) hwm
   rw[W3k hpt]at h1
   have hwm2:wf (rg.set pt (.ac [penC (bb++[x.a,x.b].flatMap be8)])++(m++[Reg.ac [.p (iv x.a),.p (iv x.b),.p (iv x.c)],Reg.pc 1 [[iv x.a],[iv x.b]],Reg.pc 1 [[iv x.c]]])):=W07 (W4b hw _) (by simp[hm])
   have h2:=Wgo (pt:=pt) (id:=rg.length+(m.length+2)) (l:=[x.c]) (by omega) (by rw[hge]; simp) (bb++[x.a,x.b].flatMap be8) (W0b (hs _) _) (by simp[be8]; omega) hwm2
   rw[W3k hpt]at h2
   have hf:bb++[x.a,x.b].flatMap be8++[x.c].flatMap be8=bb++wdO x:=by simp[wdO]
   rw[hf]at h2
   generalize bb++[x.a,x.b].flatMap be8=b2 at*
   have hpg:=Wjd hpw hne
   refine ⟨m++[Reg.ac [.p (iv x.a),.p (iv x.b),.p (iv x.c)],Reg.pc 1 [[iv x.a],[iv x.b]],Reg.pc 1 [[iv x.c]]],?_,fun n=>by simp[hm]⟩
   simp at h1 h2
   simp[Wiv,hi2,hnx,hx,hge,hpg,h1,h2])
  (fun rg'=>by simp[Wiv])
 rw[R297]
 simp[s297,e]
 rw[W20 (by simp) (W4b hw _) (by rfl)]
 simp
def enO(e:Ent):List Int:=wdO e.p++(wdO e.w++(be8 e.gen++be8 e.pc))
omit hp hpw hne hw in
theorem Wgr(e:Ent):(enO e).length=64:=rfl
omit hp hpw hne hw in
theorem W9s(l:List Ent):(l.flatMap enO).length=64*l.length:=by
 induction l with
 | nil=>rfl
 | cons x l ih=>simp[ih,Wgr]; omega
omit hp hpw hw hne in
theorem Wzx{id:Nat}{x:Tri}(hne:pt≠id)(hr:rg[id]?=some (.pc 3 [[iv x.a,iv x.b,iv x.c]]))(i:Nat)(y:Tri)(hy:[x][i]?=some y):
  ∃p,vixs 3 (I .i64 (i:Nat)) (.c (.own id 0 3 1 .free))=some p∧∀r m,W01 (rg.set pt r++m) 3 true p=some (av3 y):=by
 have hi:i=0:=by have:=(Z3.1 hy).1; simp at this; exact this
 subst hi
 cases hy
 refine ⟨.c (.ept id 3 0 0),by simp[vixs,Wa5,W0m],fun r m=> ?_⟩
 have hg:(rg.set pt r++m)[id]?=some (.pc 3 [[iv x.a,iv x.b,iv x.c]]):=W0b (by rw[Zv hne]; exact hr) m
 simp[hg]
theorem Wug(l:List Ent)(hb:b.length+64*l.length≤1000000):
  bm.run (.fn 299) [.c (.p (slE l)),.c (.ptr pw 0)] rg=some (.tup [],rg.set pt (.ac [penC (b++l.flatMap enO)])):=by
 have hpt:=W16 hp
 obtain ⟨m,e⟩:=Wch (body:=Wiw W02 bm.run rg.length) (l:=l) (a:= .c (.p (slE l))) (x1:= .c (.ptr pw 0)) (E:=[(8,Bo false),(7,I .i64 l.length),(6,I .i64 l.length),(5,.c (.p (slE l))),(1,.c (.ptr pw 0))]) enO b hp (by omega)
  (by
   intro i x bb m hx hbl hi2 hnx hm
   rw[W9s,Wgr]at hbl
   have hl1:∀b,(rg.set pt (.ac [penC b])).length=rg.length:=fun _=>by simp
   have hge:∀b (k:Nat) (M:List Reg),(rg.set pt (.ac [penC b])++M)[rg.length+k]?=M[k]?:=fun b k M=>by rw[←hl1 b,W0e]
   have hs:=fun x=>W1r hp x
   have hxk:(Reg.ac (x.k.map .p))=Reg.ac [.p (iv x.p.a),.p (iv x.p.b),.p (iv x.p.c),.p (iv x.w.a),.p (iv x.w.b),.p (iv x.w.c),.p (iv x.gen),.p (iv x.pc)]:=rfl
   have hwm:wf (rg.set pt (.ac [penC bb])++(m++[Reg.ac (x.k.map .p),Reg.pc 1 [[iv x.p.a],[iv x.p.b],[iv x.p.c]]])):=W07 (W4b hw bb) (by simp[hm,hxk])
   have h1:=W2b (pt:=pt) (id:=rg.length+(m.length+1)) (l:=[x.p.a,x.p.b,x.p.c]) (by omega) (by rw[hge]; simp) bb (W0b (hs _) _) (by simp; omega) hwm
   rw[W3k hpt]at h1
   have hwm2:wf (rg.set pt (.ac [penC (bb++[x.p.a,x.p.b,x.p.c].flatMap be8)])++(m++[Reg.ac (x.k.map .p),Reg.pc 1 [[iv x.p.a],[iv x.p.b],[iv x.p.c]],Reg.pc 3 [[iv x.w.a,iv x.w.b,iv x.w.c]]])):=W07 (W4b hw _) (by simp[hm,hxk])
   have h2:=W7t (pt:=pt) (l:=[x.w]) (a:= .c (.own (rg.length+(m.length+2)) 0 3 1 .free)) (bb++[x.p.a,x.p.b,x.p.c].flatMap be8) (by simp) (W0b (hs _) _) (by simp[be8]; omega) hwm2 (Wzx (by omega) (by rw[hge]; simp))
   rw[W3k hpt]at h2
   have hwm3:wf (rg.set pt (.ac [penC (bb++[x.p.a,x.p.b,x.p.c].flatMap be8++[x.w].flatMap wdO)])++(m++[Reg.ac (x.k.map .p),Reg.pc 1 [[iv x.p.a],[iv x.p.b],[iv x.p.c]],Reg.pc 3 [[iv x.w.a,iv x.w.b,iv x.w.c]],Reg.pc 1 [[iv x.gen],[iv x.pc]]])):=W07 (W4b hw _) (by simp[hm,hxk])
   have h3:=W2b (pt:=pt) (id:=rg.length+(m.length+3)) (l:=[x.gen,x.pc]) (by omega) (by rw[hge]; simp) (bb++[x.p.a,x.p.b,x.p.c].flatMap be8++[x.w].flatMap wdO) (W0b (hs _) _) (by simp[be8,wdO]; omega) hwm3
   rw[W3k hpt]at h3
   have hf:bb++[x.p.a,x.p.b,x.p.c].flatMap be8++[x.w].flatMap wdO++[x.gen,x.pc].flatMap be8=bb++enO x:=by simp[wdO,enO]
   rw[hf]at h3
   generalize bb++[x.p.a,x.p.b,x.p.c].flatMap be8++[x.w].flatMap wdO=b3 at*
   generalize bb++[x.p.a,x.p.b,x.p.c].flatMap be8=b2 at*
   have hpg:=Wjd hpw hne
   refine ⟨m++[Reg.ac (x.k.map .p),Reg.pc 1 [[iv x.p.a],[iv x.p.b],[iv x.p.c]],Reg.pc 3 [[iv x.w.a,iv x.w.b,iv x.w.c]],Reg.pc 1 [[iv x.gen],[iv x.pc]]],?_,fun n=>by simp[hm,hxk]⟩
   simp only[hxk]at h1 h2 h3 ⊢
   have hka:x.k=[iv x.p.a,iv x.p.b,iv x.p.c,iv x.w.a,iv x.w.b,iv x.w.c,iv x.gen,iv x.pc]:=rfl
   simp at h1 h2 h3
   simp[Wiw,hi2,hnx,hx,hge,hpg,hka,h1,h2,h3])
  (fun rg'=>by simp[Wiw])
 rw[R299]
 simp[s299,e]
 rw[W20 (by simp) (W4b hw _) (by rfl)]
 simp
def ceO(c:Cel):List Int:=be8 c.st++(be8 c.gen++(be8 c.by_++(be8 c.pc++(wdO c.f0++wdO c.f1))))
omit hp hpw hne hw in
theorem Wgs(c:Cel):(ceO c).length=80:=rfl
omit hp hpw hne hw in
theorem W6u(l:List Cel):(l.flatMap ceO).length=80*l.length:=by
 induction l with
 | nil=>rfl
 | cons x l ih=>simp[ih,Wgs]; omega
omit hp hpw hne hw in
theorem W9t(l:List PV):W1g (l.map .p)=some l:=by
 induction l with
 | nil=>rfl
 | cons x l ih=>simp only[Zh,W1g,ih]; rfl
omit hp hpw hne hw in
theorem Wzy(rg m:List Reg)(n:Nat)(x7 x6 x5 x1:AV)(l:List PV)(hn:n=rg.length+m.length)(h7:bxAV n l x7=x7)(h6:bxAV n l x6=x6)(h5:bxAV n l x5=x5)(h1:bxAV n l x1=x1):
  bxSt n ⟨[(7,x7),(6,x6),(5,x5),(4,.c (.ptr n 0)),(1,x1)],rg++(m++[.ac (l.map .p)])⟩=⟨[(7,x7),(6,x6),(5,x5),(4,.c (.rp l)),(1,x1)],rg++(m++[.dead])⟩:=by
 subst hn
 have hg:(rg++(m++[Reg.ac (l.map .p)]))[rg.length+m.length]?=some (.ac (l.map .p)):=by rw[W0e]; simp
 have hp:=W9t l
 have hs:(rg++(m++[Reg.ac (l.map .p)])).set (rg.length+m.length) .dead=rg++(m++[.dead]):=by rw[W1z]; simp
 unfold bxSt
 simp only[hg,hp,hs]
 have h4:bxAV (rg.length+m.length) l (.c (.ptr (rg.length+m.length) 0))= .c (.rp l):=by simp[bxAV,bxAC]
 simp[bxSl,h7,h6,h5,h1,h4]
theorem Wuh(l:List Cel)(hb:b.length+80*l.length≤1000000):
  bm.run (.fn 291) [.c (.p (slC l)),.c (.ptr pw 0)] rg=some (.tup [],rg.set pt (.ac [penC (b++l.flatMap ceO)])):=by
 have hpt:=W16 hp
 have hpl:=W16 hpw
 obtain ⟨m,e⟩:=Wch (body:=Wis W02 bm.run rg.length) (l:=l) (a:= .c (.p (slC l))) (x1:= .c (.ptr pw 0)) (E:=[(8,Bo false),(7,I .i64 l.length),(6,I .i64 l.length),(5,.c (.p (slC l))),(1,.c (.ptr pw 0))]) ceO b hp (by omega)
  (by
   intro i x bb m hx hbl hi2 hnx hm
   rw[W6u,Wgs]at hbl
   have hl1:∀b,(rg.set pt (.ac [penC b])).length=rg.length:=fun _=>by simp
   have hge:∀b (k:Nat) (M:List Reg),(rg.set pt (.ac [penC b])++M)[rg.length+k]?=M[k]?:=fun b k M=>by rw[←hl1 b,W0e]
   have hs:=fun x=>W1r hp x
   have hwm:wf (rg.set pt (.ac [penC bb])++(m++[Reg.dead,Reg.pc 1 [[iv x.st],[iv x.gen],[iv x.by_],[iv x.pc]]])):=W07 (W4b hw bb) (by simp[hm])
   have h1:=W2b (pt:=pt) (id:=rg.length+(m.length+1)) (l:=[x.st,x.gen,x.by_,x.pc]) (by omega) (by rw[hge]; simp) bb (W0b (hs _) _) (by simp; omega) hwm
   rw[W3k hpt]at h1
   have hwm2:wf (rg.set pt (.ac [penC (bb++[x.st,x.gen,x.by_,x.pc].flatMap be8)])++(m++[Reg.dead,Reg.pc 1 [[iv x.st],[iv x.gen],[iv x.by_],[iv x.pc]]])):=W07 (W4b hw _) (by simp[hm])
   have h2:=W7t (pt:=pt) (l:=[x.f0,x.f1]) (a:= .c (.p (sl3 [x.f0,x.f1]))) (bb++[x.st,x.gen,x.by_,x.pc].flatMap be8) (by simp) (W0b (hs _) _) (by simp[be8]; omega) hwm2 (Wgp _ pt [x.f0,x.f1])
   rw[W3k hpt]at h2
   have hf:bb++[x.st,x.gen,x.by_,x.pc].flatMap be8++[x.f0,x.f1].flatMap wdO=bb++ceO x:=by simp[ceO]
   rw[hf]at h2
   generalize bb++[x.st,x.gen,x.by_,x.pc].flatMap be8=b2 at*
   have hpg:=Wjd hpw hne
   have hbx:=Wzy (rg.set pt (.ac [penC bb])) m (rg.length+m.length) (I .i64 (i:Nat)) (I .i64 l.length) (.c (.p (slC l))) (.c (.ptr pw 0)) x.k (by simp) rfl rfl rfl (by
    have:pw≠rg.length+m.length:=by omega
    simp[bxAV,bxAC,this])
   refine ⟨m++[Reg.dead,Reg.pc 1 [[iv x.st],[iv x.gen],[iv x.by_],[iv x.pc]]],?_,fun n=>by simp[hm]⟩
   have hsl:vsla 2 3 (.c (.rp [iv x.f0.a,iv x.f0.b,iv x.f0.c,iv x.f1.a,iv x.f1.b,iv x.f1.c])) none none none=some (.c (.p (sl3 [x.f0,x.f1]))):=by
    simp[vsla,W17,W1v]
   have hka:x.k=[iv x.st,iv x.gen,iv x.by_,iv x.pc,iv x.f0.a,iv x.f0.b,iv x.f0.c,iv x.f1.a,iv x.f1.b,iv x.f1.c]:=rfl
   simp only[hka]at hbx
   simp at h1 h2 hbx hsl
   simp[Wis,hi2,hnx,hx,hge,hpg,hka,W98,hbx,hsl,h1,h2])
  (fun rg'=>by simp[Wis])
 rw[R291]
 simp[s291,e]
 rw[W20 (by simp) (W4b hw _) (by rfl)]
 simp
theorem W9u{f g sz:Nat}{S:List (List PV)}{n:Nat}(O:List Int)(hS:vlen (.c (.p (.sl sz S)))=some (I .i64 (n:Nat)))
  (hR:∀rg,bm.run (.fn f) [.c (.ptr pt 0),.c (.p (.sl sz S)),.c (.fn (.func g) [] [.ptr pw 0])] rg=s296 W02 bm.run none (.c (.ptr pt 0)) (.c (.p (.sl sz S))) (.c (.fn (.func g) [] [.ptr pw 0])) rg)
  (hG:∀(rg:List Reg) (b:List Int),rg[pt]?=some (.ac [penC b])→rg[pw]?=some (.ac [.ptr pt 0])→wf rg→b.length+O.length≤1000000→bm.run (.fn g) [.c (.p (.sl sz S)),.c (.ptr pw 0)] rg=some (.tup [],rg.set pt (.ac [penC (b++O)])))
  (hb:b.length+8+O.length≤1000000):
  bm.run (.fn f) [.c (.ptr pt 0),.c (.p (.sl sz S)),.c (.fn (.func g) [] [.ptr pw 0])] rg=some (.tup [],rg.set pt (.ac [penC (b++(be8 n++O))])):=by
 have hpt:=W16 hp
 have hs:=fun x=>W1r hp x
 have hw1:wf (rg++[Reg.pc 1 [[iv (n:Nat)]]]):=W07 hw (by simp)
 have h1:=W2b (rg:=rg++[Reg.pc 1 [[iv (n:Nat)]]]) (pt:=pt) (id:=rg.length) (l:=[(n:Int)]) (by omega) (by simp) b (W0b hp _) (by simp; omega) hw1
 have hss:∀b,(rg++[Reg.pc 1 [[iv (n:Nat)]]]).set pt (.ac [penC b])=rg.set pt (.ac [penC b])++[Reg.pc 1 [[iv (n:Nat)]]]:=fun b=>Yd _ _ hpt
 simp only[Ya,Ye,Zr]at h1
 rw[hss]at h1
 have h2:=hG (rg.set pt (.ac [penC (b++be8 n)])++[Reg.pc 1 [[iv (n:Nat)]]]) (b++be8 n) (W0b (hs _) _) (Wjd hpw hne _ _) (W07 (W4b hw _) (by simp)) (by simp[be8]; omega)
 rw[W3k hpt,Z6]at h2
 rw[hR]
 simp at h1 h2
 simp[s296,hS,h1,h2]
 rw[W20 (by simp) (W4b hw _) (by rfl)]
 simp
theorem Wui(l:List Tri)(hb:b.length+8+24*l.length≤1000000):
  bm.run (.fn 296) [.c (.ptr pt 0),.c (.p (sl3 l)),.c (.fn (.func 297) [] [.ptr pw 0])] rg=some (.tup [],rg.set pt (.ac [penC (b++wdsO l)])):=
 W9u b hp hpw hne hw (l.flatMap wdO) (by simp) (fun rg=>R296 _ _ _ rg) (fun rg b h1 h2 h3 h4=>Wzw b h1 h2 hne h3 l (by rw[W4q]at h4; omega)) (by rw[W4q]; omega)
def ensO(l:List Ent):List Int:=be8 l.length++l.flatMap enO
def cesO(l:List Cel):List Int:=be8 l.length++l.flatMap ceO
theorem Wqp(l:List Ent)(hb:b.length+8+64*l.length≤1000000):
  bm.run (.fn 298) [.c (.ptr pt 0),.c (.p (slE l)),.c (.fn (.func 299) [] [.ptr pw 0])] rg=some (.tup [],rg.set pt (.ac [penC (b++ensO l)])):=
 W9u b hp hpw hne hw (l.flatMap enO) (by simp) (fun rg=>(R298 _ _ _ rg).trans rfl) (fun rg b h1 h2 h3 h4=>Wug b h1 h2 hne h3 l (by rw[W9s]at h4; omega)) (by rw[W9s]; omega)
theorem Wqq(l:List Cel)(hb:b.length+8+80*l.length≤1000000):
  bm.run (.fn 290) [.c (.ptr pt 0),.c (.p (slC l)),.c (.fn (.func 291) [] [.ptr pw 0])] rg=some (.tup [],rg.set pt (.ac [penC (b++cesO l)])):=
 W9u b hp hpw hne hw (l.flatMap ceO) (by simp) (fun rg=>(R290 _ _ _ rg).trans rfl) (fun rg b h1 h2 h3 h4=>Wuh b h1 h2 hne h3 l (by rw[W6u]at h4; omega)) (by rw[W6u]; omega)
end
theorem accV.slW{base m:List Reg}{sz:Nat}{l:List (List PV)}{v:AC}(h:accV base.length sz l (.c v) m):slW (base++m) sz l v:=by
 rcases h with ⟨rfl,h⟩ | ⟨k,h,hk⟩
 ·cases h; exact .inl ⟨rfl,rfl⟩
 ·cases h
  exact .inr ⟨_,_,rfl,by rw[W0e]; exact hk⟩
theorem Wf0(r ce s cl:Int):∀p∈W28 r ce s cl,p.length=3:=by
 intro p hp
 simp only[W28,List.mem_flatMap,splI,Y1]at hp
 obtain ⟨x,_,j,_,rfl⟩:=hp
 rfl
theorem W9v(r ce s:Int)(cl:Nat):(W28 r ce s cl).length≤1000:=by
 have:=Wb9 r ce s cl
 rw[Wex]at this
 simpa using this
def W9w(r ce s cl:Int):List (List Int):=(W28 r ce s cl).filter ownB
theorem Wl9(r ce s:Int)(code:List (List Ins))(hc:code.length≤1000)(rg:List Reg)(hw:wf rg):
  ∃im m',bm.run (.fn 61) [prgA r ce s code] rg=some (.c (.ptr im 0),rg++m')∧wf (rg++m')∧memR (rg++m') im (W9w r ce s code.length) ((W9w r ce s code.length).map fun p=>(p,[0,0,0])) []:=by
 have hw1:wf (W1d rg (prow r ce s code) (.p nilS) [] []):=by
  unfold W1d
  rw[Zr]
  exact W07 hw (by simp)
 obtain ⟨ex,s',e1,rfl,v',m',e2,e3,e4,e5⟩:=Wue rg (prow r ce s code) rg.length (W28 r ce s code.length) (W6f r ce s code.length) (Wf0 _ _ _ _) (W9v _ _ _ _) hw1
 have e6:W1d rg (prow r ce s code) v' (M0 (W28 r ce s code.length)) m'=rg++(prow r ce s code:: .ob (.mp (mpW (M0 (W28 r ce s code.length)))):: .ac [v',.hnd .mp (rg.length+1),.p nilS]::m'):=by simp[W1d]
 rw[e6]at e5 e2
 obtain ⟨ρ,m2,S,f1,f2,f3,f4,f5,f6,f7⟩:=Wgi (.c (.ptr (rg.length+2) 0)) hw e5
 have hp:=Wl5 r ce s code hc (rg++[prow r ce s code,.ob (.mp []),.ac [.p nilS,.hnd .mp (rg.length+1),.p nilS]]) (W07 hw (by simp))
 have hS:S (rg.length+2):=f4
 have hmv:Mv ρ S _ (rg++m2):=Mv.of f5 f6 f7
 have hM:memR (rg++(prow r ce s code:: .ob (.mp (mpW (M0 (W28 r ce s code.length)))):: .ac [v',.hnd .mp (rg.length+1),.p nilS]::m')) (rg.length+2) (W9w r ce s code.length) ((W9w r ce s code.length).map fun p=>(p,[0,0,0])) []:=by
  refine ⟨v',rg.length+1,.p nilS,by simp,by simp[M0,W9w],?_,.inl ⟨rfl,rfl⟩⟩
  have:=accV.slW (base:=rg++[prow r ce s code,.ob (.mp (mpW (M0 (W28 r ce s code.length)))),.ac [v',.hnd .mp (rg.length+1),.p nilS]]) (m:=m') (by simpa using e4)
  simpa[W9w]using this
 refine ⟨ρ (rg.length+2),m2,?_,f2,hmv.mem hS hM⟩
 rw[W1m]at e3
 rw[R61]
 have hm0:mpW []=[]:=_root_.rfl
 simp[W1d,hm0]at e1
 simp[Wex]at hp
 simp[s61,hw,hp,e1,e2,e3,f1,W0u,W12]
def cel0:Cel:=⟨0,0,0,0,⟨0,0,0⟩,⟨0,0,0⟩⟩
def W3u(rg:List Reg)(n:Nat)(v:AC)(m:List Reg):List Reg:=rg++[.pc 10 (List.replicate n cel0.k),.ac [.p nilS,.p (.v (.bool true)),.own rg.length 0 10 n .free,v]]++m
def upTo(j:Nat):List Int:=(List.range j).map fun i:Nat=>(i:Int)+1
theorem Wzz(rg:List Reg)(n0 n:Nat)(hn:n≤6)(hw:wf (W3u rg n (.p nilS) [])):
  ∃ex s',W02 (Wti W02 bm.run n0) ⟨[(15,I .i64 0),(14,I .i64 n),(3,.c (.ptr (rg.length+1) 0))],W3u rg n (.p nilS) []⟩=some (ex,s')∧
   (ex= .exit 0∧∃v' m',s'.regs=W3u rg n v' m'∧lkF s'.slots 3= .c (.ptr (rg.length+1) 0)∧accV (rg.length+2) 1 ((upTo n).map fun n=>[iv n]) (.c v') m'∧wf (W3u rg n v' m')):=by
 refine W0z (fun j s=>∃v' m',s=⟨[(15,I .i64 (j:Nat)),(14,I .i64 n),(3,.c (.ptr (rg.length+1) 0))],W3u rg n v' m'⟩∧accV (rg.length+2) 1 ((upTo j).map fun n=>[iv n]) (.c v') m'∧wf (W3u rg n v' m')) _ n ⟨.p nilS,[],rfl,.nil _ _ _,hw⟩ ?_ ?_
 ·rintro j hj s ⟨v1,m1,rfl,h1,hw1⟩
  have hj2:(j:Int)<n:=by omega
  have hnx:IntKind.i64.wrap ((j:Int)+1)=(j:Int)+1:=W0g (by omega) (by omega)
  have hl:(rg++[Reg.pc 10 (List.replicate n cel0.k),.ac [.p nilS,.p (.v (.bool true)),.own rg.length 0 10 n .free,v1]]).length=rg.length+2:=by simp
  obtain ⟨v',m',e1,e2,e3,e6⟩:=accV.pushK (bytes:=8) (base:=rg++[.pc 10 (List.replicate n cel0.k),.ac [.p nilS,.p (.v (.bool true)),.own rg.length 0 10 n .free,v1]]) (m:=m1) [iv ((j:Int)+1)] (by rw[hl]; exact h1) (by simp[upTo]; omega) (by simp[upTo]; omega) hw1
  obtain ⟨x,rfl⟩:=e2.ac
  rw[hl]at e2
  have hc:cellsOf (.c x)=some [x]:=by rcases e2 with ⟨_,h⟩ | ⟨_,h,_⟩<;>cases h<;>rfl
  simp at e1
  have e5:rg.length+(m1.length+2)=rg.length+2+m1.length:=by omega
  refine ⟨_,?_,x,m',rfl,by simpa[upTo,List.range_succ]using e2,?_⟩
  ·simp[Wti,W3u,hj2,hnx]
   rw[e5]
   simp[e1,hc]
  ·have hx3:acLt (rg.length+2+m'.length) x=true:=by
    have:=e2.lt (k:=rg.length+2+m'.length) (Z8 _)
    simpa[avLt]using this
   simp only[W3u,wf,Xf,Y2,X6,W18,acLt,Z5,Yh,Yv,Z4,Yu]at e3 ⊢
   refine ⟨⟨e3.1.1,trivial,trivial,trivial,?_,hx3⟩,e3.2⟩
   simp; omega
 ·rintro s ⟨v1,m1,rfl,h1,hw1⟩
  refine ⟨.exit 0,_,by simp[Wti]; rfl,by simp,rfl,v1,m1,rfl,rfl,h1,hw1⟩
theorem Wqr(ce:Int)(rg:List Reg)(hw:wf rg):
  ∃ia m',bm.run (.fn 62) [I .i64 ce] rg=some (.c (.ptr ia 0),rg++m')∧wf (rg++m')∧arR (rg++m') ia (List.replicate (W0o ce 0 6).toNat cel0) (upTo (W0o ce 0 6).toNat) []:=by
 have hcl:=W2x ce 6 (by omega)
 generalize hcn:(W0o ce 0 6).toNat=n
 have hcz:W0o ce 0 6=(n:Int):=by omega
 have hn:n≤6:=by omega
 have hw1:wf (W3u rg n (.p nilS) []):=by
  unfold W3u
  rw[Zr]
  exact W07 hw (by simp)
 obtain ⟨ex,s',e1,rfl,v',m',e2,e3,e4,e5⟩:=Wzz rg rg.length n hn hw1
 have e6:W3u rg n v' m'=rg++(.pc 10 (List.replicate n cel0.k):: .ac [.p nilS,.p (.v (.bool true)),.own rg.length 0 10 n .free,v']::m'):=by simp[W3u]
 rw[e6]at e5 e2
 obtain ⟨ρ,m2,S,f1,f2,f3,f4,f5,f6,f7⟩:=Wgi (.c (.ptr (rg.length+1) 0)) hw e5
 have hS:S (rg.length+1):=f4
 have hmv:Mv ρ S _ (rg++m2):=Mv.of f5 f6 f7
 have hM:arR (rg++(.pc 10 (List.replicate n cel0.k):: .ac [.p nilS,.p (.v (.bool true)),.own rg.length 0 10 n .free,v']::m')) (rg.length+1) (List.replicate n cel0) (upTo n) []:=by
  refine ⟨.p nilS,.own rg.length 0 10 n .free,v',by simp,.inr ⟨rg.length,.free,by simp,by simp⟩,?_,trA.nil _⟩
  have:=accV.slW (base:=rg++[.pc 10 (List.replicate n cel0.k),.ac [.p nilS,.p (.v (.bool true)),.own rg.length 0 10 n .free,v']]) (m:=m') (by simpa using e4)
  rcases this with h | ⟨id,cap,h1,h2⟩
  ·exact .inl h
  ·exact .inr (.inr ⟨id,0,cap,_,h1,by simpa using h2,by simp,by simp⟩)
 refine ⟨ρ (rg.length+1),m2,?_,f2,hmv.ar hS hM⟩
 rw[W1m]at e3
 rw[R62]
 have hz:(List.map PV.v [Value.int .i64 0,.int .i64 0,.int .i64 0,.int .i64 0,.int .i64 0,.int .i64 0,.int .i64 0,.int .i64 0,.int .i64 0,.int .i64 0])=cel0.k:=rfl
 have hmk:vmks rg 10 80 [Value.int .i64 0,.int .i64 0,.int .i64 0,.int .i64 0,.int .i64 0,.int .i64 0,.int .i64 0,.int .i64 0,.int .i64 0,.int .i64 0] (I .i64 n) (I .i64 n)=some (.c (.own rg.length 0 10 n .free),rg++[.pc 10 (List.replicate n cel0.k)]):=by
  simp only[vmks,W0m,hz]
  rw[if_pos (by omega)]
  simp
 simp[W3u]at e1
 simp[s62,hw,hcz,hmk,e1,e2,e3,f1,W0u,W12]
end Go.Sim
namespace Go.Sim
open Go.RowKit Go.Proofs.YtahoelmjfgoedaaGreat.T
attribute [-simp] vfld W0n W1n
attribute [simp] W9t
def bufM(n0:Nat)(m:List Reg)(room:Nat)(b:Nat×Nat):Prop:=∃q q',b=(n0+q,n0+q')∧m[q]?=some (.ac [.hnd .ch (n0+q')])∧m[q']?=some (.ob (.ch room []))
theorem bufM.stayV{n0 room:Nat}{b:Nat×Nat}{m m':List Reg}(h:bufM n0 m room b)(hs:stayV m m'):bufM n0 m' room b:=by
 obtain ⟨q,q',h0,h1,h2⟩:=h
 exact ⟨q,q',h0,hs _ _ h1 (fun _ _ e=>by cases e),hs _ _ h2 (fun _ _ e=>by cases e)⟩
theorem bufM.stayE{n0 room:Nat}{b:Nat×Nat}{m m':List Reg}(h:bufM n0 m room b)(hs:stayE m m'):bufM n0 m' room b:=by
 obtain ⟨q,q',h0,h1,h2⟩:=h
 exact ⟨q,q',h0,hs _ _ h1 (fun _ _ e=>by cases e),hs _ _ h2 (fun _ _ e=>by cases e)⟩
theorem bufM.lt{n0 room:Nat}{b:Nat×Nat}{m:List Reg}(h:bufM n0 m room b):b.1<n0+m.length∧b.2<n0+m.length:=by
 obtain ⟨q,q',rfl,h1,h2⟩:=h
 have:=(Z3.1 h1).1
 have:=(Z3.1 h2).1
 simp only
 omega
def su0:Su:=⟨0,0,0,0,0,0,0,0,0,false,false,false,false,false⟩
def W2c(B:List Reg)(im ia:Nat)(P:Prg)(c:Cfg)(vt vb:AC)(m:List Reg):List Reg:=B++[.ac (W0d im ia su0 P c vt vb (.p nilS))]++m
def ptrL(L:List (Nat×Nat)):List (List AC):=L.map fun b=>[.ptr b.1 0]
theorem wf_m{B:List Reg}{im ia:Nat}{P:Prg}{c:Cfg}{vt vb vt' vb':AC}{m:List Reg}(h:wf (W2c B im ia P c vt vb m))(h1:acLt (B.length+1+m.length) vt'=true)(h2:acLt (B.length+1+m.length) vb'=true):wf (W2c B im ia P c vt' vb' m):=by
 simp only[W2c,W0d,wf,Xf,Y2,X6,W18,acLt,Z5,Yh,Yv,Z4,Yu]at h ⊢
 simp only[Xn]at h ⊢
 refine ⟨⟨h.1.1,?_⟩,h.2⟩
 obtain ⟨a1,a2,a3⟩:=h.1.2
 refine ⟨a1,a2,?_⟩
 simp only[true_and,and_true]at a3 ⊢
 exact ⟨h1,h2⟩
set_option maxHeartbeats 1000000 in
theorem Wqs(B:List Reg)(im ia pc n0 n:Nat)(P:Prg)(c:Cfg)(hn:n≤1000)(j:Nat)(hj:j<n)(hp:B[pc]?=some (.ac (c.k.map .p)))(vt vb:AC)(m:List Reg)(L:List (Nat×Nat))(hL:L.length=j)
  (h1:accV (B.length+1) 22 (List.replicate j (thr0 (W0o c.fuel 0 16)).k) (.c vt) m) (h2:accE (B.length+1) 1 (ptrL L) (.c vb) m) (h3:∀b∈L,bufM (B.length+1) m (W0o c.depth 0 4).toNat b)
  (hd1:(L.map (·.1)).Nodup) (hd2:(L.map (·.2)).Nodup) (hw:wf (W2c B im ia P c vt vb m)):
  ∃vt' vb' m' L',Wpk W02 bm.run n0 ⟨[(32,I .i64 (j:Nat)),(31,I .i64 n),(7,.c (.ptr B.length 0)),(3,.c (.ptr pc 0))],W2c B im ia P c vt vb m⟩=some (.normal,⟨[(32,I .i64 (j+1:Nat)),(31,I .i64 n),(7,.c (.ptr B.length 0)),(3,.c (.ptr pc 0))],W2c B im ia P c vt' vb' m'⟩)∧
   L'.length=j+1∧accV (B.length+1) 22 (List.replicate (j+1) (thr0 (W0o c.fuel 0 16)).k) (.c vt') m'∧accE (B.length+1) 1 (ptrL L') (.c vb') m'∧(∀b∈L',bufM (B.length+1) m' (W0o c.depth 0 4).toNat b)∧(L'.map (·.1)).Nodup∧(L'.map (·.2)).Nodup∧wf (W2c B im ia P c vt' vb' m'):=by
 have hj2:(j:Int)<n:=by omega
 have hnx:IntKind.i64.wrap ((j:Int)+1)=(j:Int)+1:=W0g (by omega) (by omega)
 have hlb:∀vt vb,(B++[Reg.ac (W0d im ia su0 P c vt vb (.p nilS))]).length=B.length+1:=fun _ _=>by simp
 obtain ⟨vt1,m1,_,e1,e2,e3,e4⟩:=accV.pushS (bytes:=224) (base:=B++[.ac (W0d im ia su0 P c vt vb (.p nilS))]) (m:=m) (thr0 (W0o c.fuel 0 16)).k (by rw[hlb]; exact h1) (by simp; omega) (by simp; omega) hw
 rw[hlb]at e1 e2
 have hv1:acLt (B.length+1+m1.length) vt1=true:=by simpa[avLt]using e2.lt (Z8 _)
 have h2':=h2.stayV e4
 have hvb:acLt (B.length+1+m1.length) vb=true:=by simpa[avLt]using h2'.lt (Z8 _)
 have hw1:wf (W2c B im ia P c vt1 vb m1):=wf_m e3 hv1 hvb
 have hbn:=Wl6 c.depth (W2c B im ia P c vt1 vb m1) hw1
 have hrl:(W2c B im ia P c vt1 vb m1).length=B.length+1+m1.length:=by simp[W2c]; omega
 rw[hrl]at hbn
 have hma:∀(vt vb:AC) (m x:List Reg),W2c B im ia P c vt vb m++x=W2c B im ia P c vt vb (m++x):=fun _ _ m x=>by simp[W2c]
 rw[hma]at hbn
 have hw2:wf (W2c B im ia P c vt1 vb (m1++[.ob (.ch (W0o c.depth 0 4).toNat []),.ac [.hnd .ch (B.length+1+m1.length)]])):=by
  rw[←hma]
  refine W07 hw1 ?_
  simp[hrl]
 have hE2:=h2'.more [.ob (.ch (W0o c.depth 0 4).toNat []),.ac [.hnd .ch (B.length+1+m1.length)]]
 have h3b:∀b∈L,bufM (B.length+1) m1 (W0o c.depth 0 4).toNat b:=fun b hb=>(h3 b hb).stayV e4
 obtain ⟨vb2,m2,f1,f2,f3,f4⟩:=accE.push (bytes:=8) (base:=B++[.ac (W0d im ia su0 P c vt1 vb (.p nilS))]) (m:=m1++[.ob (.ch (W0o c.depth 0 4).toNat []),.ac [.hnd .ch (B.length+1+m1.length)]]) (v:= .c vb) [.ptr (B.length+1+m1.length+1) 0]
  (by rw[hlb]; exact hE2) (by simp[ptrL]; omega) (by simp[ptrL]; omega) hw2 (by simp[acLt]; omega) (by
   rw[hlb]
   simp only[ptrL,List.all_map,Za,Function.comp]
   intro b hb
   have:=(h3b b hb).lt.1
   simp[acLt]; omega)
 obtain ⟨x,rfl⟩:=f2.ac
 rw[hlb]at f1 f2
 have hvx:acLt (B.length+1+m2.length) x=true:=by simpa[avLt]using f2.lt (Z8 _)
 have f4':stayE (m1++[.ob (.ch (W0o c.depth 0 4).toNat []),.ac [.hnd .ch (B.length+1+m1.length)]]) m2:=f4
 have e2':accV (B.length+1) 22 (List.replicate j (thr0 (W0o c.fuel 0 16)).k++[(thr0 (W0o c.fuel 0 16)).k]) (.c vt1) m2:=(e2.more _).stayE f4'
 have hv2:acLt (B.length+1+m2.length) vt1=true:=by simpa[avLt]using e2'.lt (Z8 _)
 refine ⟨vt1,x,m2,L++[(B.length+1+(m1.length+1),B.length+1+m1.length)],?_,by simp[hL],?_,?_,?_,?_,?_,wf_m f3 hv2 hvx⟩
 ·have hpc:∀l,(B++l)[pc]?=some (.ac (c.k.map .p)):=fun l=>W0b hp l
  have hc1:cellsOf (.c vt1)=some [vt1]:=by rcases e2 with ⟨_,h⟩ | ⟨_,h,_⟩<;>cases h<;>rfl
  have hcx:cellsOf (.c x)=some [x]:=by rcases f2 with ⟨_,h⟩ | ⟨_,h,_⟩<;>cases h<;>rfl
  have hft:flV (.c vt)=true:=by rcases h1 with ⟨_,h⟩ | ⟨_,h,_⟩<;>cases h<;>rfl
  have hfb:flV (.c vb)=true:=by rcases h2 with ⟨_,h⟩ | ⟨_,h,_⟩<;>cases h<;>rfl
  have hbg:=Wqe c (W2c B im ia P c vt vb m) hw
  simp only[W2c,W0d]at hbn hbg e1 f1 ⊢
  simp at hbn hbg e1 f1 hpc
  have e5:B.length+(m.length+1)=B.length+1+m.length:=by omega
  simp[Wpk,hj2,hnx,hpc,hbg,hft]
  rw[e5,e1]
  have e6:B.length+(m1.length+3)=B.length+1+(m1.length+2):=by omega
  simp[hc1,hpc,hbn,hfb]
  rw[e6,f1]
  simp[hcx]
 ·rw[Xq]; exact e2'
 ·simp only[ptrL,Yz,Zh,Y9]
  exact f2
 ·intro b hb
  rw[Zg,X1]at hb
  rcases hb with hb | rfl
  ·refine bufM.stayE ?_ f4'
   obtain ⟨q,q',h0,h1,h2⟩:=h3b b hb
   exact ⟨q,q',h0,W0b h1 _,W0b h2 _⟩
  ·exact ⟨m1.length+1,m1.length,rfl,f4' _ _ (by simp) (fun _ _ e=>by cases e),f4' _ _ (by simp) (fun _ _ e=>by cases e)⟩
 ·rw[Yz,List.nodup_append]
  refine ⟨hd1,by simp,?_⟩
  simp only[Y1,Zh,Y9,X1]
  rintro _ ⟨b,hb,rfl⟩ _ rfl
  have:=(h3b b hb).lt.1
  omega
 ·rw[Yz,List.nodup_append]
  refine ⟨hd2,by simp,?_⟩
  simp only[Y1,Zh,Y9,X1]
  rintro _ ⟨b,hb,rfl⟩ _ rfl
  have:=(h3b b hb).lt.2
  omega
theorem Wuj(B:List Reg)(im ia pc n0 n:Nat)(P:Prg)(c:Cfg)(hn:n≤1000)(hp:B[pc]?=some (.ac (c.k.map .p)))(hw:wf (W2c B im ia P c (.p nilS) (.p nilS) [])):
  ∃ex s',W02 (Wpk W02 bm.run n0) ⟨[(32,I .i64 0),(31,I .i64 n),(7,.c (.ptr B.length 0)),(3,.c (.ptr pc 0))],W2c B im ia P c (.p nilS) (.p nilS) []⟩=some (ex,s')∧
   (ex= .exit 0∧∃vt vb m L,lkF s'.slots 7= .c (.ptr B.length 0)∧s'.regs=W2c B im ia P c vt vb m∧L.length=n∧accV (B.length+1) 22 (List.replicate n (thr0 (W0o c.fuel 0 16)).k) (.c vt) m∧accE (B.length+1) 1 (ptrL L) (.c vb) m∧(∀b∈L,bufM (B.length+1) m (W0o c.depth 0 4).toNat b)∧(L.map (·.1)).Nodup∧(L.map (·.2)).Nodup∧wf (W2c B im ia P c vt vb m)):=by
 refine W0z (fun j s=>∃vt vb m L,s=⟨[(32,I .i64 (j:Nat)),(31,I .i64 n),(7,.c (.ptr B.length 0)),(3,.c (.ptr pc 0))],W2c B im ia P c vt vb m⟩∧L.length=j∧accV (B.length+1) 22 (List.replicate j (thr0 (W0o c.fuel 0 16)).k) (.c vt) m∧accE (B.length+1) 1 (ptrL L) (.c vb) m∧(∀b∈L,bufM (B.length+1) m (W0o c.depth 0 4).toNat b)∧(L.map (·.1)).Nodup∧(L.map (·.2)).Nodup∧wf (W2c B im ia P c vt vb m)) _ n ⟨.p nilS,.p nilS,[],[],rfl,rfl,.nil _ _ _,.nil _ _ _,by simp,by simp,by simp,hw⟩ ?_ ?_
 ·rintro j hj s ⟨vt,vb,m,L,rfl,hL,h1,h2,h3,h4,h5,h6⟩
  obtain ⟨vt',vb',m',L',e,r⟩:=Wqs B im ia pc n0 n P c hn j hj hp vt vb m L hL h1 h2 h3 h4 h5 h6
  exact ⟨_,e,vt',vb',m',L',rfl,r⟩
 ·rintro s ⟨vt,vb,m,L,rfl,r⟩
  refine ⟨.exit 0,_,by simp[Wpk]; rfl,by simp,rfl,vt,vb,m,L,rfl,rfl,r⟩
def Su.touchN(u:Su):Nat→Su
 | 0=>u
 | n+1=>(u.touchN n).touch n
theorem Wla(q n0 n:Nat)(hn:n≤4)(im ia:Nat)(u:Su)(P:Prg)(c:Cfg)(vt vb vr:AC)(rg:List Reg)(hr:rg[q]?=some (.ac (W0d im ia u P c vt vb vr))):
  ∃s',W02 (Wpj W02 bm.run n0) ⟨[(63,I .i64 0),(62,I .i64 n),(7,.c (.ptr q 0))],rg⟩=some (.exit 2,s')∧lkF s'.slots 7= .c (.ptr q 0)∧s'.regs=rg.set q (.ac (W0d im ia (u.touchN n) P c vt vb vr)):=by
 have hset:∀x,(rg.set q x)[q]?=some x:=fun x=>W1r hr x
 have h0:rg.set q (.ac (W0d im ia (u.touchN 0) P c vt vb vr))=rg:=by
  apply Yx
  intro i
  by_cases h:q=i
  ·subst h; rw[hset,hr]; rfl
  ·rw[Zv h]
 have key:=W0y (body:=Wpj W02 bm.run n0) (fun j=>⟨[(63,I .i64 (j:Nat)),(62,I .i64 n),(7,.c (.ptr q 0))],rg.set q (.ac (W0d im ia (u.touchN j) P c vt vb vr))⟩) n (fun i hi=>by
  have hi2:(i:Int)<n:=by omega
  have hnx:IntKind.i64.wrap ((i:Int)+1)=(i:Int)+1:=W0g (by omega) (by omega)
  have ht:=Wql q i (by omega) im ia (u.touchN i) P c vt vb vr _ (hset _)
  rw[Xo]at ht
  simp[Wpj,hi2,hnx,ht,Su.touchN]) (e:= .exit 2) (s':=⟨[(64,Bo false),(63,I .i64 n),(62,I .i64 n),(7,.c (.ptr q 0))],rg.set q (.ac (W0d im ia (u.touchN n) P c vt vb vr))⟩) (by simp[Wpj]) (by simp)
 rw[h0]at key
 exact ⟨_,key,rfl,rfl⟩
end Go.Sim
namespace Go.Sim
open Go.RowKit
def w0:Tri:=⟨0,0,0⟩
def act0:Atn:=⟨0,w0,w0,w0,w0,0⟩
def thru(w:Tri)(f:Int):Tri:=if 0<w.b then ⟨3,w.b,f⟩else w0
def thrN(n:Int):Int:=if 4<n then 4 else n
def W5o(n slots:Int):Int:=W0o n 0 4*W0o slots 0 2
def Wba(i n slots:Int):Option Tri:=if inB i 0 (W5o n slots-1)=true then some ⟨5,i.tdiv (W0o slots 0 2),i.tmod (W0o slots 0 2)⟩else none
def W4c(n slots:Int)(m:Mic):Option Tri:=
 if m.kind=2 then Wba m.i (thrN n) slots
 else if m.kind=4∨m.kind=6 then some ⟨6,0,0⟩
 else if m.kind=5 then (if inB m.i 0 (thrN n-1)=true then some ⟨7,m.i,0⟩else none)
 else if m.kind=7∨m.kind=8 then (if inB m.i 0 (thrN n-1)=true then some ⟨8,m.i,0⟩else none)
 else none
def Wuk(n:Int):Int:=IntKind.i64.wrap (IntKind.i64.wrap (2*n)+1)
def Wci(n slots t:Int)(m:Mic):Atn:=
 if m.kind=1 then ⟨3,⟨7,t,0⟩,w0,w0,W21 (Wuk m.n),0⟩
 else if m.kind=6 then ⟨4,⟨6,0,0⟩,w0,W21 m.n,W21 (IntKind.i64.wrap (m.n+1)),0⟩
 else if m.kind=3 then ⟨10,w0,w0,w0,w0,0⟩
 else match W4c n slots m with
  | some x=>⟨9,x,w0,w0,w0,0⟩
  | none=>act0
def W3v(t:Int)(th:Thr)(x:Ins)(own:Int):Atn:=
 if x.op=17 then ⟨5,w0,w0,w0,w0,0⟩
 else if x.op=11 then ⟨2,⟨1,x.b,0⟩,w0,w0,w0,0⟩
 else if x.op=12 then ⟨3,⟨1,x.a,0⟩,w0,w0,th.get x.b,0⟩
 else if x.op=13 then ⟨4,⟨1,x.n,0⟩,w0,th.get x.b,th.get x.c,0⟩
 else if x.op=14 then ⟨2,thru (th.get x.b) x.n,th.get x.b,w0,w0,(th.get x.b).c⟩
 else if x.op=15 then ⟨3,thru (th.get x.a) x.n,th.get x.a,w0,th.get x.b,(th.get x.a).c⟩
 else if x.op=16 then ⟨4,thru (th.get x.a) x.n,th.get x.a,th.get x.b,th.get x.c,(th.get x.a).c⟩
 else if x.op=18 then ⟨6,w0,w0,w0,w0,0⟩
 else if x.op=19 then ⟨7,w0,th.get x.a,w0,w0,0⟩
 else if x.op=20 then ⟨8,w0,th.get x.a,w0,w0,0⟩
 else if x.op=21 then ⟨3,⟨5,t,x.n⟩,w0,w0,th.get x.a,0⟩
 else if x.op=22 then ⟨3,⟨5,t,x.n⟩,w0,w0,w0,0⟩
 else if x.op=23 then ⟨2,⟨6,0,0⟩,w0,w0,w0,0⟩
 else if x.op=24 then ⟨3,⟨7,t,0⟩,w0,w0,w0,0⟩
 else ⟨3,⟨8,t,0⟩,w0,w0,W21 (IntKind.i64.wrap (own+1)),0⟩
def W3w(n slots t:Int)(th:Thr)(l:List Ins)(own:Int):Atn:=
 if th.done l.length=true then act0
 else if (th.nxt l).2=false then Wci n slots t th.mi
 else if (!W9l (th.nxt l).1.op&& !decide ((th.nxt l).1.op=17))=true then ⟨1,w0,w0,w0,w0,0⟩
 else W3v t th (th.nxt l).1 own
def W4r(th:Thr)(l:List Ins):Ins:=if (th.done l.length|| !decide (th.mi.kind=0))=true then ins0 else l.getD th.pc.toNat ins0
def W5p(th:Thr)(l:List Ins):Bool:=
 decide (th.mi.kind=1)||(decide ((W4r th l).op=12)||(decide ((W4r th l).op=15)||(decide ((W4r th l).op=21)||(decide ((W4r th l).op=22)||(decide ((W4r th l).op=24)||decide ((W4r th l).op=25))))))
def W4s(th:Thr)(l:List Ins):Bool:=
 decide (th.mi.kind=6)||(decide ((W4r th l).op=13)||(decide ((W4r th l).op=16)||decide ((W4r th l).op=17)))
def okMi(n slots:Int)(m:Mic):Prop:=m.kind=0∨m.kind=1∨m.kind=3∨m.kind=4∨m.kind=6∨(m.kind=2∧inB m.i 0 (W5o (thrN n) slots-1)=true)∨((m.kind=5∨m.kind=7∨m.kind=8)∧inB m.i 0 (thrN n-1)=true)
theorem Wul(n slots t:Int)(th:Thr)(l:List Ins)(own:Int)(h:th.done l.length=true):W3w n slots t th l own=act0:=by
 unfold W3w; rw[if_pos h]
theorem Wum(n slots t:Int)(th:Thr)(l:List Ins)(own:Int)(h:th.done l.length=false)(hm:okMi n slots th.mi)(ho:∀x∈l,1≤x.op∧x.op≤25):
  (W3w n slots t th l own).kind≠0∧decide ((W3w n slots t th l own).kind=3)=W5p th l∧(decide ((W3w n slots t th l own).kind=4)||decide ((W3w n slots t th l own).kind=5))=W4s th l:=by
 by_cases hk:th.mi.kind=0
 ·obtain ⟨h0,h1⟩:=Thr.done_pc h hk
  have h2:th.pc.toNat<l.length:=by omega
  have h3:l[th.pc.toNat]?=some (l[th.pc.toNat]'h2):=Z2 h2
  have h4:l.getD th.pc.toNat ins0=l[th.pc.toNat]'h2:=by rw[Zc,h3]; rfl
  have h5:=ho _ (Zl h2)
  have e1:th.nxt l=(l[th.pc.toNat]'h2,true):=by unfold Thr.nxt; rw[h,hk,h4]; rfl
  have e2:W4r th l=l[th.pc.toNat]'h2:=by unfold W4r; rw[h,hk,h4]; rfl
  generalize l[th.pc.toNat]'h2=x at e1 e2 h5
  have:x.op=1∨x.op=2∨x.op=3∨x.op=4∨x.op=5∨x.op=6∨x.op=7∨x.op=8∨x.op=9∨x.op=10∨x.op=11∨x.op=12∨x.op=13∨x.op=14∨x.op=15∨x.op=16∨x.op=17∨x.op=18∨x.op=19∨x.op=20∨x.op=21∨x.op=22∨x.op=23∨x.op=24∨x.op=25:=by omega
  unfold W3w W5p W4s
  rw[h,e1,e2]
  rcases this with h | h | h | h | h | h | h | h | h | h | h | h | h | h | h | h | h | h | h | h | h | h | h | h | h<;>simp[h,hk,W9l,W3v]
 ·have e1:th.nxt l=(ins0,false):=by simp[Thr.nxt,h,hk]
  have e2:W4r th l=ins0:=by simp[W4r,h,hk]
  unfold W3w W5p W4s
  rw[h,e1,e2]
  rcases hm with h | h | h | h | h | ⟨h,hi⟩ | ⟨h | h | h,hi⟩
  ·exact absurd h hk
  all_goals simp[h,ins0,Wci,W4c,Wba,act0]
  all_goals simp[hi]
def triL(x:Tri):List Int:=[x.a,x.b,x.c]
def atW(each:Int)(s:Ste)(p:List Int):Tri:=
 if p.headD 0=1 then s.roots.getD (p.getD 1 0).toNat w0 else if p.headD 0=5 then s.slots.getD (p.getD 1 0*each+p.getD 2 0).toNat w0 else if p.headD 0=6 then ⟨s.epoch,0,0⟩else if p.headD 0=7 then ⟨s.marks.getD (p.getD 1 0).toNat 0,0,0⟩else ⟨s.counts.getD (p.getD 1 0).toNat 0,0,0⟩
def Prg.keys(P:Prg):List (List Int):=W9w P.roots P.cells P.slots P.code.length
def memM(P:Prg)(s:Ste):List (List Int×List Int):=P.keys.map fun p=>(p,triL (atW P.slots s p))
structure Snap where
 t:Int
 th:Thr
 b:Nat×Nat
 q:List Ent
 mm:Int
 am:Int
 u:Su
def Su.k(u:Su):List PV:=[.v (.int .u64 u.sh),.v (.int .u64 u.t0),.v (.int .u64 u.t1),.v (.int .u64 u.t2),.v (.int .u64 u.t3),.v (.int .u64 u.b0),.v (.int .u64 u.b1),.v (.int .u64 u.b2),.v (.int .u64 u.b3),.v (.bool u.old),.v (.bool u.s0),.v (.bool u.s1),.v (.bool u.s2),.v (.bool u.s3)]
def Snap.cells(x:Snap):List AC:= .p (iv x.t)::(x.th.k.map .p++(.ptr x.b.1 0:: .p (iv x.mm):: .p (iv x.am)::x.u.k.map .p))
def entP(e:Ent):PW:=(true,e.k)
def bufAt(rg:List Reg)(room:Nat)(b:Nat×Nat)(q:List Ent):Prop:=rg[b.1]?=some (.ac [.hnd .ch b.2])∧rg[b.2]?=some (.ob (.ch room (q.map entP)))
def allB(L:List (Nat×Nat))(s:Ste)(tr:List Snap):List ((Nat×Nat)×List Ent):=L.zip s.buf++tr.map fun x=>(x.b,x.q)
structure machR(rg:List Reg)(q:Nat)(P:Prg)(c:Cfg)(s:Ste)(u:Su)(mtr:List (List PV))(atr:List (Int×Cel×List Int))(tr:List Snap)(L:List (Nat×Nat))(im ia:Nat)(vt vb vr:AC):Prop where
 row:rg[q]?=some (.ac (W0d im ia u P c vt vb vr))
 mem:memR rg im P.keys (memM P s) mtr
 ar:arR rg ia s.cells s.free atr
 thr:slW rg 22 (s.thr.map Thr.k) vt
 buf:rwE rg 1 (ptrL L) vb
 tra:rwE rg 40 (tr.map Snap.cells) vr
 len:L.length=s.buf.length
 bufs:∀x∈allB L s tr,bufAt rg c.depth.toNat x.1 x.2
 nd1:((allB L s tr).map fun x=>x.1.1).Nodup
 nd2:((allB L s tr).map fun x=>x.1.2).Nodup
def renB(ρ:Nat→Nat)(b:Nat×Nat):Nat×Nat:=(ρ b.1,ρ b.2)
def Snap.ren(ρ:Nat→Nat)(x:Snap):Snap:={x with b:=renB ρ x.b}
theorem Wf1{α:Type}{ρ:Nat→Nat}{l:List α}{f:α→Nat}(h:(l.map f).Nodup)(hi:∀x∈l,∀y∈l,ρ (f x)=ρ (f y)→f x=f y):(l.map fun x=>ρ (f x)).Nodup:=by
 rw[List.nodup_iff_pairwise_ne,List.pairwise_map]at h ⊢
 refine List.Pairwise.imp_of_mem ?_ h
 intro a b ha hb hne he
 exact hne (hi a ha b hb he)
theorem Wcj(ρ:Nat→Nat)(L:List (Nat×Nat))(s:Ste)(tr:List Snap):allB (L.map (renB ρ)) s (tr.map (Snap.ren ρ))=(allB L s tr).map fun x=>(renB ρ x.1,x.2):=by
 unfold allB
 rw[Yz,X2,X2,List.zip_map_left]
 congr 1
theorem V00{ρ:Nat→Nat}{S:Nat→Prop}{rg rg':List Reg}(hm:Mv ρ S rg rg'){room:Nat}{b:Nat×Nat}{q:List Ent}(hS:S b.1)(h:bufAt rg room b q):bufAt rg' room (renB ρ b) q∧S b.2:=by
 obtain ⟨h1,h2⟩:=h
 have hc:=hm.cl _ _ hS h1
 simp only[regP,Zq,Xw,or_false,forall_eq]at hc
 exact ⟨⟨hm.get _ _ hS h1 rfl,hm.get _ _ hc h2 rfl⟩,hc⟩
theorem Wun(ρ:Nat→Nat)(x:Snap):x.cells.map (W12 ρ)=(x.ren ρ).cells:=by
 simp only[Snap.cells,Snap.ren,Zh,Yz,Wqk,W12,renB]
theorem Mv.mach{ρ:Nat→Nat}{S:Nat→Prop}{rg rg':List Reg}(hm:Mv ρ S rg rg'){q:Nat}{P c s u mtr atr tr L im ia vt vb vr}(hS:S q)(h:machR rg q P c s u mtr atr tr L im ia vt vb vr):
  machR rg' (ρ q) P c s u mtr atr (tr.map (Snap.ren ρ)) (L.map (renB ρ)) (ρ im) (ρ ia) (W12 ρ vt) (W12 ρ vb) (W12 ρ vr):=by
 have hc:=hm.cl _ _ hS h.row
 simp only[W0d,regP,Zq,Xw,or_false,forall_eq_or_imp,forall_eq]at hc
 obtain ⟨c1,c2,_,_,_,_,_,_,_,_,_,_,_,_,_,_,_,_,_,_,_,_,_,_,_,c3,c4,c5⟩:=hc
 obtain ⟨b1,b2⟩:=hm.rwE c4 h.buf
 obtain ⟨t1,t2⟩:=hm.rwE c5 h.tra
 have hb:∀x∈allB L s tr,S x.1.1:=by
  intro x hx
  rcases Zg.1 hx with hx | hx
  ·have hl:=(List.of_mem_zip hx).1
   exact b2 [.ptr x.1.1 0] (Y1.2 ⟨x.1,hl,rfl⟩) (.ptr x.1.1 0) (X1.2 rfl)
  ·obtain ⟨y,hy,rfl⟩:=Y1.1 hx
   exact t2 y.cells (List.mem_map_of_mem hy) (.ptr y.b.1 0) (by simp[Snap.cells])
 have hall:=fun x hx=>V00 hm (hb x hx) (h.bufs x hx)
 refine ⟨hm.get _ _ hS h.row rfl,hm.mem c1 h.mem,hm.ar c2 h.ar,hm.slW c3 h.thr,?_,?_,by simpa using h.len,?_,?_,?_⟩
 ·have e:(ptrL L).map (fun k=>k.map (W12 ρ))=ptrL (L.map (renB ρ)):=by simp[ptrL,W12,renB]
  rw[e]at b1; exact b1
 ·have e:(tr.map Snap.cells).map (fun k=>k.map (W12 ρ))=(tr.map (Snap.ren ρ)).map Snap.cells:=by simp only[X2,Yq,Wun]
  rw[e]at t1; exact t1
 ·rw[Wcj]
  intro x hx
  obtain ⟨y,hy,rfl⟩:=Y1.1 hx
  exact (hall y hy).1
 ·rw[Wcj,X2]
  refine Wf1 h.nd1 fun x hx y hy he=> ?_
  exact hm.inj _ _ _ _ (hb x hx) (hb y hy) (h.bufs x hx).1 (h.bufs y hy).1 rfl rfl he
 ·rw[Wcj,X2]
  refine Wf1 h.nd2 fun x hx y hy he=> ?_
  exact hm.inj _ _ _ _ (hall x hx).2 (hall y hy).2 (h.bufs x hx).2 (h.bufs y hy).2 rfl rfl he
end Go.Sim
namespace Go.Sim
open Go.RowKit Go.Proofs.YtahoelmjfgoedaaGreat.T
attribute [-simp] vfld W0n W1n
def W1t(P:Prg)(c:Cfg):Ste:=
 ⟨List.replicate P.code.length (thr0 c.fuel),List.replicate P.code.length [],List.replicate P.roots.toNat w0,List.replicate (P.code.length*P.slots.toNat) w0,List.replicate (W0o P.cells 0 6).toNat cel0,upTo (W0o P.cells 0 6).toNat,0,List.replicate P.code.length 0,List.replicate P.code.length 0⟩
theorem Wuo{α:Type}(n i:Nat)(a:α):(List.replicate n a).getD i a=a:=by
 rw[Zc,List.getElem?_replicate]
 split<;>rfl
theorem Wup(P:Prg)(c:Cfg)(p:List Int):triL (atW P.slots (W1t P c) p)=[0,0,0]:=by
 simp only[atW,W1t,Wuo,triL,w0,ite_self]
theorem Wqt(P:Prg)(c:Cfg):memM P (W1t P c)=P.keys.map fun p=>(p,[0,0,0]):=by
 simp only[memM,Wup]
abbrev prgP(P:Prg):AV:=prgA P.roots P.cells P.slots P.code
def newE(P:Prg)(c:Cfg):Int:=if chkP P.roots P.cells P.slots P.code=0 then (if c.ok=true then 0 else 3)else chkP P.roots P.cells P.slots P.code
theorem Wuq(P:Prg)(c:Cfg)(hc:P.code.length≤1000)(hl:∀l∈P.code,l.length≤1000)(h:newE P c≠0)(rg:List Reg)(hw:wf rg):bm.run (.fn 18) [prgP P,cfgA c] rg=some (.tup [nilp,I .i64 (newE P c)],rg):=by
 have hw1:wf (rg++[prow P.roots P.cells P.slots P.code,.ac (c.k.map .p)]):=W07 hw (by simp)
 have h1:=W9q P.roots P.cells P.slots P.code hc hl _ hw1
 have h2:=Wj9 c _ hw1
 have hw2:wf (rg++[prow P.roots P.cells P.slots P.code,.ac (c.k.map .p),.pc 1 [[iv (chkP P.roots P.cells P.slots P.code)],[iv (if c.ok=true then 0 else 3)]]]):=W07 hw (by simp)
 have h3:=Wwn (chkP P.roots P.cells P.slots P.code) (if c.ok=true then 0 else 3) (rg.length+2) _ hw2 (by simp)
 have h4:(if chkP P.roots P.cells P.slots P.code=0 then (if c.ok=true then 0 else 3)else chkP P.roots P.cells P.slots P.code)=newE P c:=rfl
 rw[h4]at h3
 generalize newE P c=e at h h3
 generalize (if c.ok=true then (0:Int)else 3)=e2 at*
 generalize chkP P.roots P.cells P.slots P.code=e1 at*
 rw[R18]
 simp at h1 h2 h3
 simp[s18,hw,h1,h2,h3,h]
theorem W54{n hi:Int}(h0:0≤n)(h1:n≤hi):W0o n 0 hi=n:=by
 unfold W0o
 rw[if_neg (by omega),if_neg (by omega)]
theorem W22{c:Cfg}(h:c.ok=true):(0≤c.scheme∧c.scheme≤3)∧(0≤c.order∧c.order≤1)∧(1≤c.thr∧c.thr≤8)∧(0≤c.fuel∧c.fuel≤16)∧(1≤c.depth∧c.depth≤4):=by
 simpa[Cfg.ok,inB]using h
theorem W6v{r ce s:Int}{code:List (List Ins)}(h:chkP r ce s code=0):(0≤r∧r≤4)∧(0≤ce∧ce≤6)∧(0≤s∧s≤2)∧1≤code.length∧code.length≤4:=by
 unfold chkP at h
 split at h
 ·cases h
 ·rename_i h1
  split at h
  ·cases h
  ·rename_i h2
   simp[inB]at h1 h2
   omega
theorem Wgt(B m:List Reg)(x:Reg)(k:Nat):(B++[x]++m)[B.length+1+k]?=m[k]?:=by
 have hl:(B++[x]).length=B.length+1:=by simp
 rw[←hl]; exact W0e ..
theorem Wur{B m:List Reg}{x:Reg}{room:Nat}{b:Nat×Nat}(h:bufM (B.length+1) m room b):bufAt (B++[x]++m) room b []:=by
 obtain ⟨q,q',rfl,h1,h2⟩:=h
 exact ⟨(Wgt B m x q).trans h1,(Wgt B m x q').trans h2⟩
set_option maxHeartbeats 1000000 in
theorem Wus(P:Prg)(c:Cfg)(hc:P.code.length≤1000)(hl:∀l∈P.code,l.length≤1000)(h:newE P c=0)(rg:List Reg)(hw:wf rg):
  ∃q m' L im ia vt vb vr,bm.run (.fn 18) [prgP P,cfgA c] rg=some (.tup [.c (.ptr q 0),I .i64 0],rg++m')∧wf (rg++m')∧machR (rg++m') q P c (W1t P c) (su0.touchN P.code.length) [] [] [] L im ia vt vb vr:=by
 have hch:chkP P.roots P.cells P.slots P.code=0:=by
  unfold newE at h
  split at h
  ·assumption
  ·exact h
 have hok:c.ok=true:=by
  unfold newE at h
  rw[if_pos hch]at h
  split at h
  ·assumption
  ·cases h
 obtain ⟨_,_,_,⟨hf0,hf1⟩,⟨hd0,hd1⟩⟩:=W22 hok
 obtain ⟨_,_,_,hn1,hn4⟩:=W6v hch
 have hfu:=W54 hf0 hf1
 have hde:W0o c.depth 0 4=c.depth:=W54 (by omega) hd1
 have hw1:wf (rg++[prow P.roots P.cells P.slots P.code,.ac (c.k.map .p)]):=W07 hw (by simp)
 have h1:=W9q P.roots P.cells P.slots P.code hc hl _ hw1
 have h2:=Wj9 c _ hw1
 rw[hch]at h1
 rw[if_pos hok]at h2
 have hw2:wf (rg++[prow P.roots P.cells P.slots P.code,.ac (c.k.map .p),.pc 1 [[iv 0],[iv 0]]]):=W07 hw (by simp)
 have h3:=Wwn 0 0 (rg.length+2) _ hw2 (by simp)
 obtain ⟨im,m1,h4,hw3,hM⟩:=Wl9 P.roots P.cells P.slots P.code hc _ hw2
 obtain ⟨ia,m2,h5,hw4,hA⟩:=Wqr P.cells _ hw3
 have h6:=Wl4 P.roots P.cells P.slots P.code hc hl _ hw4
 have hia:ia<(rg++[prow P.roots P.cells P.slots P.code,.ac (c.k.map .p),.pc 1 [[iv 0],[iv 0]]]++m1++m2).length:=by
  obtain ⟨_,_,_,ha,_⟩:=hA; exact W16 ha
 have hM2:=hM.more m2
 have him:im<(rg++[prow P.roots P.cells P.slots P.code,.ac (c.k.map .p),.pc 1 [[iv 0],[iv 0]]]++m1++m2).length:=by
  obtain ⟨_,_,_,ha,_⟩:=hM2; exact W16 ha
 generalize hB:rg++[prow P.roots P.cells P.slots P.code,.ac (c.k.map .p),.pc 1 [[iv 0],[iv 0]]]++m1++m2=B at*
 have hpc:B[rg.length+1]?=some (.ac (c.k.map .p)):=by rw[←hB,Z6,Z6]; simp
 have hpr:B[rg.length]?=some (prow P.roots P.cells P.slots P.code):=by rw[←hB,Z6,Z6]; simp
 have hw5:wf (W2c B im ia P c (.p nilS) (.p nilS) []):=by
  unfold W2c
  rw[Zr]
  refine W07 hw4 ?_
  simp[W0d,acLt]
  omega
 obtain ⟨ex,s',e1,rfl,vt,vb,m,L,e2,e3,hL,e4,e5,e6,e7,e8,e9⟩:=Wuj B im ia (rg.length+1) rg.length P.code.length P c hc hpc hw5
 have hrow:(W2c B im ia P c vt vb m)[B.length]?=some (.ac (W0d im ia su0 P c vt vb (.p nilS))):=by simp[W2c]
 obtain ⟨s2,g1,g2,g3⟩:=Wla B.length rg.length P.code.length hn4 im ia su0 P c vt vb (.p nilS) _ hrow
 have hset:(W2c B im ia P c vt vb m).set B.length (.ac (W0d im ia (su0.touchN P.code.length) P c vt vb (.p nilS)))=B++[.ac (W0d im ia (su0.touchN P.code.length) P c vt vb (.p nilS))]++m:=by simp[W2c]
 rw[hset]at g3
 have hR:B++[.ac (W0d im ia (su0.touchN P.code.length) P c vt vb (.p nilS))]++m=rg++([prow P.roots P.cells P.slots P.code,.ac (c.k.map .p),.pc 1 [[iv 0],[iv 0]]]++m1++m2++[.ac (W0d im ia (su0.touchN P.code.length) P c vt vb (.p nilS))]++m):=by
  rw[←hB]; simp only[Z6]
 have hwR:wf (B++[.ac (W0d im ia (su0.touchN P.code.length) P c vt vb (.p nilS))]++m):=by
  rw[←hset]
  refine W2l e9 ?_
  have hv1:acLt (B.length+1+m.length) vt=true:=by simpa[avLt]using e4.lt (Z8 _)
  have hv2:acLt (B.length+1+m.length) vb=true:=by simpa[avLt]using e5.lt (Z8 _)
  have hln:(W2c B im ia P c vt vb m).length=B.length+1+m.length:=by simp[W2c]; omega
  rw[hln]
  simp only[W18,W0d,Y2,X6,hv1,hv2]
  simp only[acLt,Yu,Xp,Z4,Zf]
  omega
 have hmach:machR (B++[.ac (W0d im ia (su0.touchN P.code.length) P c vt vb (.p nilS))]++m) B.length P c (W1t P c) (su0.touchN P.code.length) [] [] [] L im ia vt vb (.p nilS):=by
  have hl1:(B++[Reg.ac (W0d im ia (su0.touchN P.code.length) P c vt vb (.p nilS))]).length=B.length+1:=by simp
  have hal:allB L (W1t P c) []=L.map fun b=>(b,[]):=by
   simp only[allB,W1t,Y9,Zr]
   apply Yx
   intro i
   simp only[List.zip,List.getElem?_zipWith,Zz,List.getElem?_replicate]
   cases hi:L[i]? with
   | none=>rfl
   | some b=>
    have:i<P.code.length:=by rw[←hL]; exact (Z3.1 hi).1
    rw[if_pos this]; rfl
  refine ⟨by simp,?_,?_,?_,?_,.inl ⟨rfl,rfl⟩,by simp[W1t,hL],?_,?_,?_⟩
  ·rw[Wqt,Z6]; exact hM2.more _
  ·rw[Z6]; exact hA.more _
  ·have:=accV.slW (base:=B++[.ac (W0d im ia (su0.touchN P.code.length) P c vt vb (.p nilS))]) (m:=m) (by rw[hl1]; exact e4)
   rw[hfu]at this
   simpa[W1t]using this
  ·rcases e5 with ⟨h0,h⟩ | ⟨k,h,hk⟩
   ·cases h; exact .inl ⟨h0,rfl⟩
   ·cases h
    refine .inr ⟨_,rfl,?_⟩
    exact (Wgt B m _ k).trans hk
  ·rw[hal]
   intro x hx
   obtain ⟨b,hb,rfl⟩:=Y1.1 hx
   have:=Wur (x:= .ac (W0d im ia (su0.touchN P.code.length) P c vt vb (.p nilS))) (e6 b hb)
   rw[hde]at this
   exact this
  ·rw[hal,X2]; exact e7
  ·rw[hal,X2]; exact e8
 rw[hR]at hwR hmach g3
 obtain ⟨ρ,m3,S,f1,f2,f3,f4,f5,f6,f7⟩:=Wgi (.tup [.c (.ptr B.length 0),I .i64 0]) hw hwR
 have hS:S B.length:=f4 (.ptr B.length 0) (by simp)
 have hmv:Mv ρ S _ (rg++m3):=Mv.of f5 f6 f7
 refine ⟨ρ B.length,m3,_,_,_,_,_,_,?_,f2,hmv.mach hS hmach⟩
 rw[W1m]at e2 g2
 rw[R18]
 have hvl:vlen (.c vt)=some (I .i64 P.code.length):=by
  rcases e4 with ⟨h0,h⟩ | ⟨k,h,hk⟩
  ·have h00:P.code.length=0:=by
    have:=congrArg List.length h0
    rwa[List.length_replicate]at this
   omega
  ·cases h; simp
 have hpr2:∀l,(B++l)[rg.length]?=some (prow P.roots P.cells P.slots P.code):=fun l=>W0b hpr l
 simp only[W2c,W0d,su0]at e1 e3 g1
 simp at h1 h2 h3 h4 h5 e1 e3 g1 hpc
 simp[s18,hw,h1,h2,h3,h4,h5,h6,hpr,hpc,hpr2,e1,e2,e3,hvl,g1,g2,g3]
 simp[W0u,W1y,W12]at f1
 exact f1
structure okS(P:Prg)(c:Cfg)(s:Ste):Prop where
 n1:1≤P.code.length
 n4:P.code.length≤4
 cl:∀l∈P.code,l.length≤16
 op:∀l∈P.code,∀x∈l,1≤x.op∧x.op≤25
 bR:0≤P.roots∧P.roots≤4
 bC:0≤P.cells∧P.cells≤6
 bS:0≤P.slots∧P.slots≤2
 ok:c.ok=true
 thr:s.thr.length=P.code.length
 buf:s.buf.length=P.code.length
 roots:s.roots.length=P.roots.toNat
 slots:s.slots.length=P.code.length*P.slots.toNat
 cells:s.cells.length=P.cells.toNat
 free:s.free.length≤6
 marks:s.marks.length=P.code.length
 counts:s.counts.length=P.code.length
 tok:∀th∈s.thr,th.okT
 mi:∀th∈s.thr,okMi P.code.length P.slots th.mi
 bl:∀l∈s.buf,l.length≤c.depth.toNat
theorem slW.own{rg:List Reg}{sz:Nat}{l:List (List PV)}{x:AC}(h:slW rg sz l x){n:Nat}(hl:l.length=n+1):∃id cap,x= .own id 0 sz (n+1) cap∧rg[id]?=some (.pc sz l):=by
 rcases h with ⟨rfl,_⟩ | ⟨id,cap,rfl,h⟩
 ·cases hl
 ·exact ⟨id,cap,by rw[hl],h⟩
theorem rwE.own{rg:List Reg}{sz:Nat}{l:List (List AC)}{x:AC}(h:rwE rg sz l x){n:Nat}(hl:l.length=n+1):∃id,x= .own id 0 sz (n+1) .free∧rg[id]?=some (.es sz l):=by
 rcases h with ⟨rfl,_⟩ | ⟨id,rfl,h⟩
 ·cases hl
 ·exact ⟨id,by rw[hl],h⟩
@[simp] theorem V4z (id off sz n:Nat) (cap:Cap):W4g 1 (.c (.own id off sz (n+1) cap))=some false:=_root_.id rfl
@[simp] theorem V6h (id:Nat):W4g 2 (.c (.hnd .mp id))=some false:=_root_.id rfl
@[simp] theorem V6i (id:Nat):W4g 3 (.c (.hnd .ch id))=some false:=_root_.id rfl
section
variable {rg:List Reg} {q:Nat} {P:Prg} {c:Cfg} {s:Ste} {u:Su} {mtr:List (List PV)} {atr:List (Int×Cel×List Int)} {tr:List Snap} {L:List (Nat×Nat)} {im ia:Nat} {vt vb vr:AC}
 (hM:machR rg q P c s u mtr atr tr L im ia vt vb vr) (hS:okS P c s)
include hM hS
theorem machR.thrRow:∃id cap,vt= .own id 0 22 (P.code.length-1+1) cap∧rg[id]?=some (.pc 22 (s.thr.map Thr.k)):=by
 have:=hS.n1
 exact hM.thr.own (by rw[Ym,hS.thr]; omega)
theorem machR.bufRow:∃id,vb= .own id 0 1 (P.code.length-1+1) .free∧rg[id]?=some (.es 1 (ptrL L)):=by
 have:=hS.n1
 exact hM.buf.own (by rw[ptrL,Ym,hM.len,hS.buf]; omega)
theorem W4t:bm.run (.fn 68) [.c (.ptr q 0)] rg=some (Bo false,rg):=by
 obtain ⟨id,cap,rfl,hid⟩:=hM.thrRow hS
 have hr:=hM.row
 rw[R68]
 simp[W0d]at hr
 simp[s68,hr]
theorem W55:bm.run (.fn 53) [.c (.ptr q 0)] rg=some (I .i64 (if c.order=0 then P.code.length else 2*P.code.length),rg):=by
 have hno:=W4t hM hS
 obtain ⟨id,cap,rfl,hid⟩:=hM.thrRow hS
 have hr:=hM.row
 have h1:=hS.n1
 have h4:=hS.n4
 have e:P.code.length-1+1=P.code.length:=by omega
 have hwr:IntKind.i64.wrap (2*(P.code.length:Int))=2*(P.code.length:Int):=W0g (by omega) (by omega)
 rw[R53]
 simp[W0d,e]at hr
 by_cases ho:c.order=0
 ·simp[s53,hr,hno,ho]
 ·simp[s53,hr,hno,ho,hwr]
theorem Wqu:bm.run (.fn 26) [.c (.ptr q 0)] rg=some (I .i64 tr.length,rg):=by
 have hno:=W4t hM hS
 have hr:=hM.row
 have hl:vlen (.c vr)=some (I .i64 tr.length):=by
  rcases hM.tra with ⟨h0,rfl⟩ | ⟨id,rfl,_⟩
  ·have:tr=[]:=by simpa using h0
   subst this; rfl
  ·simp
 rw[R26]
 simp[W0d]at hr
 simp[s26,hr,hno,hl]
end
theorem Wck{rg:List Reg}{room:Nat}{b:Nat×Nat}{q:List Ent}(h:bufAt rg room b q):bm.run (.fn 70) [.c (.ptr b.1 0)] rg=some (I .i64 q.length,rg):=by
 obtain ⟨h1,h2⟩:=h
 have h3:bm.run (.fn 135) [.c (.ptr b.1 0)] rg=some (Bo false,rg):=by
  rw[R135]
  simp[s135,h1]
 have h4:=Wjb _ _ _ _ h2
 rw[Ym]at h4
 rw[R70]
 simp[s70,h1,h3,h4]
theorem Wje:∀{M:List (List Int×List Int)} (h3:∀p∈M,p.1.length=3) (k:List Int),(mpW M).find? (kEq K3 k)=(M.find? (fun p=>decide (p.1=k))).map fun p=>((true,p.1.map iv),(true,p.2.map iv))
 | [],_,k=>rfl
 | p::M,h3,k=>by
  have ih:=Wje (fun q hq=>h3 q (Zo _ hq)) k
  have hk:=key3 (h3 p (by simp))
  simp only[mpW,Zh,List.find?_cons]at ih ⊢
  simp only[kEq,hk,Yp]
  by_cases h:p.1=k
  ·simp[h]
  ·simp only[h,decide_false]
   exact ih
theorem V01{M:List (List Int×List Int)}(h3:∀p∈M,p.1.length=3)(k:List Int):W79 K3 k (mpW M)=(M.find? (fun p=>decide (p.1=k))).map fun p=>(true,p.2.map iv):=by
 unfold W79
 rw[Wje h3,Option.map_map]
 rfl
theorem Wf2(V:List Int→List Int)(k:List Int):∀K:List (List Int),(K.map fun p=>(p,V p)).find? (fun p=>decide (p.1=k))=if k∈K then some (k,V k)else none
 | []=>rfl
 | p::K=>by
  rw[Zh,List.find?_cons,Wf2 V k K]
  by_cases h:p=k
  ·subst h; simp
  ·simp[h,Ne.symm h]
section
variable {K:List (List Int)} {V:List Int→List Int} (h3:∀p∈K,p.length=3) (hn:K.Nodup) {a b c:Int} {id:Nat} {rg:List Reg} (hr:rg[id]?=some (.ob (.mp (mpW (K.map fun p=>(p,V p))))))
include h3 hn hr
theorem Wqv{x y w:Int}(hk:[a,b,c]∈K)(hv:V [a,b,c]=[x,y,w])(z:PW)(ok:Bool):
  xE (.look (true,[.i64,.i64,.i64]) z ok) [.c (.hnd .mp id),.agg [.p (iv a),.p (iv b),.p (iv c)]] rg=some (if ok=true then .tup [.agg [.p (iv x),.p (iv y),.p (iv w)],Bo true]else .agg [.p (iv x),.p (iv y),.p (iv w)],rg):=by
 have h4:=key3 (l:=[a,b,c]) rfl
 have hkb:Wdj K3 (mpW (K.map fun p=>(p,V p)))=true:=W6g (by simpa using h3) (by simpa[Yq]using hn)
 have hg:=V01 (M:=K.map fun p=>(p,V p)) (by simpa using h3) [a,b,c]
 rw[Wf2,if_pos hk]at hg
 simp only[K3,Zh,Y9]at h4 hkb hg
 simp[xE,avPW,hr,h4,hkb,hg,hv,pwAV]
end
def ofK(K:List (List Int))(W:List Int→Tri)(kind:Int):List Tri:=(K.filter fun p=>decide (p.headD 0=kind)).map W
theorem Wbb{rg:List Reg}{im:Nat}{K:List (List Int)}{M tr}(h:memR rg im K M tr):bm.run (.fn 139) [.c (.ptr im 0)] rg=some (Bo false,rg):=by
 obtain ⟨vl,iw,vt,h1,h2,_,_⟩:=h
 rw[R139]
 simp[s139,h1]
theorem V02{rg:List Reg}{im:Nat}{K:List (List Int)}{W:List Int→Tri}(h3:∀p∈K,p.length=3)(hn:K.Nodup)(hl:K.length≤1000)(kind:Int)(n0:Nat)(hw:wf rg)
  {idl:Nat} {cap:Cap} {vt:AC} {iw:Nat} (hrow:rg[im]?=some (.ac [.own idl 0 3 K.length cap,.hnd .mp iw,vt])) (hid:rg[idl]?=some (.pc 3 (K.map (List.map iv)))) (hmp:rg[iw]?=some (.ob (.mp (mpW (K.map fun p=>(p,triL (W p))))))):
  ∃ex s',W02 (Wb3 W02 bm.run n0) ⟨[(15,I .i64 0),(14,I .i64 K.length),(13,.c (.own idl 0 3 K.length cap)),(5,.c (.p nilS)),(1,I .i64 kind),(0,.c (.ptr im 0))],rg⟩=some (ex,s')∧
   (ex= .exit 0∧∃v m,s'.regs=rg++m∧lkF s'.slots 5= .c v∧accV rg.length 3 ((ofK K W kind).map Tri.k) (.c v) m∧wf (rg++m)):=by
 refine W0z (fun j s=>∃v m,s=⟨[(15,I .i64 (j:Nat)),(14,I .i64 K.length),(13,.c (.own idl 0 3 K.length cap)),(5,.c v),(1,I .i64 kind),(0,.c (.ptr im 0))],rg++m⟩∧accV rg.length 3 ((ofK (K.take j) W kind).map Tri.k) (.c v) m∧wf (rg++m)) _ K.length ⟨.p nilS,[],by simp,.nil _ _ _,by simpa using hw⟩ ?_ ?_
 ·rintro j hj s ⟨v,m,rfl,h1,hw1⟩
  have hj2:(j:Int)<K.length:=by omega
  have hnx:IntKind.i64.wrap ((j:Int)+1)=(j:Int)+1:=W0g (by omega) (by omega)
  have hx:K[j]?=some K[j]:=Z2 hj
  have hl3:=h3 _ (Zl hj)
  have hmem:=Zl hj
  have ht:K.take (j+1)=K.take j++[K[j]]:=by rw[Zs,hx]; rfl
  obtain ⟨a,b,c,he⟩:∃a b c,K[j]=[a,b,c]:=by
   generalize K[j]=l at hl3
   rcases l with _ | ⟨a,_ | ⟨b,_ | ⟨c,_ | ⟨d,l⟩⟩⟩⟩<;>simp at hl3
   exact ⟨_,_,_,rfl⟩
  rw[he]at hx hmem ht
  have hxm:(K.map (List.map iv))[j]?=some [iv a,iv b,iv c]:=by rw[Zz,hx]; rfl
  have hrow2:∀l,(rg++l)[im]?=some (.ac [.own idl 0 3 K.length cap,.hnd .mp iw,vt]):=fun l=>W0b hrow l
  have hid2:∀l,(rg++l)[idl]?=some (.pc 3 (K.map (List.map iv))):=fun l=>W0b hid l
  by_cases hk:a=kind
  ·subst hk
   have hof:ofK (K.take (j+1)) W a=ofK (K.take j) W a++[W [a,b,c]]:=by simp[ofK,ht]
   have hlen:(ofK (K.take j) W a).length≤1000:=by
    refine Y5 (by simpa[ofK]using List.length_filter_le _ _) (Y5 (by simp; omega) hl)
   have hw2:wf (rg++(m++[.ac [.p (iv a),.p (iv b),.p (iv c)]])):=by rw[←Z6]; exact W07 hw1 (by simp)
   obtain ⟨v',m',_,e1,e2,e3,_⟩:=accV.pushS (bytes:=24) (base:=rg) (m:=m++[.ac [.p (iv a),.p (iv b),.p (iv c)]]) (W [a,b,c]).k (h1.more _) (by simp; omega) (by simp; omega) hw2
   have hlk:=fun (l:List Reg)=>Wqv h3 hn (rg:=rg++l) (W0b hmp l) hmem (show (fun p=>triL (W p)) [a,b,c]=[(W [a,b,c]).a,(W [a,b,c]).b,(W [a,b,c]).c]from rfl) (true,[.v (.int .i64 0),.v (.int .i64 0),.v (.int .i64 0)]) false
   refine ⟨_,?_,v',m',rfl,by rw[hof,Yz]; exact e2,e3⟩
   simp at e1
   simp[Wb3,hj2,hnx,hid2,hxm,hrow2,hlk,e1]
  ·have hof:ofK (K.take (j+1)) W kind=ofK (K.take j) W kind:=by simp[ofK,ht,hk]
   refine ⟨_,?_,v,m++[.ac [.p (iv a),.p (iv b),.p (iv c)]],rfl,by rw[hof]; exact h1.more _,by rw[←Z6]; exact W07 hw1 (by simp)⟩
   simp[Wb3,hj2,hnx,hid2,hxm,hk]
 ·rintro s ⟨v,m,rfl,h1,hw1⟩
  rw[Ze (Z8 _)]at h1
  refine ⟨.exit 0,_,by simp[Wb3]; rfl,by simp,rfl,v,m,rfl,rfl,h1,hw1⟩
theorem Wqw{rg:List Reg}{im:Nat}{K:List (List Int)}{W:List Int→Tri}{tr:List (List PV)}(h3:∀p∈K,p.length=3)(hn:K.Nodup)(hl:K.length≤1000)(hM:memR rg im K (K.map fun p=>(p,triL (W p))) tr)(kind:Int)(hw:wf rg):
  bm.run (.fn 152) [.c (.ptr im 0),I .i64 kind] rg=some (.c (.p (sl3 (ofK K W kind))),rg):=by
 have hno:=Wbb hM
 obtain ⟨vl,iw,vt,h1,h2,h4,_⟩:=hM
 have hlen:(ofK K W kind).length≤9223372036854775807:=by
  have:(ofK K W kind).length≤K.length:=by simpa[ofK]using List.length_filter_le _ _
  omega
 rw[R152]
 rcases h4 with ⟨h0,rfl⟩ | ⟨idl,cap,rfl,hid⟩
 ·have hK:K=[]:=by simpa using h0
  subst hK
  simp[s152,hno,h1]
  rw[W09]
  simp[Wb3,hw,ofK]
 ·rw[Ym]at h1
  obtain ⟨ex,s',e1,rfl,v,m,e2,e3,e4,e5⟩:=V02 h3 hn hl kind rg.length hw h1 hid h2
  have hd:=fun k=>accV.deep (base:=rg) (k:=k) (ks:=[]) e4 (by omega) (by simpa using hlen) (by simp)
  rw[W1m]at e3
  simp[s152,hno,h1,e1,e2,e3]
  rw[W1h _ _ _ _ _ _root_.rfl hw]
  simp[hd]
theorem Wqx{rg:List Reg}{im:Nat}{K:List (List Int)}{W:List Int→Tri}{tr:List (List PV)}(h3:∀p∈K,p.length=3)(hn:K.Nodup)(hl:K.length≤1000)(hM:memR rg im K (K.map fun p=>(p,triL (W p))) tr)(hw:wf rg):
  bm.run (.fn 82) [.c (.ptr im 0)] rg=some (.c (.p (sl3 (ofK K W 1))),rg):=by
 rw[R82]
 simp[s82,Wqw h3 hn hl hM 1 hw,hw]
theorem Wqy{rg:List Reg}{im:Nat}{K:List (List Int)}{W:List Int→Tri}{tr:List (List PV)}(h3:∀p∈K,p.length=3)(hn:K.Nodup)(hl:K.length≤1000)(hM:memR rg im K (K.map fun p=>(p,triL (W p))) tr)(hw:wf rg):
  bm.run (.fn 186) [.c (.ptr im 0)] rg=some (.c (.p (sl3 (ofK K W 5))),rg):=by
 rw[R186]
 simp[s186,Wqw h3 hn hl hM 5 hw,hw]
theorem Wut{rg:List Reg}(l:List Tri)(hl:l.length≤1000)(n0:Nat)(hw:wf rg):
  ∃ex s',W02 (Wip W02 bm.run n0) ⟨[(12,I .i64 0),(11,I .i64 l.length),(10,.c (.p (sl3 l))),(5,.c (.p nilS))],rg⟩=some (ex,s')∧
   (ex= .exit 0∧∃v m,s'.regs=rg++m∧lkF s'.slots 5= .c v∧accV rg.length 1 ((l.map Tri.a).map fun n=>[iv n]) (.c v) m∧wf (rg++m)):=by
 refine W0z (fun j s=>∃v m,s=⟨[(12,I .i64 (j:Nat)),(11,I .i64 l.length),(10,.c (.p (sl3 l))),(5,.c v)],rg++m⟩∧accV rg.length 1 (((l.take j).map Tri.a).map fun n=>[iv n]) (.c v) m∧wf (rg++m)) _ l.length ⟨.p nilS,[],by simp,.nil _ _ _,by simpa using hw⟩ ?_ ?_
 ·rintro j hj s ⟨v,m,rfl,h1,hw1⟩
  have hj2:(j:Int)<l.length:=by omega
  have hnx:IntKind.i64.wrap ((j:Int)+1)=(j:Int)+1:=W0g (by omega) (by omega)
  have hx:l[j]?=some l[j]:=Z2 hj
  have ht:l.take (j+1)=l.take j++[l[j]]:=by rw[Zs,hx]; rfl
  generalize l[j]=x at hx ht
  have hw2:wf (rg++(m++[.ac [.p (iv x.a),.p (iv x.b),.p (iv x.c)]])):=by rw[←Z6]; exact W07 hw1 (by simp)
  obtain ⟨v',m',_,e1,e2,e3,_⟩:=accV.pushS (bytes:=8) (base:=rg) (m:=m++[.ac [.p (iv x.a),.p (iv x.b),.p (iv x.c)]]) [iv x.a] (h1.more _) (by simp; omega) (by simp; omega) hw2
  refine ⟨_,?_,v',m',rfl,by rw[ht,Yz,Yz]; exact e2,e3⟩
  simp at e1
  simp[Wip,hj2,hnx,hx,e1]
 ·rintro s ⟨v,m,rfl,h1,hw1⟩
  rw[Ze (Z8 _)]at h1
  refine ⟨.exit 0,_,by simp[Wip]; rfl,by simp,rfl,v,m,rfl,rfl,h1,hw1⟩
theorem Wf3{a:AV}(h:flV a=true):avB a a=true:=by
 cases a with
 | c y=>simp only[avB]; exact Wca h
 | agg l=>simp only[avB]; exact Wb5 h
 | tup l=>cases h
theorem V03{β:Type}{a b:AV}(ha:flV a=true)(hb:flV b=true)(x:Option β):Sm (.tup [a,b]) (.tup [a,b]) x=x:=by
 unfold Sm
 rw[if_pos]
 simp only[avB,avsB,Wf3 ha,Wf3 hb,Bool.and_self]
section
variable {rg:List Reg} {im:Nat} {K:List (List Int)} {W:List Int→Tri} {tr:List (List PV)} (h3:∀p∈K,p.length=3) (hn:K.Nodup) (hl:K.length≤1000) (hM:memR rg im K (K.map fun p=>(p,triL (W p))) tr) (hw:wf rg)
include h3 hn hl hM hw
theorem W9x(kind:Int):bm.run (.fn 282) [.c (.ptr im 0),I .i64 kind] rg=some (.c (.p (slI ((ofK K W kind).map Tri.a))),rg):=by
 have h1:=Wqw h3 hn hl hM kind hw
 have hlen:(ofK K W kind).length≤1000:=by
  have:(ofK K W kind).length≤K.length:=by simpa[ofK]using List.length_filter_le _ _
  omega
 generalize ofK K W kind=l at*
 obtain ⟨ex,s',e1,rfl,v,m,e2,e3,e4,e5⟩:=Wut l hlen rg.length hw
 have hd:=fun k=>accV.deep (base:=rg) (k:=k) (ks:=[]) e4 (by omega) (by simp; omega) (by simp)
 rw[W1m]at e3
 rw[R282]
 simp[s282,h1,e1,e2,e3]
 rw[W1h _ _ _ _ _ _root_.rfl hw]
 simp at hd
 simp[hd]
theorem Wqz:bm.run (.fn 189) [.c (.ptr im 0)] rg=some (.c (.p (slI ((ofK K W 7).map Tri.a))),rg):=by
 rw[R189]
 simp[s189,W9x h3 hn hl hM hw 7,hw]
theorem Wlb:bm.run (.fn 190) [.c (.ptr im 0)] rg=some (.c (.p (slI ((ofK K W 8).map Tri.a))),rg):=by
 rw[R190]
 simp[s190,W9x h3 hn hl hM hw 8,hw]
omit hl in
theorem Wjf{a b c:Int}(hk:[a,b,c]∈K):bm.run (.fn 281) [.c (.ptr im 0),.agg [.p (iv a),.p (iv b),.p (iv c)]] rg=some (.tup [av3 (W [a,b,c]),Bo true],rg):=by
 have hno:=fun (l:List Reg)=>Wbb (hM.more l)
 obtain ⟨vl,iw,vt,h1,h2,h4,_⟩:=hM
 have hr2:∀l,(rg++l)[im]?=some (.ac [vl,.hnd .mp iw,vt]):=fun l=>W0b h1 l
 have hlk:=fun (l:List Reg)=>Wqv h3 hn (rg:=rg++l) (W0b h2 l) hk (show (fun p=>triL (W p)) [a,b,c]=[(W [a,b,c]).a,(W [a,b,c]).b,(W [a,b,c]).c]from rfl) (true,[.v (.int .i64 0),.v (.int .i64 0),.v (.int .i64 0)]) true
 rw[R281]
 simp[s281,hno,hr2,hlk,hw]
 rw[V03 (by simp) (by simp)]
omit hl in
theorem Wr0(hk:[6,0,0]∈K):bm.run (.fn 188) [.c (.ptr im 0)] rg=some (I .i64 (W [6,0,0]).a,rg):=by
 rw[R188]
 simp[s188,Wjf h3 hn hM hw hk,hw]
end
theorem V9j(rg:List Reg):bm.run (.fn 153) [.c (.p nilS)] rg=s153 W02 bm.run none (.c (.p nilS)) rg:=R_1c (z:=none) S153 (by kernel_rfl) (by kernel_rfl) (by kernel_rfl) (by kernel_rfl)
theorem V9k(rg:List Reg):bm.run (.fn 207) [.c (.p nilS)] rg=s207 W02 bm.run none (.c (.p nilS)) rg:=R_1c (z:=none) S207 (by kernel_rfl) (by kernel_rfl) (by kernel_rfl) (by kernel_rfl)
theorem Wr1{rg:List Reg}{ia:Nat}{cells:List Cel}{row:List Int}{tr}(hA:arR rg ia cells row tr)(hl:cells.length≤1000)(hw:wf rg):bm.run (.fn 83) [.c (.ptr ia 0)] rg=some (.c (.p (slC cells)),rg):=by
 obtain ⟨vt,vc,vr,h1,h2,_,_⟩:=hA
 rw[R83]
 rcases h2 with ⟨h0,rfl⟩ | ⟨id,cap,rfl,hid⟩
 ·have hc:cells=[]:=by simpa using h0
  subst hc
  have h153:bm.run (.fn 153) [.c (.p nilS)] rg=some (.c (.p nilS),rg):=by
   rw[V9j]
   simp[s153]
  simp[s83,hw,h1,h153]
 ·have h3:=V4i id 0 cells.length cap _ rg hid (by simp) (by omega) hw
  rw[List.drop_zero,Ze (by simp)]at h3
  rw[Ym]at h1
  simp[s83,hw,h1,h3]
theorem Wuu{rg:List Reg}{ia:Nat}{cells:List Cel}{row:List Int}{tr}(hA:arR rg ia cells row tr)(hl:row.length≤1000)(hw:wf rg):bm.run (.fn 187) [.c (.ptr ia 0)] rg=some (.c (.p (slI row)),rg):=by
 obtain ⟨vt,vc,vr,h1,_,h2,_⟩:=hA
 rw[R187]
 rcases h2 with ⟨h0,rfl⟩ | rfl | ⟨id,off,cap,L,rfl,hid,h4,h5⟩
 ·have hc:row=[]:=by simpa using h0
  subst hc
  have h207:bm.run (.fn 207) [.c (.p nilS)] rg=some (.c (.p nilS),rg):=by
   rw[V9k]
   simp[s207]
  simp[s187,hw,h1,h207]
 ·have h3:=V92 (row.map fun n=>[iv n]) rg (by simp; omega) hw
  simp[s187,hw,h1,h3]
 ·have h3:=V4j id off row.length cap L rg hid (by simpa using h4) (by omega) hw
  rw[Ym]at h5 h1
  rw[h5]at h3
  simp[s187,hw,h1,h3]
end Go.Sim
namespace Go.Sim
open Go.RowKit
theorem Wlc(x:Int×Int×Int×Int)(k:Int):(splI x).filter (fun p=>decide (p.headD 0=k))=if x.1=k then splI x else []:=by
 have hh:∀p∈splI x,p.headD 0=x.1:=fun p hp=>by
  have:=W9r hp
  cases p with
  | nil=>simp at this
  | cons a l=>simpa using this
 by_cases h:x.1=k
 ·rw[if_pos h,List.filter_eq_self]
  intro p hp
  rw[hh p hp]; exact Xz h
 ·rw[if_neg h,List.filter_eq_nil_iff]
  intro p hp
  rw[hh p hp]; simpa using h
theorem W46(r ce s cl k:Int)(hk:(W4p k&& !decide (k=3))=true):(W9w r ce s cl).filter (fun p=>decide (p.headD 0=k))=(W2s r ce s cl).flatMap fun x=>if x.1=k then splI x else []:=by
 have h1:(W9w r ce s cl).filter (fun p=>decide (p.headD 0=k))=(W28 r ce s cl).filter (fun p=>decide (p.headD 0=k)):=by
  unfold W9w
  rw[List.filter_filter]
  refine List.filter_congr fun p _=> ?_
  by_cases h:p.headD 0=k
  ·simp only[h,decide_true,Xp,ownB,hk]
  ·simp only[decide_eq_false h,Bool.false_and,Bool.and_false]
 rw[h1]
 unfold W28
 rw[List.filter_flatMap]
 congr 1
 funext x
 exact Wlc x k
theorem W7u{α:Type}(l:List α)(d:α){n:Nat}(h:n=l.length):(List.range n).map (fun j=>l.getD j d)=l:=by
 subst h
 apply Yx
 intro i
 rw[Zz]
 by_cases hi:i<l.length
 ·rw[Yy hi,Z2 hi]
  simp[hi]
 ·rw[Yt (by simpa using hi),Yt (by simpa using hi)]; rfl
section
variable {P:Prg} {c:Cfg} {s:Ste} (hS:okS P c s)
include hS
theorem okS.clR:W0o P.roots 0 4=P.roots:=W54 hS.bR.1 hS.bR.2
theorem okS.clS:W0o P.slots 0 2=P.slots:=W54 hS.bS.1 hS.bS.2
theorem okS.cl4:(if (4:Int)<P.code.length then (4:Int)else P.code.length)=P.code.length:=if_neg (by have:=hS.n4; omega)
theorem Wuv:ofK P.keys (atW P.slots s) 1=s.roots:=by
 have e:=hS.clR
 have h0:=hS.bR
 unfold ofK Prg.keys
 rw[W46 _ _ _ _ _ (by decide)]
 simp only[W2s,e,Ya,Ye,splI]
 simp only[if_true,show ¬(2:Int)=1 by decide,show ¬(3:Int)=1 by decide,show ¬(4:Int)=1 by decide,show ¬(5:Int)=1 by decide,show ¬(6:Int)=1 by decide,show ¬(7:Int)=1 by decide,show ¬(8:Int)=1 by decide,if_false,Zr,X2]
 conv=>rhs; rw[←W7u s.roots w0 (n:=(P.roots*1).toNat) (by rw[hS.roots,Int.mul_one])]
 refine Yg fun j _=> ?_
 simp[Function.comp,plcI,atW]
theorem Wuw:ofK P.keys (atW P.slots s) 5=s.slots:=by
 have e:=hS.clS
 have e4:=hS.cl4
 have h0:=hS.bS
 unfold ofK Prg.keys
 rw[W46 _ _ _ _ _ (by decide)]
 simp only[W2s,e,e4,Ya,Ye,splI]
 simp only[if_true,show ¬(2:Int)=5 by decide,show ¬(3:Int)=5 by decide,show ¬(4:Int)=5 by decide,show ¬(1:Int)=5 by decide,show ¬(6:Int)=5 by decide,show ¬(7:Int)=5 by decide,show ¬(8:Int)=5 by decide,if_false,Zr,Xa,X2]
 have hn:((P.code.length:Int)*P.slots).toNat=s.slots.length:=by
  rw[hS.slots]
  obtain ⟨m,hm⟩:=Yo h0.1
  rw[hm]
  norm_cast
 conv=>rhs; rw[←W7u s.slots w0 hn]
 refine Yg fun j _=> ?_
 have hj:=Int.mul_tdiv_add_tmod (j:Int) P.slots
 have hj2:(j:Int).tdiv P.slots*P.slots+(j:Int).tmod P.slots=j:=by rw[Int.mul_comm]; exact hj
 have hz:((0:Int)+(j:Int).tdiv P.slots)*P.slots+(j:Int).tmod P.slots=j:=by rw[Int.zero_add]; exact hj2
 show s.slots.getD (((0:Int)+(j:Int).tdiv P.slots)*P.slots+(j:Int).tmod P.slots).toNat w0=_
 rw[hz,Int.toNat_natCast]
theorem Wux:(ofK P.keys (atW P.slots s) 7).map Tri.a=s.marks:=by
 have e4:=hS.cl4
 unfold ofK Prg.keys
 rw[W46 _ _ _ _ _ (by decide)]
 simp only[W2s,e4,Ya,Ye,splI]
 simp only[if_true,show ¬(2:Int)=7 by decide,show ¬(3:Int)=7 by decide,show ¬(4:Int)=7 by decide,show ¬(1:Int)=7 by decide,show ¬(6:Int)=7 by decide,show ¬(5:Int)=7 by decide,show ¬(8:Int)=7 by decide,if_false,Zr,Xa,X2]
 conv=>rhs; rw[←W7u s.marks 0 (n:=((P.code.length:Int)*1).toNat) (by rw[hS.marks,Int.mul_one,Int.toNat_natCast])]
 refine Yg fun j _=> ?_
 simp[Function.comp,plcI,atW]
theorem Wr2:(ofK P.keys (atW P.slots s) 8).map Tri.a=s.counts:=by
 have e4:=hS.cl4
 unfold ofK Prg.keys
 rw[W46 _ _ _ _ _ (by decide)]
 simp only[W2s,e4,Ya,Ye,splI]
 simp only[if_true,show ¬(2:Int)=8 by decide,show ¬(3:Int)=8 by decide,show ¬(4:Int)=8 by decide,show ¬(1:Int)=8 by decide,show ¬(6:Int)=8 by decide,show ¬(5:Int)=8 by decide,show ¬(7:Int)=8 by decide,if_false,Zr,Xa,X2]
 conv=>rhs; rw[←W7u s.counts 0 (n:=((P.code.length:Int)*1).toNat) (by rw[hS.counts,Int.mul_one,Int.toNat_natCast])]
 refine Yg fun j _=> ?_
 simp[Function.comp,plcI,atW]
end
theorem Wjg{P:Prg}{k i j:Int}{x:Int×Int×Int×Int}(hx:x∈W2s P.roots P.cells P.slots P.code.length)(hk:(W4p x.1&& !decide (x.1=3))=true){m:Nat}(hm:m<(x.2.2.1*x.2.2.2).toNat)(he:plcI x.1 x.2.1 x.2.2.2 m=[k,i,j]):[k,i,j]∈P.keys:=by
 unfold Prg.keys W9w
 rw[Zj]
 refine ⟨?_,?_⟩
 ·unfold W28
  rw[List.mem_flatMap]
  refine ⟨x,hx,?_⟩
  rw[←he]
  exact List.mem_map_of_mem (Y4.2 hm)
 ·have:k=x.1:=by
   have:=congrArg (List.headD · 0) he
   simpa[plcI]using this.symm
  subst this
  simpa[ownB]using hk
theorem Wr3(P:Prg):[6,0,0]∈P.keys:=Wjg (x:=(6,0,1,1)) (m:=0) (by simp[W2s]) (by decide) (by decide) rfl
theorem Wbc(P:Prg):∀p∈P.keys,p.length=3:=fun p hp=>Wf0 _ _ _ _ p (Zj.1 hp).1
theorem W6w(P:Prg):P.keys.Nodup:=(W6f _ _ _ _).sublist List.filter_sublist
theorem W7v(P:Prg):P.keys.length≤1000:=Y5 (List.length_filter_le _ _) (W9v _ _ _ _)
end Go.Sim
namespace Go.Sim
open Go.RowKit Go.Proofs.YtahoelmjfgoedaaGreat.T
attribute [-simp] vfld W0n W1n
abbrev comA(s:Ste):AV:= .agg [.p nilS,.p nilS,.p (sl3 s.roots),.p (sl3 s.slots),.p (slC s.cells),.p (slI s.free),.p (iv s.epoch),.p (slI s.marks),.p (slI s.counts)]
set_option maxHeartbeats 1000000 in
theorem Wbd{rg:List Reg}{q:Nat}{P:Prg}{c:Cfg}{s:Ste}{u:Su}{mtr:List (List PV)}{atr:List (Int×Cel×List Int)}{tr:List Snap}{L:List (Nat×Nat)}{im ia:Nat}{vt vb vr:AC}
  (hM:machR rg q P c s u mtr atr tr L im ia vt vb vr) (hS:okS P c s) (hw:wf rg):bm.run (.fn 110) [.c (.ptr q 0)] rg=some (comA s,rg):=by
 have hr:∀l,(rg++l)[q]?=_:=fun l=>W0b hM.row l
 have hwl:wf (rg++[.ac [.p nilS,.p nilS,.p nilS,.p nilS,.p nilS,.p nilS,.p (iv 0),.p nilS,.p nilS]]):=W07 hw (by simp)
 have hm:=hM.mem.more [.ac [.p nilS,.p nilS,.p nilS,.p nilS,.p nilS,.p nilS,.p (iv 0),.p nilS,.p nilS]]
 have ha:=hM.ar.more [.ac [.p nilS,.p nilS,.p nilS,.p nilS,.p nilS,.p nilS,.p (iv 0),.p nilS,.p nilS]]
 unfold memM at hm
 have hc1:s.cells.length≤6:=by have:=hS.cells; have:=hS.bC; omega
 have k1:=Wqx (Wbc P) (W6w P) (W7v P) hm hwl
 have k2:=Wqy (Wbc P) (W6w P) (W7v P) hm hwl
 have k3:=Wr1 ha (by omega) hwl
 have k4:=Wuu ha (by have:=hS.free; omega) hwl
 have k5:=Wr0 (Wbc P) (W6w P) hm hwl (Wr3 P)
 have k6:=Wqz (Wbc P) (W6w P) (W7v P) hm hwl
 have k7:=Wlb (Wbc P) (W6w P) (W7v P) hm hwl
 rw[Wuv hS]at k1
 rw[Wuw hS]at k2
 rw[Wux hS]at k6
 rw[Wr2 hS]at k7
 have hep:(atW P.slots s [6,0,0]).a=s.epoch:=by simp[atW]
 rw[hep]at k5
 simp only[W0d]at hr
 rw[R110]
 simp[s110,hr,k1,k2,k3,k4,k5,k6,k7,hw,Wz9]
end Go.Sim
