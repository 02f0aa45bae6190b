/- Part 3: what the last part leans on. -/
import Derived.Test.YtahoelmjfgoedaaGreatQ02
import Derived.RangeFuncOwn
set_option linter.unusedVariables false
set_option linter.unusedSimpArgs false
set_option linter.unusedSectionVars false
namespace Go.Sim
open Go.RowKit Go.Proofs.YtahoelmjfgoedaaGreat.B
variable {P:Program}
def W5a:List Reg→List Nat→List Reg→List Reg
 | big,i::l,r::m=>W5a (big.set i r) l m
 | big,_,m=>big++m
theorem Wan:∀{l:List Nat} {big m:List Reg},l.Nodup→l.length≤m.length→(∀i∈l,i<big.length)→(W5a big l m).length=big.length+(m.length-l.length)∧
  ∀(id:Nat) (r:Reg),(W5a big l m)[id]?=some r→(id<big.length∧id∉l∧big[id]?=some r)∨(∃k:Nat,l[k]?=some id∧m[k]?=some r)∨(big.length≤id∧m[id-big.length+l.length]?=some r)
 | [],big,m,_,_,_=>by
  have e:W5a big [] m=big++m:=by cases m<;>rfl
  rw[e]
  refine ⟨by simp,fun id r h=> ?_⟩
  rw[List.getElem?_append]at h
  split at h
  ·rename_i hlt; exact .inl ⟨hlt,by simp,h⟩
  ·exact .inr (.inr ⟨by omega,by simpa using h⟩)
 | i::l,big,[],_,h,_=>by simp at h
 | i::l,big,q::m,hnd,hlen,hlt=>by
  rw[List.nodup_cons]at hnd
  obtain ⟨h1,h2⟩:=Wan (l:=l) (big:=big.set i q) (m:=m) hnd.2 (by simpa using hlen) (fun j hj=>by simpa using hlt j (Zo _ hj))
  refine ⟨by simp only[W5a,h1,List.length_set,Yh]; omega,fun id r h=> ?_⟩
  rcases h2 id r h with ⟨k1,k2,k3⟩ | ⟨k,k1,k2⟩ | ⟨k1,k2⟩
  ·rw[List.length_set]at k1
   rw[Xc]at k3
   by_cases e:i=id
   ·subst e
    rw[if_pos rfl,if_pos k1]at k3
    cases k3
    exact .inr (.inl ⟨0,rfl,rfl⟩)
   ·rw[if_neg e]at k3
    refine .inl ⟨k1,fun hx=> ?_,k3⟩
    rcases Zq.1 hx with rfl | hx
    ·exact e rfl
    ·exact k2 hx
  ·exact .inr (.inl ⟨k+1,k1,k2⟩)
  ·rw[List.length_set]at k1 k2
   refine .inr (.inr ⟨k1,?_⟩)
   rw[Yh,show id-big.length+(l.length+1)=(id-big.length+l.length)+1 by omega,List.getElem?_cons_succ]
   exact k2
def upF(l:List Nat)(n i:Nat):Nat:=if i<l.length then l.getD i 0 else n+(i-l.length)
section
variable {ρ:Nat→Nat} {w:World} {env env2:Env} {bad bad2:Nat→Prop}
structure Up(ρ:Nat→Nat)(env env2:Env):Prop where
 lt:∀i,i<env.n→ρ i<env2.n
 eq:∀i,i<env.n→env2.f (ρ i)=env.f i
theorem FRel.up(hr:Up ρ env env2)(hb:∀b,bad2 b→bad b){x:FA}{v:Value}(h:FRel w env bad x v):FRel w env2 bad2 (W58 ρ x) v:=by
 cases x with
 | p x=>exact PRel.step (Same.mk (Z8 _) fun _ _ _=>rfl) (fun b _=>hb b) h
 | ptr id off=>
  obtain ⟨hi,g,c,e,rfl⟩:=h
  exact ⟨hr.lt _ hi,g,c,(hr.eq _ hi).trans e,rfl⟩
theorem All2.map1{α β γ:Type}{R:α→γ→Prop}{S:β→γ→Prop}{f:α→β}(h:∀a c,R a c→S (f a) c):∀{l:List α} {m:List γ},All2 R l m→All2 S (l.map f) m
 | [],[],_=>trivial
 | _::_,_::_,k=>⟨h _ _ k.1,All2.map1 h k.2⟩
 | [],_::_,k=>k.elim
 | _::_,[],k=>k.elim
theorem CRel.up(hr:Up ρ env env2)(hb:∀b,bad2 b→bad b){x:AC}{v:Value}(h:CRel w env bad x v):CRel w env2 bad2 (W12 ρ x) v:=by
 have hsame:Same bad w w:=⟨Z8 _,fun _ _ _=>rfl⟩
 cases x with
 | p x=>exact PRel.step hsame (fun b _=>hb b) h
 | tight sz l=>exact ⟨PRel.step hsame (fun b _=>hb b) h.1,h.2⟩
 | own id off sz len cap=>
  obtain ⟨hi,h⟩:=h
  exact ⟨hr.lt _ hi,by rw[hr.eq _ hi]; exact h⟩
 | ptr id off=>
  obtain ⟨hi,g,c,e,rfl⟩:=h
  exact ⟨hr.lt _ hi,g,c,(hr.eq _ hi).trans e,rfl⟩
 | ept id sz i j=>
  obtain ⟨hi,g,c,e,rfl⟩:=h
  exact ⟨hr.lt _ hi,g,c,(hr.eq _ hi).trans e,rfl⟩
 | rp cells=>exact CRel.step (env:=env) hsame (fun b _=>hb b) (Env.le_refl _) (x:= .rp cells) h
 | fn f a b=>
  obtain ⟨fs,cs,e,h1,h2⟩:=h
  exact ⟨fs,cs,e,All2.map1 (S:=FRel w env2 bad2) (fun _ _ h=>FRel.up hr hb h) h1,All2.map1 (S:=FRel w env2 bad2) (fun _ _ h=>FRel.up hr hb h) h2⟩
 | hnd k id=>
  obtain ⟨hi,g,c,e,rfl⟩:=h
  exact ⟨hr.lt _ hi,g,c,(hr.eq _ hi).trans e,rfl⟩
 | any=>trivial
theorem VRel.up(hr:Up ρ env env2)(hb:∀b,bad2 b→bad b){x:AV}{v:Value}(h:VRel w env bad x v):VRel w env2 bad2 (W0u ρ x) v:=by
 induction h with
 | c h=>simp only[W0u]; exact .c (CRel.up hr hb h)
 | agg h hk=>
  simp only[W0u]
  refine .agg (All2.map1 (S:=CRel w env2 bad2) (fun _ _ h=>CRel.up hr hb h) h) ?_
  rw[List.all_map,←hk]
  congr 1
  funext x
  exact W2q ρ x
 | tup hn h ih=>
  simp only[W0u,W8o]
  refine .tup (by simpa using hn) fun i h1 h2=> ?_
  rw[Zu]
  exact ih i (by simpa using h1) h2
theorem RRel.up(hr:Up ρ env env2)(hb:∀b,bad2 b→bad b){id id2:Nat}(hid:env2.f id2=env.f id){r:Reg}(h:RRel P w env bad id r):RRel P w env2 bad2 id2 (W0p ρ r):=by
 have hsame:Same bad w w:=⟨Z8 _,fun _ _ _=>rfl⟩
 cases r with
 | pc sz ls=>
  obtain ⟨hz,hs,h⟩:=h
  refine ⟨hz,hs,?_⟩
  rw[hid]
  rcases h with h | ⟨g,c,cur,t,e,hg,h1,h2,h3,h4⟩
  ·exact .inl h
  ·exact .inr ⟨g,c,cur,t,e,hg,h1,h2,h3,fun i hi j hj=>let ⟨u,hu,hp⟩:=h4 i hi j hj; ⟨u,hu,PRel.step hsame (fun b _=>hb b) hp⟩⟩
 | ac l=>
  obtain ⟨g,c,cur,t,e,hg,hl,h⟩:=h
  refine ⟨g,c,cur,t,by rw[hid]; exact e,hg,by simpa using hl,fun j hj=> ?_⟩
  obtain ⟨u,hu,hc,hk⟩:=h j (by simpa using hj)
  rw[Zu]
  exact ⟨u,hu,CRel.up hr hb hc,by rw[W2q]; exact hk⟩
 | es sz ls=>
  obtain ⟨hz,hs,h⟩:=h
  refine ⟨hz,fun i hi=>by simpa using hs i (by simpa using hi),?_⟩
  rw[hid]
  rcases h with ⟨h1,h2⟩ | ⟨g,c,cur,t,e,hg,h1,h2,h3,h4⟩
  ·exact .inl ⟨h1,by simpa using h2⟩
  ·refine .inr ⟨g,c,cur,t,e,hg,h1,h2,by simpa using h3,fun i hi j hj=> ?_⟩
   obtain ⟨u,hu,hc,hk⟩:=h4 i (by simpa using hi) j (by simpa using hj)
   simp only[Zu]
   exact ⟨u,hu,CRel.up hr hb hc,by rw[W2q]; exact hk⟩
 | ob o=>
  obtain ⟨g,c,e,h⟩:=h
  exact ⟨g,c,by rw[hid]; exact e,ObRel.carry h rfl fun _ _ r=>PRel.step hsame (fun b _=>hb b) r⟩
 | lp f j sl st pe=>
  obtain ⟨g,c,L,N,fn,tmps,D,e,hL,hg,hs,h⟩:=h
  refine ⟨g,c,L,N,fn,tmps,D,by rw[hid]; exact e,hL,hg,hs,fun n=> ?_⟩
  rw[Wno]
  exact VRel.up hr hb (h n)
 | dead=>trivial
end
def SubRegs(big:List Reg)(ρ:Nat→Nat):List Nat→List Reg→Prop
 | [],[]=>True
 | i::l,r::m=>big[i]?=some (W0p ρ r)∧SubRegs big ρ l m
 | _,_=>False
theorem SubRegs.get{big:List Reg}{ρ:Nat→Nat}:∀{l:List Nat} {m:List Reg},SubRegs big ρ l m→l.length=m.length∧∀(k i:Nat),l[k]?=some i→∃r,m[k]?=some r∧big[i]?=some (W0p ρ r)
 | [],[],_=>⟨rfl,fun k i h=>by simp at h⟩
 | i::l,r::m,h=>by
  obtain ⟨h1,h2⟩:=SubRegs.get h.2
  refine ⟨by simp[h1],fun k j hk=> ?_⟩
  cases k with
  | zero=>cases hk; exact ⟨r,rfl,h.1⟩
  | succ k=>exact h2 k j hk
 | [],_::_,h=>h.elim
 | _::_,[],h=>h.elim
open Classical in
theorem FS.frame{P:Program}{f:Nat}{args:List AV}{regs:List Reg}{K:AV→List Reg→Prop}(h:FS P f args regs K)(big:List Reg)(l:List Nat)(hnd:l.Nodup)(hsub:SubRegs big (rhoF l big.length) l regs):
  FS P f (args.map (W0u (rhoF l big.length))) big fun res big'=>∃res0 regs',K res0 regs'∧res=W0u (upF l big.length) res0∧big'=W5a big l (regs'.map (W0p (upF l big.length))):=by
 refine ⟨h.1,fun w fps base envB vs hrs hargs=> ?_⟩
 obtain ⟨hll,hget⟩:=hsub.get
 have hrho:∀i j:Nat,l[i]?=some j→rhoF l big.length i=j:=fun i j h=>by simp[rhoF,Zc,h]
 have hlt:∀i∈l,i<big.length:=fun i hi=>by
  obtain ⟨k,hk⟩:=List.mem_iff_getElem?.1 hi
  obtain ⟨r,_,h2⟩:=hget k i hk
  exact (Z3.1 h2).1
 let envS:Env:=⟨l.length,fun i=>envB.f (rhoF l big.length i)⟩
 have hren:Ren (rhoF l big.length) envB envS:=⟨fun i hi=>by
  rcases Ys i l.length with h | h
  ·exact h
  ·exfalso
   have:rhoF l big.length i=big.length:=by simp[rhoF,Zc,Yt h]
   rw[this,hrs.len]at hi
   omega,fun i _=>rfl⟩
 let base':Nat→Prop:=fun b=>base b∨∃id r c,big[id]?=some r∧r.live=true∧id∉l∧envB.f id=some (b,c)
 let fps':List Nat:=fps.filter fun g=>decide (∃id r c,id∈l∧big[id]?=some r∧r.live=true∧envB.f id=some (g,c))
 have hfp:∀g,g∈fps'→g∈fps:=fun g hg=>(Zj.1 hg).1
 have hownB:∀id r g c,big[id]?=some r→r.live=true→envB.f id=some (g,c)→g∈fps∧g<w.heap.size:=fun id r g c h1 h2 h3=>by
  obtain ⟨k1,k2⟩:=hrs.own id r g c h1 h2 h3
  rcases k1 with k1 | k1
  ·exact ⟨k1,k2⟩
  ·omega
 have hsmall:∀k r,regs[k]?=some r→∃i,l[k]?=some i∧big[i]?=some (W0p (rhoF l big.length) r)∧envS.f k=envB.f i:=by
  intro k r hk
  have hkl:k<l.length:=by rw[hll]; exact (Z3.1 hk).1
  obtain ⟨r',h1,h2⟩:=hget k l[k] (Z2 hkl)
  rw[hk]at h1
  cases h1
  exact ⟨l[k],Z2 hkl,h2,congrArg envB.f (hrho k _ (Z2 hkl))⟩
 have hbad1:∀b,W04 base' envS regs b→W04 base envB big b:=by
  rintro b ((hb | ⟨id,r,c,h1,h2,_,h3⟩) | ⟨k,r,c,h1,h2,h3⟩)
  ·exact .inl hb
  ·exact .inr ⟨id,r,c,h1,h2,h3⟩
  ·obtain ⟨i,_,k2,k3⟩:=hsmall k r h1
   exact .inr ⟨i,_,c,k2,by rw[W11]; exact h2,by rw[←k3]; exact h3⟩
 have hbad2:∀b,W04 base envB big b→W04 base' envS regs b:=by
  rintro b (hb | ⟨id,r,c,h1,h2,h3⟩)
  ·exact .inl (.inl hb)
  ·by_cases hm:id∈l
   ·obtain ⟨k,hk⟩:=List.mem_iff_getElem?.1 hm
    obtain ⟨r0,k1,k2⟩:=hget k id hk
    rw[h1]at k2
    cases k2
    refine .inr ⟨k,r0,c,k1,by rw[←W11]; exact h2,?_⟩
    rw[←h3]
    exact congrArg envB.f (hrho k id hk)
   ·exact .inl (.inr ⟨id,r,c,h1,h2,hm,h3⟩)
 have hrsS:RS P w w fps' base' envS regs:=by
  refine ⟨Keep.refl _ _,fun b hb=> ?_,hll,fun k r hk=> ?_,fun k r g c hk hl he=> ?_,fun k1 k2 r1 r2 g c1 c2 h1 h2 l1 l2 e1 e2=> ?_⟩
  ·rcases hb with hb | ⟨id,r,c,h1,h2,h3,h4⟩
   ·exact ⟨(hrs.base_lt b hb).1,fun hx=>(hrs.base_lt b hb).2 (hfp b hx)⟩
   ·refine ⟨(hownB id r b c h1 h2 h4).2,fun hx=> ?_⟩
    obtain ⟨id',r',c',q1,q2,q3,q4⟩:=of_decide_eq_true (Zj.1 hx).2
    have:=hrs.inj id id' r r' b c c' h1 q2 h2 q3 h4 q4
    subst this
    exact h3 q1
  ·obtain ⟨i,_,k2,k3⟩:=hsmall k r hk
   exact RRel.ren hren hbad1 k3 (hrs.reg i _ k2)
  ·obtain ⟨i,k1,k2,k3⟩:=hsmall k r hk
   rw[k3]at he
   obtain ⟨o1,o2⟩:=hownB i _ g c k2 (by rw[W11]; exact hl) he
   exact ⟨.inl (Zj.2 ⟨o1,Xz ⟨i,_,c,List.mem_iff_getElem?.2 ⟨k,k1⟩,k2,by rw[W11]; exact hl,he⟩⟩),o2⟩
  ·obtain ⟨i1,p1,p2,p3⟩:=hsmall k1 r1 h1
   obtain ⟨i2,q1,q2,q3⟩:=hsmall k2 r2 h2
   have:=hrs.inj i1 i2 _ _ g c1 c2 p2 q2 (by rw[W11]; exact l1) (by rw[W11]; exact l2) (by rw[←p3]; exact e1) (by rw[←q3]; exact e2)
   subst this
   obtain ⟨x1,y1⟩:=Z3.1 p1
   obtain ⟨x2,y2⟩:=Z3.1 q1
   exact (List.getElem_inj hnd).1 (y1.trans y2.symm)
 have hargsS:All2 (VRel w envS (W04 base' envS regs)) args vs:=All2.unmap (S:=VRel w envS (W04 base' envS regs)) (fun _ _ h=>VRel.ren hren hbad1 h) hargs
 refine (h.2 w fps' base' envS vs hrsS hargsS).mono fun e w' hh=> ?_
 obtain ⟨v,res0,regs',envS',rfl,hk,hrs',hv,hev'⟩:=hh
 have hln:l.length≤regs'.length:=by have:=hev'.le.1; rw[hrs'.len]at this; exact this
 let envB':Env:=⟨big.length+(regs'.length-l.length),fun i=>if i<big.length then envB.f i else envS'.f (i-big.length+l.length)⟩
 have hup0:∀k i,l[k]?=some i→upF l big.length k=i∧envB'.f i=envS'.f k:=by
  intro k i hk
  obtain ⟨x1,y1⟩:=Z3.1 hk
  refine ⟨by simp[upF,x1,y1],?_⟩
  have hi:i<big.length:=hlt i (List.mem_iff_getElem?.2 ⟨k,hk⟩)
  rw[show envB'.f i=envB.f i from if_pos hi,hev'.le.2 k x1]
  exact (congrArg envB.f (hrho k i hk)).symm
 have hup1:∀k,l.length≤k→upF l big.length k=big.length+(k-l.length)∧envB'.f (big.length+(k-l.length))=envS'.f k:=by
  intro k hk
  refine ⟨by simp[upF]; omega,?_⟩
  rw[show envB'.f (big.length+(k-l.length))=envS'.f (big.length+(k-l.length)-big.length+l.length)from if_neg (by omega)]
  congr 1
  omega
 have hup:Up (upF l big.length) envS' envB':=by
  refine ⟨fun k hk=> ?_,fun k hk=> ?_⟩
  ·rw[hrs'.len]at hk
   rcases Ys k l.length with hkl | hkl
   ·rw[(hup0 k _ (Z2 hkl)).1]
    exact Zt (hlt _ (Zl hkl)) (X4 _ _)
   ·rw[(hup1 k hkl).1]
    show _<big.length+(regs'.length-l.length)
    omega
  ·rcases Ys k l.length with hkl | hkl
   ·rw[(hup0 k _ (Z2 hkl)).1]
    exact (hup0 k _ (Z2 hkl)).2
   ·rw[(hup1 k hkl).1]
    exact (hup1 k hkl).2
 obtain ⟨hbl,hbg⟩:=Wan (l:=l) (big:=big) (m:=regs'.map (W0p (upF l big.length))) hnd (by simpa using hln) hlt
 have hcase:∀id r,(W5a big l (regs'.map (W0p (upF l big.length))))[id]?=some r→(id<big.length∧id∉l∧big[id]?=some r∧envB'.f id=envB.f id)∨∃k r0,regs'[k]?=some r0∧r=W0p (upF l big.length) r0∧upF l big.length k=id∧envB'.f id=envS'.f k:=by
  intro id r hid
  rcases hbg id r hid with ⟨a1,a2,a3⟩ | ⟨k,b1,b2⟩ | ⟨c1,c2⟩
  ·exact .inl ⟨a1,a2,a3,if_pos a1⟩
  ·rw[Zz]at b2
   obtain ⟨r0,d1,d2⟩:=Z1.1 b2
   obtain ⟨u1,u2⟩:=hup0 k id b1
   exact .inr ⟨k,r0,d1,d2.symm,u1,u2⟩
  ·rw[Zz]at c2
   obtain ⟨r0,d1,d2⟩:=Z1.1 c2
   obtain ⟨u1,u2⟩:=hup1 (id-big.length+l.length) (by omega)
   have e:big.length+(id-big.length+l.length-l.length)=id:=by omega
   rw[e]at u1 u2
   exact .inr ⟨_,r0,d1,d2.symm,u1,u2⟩
 have hother:∀id r g c,id∉l→big[id]?=some r→r.live=true→envB.f id=some (g,c)→base' g:=fun id r g c h1 h2 h3 h4=> .inr ⟨id,r,c,h2,h3,h1,h4⟩
 have hbad':∀b,W04 base envB' (W5a big l (regs'.map (W0p (upF l big.length)))) b→W04 base' envS' regs' b:=by
  rintro b (hb | ⟨id,r,c,h1,h2,h3⟩)
  ·exact .inl (.inl hb)
  ·rcases hcase id r h1 with ⟨a1,a2,a3,a4⟩ | ⟨k,r0,b1,rfl,b3,b4⟩
   ·exact .inl (hother id r b c a2 a3 h2 (by rw[←a4]; exact h3))
   ·exact .inr ⟨k,r0,c,b1,by rw[←W11]; exact h2,by rw[←b4]; exact h3⟩
 have hevB:Ev w envB (W04 base envB big) w' envB' (W04 base envB' (W5a big l (regs'.map (W0p (upF l big.length))))):=by
  refine ⟨⟨hev'.same.size,fun b hb hn=>hev'.same.block b hb fun hx=>hn (hbad1 b hx)⟩,fun b hb hx=>hbad1 b (hev'.sub b hb (hbad' b hx)),?_,fun i hi=> ?_⟩
  ·rw[hrs.len]
   exact X4 _ _
  ·rw[hrs.len]at hi
   exact if_pos hi
 refine ⟨v,W0u (upF l big.length) res0,_,envB',rfl,⟨res0,regs',hk,rfl,rfl⟩,⟨hrs'.keep.more hfp,hrs.base_lt,by rw[hbl,Ym],fun id r hid=> ?_,fun id r g c hid hl he=> ?_,fun i j r1 r2 g c1 c2 h1 h2 l1 l2 e1 e2=> ?_⟩,VRel.up hup hbad' hv,hevB⟩
 ·rcases hcase id r hid with ⟨a1,a2,a3,a4⟩ | ⟨k,r0,b1,rfl,b3,b4⟩
  ·refine RRel.ev hevB (by rw[hrs.len]; exact a1) (fun hl g c he=> ?_) (hrs.reg id r a3)
   obtain ⟨p1,p2⟩:=hrsS.base_lt g (hother id r g c a2 a3 hl he)
   exact hrs'.keep.block g p1 p2
  ·exact RRel.up hup hbad' b4 (hrs'.reg k r0 b1)
 ·rcases hcase id r hid with ⟨a1,a2,a3,a4⟩ | ⟨k,r0,b1,rfl,b3,b4⟩
  ·rw[a4]at he
   obtain ⟨o1,o2⟩:=hrs.own id r g c a3 hl he
   exact ⟨o1,Zt o2 hrs'.keep.size⟩
  ·rw[b4]at he
   obtain ⟨o1,o2⟩:=hrs'.own k r0 g c b1 (by rw[←W11]; exact hl) he
   exact ⟨o1.imp (hfp g) fun h=>h,o2⟩
 ·have hclash:∀(id k:Nat) (r r0:Reg) (c c':Nat),id∉l→big[id]?=some r→r.live=true→envB.f id=some (g,c)→regs'[k]?=some r0→r0.live=true→envS'.f k=some (g,c')→False:=by
   intro id k r r0 c c' q1 q2 q3 q4 q5 q6 q7
   obtain ⟨p1,p2⟩:=hrs'.base_lt g (hother id r g c q1 q2 q3 q4)
   rcases (hrs'.own k r0 g c' q5 q6 q7).1 with h | h
   ·exact p2 h
   ·omega
  rcases hcase i r1 h1 with ⟨a1,a2,a3,a4⟩ | ⟨k,r0,b1,rfl,b3,b4⟩<;>rcases hcase j r2 h2 with ⟨a1',a2',a3',a4'⟩ | ⟨k',r0',b1',rfl,b3',b4'⟩
  ·rw[a4]at e1; rw[a4']at e2
   exact hrs.inj i j r1 r2 g c1 c2 a3 a3' l1 l2 e1 e2
  ·rw[a4]at e1; rw[b4']at e2
   exact (hclash i k' r1 r0' c1 c2 a2 a3 l1 e1 b1' (by rw[←W11]; exact l2) e2).elim
  ·rw[b4]at e1; rw[a4']at e2
   exact (hclash j k r2 r0 c2 c1 a2' a3' l2 e2 b1 (by rw[←W11]; exact l1) e1).elim
  ·rw[b4]at e1; rw[b4']at e2
   have:=hrs'.inj k k' r0 r0' g c1 c2 b1 b1' (by rw[←W11]; exact l1) (by rw[←W11]; exact l2) e1 e2
   rw[←b3,←b3',this]
variable {P:Program}
def tAV1(T:AC→AC→Prop):AV→AV→Prop
 | .c x,.c y=>T x y
 | .agg l,.agg m=>All2 T l m
 | x,y=>y=x
def tAV(T:AC→AC→Prop):AV→AV→Prop
 | .tup l,.tup m=>All2 (tAV1 T) l m
 | x,y=>tAV1 T x y
def TSlots(T:AC→AC→Prop)(s:St):List (Nat×AV)→Prop
 | []=>True
 | (k,v)::r=>tAV T (lk s.slots k) v∧TSlots T s r
def tReg(T:AC→AC→Prop):Reg→Reg→Prop
 | .ac l,.ac m=>All2 T l m
 | .es n l,.es k m=>n=k∧All2 (All2 T) l m
 | r,r'=>r'=r
def TRegs(kill:List Nat)(T:AC→AC→Prop):Nat→List Reg→List Reg→Prop
 | _,[],[]=>True
 | i,r::l,r'::m=>(if i∈kill then r'= .dead else tReg T r r')∧TRegs kill T (i+1) l m
 | _,_,_=>False
section
variable {T:AC→AC→Prop} {kill:List Nat}
theorem V1g(hk:∀x y,T x y→x.known=true→y.known=true):∀{l m:List AC},All2 T l m→l.all AC.known=true→m.all AC.known=true
 | [],[],_,_=>rfl
 | x::l,y::m,h,h'=>by
  rw[Y2,Z4]at h' ⊢
  exact ⟨hk _ _ h.1 h'.1,V1g hk h.2 h'.2⟩
 | [],_::_,h,_=>h.elim
 | _::_,[],h,_=>h.elim
theorem TRegs.get:∀{k:Nat} {l m:List Reg},TRegs kill T k l m→l.length=m.length∧∀i r',m[i]?=some r'→(k+i∈kill∧r'= .dead)∨(k+i∉kill∧∃r,l[i]?=some r∧tReg T r r')
 | _,[],[],_=>⟨rfl,fun i r' h=>by simp at h⟩
 | k,r::l,r'::m,h=>by
  obtain ⟨h1,h2⟩:=TRegs.get h.2
  refine ⟨by simp[h1],fun i q hq=> ?_⟩
  cases i with
  | zero=>
   cases hq
   have h3:=h.1
   by_cases e:k∈kill
   ·rw[if_pos e]at h3; exact .inl ⟨by simpa using e,h3⟩
   ·rw[if_neg e]at h3; exact .inr ⟨by simpa using e,r,rfl,h3⟩
  | succ i=>
   have:=h2 i q (by simpa using hq)
   rw[show k+1+i=k+(i+1)by omega]at this
   simpa using this
 | _,[],_::_,h=>h.elim
 | _,_::_,[],h=>h.elim
theorem Wnp{r r':Reg}(h:tReg T r r'):r'.live=r.live:=by
 cases r<;>cases r'<;>simp_all[tReg,Reg.live]
theorem TSlots.get{s:St}:∀{l:List (Nat×AV)},TSlots T s l→∀n,lk l n= .c .any∨tAV T (lk s.slots n) (lk l n)
 | [],_,_=> .inl rfl
 | (k,v)::r,h,n=>by
  rw[show lk ((k,v)::r) n=if k=n then v else lk r n from rfl]
  by_cases e:k=n
  ·subst e
   rw[if_pos rfl]
   exact .inr h.1
  ·rw[if_neg e]
   exact TSlots.get h.2 n
theorem Weak.gen{n0:Nat}{s s':St}(kill:List Nat)(T:AC→AC→Prop)(hk:∀x y,T x y→x.known=true→y.known=true)
  (hT:∀{w0 w:World} {fps:List Nat} {base:Nat→Prop} {env:Env} {bad':Nat→Prop},RS P w0 w fps base env s.regs→(∀b,bad' b→W04 base env s.regs b)→(∀id r g c,id∈kill→s.regs[id]?=some r→r.live=true→env.f id=some (g,c)→¬bad' g)→
   ∀{x y:AC} {v:Value},T x y→CRel w env (W04 base env s.regs) x v→CRel w env bad' y v)
  (hslots:TSlots T s s'.slots) (hregs:TRegs kill T 0 s.regs s'.regs):Weak P n0 s s':=by
 intro N w0 env0 bad0 fps base a w hn hR
 obtain ⟨⟨env,hrs,hsl,hev⟩,hsz,hdf⟩:=hR
 obtain ⟨hl,hget⟩:=hregs.get
 simp only[Xn]at hget
 have hlive:∀(i:Nat) (r':Reg),s'.regs[i]?=some r'→r'.live=true→i∉kill∧∃r,s.regs[i]?=some r∧tReg T r r'∧r.live=true:=by
  intro i r' hi hl'
  rcases hget i r' hi with ⟨_,rfl⟩ | ⟨h1,r,h2,h3⟩
  ·cases hl'
  ·exact ⟨h1,r,h2,h3,by rw[←Wnp h3]; exact hl'⟩
 have hbad:∀b,W04 base env s'.regs b→W04 base env s.regs b:=by
  intro b hb
  rcases hb with hb | ⟨i,r',c,h1,h2,h3⟩
  ·exact .inl hb
  ·obtain ⟨_,r,k1,_,k2⟩:=hlive i r' h1 h2
   exact .inr ⟨i,r,c,k1,k2,h3⟩
 have hsame:Same (W04 base env s.regs) w w:=⟨Z8 _,fun _ _ _=>rfl⟩
 have hnb:∀id r g c,id∈kill→s.regs[id]?=some r→r.live=true→env.f id=some (g,c)→¬W04 base env s'.regs g:=by
  rintro id r g c hid hr hlr he (hb | ⟨i,r',c',k1,k2,k3⟩)
  ·have hown:=(hrs.own id r g c hr hlr he).1
   have hbl:=hrs.base_lt g hb
   rcases hown with h | h
   ·exact hbl.2 h
   ·omega
  ·obtain ⟨hne,r2,p1,_,p2⟩:=hlive i r' k1 k2
   have:=hrs.inj i id r2 r g c' c p1 hr p2 hlr k3 he
   subst this
   exact hne hid
 have hC:∀{x y:AC} {v:Value},T x y→CRel w env (W04 base env s.regs) x v→CRel w env (W04 base env s'.regs) y v:=fun h=>hT hrs hbad hnb h
 have hV1:∀{x y:AV} {v:Value},tAV1 T x y→VRel w env (W04 base env s.regs) x v→VRel w env (W04 base env s'.regs) y v:=by
  intro x y v hf h
  cases x with
  | c x=>cases y with
   | c y=>exact .c (hC hf (c_of h))
   | agg m=>cases hf
   | tup m=>cases hf
  | agg l=>cases y with
   | c y=>cases hf
   | agg m=>
    cases h with
    | agg h hk'=>exact .agg (All2.comp (R:=CRel w env (W04 base env s.regs)) (T:=T) (S:=CRel w env (W04 base env s'.regs)) (fun _ _ _ t r=>hC t r) hf h) (V1g hk hf hk')
   | tup m=>cases hf
  | tup l=>
   have:y= .tup l:=by cases y<;>exact hf
   subst this
   exact VRel.step hsame (fun b _=>hbad b) (Env.le_refl _) h
 have hV:∀{x y:AV} {v:Value},tAV T x y→VRel w env (W04 base env s.regs) x v→VRel w env (W04 base env s'.regs) y v:=by
  intro x y v hf h
  cases x with
  | c x=>cases y<;>exact hV1 (x:= .c x) hf h
  | agg l=>cases y<;>exact hV1 (x:= .agg l) hf h
  | tup l=>cases y with
   | c y=>exact hV1 (x:= .tup l) (y:= .c y) hf h
   | agg m=>exact hV1 (x:= .tup l) (y:= .agg m) hf h
   | tup m=>
    cases h with
    | tup hn h=>
     have hl:=All2.len hf
     exact .tup (hl.symm.trans hn) fun i h1 h2=>hV1 (All2.get hf i (by omega) h1) (h i (by omega) h2)
 refine ⟨⟨env,⟨hrs.keep,hrs.base_lt,hrs.len.trans hl,fun i r' hi=> ?_,fun i r' g c hi hl' he=> ?_,fun i j r1 r2 g c1 c2 h1 h2 l1 l2 e1 e2=> ?_⟩,fun n=> ?_,⟨hev.same,fun b hb k=>hev.sub b hb (hbad b k),hev.le⟩⟩,hsz,hdf⟩
 ·rcases hget i r' hi with ⟨_,rfl⟩ | ⟨hne,r,h1,h2⟩
  ·trivial
  ·have hrr:=hrs.reg i r h1
   cases r with
   | ac l=>cases r' with
    | ac m=>
     obtain ⟨g,c,cur,t,e,hg,hll,h⟩:=hrr
     have hlm:l.length=m.length:=All2.len h2
     refine ⟨g,c,cur,t,e,hg,by omega,fun j hj=> ?_⟩
     obtain ⟨u,hu,hc,hk'⟩:=h j (by omega)
     have hf:=All2.get h2 j (by omega) hj
     exact ⟨u,hu,hC hf hc,hk _ _ hf hk'⟩
    | _=>cases h2
   | es sz2 l=>cases r' with
    | es sz3 m=>
     obtain ⟨rfl,h2⟩:=h2
     obtain ⟨z1,z2,z3⟩:=hrr
     have hlm:l.length=m.length:=All2.len h2
     refine ⟨z1,fun i hi=> ?_,?_⟩
     ·rw[←All2.len (All2.get h2 i (by omega) hi)]
      exact z2 i (by omega)
     ·rcases z3 with ⟨e,hl0⟩ | ⟨g,c,cur,t,e,hg,p1,p2,p3,p4⟩
      ·exact .inl ⟨e,Z9 (by rw[←hlm,hl0]; rfl)⟩
      ·refine .inr ⟨g,c,cur,t,e,hg,p1,p2,by omega,fun i hi j hj=> ?_⟩
       have hrow:=All2.get h2 i (by omega) hi
       have hrl:=All2.len hrow
       obtain ⟨u,hu,hc,hk'⟩:=p4 i (by omega) j (by omega)
       have hf:=All2.get hrow j (by omega) hj
       exact ⟨u,hu,hC hf hc,hk _ _ hf hk'⟩
    | _=>cases h2
   | ob o=>
    have:r'= .ob o:=by cases r'<;>exact h2
    subst this
    obtain ⟨g,c,e,h⟩:=hrr
    exact ⟨g,c,e,ObRel.carry h rfl fun _ _ r=>PRel.step hsame (fun b _=>hbad b) r⟩
   | pc sz' ls'=>
    have:r'= .pc sz' ls':=by cases r'<;>exact h2
    subst this
    obtain ⟨z1,z2,z3⟩:=hrr
    refine ⟨z1,z2,?_⟩
    rcases z3 with h | ⟨g,c,cur,t,e,hg,p1,p2,p3,p4⟩
    ·exact .inl h
    ·exact .inr ⟨g,c,cur,t,e,hg,p1,p2,p3,fun i hi j hj=>let ⟨u,hu,hp⟩:=p4 i hi j hj; ⟨u,hu,PRel.step hsame (fun b _=>hbad b) hp⟩⟩
   | lp f q sl st pe=>
    have:r'= .lp f q sl st pe:=by cases r'<;>exact h2
    subst this
    obtain ⟨g,c,L,N',fn,tmps,D,e,hL,hg,hs,h⟩:=hrr
    exact ⟨g,c,L,N',fn,tmps,D,e,hL,hg,hs,fun n=>VRel.step hsame (fun b _=>hbad b) (Env.le_refl _) (h n)⟩
   | dead=>
    have:r'= .dead:=by cases r'<;>exact h2
    subst this
    trivial
 ·obtain ⟨_,r,p1,_,p2⟩:=hlive i r' hi hl'
  exact hrs.own i r g c p1 p2 he
 ·obtain ⟨_,r,p1,_,p2⟩:=hlive i r1 h1 l1
  obtain ⟨_,q,q1,_,q2⟩:=hlive j r2 h2 l2
  exact hrs.inj i j r q g c1 c2 p1 q1 p2 q2 e1 e2
 ·rcases hslots.get n with h | h
  ·rw[h]; exact .c trivial
  ·exact hV h (hsl n)
def Wfy(id:Nat)(cells:List PV)(x y:AC):Prop:=y=x∨∃off,x= .ptr id off∧off≤cells.length∧y= .rp (cells.drop off)
theorem Weak.box{n0:Nat}{s s':St}(id:Nat)(cells:List PV)(hr:s.regs[id]?=some (.ac (cells.map .p)))(hslots:TSlots (Wfy id cells) s s'.slots)(hregs:TRegs [id] (Wfy id cells) 0 s.regs s'.regs):Weak P n0 s s':=by
 refine Weak.gen [id] (Wfy id cells) (fun x y h hx=> ?_) (fun {w0 w fps base env bad'} hrs hb hnb {x y v} h hc=> ?_) hslots hregs
 ·rcases h with rfl | ⟨_,_,_,rfl⟩
  ·exact hx
  ·rfl
 ·have hsame:Same (W04 base env s.regs) w w:=⟨Z8 _,fun _ _ _=>rfl⟩
  rcases h with rfl | ⟨off,rfl,hoff,rfl⟩
  ·exact CRel.step hsame (fun b _=>hb b) (Env.le_refl _) hc
  ·obtain ⟨hid,g,c,he,rfl⟩:=hc
   obtain ⟨g',c',cur,t,he',hg,hlen,hcells⟩:=hrs.reg id _ hr
   rw[he]at he'
   cases he'
   refine ⟨_,rfl,hnb id _ g c (X1.2 rfl) hr rfl he,(hrs.own id _ g c hr rfl he).2,fun j=>cur.getD (off+j) undef,fun j hj=> ?_⟩
   rw[Xh]at hj
   obtain ⟨u,hu,hcu,_⟩:=hcells (off+j) (by rw[Ym]; omega)
   rw[Zu]at hcu
   have hU:cur.getD (off+j) undef=u:=by rw[Zd,hu]; rfl
   simp only[hU]
   rw[Addr.add_lit,cell_of_row w g _ cur t (0,0) hg,hu]
   refine ⟨rfl,?_⟩
   rw[Zw]
   exact PRel.step hsame (fun b _=>hb b) hcu
end
theorem FS.post{P:Program}{f:Nat}{args:List AV}{regs:List Reg}{K K':AV→List Reg→Prop}(h:FS P f args regs K)(hp:∀res rg,K res rg→∃res' rg',Weak P regs.length ⟨[(0,res)],rg⟩ ⟨[(0,res')],rg'⟩∧K' res' rg'):FS P f args regs K':=by
 refine ⟨h.1,fun w fps base env vs hrs hargs=>(h.2 w fps base env vs hrs hargs).mono fun e w' hh=> ?_⟩
 obtain ⟨v,res,rg,env2,e1,e2,e3,e4,e5⟩:=hh
 obtain ⟨res',rg',hw,hk⟩:=hp res rg e2
 have hR:R P w env ⟨w,W04 base env regs,[],w.heap.size⟩ fps base 1 ⟨[(0,res)],rg⟩ {tmps:= #[v],defers:=[]} w':=by
  refine ⟨⟨env2,e3,fun n=> ?_,e5⟩,rfl,rfl,.nil,fun d hd=>by simp at hd,Z8 _⟩
  cases n with
  | zero=>exact e4
  | succ n=>exact .c trivial
 obtain ⟨⟨env3,hrs3,hsl3,hev3⟩,_,_⟩:=hw _ _ _ _ _ _ _ _ hrs.len hR
 exact ⟨v,res',rg',env3,e1,hk,hrs3,hsl3 0,hev3⟩
theorem W1q{P:Program}{ro:Option Nat}{n0:Nat}{s:St}{x:ACode}{Q Q2:Exit→St→Prop}(h:W2p P n0 ro x Q s)(hq:∀e s,Q e s→Q2 e s):W2p P n0 ro x Q2 s:=
 fun c N f j htr hs n w0 env0 bad0 fps base a w Q' e r hQ=>h c N f j htr hs n w0 env0 bad0 fps base a w Q' e r fun e s' env1 bad1 a' w' hl q r'=>hQ e s' env1 bad1 a' w' hl (hq e s' q) r'
inductive RV where
 | tmp (t:Nat)
 | cell (a n:Nat) (agg:Bool)
def trR(P:Program):ResultVar→Option RV
 | .tmp t=>some (.tmp t)
 | .cell a t=>(P.underlying t).bind fun d=>(P.info? t).map fun i=> .cell a i.size (aggD d)
def W5b(s:St):RV→Option AV
 | .tmp t=>some (lk s.slots t)
 | .cell a n agg=>match lk s.slots a with
  | .c (.ptr id off)=>match s.regs[id]? with
   | some (.ac l)=>if off+n≤l.length then pack agg ((l.drop off).take n)else none
   | _=>none
  | _=>none
def W8p:List AV→AV
 | [v]=>v
 | vs=> .tup vs
def Wao(tmps:Array Value):ResultVar→Sem Value
 | .tmp t=>pure (tmps.getD t undef)
 | .cell a t=>do loadVar t (←asAddr (tmps.getD a undef))
theorem Wkh(fn:Func)(tmps:Array Value):results fn tmps=(do
  let vs ←fn.results.mapM (Wao tmps)
  pure (if h:vs.size=1 then vs[0]else .tuple vs)):=by
 unfold results
 congr 1
section
variable {P:Program} {w0 w:World} {env0 env:Env} {bad0:Bs} {fps:List Nat} {base:Nat→Prop} {N:Nat} {s:St}
theorem Wxk{tmps:Array Value}(hrs:RS P w0 w fps base env s.regs)(hsl:∀n,VRel w env (W04 base env s.regs) (lk s.slots n) (tmps.getD n undef)){rv:ResultVar}{r:RV}{v:AV}(ht:trR P rv=some r)(h:W5b s r=some v):
  ∃u,(Wao tmps rv).run P w= .ok u w∧VRel w env (W04 base env s.regs) v u:=by
 cases rv with
 | tmp t=>
  cases ht
  cases h
  exact ⟨_,by simp[Wao],hsl t⟩
 | cell a t=>
  simp only[trR,Z0,Z1]at ht
  obtain ⟨d,hd,i,hi,rfl⟩:=ht
  simp only[W5b]at h
  split at h
  ·rename_i id off hb
   split at h
   ·rename_i l hl
    split at h
    ·rename_i hlen
     have e:=hsl a
     rw[hb]at e
     obtain ⟨_,g,c,he,e⟩:=c_of e
     obtain ⟨g',c',cur,ty,he',hg,hsz,hcell⟩:=hrs.reg id _ hl
     rw[he]at he'
     cases he'
     have hcl:l.length=cur.toList.length:=by simpa using hsz
     have hall:All2 (CRel w env (W04 base env s.regs)) ((l.drop off).take i.size) ((cur.toList.drop off).take i.size):=
      W5s (fun j hj=>by
       obtain ⟨u,h1,h2,_⟩:=hcell (off+j) (by omega)
       exact ⟨_,u,Z2 (by omega),by simpa using h1,h2⟩) hlen (by omega)
     obtain ⟨u,hv,h1,h0⟩:=W2o hall h
     refine ⟨u,?_,hv⟩
     simp only[Wao,e]
     cases hag:aggD d with
     | true=>
      have hr:=run_loadCells_list (P:=P) (w:=w) ⟨g,off,none⟩ ((cur.toList.drop off).take i.size) (fun j v hj=>by
       rw[add_lit]
       rw[Zx]at hj
       split at hj
       ·rw[Yb]at hj
        simp[World.cell?,hg]
        simpa using hj
       ·cases hj)
      rw[show ((cur.toList.drop off).take i.size).length=i.size by simp; omega]at hr
      simp[asAddr,loadVar,W23 hd,hag,W10 hi,hr,h1 hag]
     | false=>
      have h0':=h0 hag
      have hc0:w.cell? ⟨g,off,none⟩=some u:=by
       have:((cur.toList.drop off).take i.size)[0]?=some u:=by rw[h0']; rfl
       rw[Zx]at this
       split at this
       ·simp[World.cell?,hg]
        simpa using this
       ·cases this
      simp[asAddr,loadVar,W23 hd,hag,hc0]
    ·cases h
   ·cases h
  ·cases h
theorem Wnq{tmps:Array Value}(hrs:RS P w0 w fps base env s.regs)(hsl:∀n,VRel w env (W04 base env s.regs) (lk s.slots n) (tmps.getD n undef)):∀{rvs:List ResultVar} {rs:List RV} {vs:List AV},W0h (trR P) rvs=some rs→W0h (W5b s) rs=some vs→
  ∃us,(rvs.mapM (Wao tmps)).run P w= .ok us w∧All2 (VRel w env (W04 base env s.regs)) vs us
 | [],_,_,h,k=>by
  cases h
  cases k
  exact ⟨[],by simp,trivial⟩
 | rv::rvs,_,_,h,k=>by
  simp only[W0h,Z0,Z1]at h
  obtain ⟨r,hr,rs,hrs',rfl⟩:=h
  simp only[W0h,Z0,Z1]at k
  obtain ⟨v,hv,vs,hvs,rfl⟩:=k
  obtain ⟨u,hu,huv⟩:=Wxk (P:=P) hrs hsl hr hv
  obtain ⟨us,hus,husv⟩:=Wnq hrs hsl hrs' hvs
  exact ⟨u::us,by simp[hu,hus],huv,husv⟩
theorem Wxl{tmps:Array Value}(hrs:RS P w0 w fps base env s.regs)(hsl:∀n,VRel w env (W04 base env s.regs) (lk s.slots n) (tmps.getD n undef)){fn:Func}{rs:List RV}{vs:List AV}(h:W0h (trR P) fn.results.toList=some rs)(k:W0h (W5b s) rs=some vs):
  ∃u,(results fn tmps).run P w= .ok u w∧VRel w env (W04 base env s.regs) (W8p vs) u:=by
 obtain ⟨us,hus,hv⟩:=Wnq (P:=P) hrs hsl h k
 have hm:(fn.results.mapM (Wao tmps)).run P w= .ok us.toArray w:=by
  rw[←Array.toArray_toList (xs:=fn.results),List.mapM_toArray,Sem.run_map,hus]
  rfl
 have ht:∀(vs:List AV) (us:List Value),All2 (VRel w env (W04 base env s.regs)) vs us→VRel w env (W04 base env s.regs) (.tup vs) (.tuple us.toArray):=fun vs us h=>
  .tup h.len fun i h1 h2=>h.get i h1 h2
 rw[Wkh]
 match vs,us,hv with
 | [],[],hv=>exact ⟨.tuple #[],by simp[hm],ht _ _ hv⟩
 | [v],[u],hv=>exact ⟨u,by simp[hm],hv.1⟩
 | v::v'::vs,u::u'::us,hv=>exact ⟨.tuple (u::u'::us).toArray,by simp[hm],ht _ _ hv⟩
end
section
variable {w:World} {D:Nat} {x:Option (List Deferred)} {o:Obj} (hD:w.heap[D]?=some (.deferred x))
include hD
theorem Wdh{ad:Addr}{v:Value}(hc:w.cell? ad=some v):(w.putObj D o).cell? ad=some v:=by
 obtain ⟨ob,h1,h2⟩:=cells_of_cell hc
 have hne:ad.block≠D:=by
  intro e
  rw[e,hD]at h1
  cases h1
  cases h2
 exact (World.cell?_of_block (World.putObj_heap_other hne)).trans hc
theorem PRel.putD{bad:Nat→Prop}{p:PV}{v:Value}(h:PRel w bad p v):PRel (w.putObj D o) bad p v:=by
 induction h with
 | v h=>exact .v h
 | sl U hz hn hc hm hsz hA hcell h ih=>exact .sl U hz hn hc hm hsz hA (fun ad e i hi j hj=>Wdh hD (hcell ad e i hi j hj)) ih
theorem FRel.putD{env:Env}{bad:Nat→Prop}{p:FA}{v:Value}(h:FRel w env bad p v):FRel (w.putObj D o) env bad p v:=by
 cases p with
 | p y=>exact PRel.putD hD h
 | ptr id off=>exact h
theorem CRel.putD{env:Env}{bad:Nat→Prop}{p:AC}{v:Value}(h:CRel w env bad p v):CRel (w.putObj D o) env bad p v:=by
 cases p with
 | p y=>exact PRel.putD hD h
 | tight sz l=>exact ⟨PRel.putD hD h.1,h.2⟩
 | rp cells=>
  obtain ⟨ad,rfl,hn,hlt,U,hU⟩:=h
  exact ⟨ad,rfl,hn,by simpa using hlt,U,fun j hj=>⟨Wdh hD (hU j hj).1,PRel.putD hD (hU j hj).2⟩⟩
 | fn f a b=>
  obtain ⟨fs,cs,rfl,h1,h2⟩:=h
  exact ⟨fs,cs,rfl,h1.imp fun _ _ h=>FRel.putD hD h,h2.imp fun _ _ h=>FRel.putD hD h⟩
 | _=>exact h
theorem VRel.putD{env:Env}{bad:Nat→Prop}{p:AV}{v:Value}(h:VRel w env bad p v):VRel (w.putObj D o) env bad p v:=by
 induction h with
 | c h=>exact .c (CRel.putD hD h)
 | agg h hk=>exact .agg (h.imp fun _ _ h=>CRel.putD hD h) hk
 | tup hn _ ih=>exact .tup hn ih
theorem RRel.putD{P:Program}{env:Env}{bad:Nat→Prop}{id:Nat}{r:Reg}(h:RRel P w env bad id r):RRel P (w.putObj D o) env bad id r:=by
 have hne:∀{g:Nat} {ob:Obj},w.heap[g]?=some ob→(∀y,ob≠ .deferred y)→(w.putObj D o).heap[g]?=some ob:=fun {g ob} hg hn=>
  (World.putObj_heap_other (by intro e; rw[e,hD]at hg; cases hg; exact hn _ rfl)).trans hg
 cases r with
 | dead=>trivial
 | pc sz ls=>
  obtain ⟨hz,hs,h⟩:=h
  refine ⟨hz,hs,?_⟩
  rcases h with h | ⟨g,c,cur,t,e,hg,h1,h2,h3,h4⟩
  ·exact .inl h
  ·exact .inr ⟨g,c,cur,t,e,hne hg (fun _=>by simp),h1,h2,h3,fun i hi j hj=>let ⟨u,a,b⟩:=h4 i hi j hj; ⟨u,a,PRel.putD hD b⟩⟩
 | ac l=>
  obtain ⟨g,c,cur,t,e,hg,h1,h4⟩:=h
  exact ⟨g,c,cur,t,e,hne hg (fun _=>by simp),h1,fun j hj=>let ⟨u,a,b,d⟩:=h4 j hj; ⟨u,a,CRel.putD hD b,d⟩⟩
 | es sz ls=>
  obtain ⟨hz,hs,h⟩:=h
  refine ⟨hz,hs,?_⟩
  rcases h with h | ⟨g,c,cur,t,e,hg,h1,h2,h3,h4⟩
  ·exact .inl h
  ·exact .inr ⟨g,c,cur,t,e,hne hg (fun _=>by simp),h1,h2,h3,fun i hi j hj=>let ⟨u,a,b,d⟩:=h4 i hi j hj; ⟨u,a,CRel.putD hD b,d⟩⟩
 | ob ob=>
  obtain ⟨g,c,e,h⟩:=h
  refine ⟨g,c,e,h.carry ?_ fun _ _ r=>PRel.putD hD r⟩
  cases ob with
  | mp l=>
   obtain ⟨es,clock,l',h1,_⟩:=h
   exact (hne h1 (fun _=>by simp)).trans h1.symm
  | ch cap q=>
   obtain ⟨buf,s,r,h1,_⟩:=h
   exact (hne h1 (fun _=>by simp)).trans h1.symm
 | lp f j sl st pe=>
  obtain ⟨g,c,L,N,fn,tmps,D',e,hL,hg,hs,h⟩:=h
  exact ⟨g,c,L,N,fn,tmps,D',e,hL,hne hg (fun _=>by simp),hs,fun n=>VRel.putD hD (h n)⟩
end
theorem RS.putD{P:Program}{w0 w:World}{fps:List Nat}{base:Nat→Prop}{env:Env}{regs:List Reg}{D:Nat}{x:Option (List Deferred)}{o:Obj}(h:RS P w0 w fps base env regs)(hD:w.heap[D]?=some (.deferred x))(h0:w0.heap.size≤D):RS P w0 (w.putObj D o) fps base env regs:=
 ⟨⟨h.keep.os,h.keep.tape,h.keep.output,by simpa using h.keep.size,fun k hk hn=>(World.putObj_heap_other (by omega)).trans (h.keep.block k hk hn)⟩,h.base_lt,h.len,fun id r hr=>RRel.putD hD (h.reg id r hr),fun id r g c hr hl he=>by simpa using h.own id r g c hr hl he,h.inj⟩
theorem Ev.putD{w0 w:World}{env0 env:Env}{bad0 bad:Nat→Prop}{D:Nat}{o:Obj}(h:Ev w0 env0 bad0 w env bad)(h0:w0.heap.size≤D):Ev w0 env0 bad0 (w.putObj D o) env bad:=
 ⟨⟨by simpa using h.same.size,fun b hb hn=>(World.putObj_heap_other (by omega)).trans (h.same.block b hb hn)⟩,h.sub,h.le⟩
theorem W74{P:Program}{w0:World}{env0:Env}{bad0:Nat→Prop}{fps:List Nat}{base:Nat→Prop}{env:Env}{s:St}{fn:Func}{tmps:Array Value}{rs:List RV}{vs:List AV}{R:Ending→World→Prop}
  (hres:W0h (trR P) fn.results.toList=some rs) (hv:W0h (W5b s) rs=some vs)
  (hR:∀u w',RS P w0 w' fps base env s.regs→VRel w' env (W04 base env s.regs) (W8p vs) u→Ev w0 env0 bad0 w' env (W04 base env s.regs)→R (.returned u) w'):∀(ds:List Deferred) (w:World),
  ds.Nodup→(∀d∈ds,∃D,d={target:= .collected D,args:= #[]}∧w0.heap.size≤D∧w.heap[D]?=some (.deferred (some [])))→RS P w0 w fps base env s.regs→(∀n,VRel w env (W04 base env s.regs) (lk s.slots n) (tmps.getD n undef))→Ev w0 env0 bad0 w env (W04 base env s.regs)→
  LeavesInM (Fw none) 0 P fn tmps R ds .returning w
 | [],w,_,_,hrs,hsl,hev=>by
  obtain ⟨u,hu,huv⟩:=Wxl (P:=P) hrs hsl hres hv
  exact ⟨u,hu,hR u w hrs huv hev⟩
 | d::ds,w,hnd,hm,hrs,hsl,hev=>by
  obtain ⟨D,rfl,h0,hD⟩:=hm d Xg
  rw[List.nodup_cons]at hnd
  refine ⟨by simp,.inl ⟨D,w.putObj D (.deferred none),rfl,run_takeDeferred hD,W74 hres hv hR ds _ hnd.2 (fun d' hd'=> ?_) (hrs.putD hD h0) (fun n=>VRel.putD hD (hsl n)) (hev.putD h0)⟩⟩
  obtain ⟨D',rfl,h1,h2⟩:=hm d' (Zo _ hd')
  refine ⟨D',rfl,h1,(World.putObj_heap_other ?_).trans h2⟩
  intro e
  exact hnd.1 (by rw[←e]; exact hd')
structure Fin2(P:Program)(n0:Nat)(rs:List RV)(K:AV→List Reg→Prop)(e:Exit)(s:St):Prop where
 he:e= .normal∨e= .ret
 ex:∃s1 vs,Weak P n0 s s1∧W0h (W5b s1) rs=some vs∧K (W8p vs) s1.regs
theorem Fin2.weak{P:Program}{n0:Nat}{rs:List RV}{K:AV→List Reg→Prop}{e:Exit}{s s1:St}{vs:List AV}(he:e= .normal∨e= .ret)(hw:Weak P n0 s s1)(hv:W0h (W5b s1) rs=some vs)(h:K (W8p vs) s1.regs):Fin2 P n0 rs K e s:=⟨he,s1,vs,hw,hv,h⟩
theorem Wnr{P:Program}{f:Nat}{fn:Func}{c:Code}{ac:ACode}{args:List AV}{regs:List Reg}{K:AV→List Reg→Prop}(hf:P.funcs[f]?=some fn)(hname:(fn.name== "runtime.NumGoroutine")=false)(hb:fn.body=some c)
  (rs:List RV) (hres:W0h (trR P) fn.results.toList=some rs) (htr:W1x P fn.ntmps f 0 c=some ac) (hN:args.length≤fn.ntmps)
  (h:W2p P regs.length none ac (Fin2 P regs.length rs K) ⟨W0w 0 args,regs⟩):FS P f args regs K:=by
 refine ⟨⟨fn,hf,hname,by rw[hb]; rfl⟩,fun w fps base env vs hrs hargs=>(callsIn_Fw (ro:=none) (n:=0)).1 (callsIn_of_wp_marks hf hb trivial ?_)⟩
 have hlen:vs.length=args.length:=hargs.len.symm
 have hseg:Seg P fn.ntmps f 0 c:=fun i L hi=>by
  rw[Xn]
  simp only[lpOf,hf,hb,Zn,hi,Yi]
 refine h c fn.ntmps f 0 htr hseg 0 w env ⟨w,W04 base env regs,[],w.heap.size⟩ fps base _ w _ hrs.len ⟨⟨env,hrs,fun n=> ?_,Ev.refl _ _ _⟩,?_,rfl,.nil,fun d hd=>by simp at hd,Z8 _⟩ fun e s0 env1 bad1 a' w' hl q0 r0=> ?_
 ·have:=W73 (w:=w) (env:=env) (bad:=W04 base env regs) 0 n (fn.ntmps-vs.length) hargs (Nat.zero_le _)
  have e:vs.toArray++Array.replicate (fn.ntmps-vs.toArray.size) undef=(vs++List.replicate (fn.ntmps-vs.length) undef).toArray:=by apply Array.ext'; simp
  rw[e]
  simpa using this
 ·simp[hlen]; omega
 ·obtain ⟨he,s,vs',hw,hv,hk⟩:=q0
  have r:=hw _ _ _ _ _ _ _ _ (hl.2.1.trans hrs.len) r0
  obtain ⟨⟨env',hrs',hsl,hev⟩,hsz,hds,hnd,hmk,hlo⟩:=r
  have hq:LeavesInM (Fw none) 0 P fn a'.tmps (fun e w'=>∃v res regs' env',e= .returned v∧K res regs'∧RS P w w' fps base env' regs'∧VRel w' env' (W04 base env' regs') res v∧Ev w env (W04 base env regs) w' env' (W04 base env' regs')) a'.defers .returning w':=by
   rw[hds]
   refine W74 (s:=s) (env:=env') (w0:=w) (env0:=env) (bad0:=W04 base env regs) hres hv (fun u w2 hrs2 hv2 hev2=> ?_) bad1.ds w' hnd (fun d hd=> ?_) hrs' hsl (hl.1.trans hev)
   ·exact ⟨u,_,_,env',rfl,hk,hrs2,hv2,hev2⟩
   ·obtain ⟨D,rfl,h0,h1,h2,h3⟩:=hmk d hd
    exact ⟨D,rfl,by rw[hl.2.2]at h0; exact h0,(hev.same.block D h1 h2).trans h3⟩
  rcases he with rfl | rfl
  ·exact hq
  ·exact hq
theorem RS.enter{P:Program}{w0 w:World}{fps:List Nat}{base:Nat→Prop}{env:Env}{regs:List Reg}(hrs:RS P w0 w fps base env regs):
  ∃fps',RS P w w fps' base env regs∧∀w' env' regs',RS P w w' fps' base env' regs'→RS P w0 w' fps base env' regs':=by
 let fps':=fps++(List.range w.heap.size).filter (fun b=>decide (w0.heap.size≤b))
 have hfp:∀b,b∈fps'→b∈fps∨w0.heap.size≤b:=by
  intro b hb
  rcases Zg.1 hb with h | h
  ·exact .inl h
  ·exact .inr (by simpa using (Zj.1 h).2)
 refine ⟨fps',⟨Keep.refl _ _,fun b hb=>⟨Zt (hrs.base_lt b hb).1 hrs.keep.size,fun hx=>by
  rcases hfp b hx with h | h
  ·exact (hrs.base_lt b hb).2 h
  ·have:=(hrs.base_lt b hb).1; omega⟩,hrs.len,hrs.reg,fun id r g c hr hl he=>by
   obtain ⟨h1,h2⟩:=hrs.own id r g c hr hl he
   refine ⟨.inl (Zg.2 ?_),h2⟩
   rcases h1 with h1 | h1
   ·exact .inl h1
   ·exact .inr (Zj.2 ⟨Y4.2 h2,by simpa using h1⟩),hrs.inj⟩,?_⟩
 intro w' env' regs' hrs2
 have hsize:w0.heap.size≤w.heap.size:=hrs.keep.size
 exact ⟨hrs.keep.trans' hrs2.keep hfp,hrs.base_lt,hrs2.len,hrs2.reg,fun id r g c hr hl he=>by
  obtain ⟨h1,h2⟩:=hrs2.own id r g c hr hl he
  refine ⟨?_,h2⟩
  rcases h1 with h1 | h1
  ·exact hfp g h1
  ·exact .inr (Y5 hsize h1),hrs2.inj⟩
theorem RS.grow{P:Program}{w0 w:World}{fps:List Nat}{base:Nat→Prop}{env:Env}{regs:List Reg}(h:RS P w0 w fps base env regs)(o:Obj):
  RS P w0 (w.alloc o) fps base env regs∧Ev w env (W04 base env regs) (w.alloc o) env (W04 base env regs):=by
 have hev:Ev w env (W04 base env regs) (w.alloc o) env (W04 base env regs):=⟨⟨by simp,fun b hb _=>Xy _ _ _ hb⟩,fun _ _ h=>h,Env.le_refl _⟩
 exact ⟨⟨h.keep.alloc _,h.base_lt,h.len,fun id r hr=>RRel.ev hev (h.live_lt hr) (fun hl g c he=>Xy _ _ _ (h.own id r g c hr hl he).2) (h.reg id r hr),fun id r g c hr hl he=>by
  have:=h.own id r g c hr hl he
  exact ⟨this.1,by simp; omega⟩,h.inj⟩,hev⟩
theorem RRel.not_def{P:Program}{w:World}{env:Env}{bad:Nat→Prop}{id:Nat}{r:Reg}(h:RRel P w env bad id r)(hl:r.live=true){g c:Nat}(he:env.f id=some (g,c)){x:Option (List Deferred)}:w.heap[g]?≠some (.deferred x):=by
 intro hx
 cases r with
 | dead=>cases hl
 | pc sz ls=>
  obtain ⟨_,_,⟨e,_⟩ | ⟨g',c',cur,t,e,hg,_⟩⟩:=h
  ·rw[he]at e; cases e
  ·rw[he]at e; cases e; rw[hx]at hg; cases hg
 | es sz ls=>
  obtain ⟨_,_,⟨e,_⟩ | ⟨g',c',cur,t,e,hg,_⟩⟩:=h
  ·rw[he]at e; cases e
  ·rw[he]at e; cases e; rw[hx]at hg; cases hg
 | ac l=>
  obtain ⟨g',c',cur,t,e,hg,_⟩:=h
  rw[he]at e; cases e; rw[hx]at hg; cases hg
 | ob o=>
  obtain ⟨g',c',e,h⟩:=h
  rw[he]at e; cases e
  cases o with
  | mp l=>obtain ⟨es,clock,l',hg,_⟩:=h; rw[hx]at hg; cases hg
  | ch cap q=>obtain ⟨buf,s,r,hg,_⟩:=h; rw[hx]at hg; cases hg
 | lp f j sl st pe=>
  obtain ⟨g',c',L,N,fn,tmps,D,e,hL,hg,_⟩:=h
  rw[he]at e; cases e; rw[hx]at hg; cases hg
theorem RS.loopTurn{P:Program}{w0 w:World}{fps:List Nat}{base:Nat→Prop}{env:Env}{regs:List Reg}(h:RS P w0 w fps base env regs){id g c f j:Nat}{sl:List (Nat×AV)}{st st':LpSt}{pe pe':Option LpEx}
  (hr:regs[id]?=some (.lp f j sl st pe)) (he:env.f id=some (g,c)):∃r:Loop,w.heap[g]?=some (.loop r)∧r.state=st.of∧r.pending=pe.map LpEx.of∧
   RS P w0 (w.putObj g (.loop {r with state:=st'.of,pending:=pe'.map LpEx.of})) fps base env (regs.set id (.lp f j sl st' pe'))∧
   Ev w env (W04 base env regs) (w.putObj g (.loop {r with state:=st'.of,pending:=pe'.map LpEx.of})) env (W04 base env (regs.set id (.lp f j sl st' pe'))):=by
 obtain ⟨g',c',L,N,fn,tmps,D,e,hL,hg,hts,hsl⟩:=h.reg id _ hr
 rw[he]at e
 cases e
 refine ⟨_,hg,rfl,rfl,h.turn hr rfl he rfl rfl rfl (by simp) (fun b hb=>World.putObj_heap_other hb) rfl fun hev=> ?_⟩
 exact ⟨g,c,L,N,fn,tmps,D,he,hL,World.putObj_heap_same (Array.getElem?_eq_some_iff.1 hg).1,hts,fun n=>(hsl n).ev hev⟩
def Wfz:List Nat→List AV→List (Nat×AV)→List (Nat×AV)
 | t::ts,v::vs,sl=>Wfz ts vs ((t,v)::sl)
 | _,_,sl=>sl
theorem Wdi{w:World}{env:Env}{bad:Nat→Prop}:∀{ts:List Nat} {args:List AV} {vs:List Value} {sl:List (Nat×AV)} {tmps:Array Value},All2 (VRel w env bad) args vs→ts.length=args.length→(∀t∈ts,t<tmps.size)→(∀n,VRel w env bad (lk sl n) (tmps.getD n undef))→
  ((ts.zip vs).foldl (fun (tmps:Array Value) (p:Nat×Value)=>tmps.setIfInBounds p.1 p.2) tmps).size=tmps.size∧∀n,VRel w env bad (lk (Wfz ts args sl) n) (((ts.zip vs).foldl (fun (tmps:Array Value) (p:Nat×Value)=>tmps.setIfInBounds p.1 p.2) tmps).getD n undef)
 | [],[],[],sl,tmps,_,_,_,h=>⟨rfl,h⟩
 | t::ts,v::args,u::vs,sl,tmps,ha,hl,ht,h=>by
  have:=Wdi (ts:=ts) (args:=args) (vs:=vs) (sl:=(t,v)::sl) (tmps:=tmps.setIfInBounds t u) ha.2 (by simpa using hl) (fun t' ht'=>by simpa using ht t' (Zo _ ht')) (fun n=>Wvt h (ht t Xg) ha.1 n)
  simp only[List.zip_cons_cons,Xe,Wfz]
  exact ⟨by rw[this.1]; simp,this.2⟩
 | [],_::_,_,_,_,_,hl,_,_=>by simp at hl
 | _::_,[],_,_,_,_,hl,_,_=>by simp at hl
 | _,[],_::_,_,_,h,_,_,_=>h.elim
 | _,_::_,[],_,_,h,_,_,_=>h.elim
def Wsp(id f j:Nat)(K:AV→List Reg→Prop):Exit→St→Prop
 | .normal,s=>∃sl,s.regs[id]?=some (.lp f j sl .busy none)∧K (.c (.p (.v (.bool true)))) (s.regs.set id (.lp f j sl .ready none))
 | .ret,s=>∃sl,s.regs[id]?=some (.lp f j sl .busy none)∧K (.c (.p (.v (.bool false)))) (s.regs.set id (.lp f j sl .done (some .ret)))
 | .exit i,s=>∃sl,s.regs[id]?=some (.lp f j sl .busy none)∧K (.c (.p (.v (.bool false)))) (s.regs.set id (.lp f j sl .done (some (.exit i))))
 | _,_=>False
def Wsq(P:Program)(n0 l id f j:Nat)(bd:ACode)(K:AV→List Reg→Prop):Exit→St→Prop
 | .normal,s=>∃sl,s.regs[id]?=some (.lp f j sl .ready none)∧W2p P n0 (some l) bd (fun e t=>∃t',Weak P n0 t t'∧Wsp id f j K e t') ⟨s.slots,s.regs.set id (.lp f j sl .busy none)⟩
 | _,_=>False
theorem V1h{P:Program}{N f:Nat}{c:Code}(h:(W14 c).isEmpty=true):Seg P N f 0 c:=fun i L hi=>by
 rw[List.isEmpty_iff.1 h]at hi
 simp at hi
theorem V6s{P:Program}{f j id N:Nat}{L:LoopT}{args:List AV}{regs:List Reg}{K:AV→List Reg→Prop}{sl:List (Nat×AV)}{as bd:ACode}(hr:regs[id]?=some (.lp f j sl .ready none))(hL:lpOf P f j=some (L,N))(hn:L.ps.toList.length=args.length)(hlt:∀t∈L.ps.toList,t<N)
  (hta:W1x P N f 0 L.asg=some as) (hsa:(W14 L.asg).isEmpty=true) (htb:W1x P N f 0 L.body=some bd) (hsb:(W14 L.body).isEmpty=true)
  (h:∀l,W2p P regs.length (some l) as (fun e t=>∃t',Weak P regs.length t t'∧Wsq P regs.length l id f j bd K e t') ⟨Wfz L.ps.toList args sl,regs⟩):YS P id args regs K:=by
 intro w fps base env vs hrs hargs l c hl
 obtain ⟨g',c',L',N',fn,tmps,D,e,hL',hg,hts,hsl⟩:=hrs.reg id _ hr
 rw[hl]at e
 cases e
 rw[hL]at hL'
 cases hL'
 have hvs:vs.length=args.length:=hargs.len.symm
 have hsz:L.ps.size=L.ps.toList.length:=by simp
 refine ⟨_,_,_,_,run_yield hg (by simp; omega),fun ro n=>roundIn_of_wpIn trivial ?_⟩
 have hfold:(L.ps.zip vs.toArray).foldl (fun tmps (t,a)=>tmps.setIfInBounds t a) tmps=(L.ps.toList.zip vs).foldl (fun (tmps:Array Value) (p:Nat×Value)=>tmps.setIfInBounds p.1 p.2) tmps:=by
  rw[←Array.foldl_toList,Array.toList_zip]
 obtain ⟨p1,p2⟩:=Wdi (w:=w) (env:=env) (bad:=W04 base env regs) (tmps:=tmps) hargs hn (fun t ht=>by rw[hts]; exact hlt t ht) hsl
 refine h l L.asg N f 0 hta (V1h hsa) n w env ⟨w,W04 base env regs,[],w.heap.size⟩ fps base _ w _ hrs.len ⟨⟨env,hrs,fun k=> ?_,Ev.refl _ _ _⟩,?_,rfl,.nil,fun d hd=>by simp at hd,Z8 _⟩ fun ex s1' env1 bad1 a1 w1 hl1 q1' r1'=> ?_
 ·show VRel w env (W04 base env regs) _ (((L.ps.zip vs.toArray).foldl (fun tmps (t,a)=>tmps.setIfInBounds t a) tmps).getD k undef)
  rw[hfold]
  exact p2 k
 ·show ((L.ps.zip vs.toArray).foldl (fun tmps (t,a)=>tmps.setIfInBounds t a) tmps).size=N
  rw[hfold,p1,hts]
 ·obtain ⟨s1,hw1,q1⟩:=q1'
  have r1:=hw1 _ _ _ _ _ _ _ _ (hl1.2.1.trans hrs.len) r1'
  cases ex with
  | normal=>
   obtain ⟨sl1,hr1,hcode⟩:=q1
   obtain ⟨⟨e1,hrs1,hsl1,hev1⟩,hsz1,hds1⟩:=r1
   have hid:id<env.n:=hrs.live_lt hr
   have he1:e1.f id=some (l,c):=by
    have h1:env1.f id=env.f id:=hl1.1.le.2 id hid
    have h2:e1.f id=env1.f id:=hev1.le.2 id (by rw[hl1.2.1]; exact hid)
    rw[h2,h1,hl]
   obtain ⟨rec,hrec,hst,hpe,hrs2,hev2⟩:=hrs1.loopTurn (st':= .busy) (pe':=none) hr1 he1
   have hpe':rec.pending=none:=hpe
   have heq:({rec with state:=LpSt.of .busy,pending:=Option.map LpEx.of none}:Loop)={rec with state:= .busy}:=by
    obtain ⟨a,b,c,d,e,f,g,h⟩:=rec
    simp only at hpe'
    subst hpe'
    rfl
   rw[heq]at hrs2 hev2
   refine ⟨_,run_beginRound hrec hst,?_⟩
   refine hcode L.body N f 0 htb (V1h hsb) n w env1 bad1 fps base a1 _ _ (hl1.2.1.trans hrs.len) ⟨⟨e1,hrs2,fun k=>(hsl1 k).ev hev2,hev1.trans hev2⟩,hsz1,hds1⟩ fun ex s2' env2 bad2 a2 w2 hl2 q2' r2'=> ?_
   obtain ⟨s2,hw2,q2⟩:=q2'
   have r2:=hw2 _ _ _ _ _ _ _ _ (hl2.2.1.trans (hl1.2.1.trans hrs.len)) r2'
   have fin:∀(jump:Option LpEx) (st:LpSt) (b:Bool) (sl2:List (Nat×AV)),s2.regs[id]?=some (.lp f j sl2 .busy none)→K (.c (.p (.v (.bool b)))) (s2.regs.set id (.lp f j sl2 st jump))→b=jump.isNone→st.of=(if (jump.map LpEx.of).isNone then .ready else .done)→
     ∃v w',(Instr.endRound l (jump.map LpEx.of)).run P w2= .ok v w'∧∃v' res regs' env',Ending.returned v= .returned v'∧K res regs'∧RS P w w' fps base env' regs'∧VRel w' env' (W04 base env' regs') res v'∧Ev w env (W04 base env regs) w' env' (W04 base env' regs'):=by
    intro jump st b sl2 hr2 hk hb hst2
    obtain ⟨⟨e2,hrs3,hsl3,hev3⟩,hsz3,hds3⟩:=r2
    have he2:e2.f id=some (l,c):=by
     have h1:env1.f id=env.f id:=hl1.1.le.2 id hid
     have h2:env2.f id=env1.f id:=hl2.1.le.2 id (by rw[hl1.2.1]; exact hid)
     have h3:e2.f id=env2.f id:=hev3.le.2 id (by rw[hl2.2.1,hl1.2.1]; exact hid)
     rw[h3,h2,h1,hl]
    obtain ⟨rec2,hrec2,hst3,hpe3,hrs4,hev4⟩:=hrs3.loopTurn (st':=st) (pe':=jump) hr2 he2
    refine ⟨_,_,run_endRound (jump.map LpEx.of) hrec2,_,_,_,e2,rfl,hk,?_,?_,?_⟩
    ·rw[←hst2]
     exact hrs4
    ·have hj:(jump.map LpEx.of).isNone=b:=by rw[hb]; cases jump<;>rfl
     rw[hj]
     exact .c (show CRel _ _ _ (.p (.v (.bool b))) (.bool b)from PRel.v rfl)
    ·rw[←hst2]
     exact (((hl1.trans hl2).1).trans hev3).trans hev4
   cases ex with
   | normal=>
    obtain ⟨sl2,hr2,hk⟩:=q2
    exact fin none .ready true sl2 hr2 hk rfl rfl
   | ret=>
    obtain ⟨sl2,hr2,hk⟩:=q2
    exact fin (some .ret) .done false sl2 hr2 hk rfl rfl
   | exit i=>
    obtain ⟨sl2,hr2,hk⟩:=q2
    exact fin (some (.exit i)) .done false sl2 hr2 hk rfl rfl
   | goto _=>exact q2.elim
   | panic _=>exact q2.elim
   | outgrown=>exact q2.elim
  | _=>exact q1.elim
theorem Wki{P:Program}{n0:Nat}{Q:Exit→St→Prop}{s:St}{g:AX}{f j gf:Nat}{fa ca:List FA}(hg:s.ev g= .c (.fn (.func gf) fa ca))
  (h:FS P gf (fa.map avFA++[.c (.hnd .yl s.regs.length)]++ca.map avFA) (s.regs++[.lp f j s.slots .ready none]) fun res regs'=>∃sl st pe,regs'[s.regs.length]?=some (.lp f j sl st pe)∧st≠ .busy∧
   match pe with
   | none=>Q .normal ⟨s.slots,regs'.set s.regs.length .dead⟩
   | some .ret=>Q .ret ⟨s.slots,regs'.set s.regs.length .dead⟩
   | some (.exit i)=>Q (.exit i) ⟨s.slots,regs'.set s.regs.length .dead⟩):W2p P n0 none (.rfun g f j) Q s:=by
 intro c N f' j' htr hs n w0 env0 bad0 fps base a w Q' en hR hQ
 obtain ⟨go,ps,ca',cb,rfl,hx,rfl,rfl,hL⟩:=W1l htr hs
 obtain ⟨⟨env,hrs,hsl,hev⟩,hsz,hds,hnd,hmk,hlo⟩:=hR
 obtain ⟨hok,hf⟩:=h
 obtain ⟨fs,cs,hv,h1,h2⟩:=Wwz (W05 hsl hx) hg
 refine wpIn_rangeFunc fun fn _=> ?_
 obtain ⟨rec,hrec⟩:∃rec:Loop,rec={state:= .ready,pending:=none,fn:=fn,tmps:=a.tmps,params:=ps,assign:=ca',body:=cb,defers:=w.heap.size}:=⟨_,rfl⟩
 obtain ⟨hrsD,hevD⟩:=hrs.grow (.deferred (some []))
 obtain ⟨W,hW⟩:∃W,W=(w.alloc (.deferred (some []))).alloc (.loop rec):=⟨_,rfl⟩
 have hsD:(w.alloc (.deferred (some []))).heap.size=w.heap.size+1:=by simp
 obtain ⟨hrsL,hevL⟩:=hrsD.alloc (r:= .lp f j s.slots .ready none) (o:= .loop rec) (c:=0) (w':=W) hW fun bad' hev'=>
  ⟨_,_,⟨ps,ca',cb⟩,N,fn,a.tmps,w.heap.size,Env.push_at _ _,hL,by rw[hW,hrec]; exact World.alloc_heap_new _ _,hsz,fun k=>((hsl k).ev hevD).ev hev'⟩
 rw[hsD]at hrsL hevL
 have henv:(env.push (some (w.heap.size+1,0))).f s.regs.length=some (w.heap.size+1,0):=by rw[←hrs.len]; exact Env.push_at _ _
 obtain ⟨fps',hrsC,hback⟩:=hrsL.enter
 have hall:=hevD.trans hevL
 have hargs:All2 (VRel W (env.push (some (w.heap.size+1,0))) (W04 base (env.push (some (w.heap.size+1,0))) (s.regs++[.lp f j s.slots .ready none]))) (fa.map avFA++[.c (.hnd .yl s.regs.length)]++ca.map avFA) (fs++[.func (.yield (w.heap.size+1)) #[] #[]]++cs):=by
  refine All2.append (All2.append ((W2u h1).imp fun _ _ r=>r.ev hall) ⟨.c ⟨?_,_,_,henv,rfl⟩,trivial⟩) ((W2u h2).imp fun _ _ r=>r.ev hall)
  rw[←hrs.len]
  exact Nat.lt_succ_self _
 have hcall:=hf W fps' base _ _ hrsC hargs
 refine ⟨w.heap.size+1,[{target:= .collected w.heap.size,args:= #[]}],W,{target:= .fn (.func gf) cs.toArray,args:=fs.toArray++ #[Value.func (.yield (w.heap.size+1)) #[] #[]]},W,gf,
  (fs++[Value.func (.yield (w.heap.size+1)) #[] #[]]++cs).toArray,W,?_,?_,fun _ _=>trivial,?_,W7e,?_⟩
 ·rw[hW,hrec]
  exact run_enterLoop_outer _ _ _ _ _
 ·simp only[resolve,Deferred.ofValue,hv,Sem.run_pure,List.map_toArray,Zh,Y9]
  rfl
 ·have ha:fs.toArray++ #[Value.func (.yield (w.heap.size+1)) #[] #[]]++cs.toArray=(fs++[Value.func (.yield (w.heap.size+1)) #[] #[]]++cs).toArray:=by apply Array.ext'; simp
  simp only[invoke,ha]
  exact Wvu hok _ W
 ·refine callsIn_Fw.2 (hcall.mono fun e w3 hh=> ?_)
  obtain ⟨v,res,regs',env3,rfl,⟨sl,st,pe,hr3,hst,hq⟩,hrs3,hv3,hev3⟩:=hh
  have hid:s.regs.length<(env.push (some (w.heap.size+1,0))).n:=by rw[←hrs.len]; exact Nat.lt_succ_self _
  have he3:env3.f s.regs.length=some (w.heap.size+1,0):=by rw[hev3.le.2 _ hid,henv]
  obtain ⟨rec3,hrec3,hst3,hpe3,hrs4,hev4⟩:=(hback _ _ _ hrs3).loopTurn (st':= .over) (pe':=pe) hr3 he3
  have heq:({rec3 with state:=LpSt.of .over,pending:=pe.map LpEx.of}:Loop)={rec3 with state:= .exhausted}:=by rw[←hpe3]; rfl
  rw[heq]at hrs4 hev4
  obtain ⟨hrs5,hev5⟩:=hrs4.kill s.regs.length
  rw[Xo]at hrs5 hev5
  have hbusy:rec3.state≠ .busy:=by
   rw[hst3]
   intro e
   cases st<;>first | exact hst rfl | cases e
  refine ⟨_,_,run_endLoop hrec3 hbusy,?_⟩
  obtain ⟨W4,hW4⟩:∃W4,W4=w3.putObj (w.heap.size+1) (.loop {rec3 with state:= .exhausted}):=⟨_,rfl⟩
  rw[←hW4]at hrs4 hev4 hrs5 hev5 ⊢
  have hevW:Ev W (env.push (some (w.heap.size+1,0))) (W04 base (env.push (some (w.heap.size+1,0))) (s.regs++[.lp f j s.slots .ready none])) W4 env3 (W04 base env3 (regs'.set s.regs.length .dead)):=(hev3.trans hev4).trans hev5
  have hevAll:Ev w env (W04 base env s.regs) W4 env3 (W04 base env3 (regs'.set s.regs.length .dead)):=hall.trans hevW
  have hevB:=hev.trans hevAll
  have hDW:W.heap[w.heap.size]?=some (.deferred (some [])):=by
   rw[hW]
   exact (Xy _ _ _ (by simp)).trans (World.alloc_heap_new w _)
  have hDbad:¬W04 base (env.push (some (w.heap.size+1,0))) (s.regs++[.lp f j s.slots .ready none]) w.heap.size:=by
   rintro (hb | ⟨i,r,c,hr,hl,he⟩)
   ·have:=(hrs.base_lt _ hb).1
    have:=hrs.keep.size
    omega
   ·exact (hrsC.reg i r hr).not_def hl he hDW
  have hDlt:w.heap.size<W.heap.size:=by rw[hW]; simp; omega
  have hD4:W4.heap[w.heap.size]?=some (.deferred (some [])):=(hevW.same.block _ hDlt hDbad).trans hDW
  have hD4lt:w.heap.size<W4.heap.size:=Zt hDlt hevW.same.size
  have hw0:w0.heap.size≤w.heap.size:=hrs.keep.size
  have hbw:bad0.w.heap.size≤w.heap.size:=hev.same.size
  obtain ⟨env1,henv1⟩:∃env1:Env,env1=⟨env0.n,env3.f⟩:=⟨_,rfl⟩
  have hle:env1.le env3:=⟨by rw[henv1]; exact hevB.le.1,fun i hi=>by rw[henv1]⟩
  obtain ⟨bad1,hbad1⟩:∃bad1:Bs,bad1=⟨W4,W04 base env3 (regs'.set s.regs.length .dead),{target:= .collected w.heap.size,args:= #[]}::bad0.ds,bad0.lo⟩:=⟨_,rfl⟩
  have hlater:Later env0 bad0 env1 bad1:=by
   rw[hbad1,henv1]
   exact ⟨⟨hevB.same,hevB.sub,⟨Z8 _,fun i hi=>hevB.le.2 i hi⟩⟩,rfl,rfl⟩
  have hR1:R P w0 env1 bad1 fps base N ⟨s.slots,regs'.set s.regs.length .dead⟩ {a with defers:={target:= .collected w.heap.size,args:= #[]}::a.defers} W4:=by
   rw[hbad1]
   refine ⟨⟨env3,hrs5,fun k=>(hsl k).ev hevAll,⟨⟨Z8 _,fun _ _ _=>rfl⟩,fun _ _ h=>h,hle⟩⟩,hsz,by rw[←hds],?_,fun d hd=> ?_,hlo⟩
   ·refine List.nodup_cons.2 ⟨fun hd=> ?_,hnd⟩
    obtain ⟨D',hD',_,hlt,_⟩:=hmk _ hd
    injection hD' with e1 e2
    injection e1 with e1
    omega
   ·rcases Zq.1 hd with rfl | hd
    ·exact ⟨_,rfl,Y5 hlo hw0,hD4lt,fun hb=>hDbad (hevW.sub _ hDlt hb),hD4⟩
    ·obtain ⟨D',rfl,q1,q2,q3,q4⟩:=hmk _ hd
     exact ⟨D',rfl,q1,Zt q2 hevB.same.size,fun hb=>q3 (hevB.sub _ q2 hb),(hevB.same.block _ q2 q3).trans q4⟩
  rw[hpe3]
  cases pe with
  | none=>exact hQ _ _ _ _ _ _ hlater hq hR1
  | some x=>
   cases x with
   | ret=>exact wpIn_ret (hQ _ _ _ _ _ _ hlater hq hR1)
   | exit i=>exact wpIn_exit (hQ _ _ _ _ _ _ hlater hq hR1)
inductive CK where
 | fn (f:Nat)
 | yl (id:Nat)
abbrev W0i:=CK→List AV→List Reg→Option (AV×List Reg)
structure CallOk(P:Program)(call:W0i):Prop where
 fn:∀f args regs r rg,call (.fn f) args regs=some (r,rg)→FS P f args regs fun r' rg'=>r'=r∧rg'=rg
 yl:∀id args regs r rg,call (.yl id) args regs=some (r,rg)→YS P id args regs fun r' rg'=>r'=r∧rg'=rg
def lkF:List (Nat×AV)→Nat→AV
 | [],_=> .c .any
 | (k,v)::r,n=>bif Nat.beq k n then v else lkF r n
theorem W1m:∀(l:List (Nat×AV)) (n:Nat),lkF l n=lk l n
 | [],_=>rfl
 | (k,v)::r,n=>by
  simp only[lkF,lk]
  by_cases h:k=n
  ·subst h
   rw[if_pos rfl,Nat.beq_refl]
   rfl
  ·rw[if_neg h,←W1m r n]
   cases hb:Nat.beq k n with
   | true=>exact absurd (Nat.eq_of_beq_eq_true hb) h
   | false=>rfl
def evF(s:St):AX→AV
 | .t n=>lkF s.slots n
 | .k x=> .c (.p (.v x))
 | .f i=> .c (.fn (.func i) [] [])
theorem W0f(s:St):evF s=s.ev:=by
 funext x
 cases x with
 | t n=>exact W1m s.slots n
 | _=>rfl
def kIx:IntKind→Nat
 | .i8=>0 | .i16=>1 | .i32=>2 | .i64=>3 | .u8=>4 | .u16=>5 | .u32=>6 | .u64=>7
def kB(a b:IntKind):Bool:=Nat.beq (kIx a) (kIx b)
theorem V1i{a b:IntKind}(h:kB a b=true):a=b:=by
 cases a<;>cases b<;>first | rfl | (exact absurd h (by decide))
def binE(op:BinOp)(x y:Value):Option Value:=
 match op,x,y with
 | .add,.int k a,.int k' b=>if kB k k'=true then some (.int k (k.wrap (a+b)))else none
 | .sub,.int k a,.int k' b=>if kB k k'=true then some (.int k (k.wrap (a-b)))else none
 | .mul,.int k a,.int k' b=>if kB k k'=true then some (.int k (k.wrap (a*b)))else none
 | .quo,.int k a,.int k' b=>if kB k k'=true∧b≠0 then some (.int k (k.wrap (a.tdiv b)))else none
 | .rem,.int k a,.int k' b=>if kB k k'=true∧b≠0 then some (.int k (a.tmod b))else none
 | .and,.int k a,.int k' b=>if kB k k'=true then some (.int k (bits .and k a b))else none
 | .or,.int k a,.int k' b=>if kB k k'=true then some (.int k (bits .or k a b))else none
 | .xor,.int k a,.int k' b=>if kB k k'=true then some (.int k (bits .xor k a b))else none
 | .andNot,.int k a,.int k' b=>if kB k k'=true then some (.int k (bits .andNot k a b))else none
 | .eql,.int k a,.int k' b=>if kB k k'=true then some (.bool (decide (a=b)))else none
 | .neq,.int k a,.int k' b=>if kB k k'=true then some (.bool (!decide (a=b)))else none
 | .lss,.int k a,.int k' b=>if kB k k'=true then some (.bool (decide (a<b)))else none
 | .leq,.int k a,.int k' b=>if kB k k'=true then some (.bool (decide (a≤b)))else none
 | .gtr,.int k a,.int k' b=>if kB k k'=true then some (.bool (decide (b<a)))else none
 | .geq,.int k a,.int k' b=>if kB k k'=true then some (.bool (decide (b≤a)))else none
 | .shl,.int k a,.int _ b=>if 0≤b then some (.int k (k.wrap (a*2^(min b.toNat k.bits))))else none
 | .shr,.int k a,.int _ b=>if 0≤b then some (.int k (a/2^(min b.toNat k.bits)))else none
 | .add,.string a,.string b=>if ((a.size+b.size:Nat):Int)≤9223372036854775807 then some (.string (a++b))else none
 | .eql,.string a,.string b=>some (.bool (a.toList==b.toList))
 | .neq,.string a,.string b=>some (.bool (!(a.toList==b.toList)))
 | _,_,_=>none
theorem V1j{op:BinOp}{x y v:Value}{K:Value→Prop}(h:binE op x y=some v)(hk:K v):binW op x y K:=by
 unfold binE at h
 split at h
 all_goals first
  | (split at h
     ·rename_i hc
      cases h
      first | exact ⟨V1i hc,hk⟩ | exact ⟨V1i hc.1,hc.2,hk⟩ | exact ⟨hc,hk⟩
     ·cases h)
  | (cases h; exact hk)
  | cases h
def Wns:List PV→Option Int
 | [.v (.int .u8 b)]=>some b
 | _=>none
theorem Whp:∀{ls:List (List PV)} {bs:List Int},W0h Wns ls=some bs→ls=bs.map fun b=>[.v (.int .u8 b)]
 | [],bs,h=>by cases h; rfl
 | l::ls,bs,h=>by
  simp only[W0h,Z0,Z1]at h
  obtain ⟨b,hb,r,hr,rfl⟩:=h
  rw[Zh,←Whp hr]
  unfold Wns at hb
  split at hb
  ·cases hb; rfl
  ·cases hb
def W8q(P:Program)(t:Nat)(ks:List IntKind):Bool:=
 (P.eqGuardType P.depth t==false)&&(shape P 8 t==some ks)&&(match P.underlying t with | some (.int _)=>false | _=>true)
theorem Wsr{P:Program}{t:Nat}{ks:List IntKind}(h:W8q P t ks=true):EqOk P t ks:=by
 simp only[W8q,Z4,Xs]at h
 exact Wwu (m:=7) (by decide) h.1.1 h.1.2 h.2
def Wdj(kk:Bool×List IntKind):List (PW×PW)→Bool
 | []=>true
 | p::r=>(W27 kk p.1).isSome&&(r.all (fun q=> !decide (W27 kk p.1=W27 kk q.1))&&Wdj kk r)
theorem Wbt{kk:Bool×List IntKind}:∀{l:List (PW×PW)},Wdj kk l=true→Wa8 kk l
 | [],_=>⟨fun _ h=>by simp at h,.nil⟩
 | p::r,h=>by
  simp only[Wdj,Z4,Za]at h
  obtain ⟨h1,h2,h3⟩:=h
  obtain ⟨k1,k2⟩:=Wbt h3
  refine ⟨fun q hq=> ?_,X8.2 ⟨fun q hq=> ?_,k2⟩⟩
  ·rcases Zq.1 hq with rfl | hq
   ·exact h1
   ·exact k1 q hq
  ·have:=h2 q hq
   simpa using this
def xE(k:XOp)(args:List AV)(regs:List Reg):Option (AV×List Reg):=
 match k,args with
 | .mkmap,[]=>some (.c (.hnd .mp regs.length),regs++[.ob (.mp [])])
 | .look ks z ok,[m,key]=>match (avPW key).bind (W27 ks),m with
  | some _,.c (.p (.v (.map none)))=>some (if ok then .tup [pwAV z,.c (.p (.v (.bool false)))]else pwAV z,regs)
  | some us,.c (.hnd .mp id)=>match regs[id]? with
   | some (.ob (.mp l))=>if Wdj ks l=true then (match W79 ks us l with
    | some v=>some (if ok then .tup [pwAV v,.c (.p (.v (.bool true)))]else pwAV v,regs)
    | none=>some (if ok then .tup [pwAV z,.c (.p (.v (.bool false)))]else pwAV z,regs))else none
   | _=>none
  | _,_=>none
 | .upd ks,[m,key,val]=>match m,avPW key,avPW val with
  | .c (.hnd .mp id),some pk,some pv=>match regs[id]?,W27 ks pk with
   | some (.ob (.mp l)),some us=>if Wdj ks l=true then some (.tup [],regs.set id (.ob (.mp (W7a ks us pk pv l))))else none
   | _,_=>none
  | _,_,_=>none
 | .nilq k neg,[v]=>match W4g k v with
  | some b=>some (.c (.p (.v (.bool (if neg then !b else b)))),regs)
  | none=>none
 | .clr sz,[x]=>match x with
  | .c (.p (.sl _ []))=>some (.tup [],regs)
  | .c (.own id off sz' len _)=>match regs[id]? with
   | some (.pc sz'' ls)=>if sz=sz'∧sz=sz''∧off+len≤ls.length then some (.tup [],regs.set id (.pc sz (ls.take off)))else none
   | _=>none
  | _=>none
 | .mlen,[.c (.hnd .mp id)]=>match regs[id]? with
  | some (.ob (.mp l))=>some (.c (.p (.v (.int .i64 l.length))),regs)
  | _=>none
 | .mlen,[.c (.p (.v (.map none)))]=>some (.c (.p (.v (.int .i64 0))),regs)
 | .mkch bytes,[n]=>match W0m n with
  | some (_,n)=>if 0≤n∧n≤9223372036854775807∧bytes*n≤281474976710544 then some (.c (.hnd .ch regs.length),regs++[.ob (.ch n.toNat [])])else none
  | none=>none
 | .chlen,[.c (.hnd .ch id)]=>match regs[id]? with
  | some (.ob (.ch _ q))=>some (.c (.p (.v (.int .i64 q.length))),regs)
  | _=>none
 | .chcap,[.c (.hnd .ch id)]=>match regs[id]? with
  | some (.ob (.ch cap _))=>some (.c (.p (.v (.int .i64 cap))),regs)
  | _=>none
 | .chlen,[.c (.p (.v (.chan none)))] | .chcap,[.c (.p (.v (.chan none)))]=>some (.c (.p (.v (.int .i64 0))),regs)
 | .subs hl hh,x::r=>match W33 x,Wsa hl hh r with
  | some (.string b),some (lo,hi)=>match W17 lo 0,W17 hi b.size with
   | some l,some h=>if 0≤l∧l≤h∧h≤b.size then some (.c (.p (.v (.string (b.extract l.toNat h.toNat)))),regs)else none
   | _,_=>none
  | _,_=>none
 | _,_=>none
theorem xE_W{k:XOp}{args:List AV}{regs rg:List Reg}{v:AV}{K:AV→List Reg→Prop}(h:xE k args regs=some (v,rg))(hK:K v rg):xW k args regs K:=by
 unfold xE at h
 split at h
 ·cases h; exact hK
 ·simp only[xW]
  split at h
  ·rename_i hk
   cases h
   simp only[hk]
   exact hK
  ·rename_i hk
   simp only[hk]
   split at h
   ·rename_i l hl
    simp only[hl]
    split at h
    ·rename_i hok
     refine ⟨Wbt hok,?_⟩
     split at h
     ·rename_i v' hv
      simp only[hv]
      cases h
      exact hK
     ·rename_i hv
      simp only[hv]
      cases h
      exact hK
    ·cases h
   ·cases h
  ·cases h
 ·simp only[xW]
  split at h
  ·rename_i hk hv
   simp only[hk,hv]
   split at h
   ·rename_i hl hu
    simp only[hl,hu]
    split at h
    ·rename_i hok
     cases h
     exact ⟨Wbt hok,hK⟩
    ·cases h
   ·cases h
  ·cases h
 ·simp only[xW]
  split at h
  ·rename_i hb
   simp only[hb]
   cases h
   exact hK
  ·cases h
 ·simp only[xW]
  split at h
  ·cases h; exact hK
  ·split at h
   ·rename_i hr
    simp only[hr]
    split at h
    ·rename_i hc
     cases h
     exact ⟨hc.1,hc.2.1,hc.2.2,hK⟩
    ·cases h
   ·cases h
  ·cases h
 ·simp only[xW]
  split at h
  ·rename_i hb
   simp only[hb]
   cases h
   exact hK
  ·cases h
 ·cases h; exact hK
 ·simp only[xW]
  split at h
  ·rename_i hb
   simp only[hb]
   split at h
   ·rename_i hc
    cases h
    exact ⟨hc.1,hc.2.1,hc.2.2,hK⟩
   ·cases h
  ·cases h
 ·simp only[xW]
  split at h
  ·rename_i hb
   simp only[hb]
   cases h
   exact hK
  ·cases h
 ·simp only[xW]
  split at h
  ·rename_i hb
   simp only[hb]
   cases h
   exact hK
  ·cases h
 ·cases h; exact hK
 ·cases h; exact hK
 ·simp only[xW]
  split at h
  ·rename_i h1 h2
   simp only[h1,h2]
   split at h
   ·rename_i h3 h4
    simp only[h3,h4]
    split at h
    ·rename_i hc
     cases h
     exact ⟨hc.1,hc.2.1,hc.2.2,hK⟩
    ·cases h
   ·cases h
  ·cases h
 ·cases h
def W3p(regs:List Reg)(vx vy:AV)(sz bytes:Nat):Option (AV×List Reg):=
 match W15 regs vy,W1i vy with
 | some ls,some n=>if n=ls.length∧(szOf vy=none∨szOf vy=some sz)then match vx with
  | .c (.p (.v (.slice none 0 0)))=>if n≤140737488355328∧n*bytes≤140737488355328 then some (.c (.own regs.length 0 sz n .free),regs++[.pc sz ls])else none
  | .c (.own id 0 sz' len .free)=>match regs[id]? with
   | some (.pc sz'' old)=>if sz=sz'∧sz=sz''∧len≤old.length∧len+n≤140737488355328∧(len+n)*bytes≤140737488355328 then some (.c (.own regs.length 0 sz (len+n) .free),regs.set id .dead++[.pc sz (old.take len++ls)])else none
   | _=>none
  | .c (.own id off sz' len (.ex k))=>match regs[id]? with
   | some (.pc sz'' old)=>if sz=sz'∧sz=sz''∧off+len≤old.length∧k<len+n∧len+n≤140737488355328∧(len+n)*bytes≤140737488355328 then some (.c (.own regs.length 0 sz (len+n) .free),regs++[.pc sz ((old.drop off).take len++ls)])else none
   | _=>none
  | .c (.tight sz' old)=>if sz=sz'∧0<n∧old.length+n≤140737488355328∧(old.length+n)*bytes≤140737488355328 then some (.c (.own regs.length 0 sz (old.length+n) .free),regs++[.pc sz (old++ls)])else if sz=sz'∧n=0 then some (.c (.tight sz' old),regs)else none
  | _=>none
  else none
 | _,_=>none
theorem Wxm{regs rg:List Reg}{vx vy v:AV}{sz bytes:Nat}{K:AV→List Reg→Prop}(h:W3p regs vx vy sz bytes=some (v,rg))(hK:K v rg):appW regs vx vy sz bytes K:=by
 unfold W3p at h
 simp only[appW]
 split at h
 ·rename_i ls n h1 h2
  simp only[h1,h2]
  split at h
  ·rename_i hc
   refine ⟨hc.1,hc.2,?_⟩
   split at h
   ·split at h
    ·rename_i hd
     cases h
     exact ⟨hd.1,hd.2,hK⟩
    ·cases h
   ·split at h
    ·rename_i hr
     simp only[hr]
     split at h
     ·rename_i hd
      cases h
      exact ⟨hd.1,hd.2.1,hd.2.2.1,hd.2.2.2.1,hd.2.2.2.2,hK⟩
     ·cases h
    ·cases h
   ·split at h
    ·rename_i hr
     simp only[hr]
     split at h
     ·rename_i hd
      cases h
      exact ⟨hd.1,hd.2.1,hd.2.2.1,hd.2.2.2.1,hd.2.2.2.2.1,hd.2.2.2.2.2,hK⟩
     ·cases h
    ·cases h
   ·split at h
    ·rename_i hd
     cases h
     exact ⟨hd.1,.inl ⟨hd.2.1,hd.2.2.1,hd.2.2.2,hK⟩⟩
    ·split at h
     ·rename_i hd
      cases h
      exact ⟨hd.1,.inr ⟨hd.2,hK⟩⟩
     ·cases h
   ·cases h
  ·cases h
 ·cases h
def Wg0(regs:List Reg)(vx vy:AV)(sz bytes:Nat):Option (AV×List Reg):=
 match elemsX regs vy,W1i vy with
 | some ls,some n=>if n=ls.length∧(szOf vy=none∨szOf vy=some sz)then match vx with
  | .c (.p (.v (.slice none 0 0)))=>if n≤140737488355328∧n*bytes≤140737488355328 then some (.c (.own regs.length 0 sz n .free),regs++[.es sz ls])else none
  | .c (.own id 0 sz' len .free)=>match (regs[id]?).bind esOf with
   | some (sz'',old)=>if sz=sz'∧sz=sz''∧len≤old.length∧len+n≤140737488355328∧(len+n)*bytes≤140737488355328 then some (.c (.own regs.length 0 sz (len+n) .free),regs.set id .dead++[.es sz (old.take len++ls)])else none
   | _=>none
  | .c (.own id off sz' len (.ex k))=>match (regs[id]?).bind esOf with
   | some (sz'',old)=>if sz=sz'∧sz=sz''∧off+len≤old.length∧k<len+n∧len+n≤140737488355328∧(len+n)*bytes≤140737488355328 then some (.c (.own regs.length 0 sz (len+n) .free),regs++[.es sz ((old.drop off).take len++ls)])else none
   | _=>none
  | _=>none
  else none
 | _,_=>none
theorem Wxn{regs rg:List Reg}{vx vy v:AV}{sz bytes:Nat}{K:AV→List Reg→Prop}(h:Wg0 regs vx vy sz bytes=some (v,rg))(hK:K v rg):appE regs vx vy sz bytes K:=by
 unfold Wg0 at h
 simp only[appE]
 split at h
 ·rename_i ls n h1 h2
  simp only[h1,h2]
  split at h
  ·rename_i hc
   refine ⟨hc.1,hc.2,?_⟩
   split at h
   ·split at h
    ·rename_i hd
     cases h
     exact ⟨hd.1,hd.2,hK⟩
    ·cases h
   ·split at h
    ·rename_i hr
     simp only[hr]
     split at h
     ·rename_i hd
      cases h
      exact ⟨hd.1,hd.2.1,hd.2.2.1,hd.2.2.2.1,hd.2.2.2.2,hK⟩
     ·cases h
    ·cases h
   ·split at h
    ·rename_i hr
     simp only[hr]
     split at h
     ·rename_i hd
      cases h
      exact ⟨hd.1,hd.2.1,hd.2.2.1,hd.2.2.2.1,hd.2.2.2.2.1,hd.2.2.2.2.2,hK⟩
     ·cases h
    ·cases h
   ·cases h
  ·cases h
 ·cases h
def stE(n sz i j:Nat)(xs:List AC)(ls:List (List AC)):Option (List (List AC)):=
 (ls[i]?).bind fun c=>if xs.length=n∧j+n≤sz then some (ls.set i (c.take j++xs++c.drop (j+n)))else none
theorem V1k{n sz i j:Nat}{xs:List AC}{ls l:List (List AC)}{K:List (List AC)→Prop}(h:stE n sz i j xs ls=some l)(hK:K l):Wa7 n sz i j xs ls K:=by
 obtain ⟨c,hc,h⟩:=Z0.1 h
 split at h
 ·rename_i hd
  cases h
  exact ⟨c,hc,hd.1,hd.2,hK⟩
 ·cases h
def ev_x(d:Option Nat)(k:XOp)(args:List AX)(s:St):Option St:=(xE k (args.map (evF s)) s.regs).map fun p=>s.putr d p.1 p.2
def Wnt(d:Option Nat)(x:AX)(s:St):Option St:=some (s.put d (evF s x))
def Wdk(d:Option Nat)(op:BinOp)(x:AX)(y:AX)(s:St):Option St:=match W33 (evF s x),W33 (evF s y)with
 | some a,some b=>(binE op a b).map fun v=>s.put d (.c (.p (.v v)))
 | _,_=>none
def Wdl(P:Program)(d:Option Nat)(neg:Bool)(t:Nat)(ks:List IntKind)(x:AX)(y:AX)(s:St):Option St:=match evF s x,evF s y with
 | .agg l,.agg l'=>match W2f ks l,W2f ks l' with
  | some us,some vs=>if W8q P t ks=true then some (s.put d (.c (.p (.v (.bool (if neg then !decide (us=vs)else decide (us=vs)))))))else none
  | _,_=>none
 | _,_=>none
def Wdm(d:Option Nat)(neg:Bool)(x:AX)(y:AX)(s:St):Option St:=match W00 (evF s x),W00 (evF s y)with
 | some a,some b=>some (s.put d (.c (.p (.v (.bool (if neg then !(a==b)else (a==b)))))))
 | _,_=>none
def W8r(d:Option Nat)(c:AX)(a:AX)(b:AX)(s:St):Option St:=match W00 (evF s c)with
 | some true=>some (s.put d (evF s a))
 | some false=>some (s.put d (evF s b))
 | none=>none
def Wnu(d:Option Nat)(op:UnOp)(x:AX)(s:St):Option St:=match op,W33 (evF s x)with
 | .not,some (.bool b)=>some (s.put d (.c (.p (.v (.bool (!b))))))
 | .neg,some (.int k n)=>some (s.put d (.c (.p (.v (.int k (k.wrap (0-n)))))))
 | _,_=>none
def Wdn(d:Option Nat)(k:IntKind)(x:AX)(s:St):Option St:=match W0m (evF s x)with
 | some (_,n)=>some (s.put d (.c (.p (.v (.int k (k.wrap n))))))
 | none=>none
def Whq(d:Option Nat)(zs:List Value)(s:St):Option St:=some (s.putr d (.c (.ptr s.regs.length 0)) (s.regs++[.ac (zs.map fun z=> .p (.v z))]))
def Wdo(d:Option Nat)(sz:Nat)(n:Nat)(z:List Value)(s:St):Option St:=some (s.putr d (.c (.ept s.regs.length sz 0 0)) (s.regs++[.pc sz (List.replicate n (z.map .v))]))
def Wnv(d:Option Nat)(x:AX)(s:St):Option St:=match cellsOf (evF s x)with
 | some l=>some (s.putr d (.c (.ptr s.regs.length 0)) (s.regs++[.ac l]))
 | none=>none
def W8s(d:Option Nat)(x:AX)(s:St):Option St:=match evF s x with
 | .c (.ptr id off)=>some (s.put d (.c (.ptr id off)))
 | .c (.ept id sz i j)=>some (s.put d (.c (.ept id sz i j)))
 | .c (.rp l)=>some (s.put d (.c (.rp l)))
 | _=>none
def Wdp(d:Option Nat)(off:Nat)(x:AX)(s:St):Option St:=match evF s x with
 | .c (.ptr id o)=>some (s.put d (.c (.ptr id (o+off))))
 | .c (.ept id sz i j)=>some (s.put d (.c (.ept id sz i (j+off))))
 | .c (.rp l)=>some (s.put d (.c (.rp (l.drop off))))
 | _=>none
def Wdq(d:Option Nat)(off:Nat)(n:Nat)(agg:Bool)(x:AX)(s:St):Option St:=match evF s x with
 | .agg l=>if off+n≤l.length then (pack agg ((l.drop off).take n)).map fun v=>s.put d v else none
 | _=>none
def W8t(d:Option Nat)(n:Nat)(agg:Bool)(x:AX)(s:St):Option St:=match evF s x with
 | .c (.ptr id off)=>match s.regs[id]? with
  | some (.ac l)=>if off+n≤l.length then (pack agg ((l.drop off).take n)).map fun v=>s.put d v else none
  | _=>none
 | .c (.ept id sz i j)=>match s.regs[id]? with
  | some (.pc sz' ls)=>if sz=sz'∧j+n≤sz then (ls[i]?).bind fun c=>(pack agg (((c.drop j).take n).map .p)).map fun v=>s.put d v else none
  | some (.es sz' ls)=>if sz=sz'∧j+n≤sz then (ls[i]?).bind fun c=>(pack agg ((c.drop j).take n)).map fun v=>s.put d v else none
  | _=>none
 | .c (.rp l)=>if n≤l.length then (pack agg ((l.take n).map .p)).map fun v=>s.put d v else none
 | _=>none
def Wbu(n:Nat)(a:AX)(x:AX)(s:St):Option St:=match evF s a,cellsOf (evF s x)with
 | .c (.ptr id off),some xs=>match s.regs[id]? with
  | some (.ac l)=>if xs.length=n∧off+n≤l.length then some ⟨s.slots,s.regs.set id (.ac (l.take off++xs++l.drop (off+n)))⟩else none
  | _=>none
 | .c (.ept id sz i j),some xs=>match s.regs[id]? with
  | some (.pc sz' ls)=>if sz=sz' then match W1g xs with
    | some ps=>if ps.length=n∧j+n≤sz then (ls[i]?).map fun c=>⟨s.slots,s.regs.set id (.pc sz (ls.set i (c.take j++ps++c.drop (j+n))))⟩else none
    | none=>(stE n sz i j xs (upL ls)).map fun l=>⟨s.slots,s.regs.set id (.es sz l)⟩else none
  | some (.es sz' ls)=>if sz=sz' then (stE n sz i j xs ls).map fun l=>⟨s.slots,s.regs.set id (.es sz l)⟩else none
  | _=>none
 | _,_=>none
def Wdr(d:Option Nat)(sz:Nat)(x:AX)(i:AX)(s:St):Option St:=match W0m (evF s i),evF s x with
 | some (_,i),.c (.p (.sl sz' l))=>if sz=sz'∧0≤i then (l[i.toNat]?).map fun c=>s.put d (.c (.rp c))else none
 | some (_,i),.c (.own id off sz' len _)=>if sz=sz'∧0≤i∧i<len then some (s.put d (.c (.ept id sz (off+i.toNat) 0)))else none
 | _,_=>none
def Wds(d:Option Nat)(len:Nat)(sz:Nat)(x:AX)(i:AX)(s:St):Option St:=match W0m (evF s i),evF s x with
 | some (_,i),.c (.ept id sz' a 0)=>if sz=sz'∧0≤i∧i<len then some (s.put d (.c (.ept id sz (a+i.toNat) 0)))else none
 | some (_,i),.c (.ptr id off)=>if 0≤i∧i<len then some (s.put d (.c (.ptr id (off+i.toNat*sz))))else none
 | some (_,i),.c (.rp l)=>if 0≤i∧i<len then some (s.put d (.c (.rp (l.drop (i.toNat*sz)))))else none
 | _,_=>none
def Wdt(d:Option Nat)(x:AX)(s:St):Option St:=match W1i (evF s x)with
 | some n=>some (s.put d (.c (.p (.v (.int .i64 n)))))
 | none=>none
def W64(d:Option Nat)(zs:List Value)(parts:List (Nat×Nat×AX))(s:St):Option St:=match W7w (zs.map fun z=> .p (.v z)) (parts.map fun (off,sz,x)=>(off,sz,evF s x))with
 | some l=>some (s.put d (.agg l))
 | none=>none
def Wnw(d:Option Nat)(sz:Nat)(len:Nat)(z:List Value)(parts:List (Nat×AX))(s:St):Option St:=match Wct sz (List.replicate len (z.map .v)) (parts.map fun (i,x)=>(i,evF s x))with
 | some ls=>some (s.putr d (.c (.own s.regs.length 0 sz len .free)) (s.regs++[.pc sz ls]))
 | none=>match Wcu sz (upL (List.replicate len (z.map .v))) (parts.map fun (i,x)=>(i,evF s x))with
  | some ls=>some (s.putr d (.c (.own s.regs.length 0 sz len .free)) (s.regs++[.es sz ls]))
  | none=>none
def Wdu(d:Option Nat)(len:Nat)(sz:Nat)(agg:Bool)(x:AX)(i:AX)(s:St):Option St:=match W0m (evF s i),evF s x with
 | some (_,i),.agg l=>if 0≤i∧i<len∧i.toNat*sz+sz≤l.length then (pack agg ((l.drop (i.toNat*sz)).take sz)).map fun v=>s.put d v else none
 | _,_=>none
def Wap(d:Option Nat)(x:AX)(i:AX)(s:St):Option St:=match W0m (evF s i),W33 (evF s x)with
 | some (_,i),some (.string b)=>if h:0≤i∧i.toNat<b.size then some (s.put d (.c (.p (.v (.int .u8 (b[i.toNat]'h.2).toNat)))))else none
 | _,_=>none
def Wnx(d:Option Nat)(mx:Bool)(x:AX)(y:AX)(s:St):Option St:=match W0m (evF s x),W0m (evF s y)with
 | some (k,a),some (_,b)=>some (s.put d (.c (.p (.v (.int k (if mx then (if a<b then b else a)else (if b<a then b else a)))))))
 | _,_=>none
def Waq(d:Option Nat)(sz:Nat)(x:AX)(lo:Option AX)(hi:Option AX)(mx:Option AX)(s:St):Option St:=match evF s x with
 | .c (.p (.sl sz' l))=>match W17 (lo.map (evF s)) 0,W17 (hi.map (evF s)) l.length,mx.map (evF s)with
  | some lo,some hi,none=>if sz=sz'∧0≤lo∧lo≤hi∧hi≤l.length then some (s.put d (.c (.p (.sl sz ((l.take hi.toNat).drop lo.toNat)))))else none
  | some lo,some hi,some m=>if sz=sz'∧0≤lo∧lo≤hi∧hi≤l.length∧(W0m m).map (·.2)=some hi then some (s.put d (.c (.tight sz ((l.take hi.toNat).drop lo.toNat))))else none
  | _,_,_=>none
 | .c (.own id off sz' len cap)=>match W17 (lo.map (evF s)) 0,W17 (hi.map (evF s)) len,mx.map (evF s)with
  | some lo,some hi,none=>if sz=sz'∧0≤lo∧lo≤hi∧hi≤len∧(lo=0∨lo<hi∨0<sz)then some (s.put d (.c (cutV id off sz lo hi cap)))else none
  | some lo,some hi,some m=>if sz=sz'∧0≤lo∧lo≤hi∧hi≤len∧(lo=0∨lo<hi)∧(W0m m).map (·.2)=some hi then some (s.put d (.c (.own id (off+lo.toNat) sz (hi.toNat-lo.toNat) (.ex (hi.toNat-lo.toNat)))))else none
  | _,_,_=>none
 | .c (.p (.v (.slice none 0 0)))=>match W17 (lo.map (evF s)) 0,W17 (hi.map (evF s)) 0,mx.map (evF s)with
  | some lo,some hi,none=>if lo=0∧hi=0 then some (s.put d (.c (.p (.v (.slice none 0 0)))))else none
  | some lo,some hi,some m=>if lo=0∧hi=0∧(W0m m).map (·.2)=some hi then some (s.put d (.c (.p (.v (.slice none 0 0)))))else none
  | _,_,_=>none
 | _=>none
def Whr(d:Option Nat)(n:Nat)(sz:Nat)(x:AX)(lo:Option AX)(hi:Option AX)(mx:Option AX)(s:St):Option St:=match evF s x,mx with
 | .c (.ept id sz' i 0),none=>match W17 (lo.map (evF s)) 0,W17 (hi.map (evF s)) n with
  | some lo,some hi=>if sz=sz'∧0≤lo∧lo≤hi∧hi≤n∧(lo=0∨lo<hi)then some (s.put d (.c (.own id (i+lo.toNat) sz (hi.toNat-lo.toNat) (.ex (n-lo.toNat)))))else none
  | _,_=>none
 | .c (.rp l),none=>match W17 (lo.map (evF s)) 0,W17 (hi.map (evF s)) n with
  | some lo,some hi=>if lo=0∧0≤hi∧hi≤n∧0<sz∧n≤9223372036854775807∧n*sz≤l.length then some (s.put d (.c (.p (.sl sz (W1v sz hi.toNat l)))))else none
  | _,_=>none
 | _,_=>none
def Whs(d:Option Nat)(sz:Nat)(bytes:Nat)(z:List Value)(len:AX)(cap:AX)(s:St):Option St:=match W0m (evF s len),W0m (evF s cap)with
 | some (_,n),some (_,c)=>if 0≤n∧n≤c∧c≤140737488355328∧c*bytes≤140737488355328 then some (s.putr d (.c (.own s.regs.length 0 sz n.toNat .free)) (s.regs++[.pc sz (List.replicate n.toNat (z.map .v))]))else none
 | _,_=>none
def Wny(d:Option Nat)(sz:Nat)(bytes:Nat)(x:AX)(y:AX)(s:St):Option St:=match W3p s.regs (evF s x) (evF s y) sz bytes with
 | some p=>some (s.putr d p.1 p.2)
 | none=>(Wg0 s.regs (evF s x) (evF s y) sz bytes).map fun p=>s.putr d p.1 p.2
def War(d:Option Nat)(x:AX)(s:St):Option St:=match W15 s.regs (evF s x),W1i (evF s x)with
 | some ls,some n=>if n=ls.length∧(szOf (evF s x)=none∨szOf (evF s x)=some 1)then (W0h Wns ls).map fun bs=>s.put d (.c (.p (.v (.string ⟨(bs.map fun b=>UInt8.ofNat b.toNat).toArray⟩))))else none
 | _,_=>none
def W8u(d:Option Nat)(x:AX)(s:St):Option St:=match W33 (evF s x)with
 | some (.string b)=>some (s.put d (.c (.p (.v (.int .i64 b.size)))))
 | _=>none
def Wdv(d:Option Nat)(x:AX)(i:Nat)(s:St):Option St:=match evF s x with
 | .tup l=>(l[i]?).map fun v=>s.put d v
 | _=>none
def Wdw(d:Option Nat)(f:Fn)(first:List AX)(captured:List AX)(s:St):Option St:=match W0h (fun x=>faOf (evF s x)) first,W0h (fun x=>faOf (evF s x)) captured with
 | some a,some b=>some (s.put d (.c (.fn f a b)))
 | _,_=>none
def W8v(call:W0i)(d:Option Nat)(f:Nat)(args:List AX)(s:St):Option St:=(call (.fn f) (args.map (evF s)) s.regs).map fun p=>s.putr d p.1 p.2
def W65(call:W0i)(d:Option Nat)(x:AX)(args:List AX)(s:St):Option St:=match evF s x with
 | .c (.fn (.func f) a b)=>(call (.fn f) (a.map avFA++args.map (evF s)++b.map avFA) s.regs).map fun p=>s.putr d p.1 p.2
 | _=>none
def W66(call:W0i)(d:Option Nat)(x:AX)(args:List AX)(s:St):Option St:=match evF s x with
 | .c (.fn (.func f) a b)=>(call (.fn f) (a.map avFA++args.map (evF s)++b.map avFA) s.regs).map fun p=>s.putr d p.1 p.2
 | .c (.hnd .yl id)=>(call (.yl id) (args.map (evF s)) s.regs).map fun p=>s.putr d p.1 p.2
 | _=>none
section
variable (P:Program) (call:W0i)
def evalOp(o:AOp)(s:St):Option St:=
 match o with
 | .x d k args=>ev_x d k args s
 | .mv d x=>Wnt d x s
 | .bin d op x y=>Wdk d op x y s
 | .eqs d neg t ks x y=>Wdl P d neg t ks x y s
 | .beq d neg x y=>Wdm d neg x y s
 | .pick d c a b=>W8r d c a b s
 | .un d op x=>Wnu d op x s
 | .cvi d k x=>Wdn d k x s
 | .alloc d zs=>Whq d zs s
 | .allocA d sz n z=>Wdo d sz n z s
 | .box d x=>Wnv d x s
 | .nilc d x=>W8s d x s
 | .fad d off x=>Wdp d off x s
 | .fld d off n agg x=>Wdq d off n agg x s
 | .load d n agg x=>W8t d n agg x s
 | .store n a x=>Wbu n a x s
 | .ixs d sz x i=>Wdr d sz x i s
 | .ixa d len sz x i=>Wds d len sz x i s
 | .len d x=>Wdt d x s
 | .build d zs parts=>W64 d zs parts s
 | .bsl d sz len z parts=>Wnw d sz len z parts s
 | .ixv d len sz agg x i=>Wdu d len sz agg x i s
 | .ixt d x i=>Wap d x i s
 | .mm d mx x y=>Wnx d mx x y s
 | .sls d sz x lo hi mx=>Waq d sz x lo hi mx s
 | .sla d n sz x lo hi mx=>Whr d n sz x lo hi mx s
 | .mks d sz bytes z len cap=>Whs d sz bytes z len cap s
 | .app d sz bytes x y=>Wny d sz bytes x y s
 | .b2s d x=>War d x s
 | .lens d x=>W8u d x s
 | .ext d x i=>Wdv d x i s
 | .mkf d f first captured=>Wdw d f first captured s
 | .call d f args=>W8v call d f args s
 | .callv d x args=>W65 call d x args s
 | .cally d x args=>W66 call d x args s
variable {P call}
theorem Wht{o:AOp}{s s':St}{K:St→Prop}(hcall:CallOk P call)(h:evalOp P call o s=some s')(hK:K s'):opW P o s K:=by
 cases o<;>simp only[evalOp,W0f,ev_x,Wnt,Wdk,Wdl,Wdm,W8r,Wnu,Wdn,Whq,Wdo,Wnv,W8s,Wdp,Wdq,W8t,Wbu,Wdr,Wds,Wdt,W64,Wnw,Wdu,Wap,Wnx,Waq,Whr,Whs,Wny,War,W8u,Wdv,Wdw,W8v,W65,W66]at h<;>simp only[opW]
 case x=>
  obtain ⟨p,hp,rfl⟩:=Z1.1 h
  exact xE_W (v:=p.1) (rg:=p.2) hp hK
 case mv=>cases h; exact hK
 case bin=>
  split at h
  ·rename_i a b ha hb
   simp only[ha,hb]
   obtain ⟨v,hv,rfl⟩:=Z1.1 h
   exact V1j hv hK
  ·cases h
 case eqs=>
  split at h
  ·rename_i l l' hl hl'
   simp only[hl,hl']
   split at h
   ·rename_i us vs hu hv
    simp only[hu,hv]
    split at h
    ·rename_i he
     cases h
     exact ⟨Wsr he,hK⟩
    ·cases h
   ·cases h
  ·cases h
 case beq=>
  split at h
  ·rename_i a b ha hb
   simp only[ha,hb]
   cases h
   exact hK
  ·cases h
 case pick=>
  split at h
  ·rename_i hc
   simp only[hc]
   cases h
   first | exact ⟨fun _=>hK,fun e=>by cases e⟩ | simpa using hK
  ·rename_i hc
   simp only[hc]
   cases h
   first | exact ⟨fun e=>by cases e,fun _=>hK⟩ | simpa using hK
  ·cases h
 case un=>
  split at h
  ·rename_i b hb
   simp only[hb]
   cases h
   exact hK
  ·rename_i b hb
   simp only[hb]
   cases h
   exact hK
  ·cases h
 case cvi=>
  split at h
  ·rename_i k n hn
   simp only[hn]
   cases h
   exact hK
  ·cases h
 case alloc=>cases h; exact hK
 case allocA=>cases h; exact hK
 case box=>
  split at h
  ·rename_i l hl
   simp only[hl]
   cases h
   exact hK
  ·cases h
 case nilc=>
  split at h
  all_goals first
   | (cases h; done)
   | (rename_i hx; simp only[hx]; cases h; exact hK)
 case fad=>
  split at h
  all_goals first
   | (cases h; done)
   | (rename_i hx; simp only[hx]; cases h; exact hK)
 case fld=>
  split at h
  ·rename_i l hl
   simp only[hl]
   split at h
   ·rename_i hc
    obtain ⟨v,hv,rfl⟩:=Z1.1 h
    exact ⟨v,hc,hv,hK⟩
   ·cases h
  ·cases h
 case load=>
  split at h
  ·rename_i id off hx
   simp only[hx]
   split at h
   ·rename_i l hl
    simp only[hl]
    split at h
    ·rename_i hc
     obtain ⟨v,hv,rfl⟩:=Z1.1 h
     exact ⟨v,hc,hv,hK⟩
    ·cases h
   ·cases h
  ·rename_i id sz i j hx
   simp only[hx]
   split at h
   ·rename_i sz' ls hl
    simp only[hl]
    split at h
    ·rename_i hc
     obtain ⟨c,hcc,h⟩:=Z0.1 h
     obtain ⟨v,hv,rfl⟩:=Z1.1 h
     exact ⟨hc.1,c,v,hcc,hc.2,hv,hK⟩
    ·cases h
   ·rename_i sz' ls hl
    simp only[hl]
    split at h
    ·rename_i hc
     obtain ⟨c,hcc,h⟩:=Z0.1 h
     obtain ⟨v,hv,rfl⟩:=Z1.1 h
     exact ⟨hc.1,c,v,hcc,hc.2,hv,hK⟩
    ·cases h
   ·cases h
  ·rename_i l hx
   simp only[hx]
   split at h
   ·rename_i hc
    obtain ⟨v,hv,rfl⟩:=Z1.1 h
    exact ⟨v,hc,hv,hK⟩
   ·cases h
  ·cases h
 case store=>
  split at h
  ·rename_i id off xs hx hxs
   simp only[hx,hxs]
   split at h
   ·rename_i l hl
    simp only[hl]
    split at h
    ·rename_i hc
     cases h
     exact ⟨hc.1,hc.2,hK⟩
    ·cases h
   ·cases h
  ·rename_i id sz i j xs hx hxs
   simp only[hx,hxs]
   split at h
   ·rename_i sz' ls hl
    simp only[hl]
    split at h
    ·rename_i hsz
     refine ⟨hsz,?_⟩
     split at h
     ·rename_i ps hps
      split at h
      ·rename_i hc
       obtain ⟨c,hcc,rfl⟩:=Z1.1 h
       exact .inl ⟨c,ps,hcc,hps,hc.1,hc.2,hK⟩
      ·cases h
     ·obtain ⟨l,hl',rfl⟩:=Z1.1 h
      exact .inr (V1k hl' hK)
    ·cases h
   ·rename_i sz' ls hl
    simp only[hl]
    split at h
    ·rename_i hsz
     obtain ⟨l,hl',rfl⟩:=Z1.1 h
     exact ⟨hsz,V1k hl' hK⟩
    ·cases h
   ·cases h
  ·cases h
 case ixs=>
  split at h
  ·rename_i i sz' l hi hx
   simp only[hi,hx]
   split at h
   ·rename_i hc
    obtain ⟨c,hcc,rfl⟩:=Z1.1 h
    exact ⟨hc.1,hc.2,c,hcc,hK⟩
   ·cases h
  ·rename_i i id off sz' len hi hx
   simp only[hi,hx]
   split at h
   ·rename_i hc
    cases h
    exact ⟨hc.1,hc.2.1,hc.2.2,hK⟩
   ·cases h
  ·cases h
 case ixa=>
  split at h
  ·rename_i hi hx
   simp only[hi,hx]
   split at h
   ·rename_i hc
    cases h
    exact ⟨hc.1,hc.2.1,hc.2.2,hK⟩
   ·cases h
  ·rename_i hi hx
   simp only[hi,hx]
   split at h
   ·rename_i hc
    cases h
    exact ⟨hc.1,hc.2,hK⟩
   ·cases h
  ·rename_i hi hx
   simp only[hi,hx]
   split at h
   ·rename_i hc
    cases h
    exact ⟨hc.1,hc.2,hK⟩
   ·cases h
  ·cases h
 case len=>
  split at h
  ·rename_i n hn
   simp only[hn]
   cases h
   exact hK
  ·cases h
 case build=>
  split at h
  ·rename_i l hl
   simp only[hl]
   cases h
   exact hK
  ·cases h
 case bsl=>
  split at h
  ·rename_i l hl
   simp only[hl]
   cases h
   exact hK
  ·rename_i hl
   simp only[hl]
   split at h
   ·rename_i l hl'
    simp only[hl']
    cases h
    exact hK
   ·cases h
 case ixv=>
  split at h
  ·rename_i hi hx
   simp only[hi,hx]
   split at h
   ·rename_i hc
    obtain ⟨v,hv,rfl⟩:=Z1.1 h
    exact ⟨hc.1,hc.2.1,v,hc.2.2,hv,hK⟩
   ·cases h
  ·cases h
 case ixt=>
  split at h
  ·rename_i hi hx
   simp only[hi,hx]
   split at h
   ·rename_i hc
    cases h
    exact ⟨hc.1,hc.2,hK⟩
   ·cases h
  ·cases h
 case mm=>
  split at h
  ·rename_i hi hx
   simp only[hi,hx]
   cases h
   exact hK
  ·cases h
 case sls=>
  split at h
  ·rename_i hx
   simp only[hx]
   split at h
   ·rename_i h1 h2 h3
    simp only[h1,h2,h3]
    split at h
    ·rename_i hc
     cases h
     exact ⟨hc.1,hc.2.1,hc.2.2.1,hc.2.2.2,hK⟩
    ·cases h
   ·rename_i h1 h2 h3
    simp only[h1,h2,h3]
    split at h
    ·rename_i hc
     cases h
     exact ⟨hc.1,hc.2.1,hc.2.2.1,hc.2.2.2.1,hc.2.2.2.2,hK⟩
    ·cases h
   ·cases h
  ·rename_i hx
   simp only[hx]
   split at h
   ·rename_i h1 h2 h3
    simp only[h1,h2,h3]
    split at h
    ·rename_i hc
     cases h
     exact ⟨hc.1,hc.2.1,hc.2.2.1,hc.2.2.2.1,hc.2.2.2.2,hK⟩
    ·cases h
   ·rename_i h1 h2 h3
    simp only[h1,h2,h3]
    split at h
    ·rename_i hc
     cases h
     exact ⟨hc.1,hc.2.1,hc.2.2.1,hc.2.2.2.1,hc.2.2.2.2.1,hc.2.2.2.2.2,hK⟩
    ·cases h
   ·cases h
  ·rename_i hx
   simp only[hx]
   split at h
   ·rename_i h1 h2 h3
    simp only[h1,h2,h3]
    split at h
    ·rename_i hc
     cases h
     exact ⟨hc.1,hc.2,hK⟩
    ·cases h
   ·rename_i h1 h2 h3
    simp only[h1,h2,h3]
    split at h
    ·rename_i hc
     cases h
     exact ⟨hc.1,hc.2.1,hc.2.2,hK⟩
    ·cases h
   ·cases h
  ·cases h
 case sla=>
  split at h
  ·rename_i hx
   simp only[hx]
   split at h
   ·rename_i h1 h2
    simp only[h1,h2]
    split at h
    ·rename_i hc
     cases h
     exact ⟨hc.1,hc.2.1,hc.2.2.1,hc.2.2.2.1,hc.2.2.2.2,hK⟩
    ·cases h
   ·cases h
  ·rename_i hx
   simp only[hx]
   split at h
   ·rename_i h1 h2
    simp only[h1,h2]
    split at h
    ·rename_i hc
     cases h
     exact ⟨hc.1,hc.2.1,hc.2.2.1,hc.2.2.2.1,hc.2.2.2.2.1,hc.2.2.2.2.2,hK⟩
    ·cases h
   ·cases h
  ·cases h
 case mks=>
  split at h
  ·rename_i h1 h2
   simp only[h1,h2]
   split at h
   ·rename_i hc
    cases h
    exact ⟨hc.1,hc.2.1,hc.2.2.1,hc.2.2.2,hK⟩
   ·cases h
  ·cases h
 case app=>
  split at h
  ·rename_i p hp
   cases h
   exact .inl (Wxm (v:=p.1) (rg:=p.2) hp hK)
  ·obtain ⟨p,hp,rfl⟩:=Z1.1 h
   exact .inr (Wxn (v:=p.1) (rg:=p.2) hp hK)
 case b2s=>
  split at h
  ·rename_i ls n h1 h2
   simp only[h1,h2]
   split at h
   ·rename_i hc
    obtain ⟨bs,hbs,rfl⟩:=Z1.1 h
    exact ⟨hc.1,hc.2,bs,Whp hbs,hK⟩
   ·cases h
  ·cases h
 case lens=>
  split at h
  ·rename_i hx
   simp only[hx]
   cases h
   exact hK
  ·cases h
 case ext=>
  split at h
  ·rename_i hx
   simp only[hx]
   obtain ⟨v,hv,rfl⟩:=Z1.1 h
   exact ⟨v,hv,hK⟩
  ·cases h
 case mkf=>
  split at h
  ·rename_i h1 h2
   simp only[h1,h2]
   cases h
   exact hK
  ·cases h
 case call=>
  obtain ⟨p,hp,rfl⟩:=Z1.1 h
  refine (hcall.fn _ _ _ p.1 p.2 hp).mono fun r rg e=> ?_
  rw[e.1,e.2]
  exact hK
 case callv=>
  split at h
  ·rename_i hx
   simp only[hx]
   obtain ⟨p,hp,rfl⟩:=Z1.1 h
   refine (hcall.fn _ _ _ p.1 p.2 hp).mono fun r rg e=> ?_
   rw[e.1,e.2]
   exact hK
  ·cases h
 case cally=>
  split at h
  ·rename_i hx
   simp only[hx]
   obtain ⟨p,hp,rfl⟩:=Z1.1 h
   refine (hcall.fn _ _ _ p.1 p.2 hp).mono fun r rg e=> ?_
   rw[e.1,e.2]
   exact hK
  ·rename_i hx
   simp only[hx]
   obtain ⟨p,hp,rfl⟩:=Z1.1 h
   refine (hcall.yl _ _ _ p.1 p.2 hp).mono fun r rg e=> ?_
   rw[e.1,e.2]
   exact hK
  ·cases h
def evalIt(P:Program)(call:W0i)(it:AIt)(s:St):Option St:=
 match it.guard with
 | none=>evalOp P call it.op s
 | some (t,want)=>match lkF s.slots t with
  | .c (.p (.v (.bool b)))=>if b=want then evalOp P call it.op s else some (s.put it.d (.tup []))
  | .tup []=>some (s.put it.d (.tup []))
  | _=>none
theorem W67{it:AIt}{s s':St}{K:St→Prop}(hcall:CallOk P call)(h:evalIt P call it s=some s')(hK:K s'):itW P it s K:=by
 unfold evalIt at h
 simp only[W1m]at h
 unfold itW
 split at h
 ·rename_i hg
  simp only[hg]
  exact Wht hcall h hK
 ·rename_i t want hg
  simp only[hg]
  split at h
  ·rename_i b hb
   simp only[hb]
   split at h
   ·rename_i hbw
    exact ⟨fun _=>Wht hcall h hK,fun hn=>absurd hbw hn⟩
   ·rename_i hbw
    cases h
    exact ⟨fun e=>absurd e hbw,fun _=>hK⟩
  ·rename_i hb
   simp only[hb]
   cases h
   exact hK
  ·cases h
def evalOps(P:Program)(call:W0i):List AIt→St→Option St
 | [],s=>some s
 | it::r,s=>(evalIt P call it s).bind (evalOps P call r)
theorem W8w(hcall:CallOk P call){K:St→Prop}:∀{l:List AIt} {s s':St},evalOps P call l s=some s'→K s'→opsW P K l s
 | [],s,s',h,hK=>by cases h; exact hK
 | it::r,s,s',h,hK=>by
  obtain ⟨s1,h1,h2⟩:=Z0.1 h
  exact W67 (K:=opsW P K r) hcall h1 (W8w hcall h2 hK)
end
variable {P:Program}
inductive KT where
 | l (ks:List Nat)
 | n (a b:KT)
def fN{α:Type}(m:Nat)(K:Nat→α):α:=Nat.casesOn m (K 0) fun m'=>K (m'+1)
theorem V1l{α:Type}(m:Nat)(K:Nat→α):fN m K=K m:=by cases m<;>rfl
def fI{α:Type}(n:Int)(K:Int→α):α:=Int.casesOn n (fun m=>fN m fun m=>K (.ofNat m)) (fun m=>fN m fun m=>K (.negSucc m))
theorem V6t{α:Type}(n:Int)(K:Int→α):fI n K=K n:=by
 cases n with
 | ofNat m=>exact V1l m fun m=>K (.ofNat m)
 | negSucc m=>exact V1l m fun m=>K (.negSucc m)
def fV{α:Type}(v:AV)(K:AV→α):α:=
 match v with
 | .c (.p (.v (.int k n)))=>fI n fun n=>K (.c (.p (.v (.int k n))))
 | .c x=>K (.c x)
 | .agg l=>K (.agg l)
 | .tup l=>K (.tup l)
theorem Wxo{α:Type}(v:AV)(K:AV→α):fV v K=K v:=by
 unfold fV
 split
 ·exact V6t _ _
 ·rfl
 ·rfl
 ·rfl
def W48(s:St):List Nat→List (Nat×AV)→St
 | [],acc=>⟨acc,s.regs⟩
 | k::r,acc=>fV (lkF s.slots k) fun v=>W48 s r ((k,v)::acc)
def Wbv(ks:List Nat)(s:St):St:=W48 s ks []
theorem Wdx{s:St}:∀{ks:List Nat} {acc:List (Nat×AV)},(∀n,lk acc n=lk s.slots n∨lk acc n= .c .any)→(W48 s ks acc).regs=s.regs∧∀n,lk (W48 s ks acc).slots n=lk s.slots n∨lk (W48 s ks acc).slots n= .c .any
 | [],acc,h=>⟨rfl,h⟩
 | k::r,acc,h=>by
  simp only[W48,Wxo,W1m]
  refine Wdx fun n=> ?_
  rw[show lk ((k,lk s.slots k)::acc) n=if k=n then lk s.slots k else lk acc n from rfl]
  by_cases e:k=n
  ·rw[if_pos e,e]
   exact .inl rfl
  ·rw[if_neg e]
   exact h n
theorem Weak.keep{n0:Nat}{s:St}(ks:List Nat):Weak P n0 s (Wbv ks s):=by
 intro N w0 env0 bad0 fps base a w _ hR
 obtain ⟨h1,h2⟩:=Wdx (s:=s) (ks:=ks) (acc:=[]) fun n=> .inr rfl
 obtain ⟨⟨env,hrs,hsl,hev⟩,hsz,hdf⟩:=hR
 refine ⟨⟨env,by rw[Wbv,h1]; exact hrs,fun n=> ?_,by rw[Wbv,h1]; exact hev⟩,hsz,hdf⟩
 rw[Wbv,h1]
 rcases h2 n with e | e
 ·rw[e]; exact hsl n
 ·rw[e]; exact .c trivial
def valB:Value→Value→Bool
 | .bool a,.bool b=>a==b
 | .int k a,.int k' b=>decide (k=k')&&decide (a=b)
 | .string a,.string b=>a.data.toList==b.data.toList
 | .nilFunc,.nilFunc | .nilIface,.nilIface=>true
 | .pointer none,.pointer none | .slice none 0 0,.slice none 0 0 | .map none,.map none | .chan none,.chan none=>true
 | _,_=>false
theorem Wxp{a b:Value}(h:valB a b=true):a=b:=by
 unfold valB at h
 split at h
 ·simp at h; rw[h]
 ·simp at h; rw[h.1,h.2]
 ·rename_i x y
  obtain ⟨⟨x⟩⟩:=x
  obtain ⟨⟨y⟩⟩:=y
  have:x=y:=by simpa using h
  rw[this]
 all_goals first | rfl | cases h
mutual
def pvB:PV→PV→Bool
 | .v a,.v b=>valB a b
 | .sl n l,.sl m k=>(n==m)&&W8x l k
 | _,_=>false
def W8x:List (List PV)→List (List PV)→Bool
 | [],[]=>true
 | a::l,b::m=>rowB a b&&W8x l m
 | _,_=>false
def rowB:List PV→List PV→Bool
 | [],[]=>true
 | a::l,b::m=>pvB a b&&rowB l m
 | _,_=>false
end
mutual
theorem Wnz:∀{a b:PV},pvB a b=true→a=b
 | .v a,.v b,h=>by
  simp only[pvB]at h
  rw[Wxp h]
 | .sl n l,.sl m k,h=>by
  simp only[pvB,Z4,Xs]at h
  rw[h.1,W7k h.2]
 | .v _,.sl _ _,h=>by simp[pvB]at h
 | .sl _ _,.v _,h=>by simp[pvB]at h
theorem W7k:∀{a b:List (List PV)},W8x a b=true→a=b
 | [],[],_=>rfl
 | a::l,b::m,h=>by
  simp only[W8x,Z4]at h
  rw[Wbw h.1,W7k h.2]
 | [],_::_,h=>by simp[W8x]at h
 | _::_,[],h=>by simp[W8x]at h
theorem Wbw:∀{a b:List PV},rowB a b=true→a=b
 | [],[],_=>rfl
 | a::l,b::m,h=>by
  simp only[rowB,Z4]at h
  rw[Wnz h.1,Wbw h.2]
 | [],_::_,h=>by simp[rowB]at h
 | _::_,[],h=>by simp[rowB]at h
end
def capB:Cap→Cap→Bool
 | .free,.free=>true
 | .ex a,.ex b=>a==b
 | .unk,.unk=>true
 | _,_=>false
theorem Wxq{a b:Cap}(h:capB a b=true):a=b:=by
 cases a<;>cases b<;>simp_all[capB]
def faB:FA→FA→Bool
 | .p a,.p b=>pvB a b
 | .ptr a b,.ptr a' b'=>(a==a')&&(b==b')
 | _,_=>false
theorem Wvx{a b:FA}(h:faB a b=true):a=b:=by
 cases a<;>cases b<;>simp only[faB,Z4,Xs,Y6]at h
 ·rw[Wnz h]
 ·obtain ⟨rfl,rfl⟩:=h
  rfl
def W3q{α:Type}(f:α→α→Bool):List α→List α→Bool
 | [],[]=>true
 | a::l,b::m=>f a b&&W3q f l m
 | _,_=>false
theorem W24{α:Type}{f:α→α→Bool}(hf:∀{a b},f a b=true→a=b):∀{l m:List α},W3q f l m=true→l=m
 | [],[],_=>rfl
 | a::l,b::m,h=>by
  simp only[W3q,Z4]at h
  rw[hf h.1,W24 hf h.2]
 | [],_::_,h=>by simp[W3q]at h
 | _::_,[],h=>by simp[W3q]at h
def fnB:Fn→Fn→Bool
 | .func a,.func b=>a==b
 | _,_=>false
theorem V1m{a b:Fn}(h:fnB a b=true):a=b:=by
 cases a<;>cases b<;>simp_all[fnB]
def acB:AC→AC→Bool
 | .fn f a b,.fn f' a' b'=>fnB f f'&&(W3q faB a a'&&W3q faB b b')
 | .hnd a b,.hnd a' b'=>(decide (a=a'))&&(b==b')
 | .p a,.p b=>pvB a b
 | .tight n l,.tight m k=>(n==m)&&W8x l k
 | .own a b c d e,.own a' b' c' d' e'=>(a==a')&&((b==b')&&((c==c')&&((d==d')&&capB e e')))
 | .ptr a b,.ptr a' b'=>(a==a')&&(b==b')
 | .ept a b c d,.ept a' b' c' d'=>(a==a')&&((b==b')&&((c==c')&&(d==d')))
 | .rp l,.rp k=>rowB l k
 | .any,.any=>true
 | _,_=>false
theorem Whu{a b:AC}(h:acB a b=true):a=b:=by
 cases a<;>cases b<;>simp only[acB,Z4,Xs,Y6]at h
 ·rw[Wnz h]
 ·rw[h.1,W7k h.2]
 ·obtain ⟨rfl,rfl,rfl,rfl,h⟩:=h
  rw[Wxq h]
 ·obtain ⟨rfl,rfl⟩:=h
  rfl
 ·obtain ⟨rfl,rfl,rfl,rfl⟩:=h
  rfl
 ·rw[Wbw h]
 ·rw[V1m h.1,W24 Wvx h.2.1,W24 Wvx h.2.2]
 ·obtain ⟨h1,rfl⟩:=h
  rw[of_decide_eq_true h1]
 ·rfl
def pwB(a b:PW):Bool:=(a.1==b.1)&&rowB a.2 b.2
theorem Wo0{a b:PW}(h:pwB a b=true):a=b:=by
 simp only[pwB,Z4,Xs]at h
 exact Prod.ext h.1 (Wbw h.2)
def obB:Ob→Ob→Bool
 | .mp l,.mp k=>W3q (fun (p q:PW×PW)=>pwB p.1 q.1&&pwB p.2 q.2) l k
 | .ch a q,.ch b r=>(a==b)&&W3q pwB q r
 | _,_=>false
theorem V1n{a b:Ob}(h:obB a b=true):a=b:=by
 cases a<;>cases b<;>simp only[obB,Z4,Xs,Y6]at h
 ·rw[W24 (fun {p q} h=>by
   simp only[Z4]at h
   exact Prod.ext (Wo0 h.1) (Wo0 h.2)) h]
 ·rw[h.1,W24 Wo0 h.2]
mutual
def avB:AV→AV→Bool
 | .c a,.c b=>acB a b
 | .agg l,.agg k=>W3q acB l k
 | .tup l,.tup k=>avsB l k
 | _,_=>false
def avsB:List AV→List AV→Bool
 | [],[]=>true
 | a::l,b::m=>avB a b&&avsB l m
 | _,_=>false
end
mutual
theorem Whv:∀{a b:AV},avB a b=true→a=b
 | .c a,.c b,h=>by
  simp only[avB]at h
  rw[Whu h]
 | .agg l,.agg k,h=>by
  simp only[avB]at h
  rw[W24 Whu h]
 | .tup l,.tup k,h=>by
  simp only[avB]at h
  rw[Wo1 h]
 | .c _,.agg _,h=>by simp[avB]at h
 | .c _,.tup _,h=>by simp[avB]at h
 | .agg _,.c _,h=>by simp[avB]at h
 | .agg _,.tup _,h=>by simp[avB]at h
 | .tup _,.c _,h=>by simp[avB]at h
 | .tup _,.agg _,h=>by simp[avB]at h
theorem Wo1:∀{a b:List AV},avsB a b=true→a=b
 | [],[],_=>rfl
 | a::l,b::m,h=>by
  simp only[avsB,Z4]at h
  rw[Whv h.1,Wo1 h.2]
 | [],_::_,h=>by simp[avsB]at h
 | _::_,[],h=>by simp[avsB]at h
end
def slB(a b:List (Nat×AV)):Bool:=W3q (fun (p q:Nat×AV)=>(p.1==q.1)&&avB p.2 q.2) a b
theorem V1o{a b:List (Nat×AV)}(h:slB a b=true):a=b:=W24 (fun {p q} h=>by
  simp only[Z4,Xs]at h
  exact Prod.ext h.1 (Whv h.2)) h
def regB:Reg→Reg→Bool
 | .pc n l,.pc m k=>(n==m)&&W8x l k
 | .ac l,.ac k=>W3q acB l k
 | .es n l,.es m k=>(n==m)&&W3q (W3q acB) l k
 | .ob a,.ob b=>obB a b
 | .lp f j sl st pe,.lp f' j' sl' st' pe'=>(f==f')&&((j==j')&&((decide (st=st'))&&((decide (pe=pe'))&&slB sl sl')))
 | .dead,.dead=>true
 | _,_=>false
theorem Wo2{a b:Reg}(h:regB a b=true):a=b:=by
 cases a<;>cases b<;>simp only[regB,Z4,Xs,Y6]at h
 ·rw[h.1,W7k h.2]
 ·rw[W24 Whu h]
 ·rw[h.1,W24 (W24 Whu) h.2]
 ·rw[V1n h]
 ·obtain ⟨rfl,rfl,h1,h2,h3⟩:=h
  rw[of_decide_eq_true h1,of_decide_eq_true h2,V1o h3]
 ·rfl
def stB(a b:St):Bool:=W3q regB a.regs b.regs&&W3q (fun (p q:Nat×AV)=>(p.1==q.1)&&avB p.2 q.2) a.slots b.slots
theorem V1p{a b:St}(h:stB a b=true):a=b:=by
 simp only[stB,Z4]at h
 obtain ⟨s,r⟩:=a
 obtain ⟨s',r'⟩:=b
 have e1:r=r':=W24 Wo2 h.1
 have e2:s=s':=W24 (fun {p q} h=>by
  simp only[Z4,Xs]at h
  exact Prod.ext h.1 (Whv h.2)) h.2
 rw[e1,e2]
def faLt(n:Nat):FA→Bool
 | .p _=>true
 | .ptr id _=>decide (id<n)
def acLt(n:Nat):AC→Bool
 | .own id _ _ _ _ | .ptr id _ | .ept id _ _ _ | .hnd _ id=>decide (id<n)
 | .fn _ a b=>a.all (faLt n)&&b.all (faLt n)
 | _=>true
mutual
def avLt(n:Nat):AV→Bool
 | .c x=>acLt n x
 | .agg l=>l.all (acLt n)
 | .tup l=>W3g n l
def W3g(n:Nat):List AV→Bool
 | []=>true
 | v::r=>avLt n v&&W3g n r
end
def slLt(n:Nat):List (Nat×AV)→Bool
 | []=>true
 | p::r=>avLt n p.2&&slLt n r
def W18(n:Nat):Reg→Bool
 | .ac l=>l.all (acLt n)
 | .es _ l=>l.all (fun k=>k.all (acLt n))
 | .lp _ _ sl _ _=>slLt n sl
 | _=>true
section
variable {ρ:Nat→Nat} {n:Nat} (hρ:∀i,i<n→ρ i=i)
include hρ
theorem Whw{x:FA}(h:faLt n x=true):W58 ρ x=x:=by
 cases x with
 | p x=>rfl
 | ptr id off=>simp only[faLt,Zf]at h; simp[W58,hρ id h]
theorem W3c{α:Type}{f:α→α}{p:α→Bool}(hf:∀x,p x=true→f x=x):∀{l:List α},l.all p=true→l.map f=l
 | [],_=>rfl
 | a::l,h=>by
  simp only[Y2,Z4]at h
  rw[Zh,hf a h.1,W3c hf h.2]
theorem W7l{x:AC}(h:acLt n x=true):W12 ρ x=x:=by
 cases x with
 | own id off sz len cap=>simp only[acLt,Zf]at h; simp[W12,hρ id h]
 | ptr id off=>simp only[acLt,Zf]at h; simp[W12,hρ id h]
 | ept id sz i j=>simp only[acLt,Zf]at h; simp[W12,hρ id h]
 | hnd k id=>simp only[acLt,Zf]at h; simp[W12,hρ id h]
 | fn f a b=>
  simp only[acLt,Z4]at h
  simp only[W12]
  rw[W3c hρ (fun x hx=>Whw hρ hx) h.1,W3c hρ (fun x hx=>Whw hρ hx) h.2]
 | _=>rfl
end
mutual
theorem Wbx{ρ:Nat→Nat}{n:Nat}(hρ:∀i,i<n→ρ i=i):∀{v:AV},avLt n v=true→W0u ρ v=v
 | .c x,h=>by
  simp only[avLt]at h
  simp only[W0u,W7l hρ h]
 | .agg l,h=>by
  simp only[avLt]at h
  simp only[W0u]
  rw[W3c hρ (fun x hx=>W7l hρ hx) h]
 | .tup l,h=>by
  simp only[avLt]at h
  simp only[W0u,Wdy hρ h]
theorem Wdy{ρ:Nat→Nat}{n:Nat}(hρ:∀i,i<n→ρ i=i):∀{l:List AV},W3g n l=true→W1y ρ l=l
 | [],_=>rfl
 | v::r,h=>by
  simp only[W3g,Z4]at h
  simp only[W1y,Wbx hρ h.1,Wdy hρ h.2]
end
theorem Whx{ρ:Nat→Nat}{n:Nat}(hρ:∀i,i<n→ρ i=i):∀{l:List (Nat×AV)},slLt n l=true→W4d ρ l=l
 | [],_=>rfl
 | (k,v)::r,h=>by
  simp only[slLt,Z4]at h
  simp only[W4d,Wbx hρ h.1,Whx hρ h.2]
theorem W68{ρ:Nat→Nat}{n:Nat}(hρ:∀i,i<n→ρ i=i){r:Reg}(h:W18 n r=true):W0p ρ r=r:=by
 cases r with
 | ac l=>
  simp only[W18]at h
  simp only[W0p]
  rw[W3c hρ (fun x hx=>W7l hρ hx) h]
 | es sz l=>
  simp only[W18]at h
  simp only[W0p]
  rw[W3c hρ (fun k hk=>W3c hρ (fun x hx=>W7l hρ hx) hk) h]
 | lp f j sl st pe=>
  simp only[W18]at h
  simp only[W0p,Whx hρ h]
 | _=>rfl
theorem RegsOk.of_get{s:St}{ρ:Nat→Nat}:∀{l:List Nat} {m:List Reg},l.length=m.length→(∀(i j:Nat) (r:Reg),l[i]?=some j→m[i]?=some r→s.regs[j]?=some (W0p ρ r))→RegsOk s ρ l m
 | [],[],_,_=>trivial
 | j::l,r::m,hl,h=>⟨.inr (h 0 j r rfl rfl),RegsOk.of_get (by simpa using hl) fun i j r h1 h2=>h (i+1) j r (by simpa using h1) (by simpa using h2)⟩
 | [],_::_,hl,_=>by simp at hl
 | _::_,[],hl,_=>by simp at hl
def gcF(n:Nat)(p:AV×List Reg):AV×List Reg:=if (decide (n≤p.2.length)&&(avLt n p.1&&(p.2.take n).all (W18 n)))=true then (p.1,p.2.take n)else p
theorem W7m(n:Nat)(v:AV)(rg:List Reg):Weak P n ⟨[(0,v)],rg⟩ ⟨[(0,(gcF n (v,rg)).1)],(gcF n (v,rg)).2⟩:=by
 unfold gcF
 split
 ·rename_i h
  simp only[Z4,Zf,Za]at h
  obtain ⟨h1,h2,h3⟩:=h
  have hρ:∀i,i<n→rhoF (List.range n) rg.length i=i:=fun i hi=>by simp[rhoF,List.getD,hi]
  refine Weak.ren (List.range n) (Ze (by simp)) List.nodup_range (RegsOk.of_get (by simp; omega) fun i j r hi hr=> ?_) ⟨?_,trivial⟩
  ·rw[Yy (by
    have:=(Z3.1 hi).1
    simpa using this)]at hi
   cases hi
   have hr2:rg[i]?=some r:=by
    rw[Zx]at hr
    split at hr
    ·exact hr
    ·cases hr
   rw[W68 hρ (h3 r (Zi hr))]
   exact hr2
  ·rw[Wbx hρ h2]
   rfl
 ·exact Weak.refl _ _
def frzC(id sz:Nat)(ls:List (List PV)):AC→AC
 | .own id' off sz' len cap=>if id'=id∧sz'=sz∧off+len≤ls.length then .p (.sl sz ((ls.drop off).take len))else .own id' off sz' len cap
 | x=>x
theorem W6o{id sz:Nat}{ls:List (List PV)}(x:AC):Wdf id sz ls x (frzC id sz ls x):=by
 unfold frzC
 split
 ·rename_i id' off sz' len cap
  split
  ·rename_i h
   obtain ⟨rfl,rfl,h⟩:=h
   exact .inr ⟨off,len,cap,rfl,h,rfl⟩
  ·exact .inl rfl
 ·exact .inl rfl
theorem All2.of_map{α:Type}{R:α→α→Prop}{f:α→α}(h:∀x,R x (f x)):∀(l:List α),All2 R l (l.map f)
 | []=>trivial
 | x::l=>⟨h x,All2.of_map h l⟩
def Wxr(id sz:Nat)(ls:List (List PV)):AV→AV
 | .c x=> .c (frzC id sz ls x)
 | .agg l=> .agg (l.map (frzC id sz ls))
 | .tup l=> .tup l
def frzV(id sz:Nat)(ls:List (List PV)):AV→AV
 | .c x=> .c (frzC id sz ls x)
 | .agg l=> .agg (l.map (frzC id sz ls))
 | .tup l=> .tup (l.map (Wxr id sz ls))
theorem Wss{id sz:Nat}{ls:List (List PV)}(v:AV):Who id sz ls v (Wxr id sz ls v):=by
 cases v with
 | c x=>exact W6o x
 | agg l=>exact All2.of_map W6o l
 | tup l=>rfl
theorem Wg1{id sz:Nat}{ls:List (List PV)}(v:AV):Wso id sz ls v (frzV id sz ls v):=by
 cases v with
 | c x=>exact W6o x
 | agg l=>exact All2.of_map W6o l
 | tup l=>exact All2.of_map Wss l
def frzR(id sz:Nat)(ls:List (List PV)):Reg→Reg
 | .ac l=> .ac (l.map (frzC id sz ls))
 | .es n l=> .es n (l.map fun k=>k.map (frzC id sz ls))
 | r=>r
theorem Wxs{id sz:Nat}{ls:List (List PV)}(r:Reg):Wam id sz ls r (frzR id sz ls r):=by
 cases r with
 | ac l=>exact All2.of_map W6o l
 | es n l=>exact ⟨rfl,All2.of_map (fun k=>All2.of_map W6o k) l⟩
 | _=>rfl
def Wa3(id sz:Nat)(ls:List (List PV)):Nat→List Reg→List Reg
 | _,[]=>[]
 | k,r::l=>(if k=id then .dead else frzR id sz ls r)::Wa3 id sz ls (k+1) l
theorem W7n{id sz:Nat}{ls:List (List PV)}:∀(k:Nat) (l:List Reg),FrzRegs id sz ls k l (Wa3 id sz ls k l)
 | _,[]=>trivial
 | k,r::l=>by
  refine ⟨?_,W7n (k+1) l⟩
  by_cases h:k=id
  ·rw[if_pos h,if_pos h]
  ·rw[if_neg h,if_neg h]
   exact Wxs r
def frz1(id:Nat)(p:AV×List Reg):AV×List Reg:=
 match p.2[id]? with
 | some (.pc sz ls)=>if ls.length≤9223372036854775807 then (frzV id sz ls p.1,Wa3 id sz ls 0 p.2)else p
 | some (.es sz ls)=>match W0h W1g ls with
  | some ps=>if ps.length≤9223372036854775807 then (frzV id sz ps p.1,Wa3 id sz ps 0 p.2)else p
  | none=>p
 | _=>p
theorem Was:∀{l:List AC} {ps:List PV},W1g l=some ps→l=ps.map AC.p
 | [],ps,h=>by cases h; rfl
 | .p x::l,ps,h=>by
  obtain ⟨qs,h3,rfl⟩:=Z1.1 (show (W1g l).map (x:: ·)=some ps from h)
  rw[Was h3]
  rfl
theorem Wvy:∀{ls:List (List AC)} {ps:List (List PV)},W0h W1g ls=some ps→ls=upL ps
 | [],ps,h=>by cases h; rfl
 | x::l,ps,h=>by
  simp only[W0h]at h
  obtain ⟨y,h1,h2⟩:=Z0.1 h
  obtain ⟨qs,h3,rfl⟩:=Z1.1 h2
  rw[Wvy h3,Was h1]
  rfl
theorem Wdz{id sz:Nat}{ls:List (List PV)}{r:Reg}:∀(k:Nat) (l:List Reg),Wa3 id sz ls k (l.set (id-k) r)=Wa3 id sz ls k l∨id<k
 | k,[]=> .inl rfl
 | k,x::l=>by
  rcases Ys id k with h | h
  ·exact .inr h
  ·left
   by_cases e:id=k
   ·subst e
    simp[Wa3]
   ·have h1:id-k=(id-(k+1))+1:=by omega
    rw[h1,List.set_cons_succ,Wa3,Wa3]
    rcases Wdz (r:=r) (k+1) l with h2 | h2
    ·rw[h2]
    ·omega
theorem Wo3(n id:Nat)(p:AV×List Reg):Weak P n ⟨[(0,p.1)],p.2⟩ ⟨[(0,(frz1 id p).1)],(frz1 id p).2⟩:=by
 unfold frz1
 split
 rotate_left
 ·rename_i sz ls hr
  split
  ·rename_i ps hp
   split
   ·rename_i hm
    have e:=Wvy hp
    subst e
    refine (Weak.norm (s:=⟨[(0,p.1)],p.2⟩) id sz ps hr).trans ?_
    have hlt:id<p.2.length:=(Z3.1 hr).1
    have h0:=Wdz (id:=id) (sz:=sz) (ls:=ps) (r:= .pc sz ps) 0 p.2
    rcases h0 with h0 | h0
    ·refine Weak.freeze (s:=⟨[(0,p.1)],p.2.set id (.pc sz ps)⟩) id sz ps (by simp[hlt]) hm ⟨Wg1 p.1,trivial⟩ ?_
     have h3:=W7n (id:=id) (sz:=sz) (ls:=ps) 0 (p.2.set id (.pc sz ps))
     rw[Nat.sub_zero]at h0
     rw[h0]at h3
     exact h3
    ·omega
   ·exact Weak.refl _ _
  ·exact Weak.refl _ _
 rotate_left
 ·rename_i sz ls hr
  split
  ·rename_i hm
   exact Weak.freeze id sz ls hr hm ⟨Wg1 p.1,trivial⟩ (W7n 0 p.2)
  ·exact Weak.refl _ _
 ·exact Weak.refl _ _
def Why:List Nat→AV×List Reg→AV×List Reg
 | [],p=>p
 | id::r,p=>Why r (frz1 id p)
theorem W8y(n:Nat):∀(l:List Nat) (p:AV×List Reg),Weak P n ⟨[(0,p.1)],p.2⟩ ⟨[(0,(Why l p).1)],(Why l p).2⟩
 | [],_=>Weak.refl _ _
 | id::r,p=>(Wo3 n id p).trans (W8y n r (frz1 id p))
def frzF(n:Nat)(p:AV×List Reg):AV×List Reg:=gcF n (Why ((List.range p.2.length).drop n) p)
theorem Wo4(n:Nat)(p:AV×List Reg):Weak P n ⟨[(0,p.1)],p.2⟩ ⟨[(0,(frzF n p).1)],(frzF n p).2⟩:=
 (W8y n _ p).trans (W7m n _ _)
def W5l(call:W0i):W0i:=fun k a r=>match k with
 | .fn f=>(call (.fn f) a r).map (frzF r.length)
 | .yl _=>none
theorem Wst{P:Program}{call:W0i}(hcall:CallOk P call):CallOk P (W5l call):=by
 refine ⟨fun f args regs r rg h=> ?_,fun id args regs r rg h=>by cases h⟩
 obtain ⟨p,hp,h2⟩:=Z1.1 h
 refine (hcall.fn f args regs p.1 p.2 hp).post fun res rg' hr=> ?_
 obtain ⟨rfl,rfl⟩:=hr
 have hw:=Wo4 (P:=P) regs.length p
 rw[h2]at hw
 exact ⟨r,rg,hw,rfl,rfl⟩
section
variable {P:Program} {call:W0i}
theorem W8z{o:AOp}{s s':St}(hl:o.loc.isSome=true)(h:evalOp P call o s=some s'):∃v rg,s'=s.putr o.dst v rg:=by
 cases o<;>simp only[AOp.loc,Option.isSome_none,Y6]at hl<;>simp only[evalOp,W0f,ev_x,Wnt,Wdk,Wdl,Wdm,W8r,Wnu,Wdn,W8s,Wdp,Wdq,W8t,Wdr,Wds,Wdt,W64,Wdu,Wap,Wnx,Waq,War,W8u,Wdv,Wdw,W8v,W65]at h
 all_goals (repeat' split at h)
 all_goals first
  | (cases h; done)
  | (cases h; exact ⟨_,s.regs,rfl⟩)
  | (obtain ⟨v,_,rfl⟩:=Z1.1 h; exact ⟨_,s.regs,rfl⟩)
  | (obtain ⟨v,_,h⟩:=Z0.1 h; obtain ⟨v,_,rfl⟩:=Z1.1 h; exact ⟨_,s.regs,rfl⟩)
  | (obtain ⟨v,_,rfl⟩:=Z1.1 h; exact ⟨_,_,rfl⟩)
def AOp.isCall:AOp→Bool
 | .call .. | .callv .. | .cally .. =>true
 | _=>false
theorem Wxt{k:XOp}{args:List AV}{regs:List Reg}{p:AV×List Reg}(hk:k.pure=true)(h:xE k args regs=some p):p.2=regs:=by
 unfold xE at h
 repeat' split at h
 all_goals first
  | (cases h; done)
  | (cases h; rfl)
  | (cases hk; done)
theorem W50{s:St}{d:Option Nat}{v:AV}:(s.put d v).regs=s.regs:=by cases d<;>rfl
theorem W90{o:AOp}{s s':St}(hl:o.loc.isSome=true)(hc:o.isCall=false)(h:evalOp P call o s=some s'):s'.regs=s.regs:=by
 cases o with
 | x d k args=>
  simp only[evalOp,W0f,ev_x]at h
  obtain ⟨p,hp,rfl⟩:=Z1.1 h
  have hk:k.pure=true:=by
   simp only[AOp.loc]at hl
   split at hl
   ·assumption
   ·cases hl
  rw[show (s.putr d p.1 p.2).regs=p.2 from W50]
  exact Wxt hk hp
 | call d f args=>cases hc
 | callv d f args=>cases hc
 | _=>
  first
  | (simp only[AOp.loc,Option.isSome_none,Y6]at hl; done)
  | (simp only[evalOp,W0f,Wnt,Wdk,Wdl,Wdm,W8r,Wnu,Wdn,W8s,Wdp,Wdq,W8t,Wdr,Wds,Wdt,W64,Wdu,Wap,Wnx,Waq,War,W8u,Wdv,Wdw]at h
     (repeat' split at h)
     all_goals first
    | (cases h; done)
    | (cases h; exact W50)
    | (obtain ⟨v,_,rfl⟩:=Z1.1 h; exact W50)
    | (obtain ⟨v,_,h⟩:=Z0.1 h; obtain ⟨v,_,rfl⟩:=Z1.1 h; exact W50))
theorem W91{it:AIt}{s s':St}(hl:it.op.loc.isSome=true)(hc:it.op.isCall=false)(h:evalIt P call it s=some s'):s'.regs=s.regs:=by
 unfold evalIt at h
 split at h
 ·exact W90 hl hc h
 ·split at h
  ·split at h
   ·exact W90 hl hc h
   ·cases h
    exact W50
  ·cases h
   exact W50
  ·cases h
theorem W92{it:AIt}{s s':St}(hl:it.op.loc.isSome=true)(hd:it.op.dst=it.d)(h:evalIt P call it s=some s'):∃v rg,s'=s.putr it.d v rg:=by
 rw[←hd]
 unfold evalIt at h
 split at h
 ·exact W8z hl h
 ·split at h
  ·split at h
   ·exact W8z hl h
   ·cases h
    rw[←hd]
    exact ⟨_,s.regs,rfl⟩
  ·cases h
   rw[←hd]
   exact ⟨_,s.regs,rfl⟩
  ·cases h
def evalPar(P:Program)(call:W0i):List AIt→St→Option St
 | [],s=>some s
 | it::r,s=>match it.d with
  | some d=>if it.op.loc.isSome=true∧it.op.dst=some d then (evalIt P (W5l call) it s).bind fun s1=>if (!it.op.isCall||W3q regB s1.regs s.regs)=true then evalPar P call r ⟨(d,lk s1.slots d)::s.slots,s.regs⟩else none else none
  | none=>none
theorem We0(hcall:CallOk P call){C:St→Prop}:∀{l:List AIt} {s s':St},evalPar P call l s=some s'→C s'→parW P l s C
 | [],s,s',h,hC=>by cases h; exact hC
 | it::r,s,s',h,hC=>by
  simp only[evalPar]at h
  split at h
  ·rename_i d hd
   split at h
   ·rename_i hc
    obtain ⟨s1,h1,h2⟩:=Z0.1 h
    split at h2
    ·rename_i hr
     obtain ⟨v,rg,e⟩:=W92 hc.1 (hc.2.trans hd.symm) h1
     rw[hd]at e
     have hrg:s1.regs=s.regs:=by
      cases hcl:it.op.isCall with
      | true=>rw[hcl]at hr; exact W24 Wo2 (by simpa using hr)
      | false=>exact W91 hc.1 hcl h1
     refine ⟨d,lk s1.slots d,hd,fun K hK=>W67 (Wst hcall) h1 ?_,We0 hcall h2 hC⟩
     subst e
     simp only[St.putr,St.put,lk,if_true]at hrg hK ⊢
     rw[hrg]
     exact hK
    ·cases h2
   ·cases h
  ·cases h
def Wsu(it:AIt)(s s1:St):Bool:=match it.d with
 | some d=>avB (lk s1.slots d) (lk s.slots d)
 | none=>false
def evalTree(P:Program)(call:W0i)(ks:List Nat):ATree→St→Option St
 | .done,s=>some (Wbv ks s)
 | .tell it t,s=>(evalOps P call [it] s).bind (evalTree P call ks t)
 | .again it t,s=>(evalOps P call [it] s).bind fun s1=>if Wsu it s s1=true then evalTree P call ks t s else none
 | .turn it t,s=>(evalOps P call [it] s).bind (evalTree P call ks t)
 | .both t u,s=>match evalTree P call ks t s,evalTree P call ks u s with
  | some a,some b=>if stB a b=true then some a else none
  | _,_=>none
theorem W5m{it:AIt}{s s1:St}(h:evalOps P call [it] s=some s1):evalIt P call it s=some s1:=by
 simp only[evalOps]at h
 obtain ⟨s2,h1,h2⟩:=Z0.1 h
 cases h2
 exact h1
theorem V1q(op:AOp):op.isC=op.isCall:=by cases op<;>rfl
theorem We1{it:AIt}{s s1:St}(ho:W71 it)(h:evalIt P call it s=some s1):∃d,it.d=some d∧s1=⟨(d,lk s1.slots d)::s.slots,s.regs⟩:=by
 obtain ⟨h1,h2,h3,h4⟩:=ho
 obtain ⟨d,hd⟩:=Xd.1 h3
 obtain ⟨v,rg,e⟩:=W92 h1 h2 h
 have hrg:=W91 h1 (by rw[←V1q]; exact h4) h
 rw[hd]at e
 subst e
 have:rg=s.regs:=hrg
 subst this
 refine ⟨d,hd,?_⟩
 simp[St.putr,St.put,lk]
theorem W37(hcall:CallOk P call){n0:Nat}{ks:List Nat}:∀{t:ATree} {s s':St},W2a t→evalTree P call ks t s=some s'→W3a P (fun s1=>Weak P n0 s1 s') t s
 | .done,s,s',_,h=>by cases h; exact Weak.keep ks
 | .tell it t,s,s',ho,h=>by
  obtain ⟨s1,h1,h2⟩:=Z0.1 h
  have h1:=W5m h1
  obtain ⟨d,hd,e⟩:=We1 ho.1 h1
  refine ⟨d,lk s1.slots d,hd,fun K hK=>W67 hcall h1 (by rw[e]; exact hK),?_⟩
  rw[←e]
  exact W37 hcall ho.2 h2
 | .again it t,s,s',ho,h=>by
  obtain ⟨s1,h1,h2⟩:=Z0.1 h
  have h1:=W5m h1
  obtain ⟨d,hd,e⟩:=We1 ho.1 h1
  split at h2
  ·rename_i hs
   unfold Wsu at hs
   rw[hd]at hs
   have hv:=Whv hs
   refine ⟨⟨d,hd,fun K hK=>W67 hcall h1 (by rw[e,hv]; exact hK)⟩,W37 hcall ho.2 h2⟩
  ·cases h2
 | .turn it t,s,s',ho,h=>by
  obtain ⟨s1,h1,h2⟩:=Z0.1 h
  exact ⟨s1,fun K hK=>W67 hcall (W5m h1) hK,W37 hcall ho h2⟩
 | .both t u,s,s',ho,h=>by
  simp only[evalTree]at h
  split at h
  ·rename_i a b ha hb
   split at h
   ·rename_i hab
    cases h
    have e:=V1p hab
    exact ⟨W37 hcall ho.1 ha,W37 hcall ho.2 (by rw[e]; exact hb)⟩
   ·cases h
  ·cases h
def loopE(body:St→Option (Exit×St)):Nat→St→Option (Exit×St)
 | 0,_=>none
 | n+1,s=>match body s with
  | some (.normal,s1)=>loopE body n s1
  | r=>r
end
structure FnT where
 nt:Nat
 code:ACode
 res:List RV
def trF(P:Program)(f:Nat):Option FnT:=
 (P.funcs[f]?).bind fun fn=>if (fn.name== "runtime.NumGoroutine")=false then fn.body.bind fun c=>(W1x P fn.ntmps f 0 c).bind fun ac=>(W0h (trR P) fn.results.toList).map fun rs=>⟨fn.ntmps,ac,rs⟩else none
def TabOk(P:Program):Nat→List (Option (FnT×KT))→Prop
 | _,[]=>True
 | k,some (t,_)::r=>trF P k=some t∧TabOk P (k+1) r
 | k,none::r=>TabOk P (k+1) r
theorem TabOk.get{P:Program}:∀{k:Nat} {l:List (Option (FnT×KT))},TabOk P k l→∀{i:Nat} {t:FnT×KT},l[i]?=some (some t)→trF P (k+i)=some t.1
 | k,some t::r,h,0,u,hi=>by cases hi; exact h.1
 | k,none::r,h,0,u,hi=>by cases hi
 | k,some t::r,h,i+1,u,hi=>by
  have:=TabOk.get (i:=i) h.2 (by simpa using hi)
  rwa[show k+1+i=k+(i+1)by omega]at this
 | k,none::r,h,i+1,u,hi=>by
  have:=TabOk.get (k:=k+1) (l:=r) (i:=i) h (by simpa using hi)
  rwa[show k+1+i=k+(i+1)by omega]at this
 | _,[],_,_,_,hi=>by simp at hi
theorem TabOk.cons{P:Program}{k:Nat}{t:FnT}{kt:KT}{r:List (Option (FnT×KT))}(h:trF P k=some t)(h2:TabOk P (k+1) r):TabOk P k (some (t,kt)::r):=⟨h,h2⟩
theorem TabOk.skip{P:Program}{k:Nat}{r:List (Option (FnT×KT))}(h2:TabOk P (k+1) r):TabOk P k (none::r):=h2
theorem TabOk.done{P:Program}{k:Nat}:TabOk P k []:=trivial
structure LpT where
 N:Nat
 ps:List Nat
 as:ACode
 bd:ACode
 ka:KT
 kb:KT
def trLp(P:Program)(f j:Nat):Option (Nat×List Nat×ACode×ACode):=
 (lpOf P f j).bind fun q=>(W1x P q.2 f 0 q.1.asg).bind fun x=>(W1x P q.2 f 0 q.1.body).bind fun y=>
  if ((W14 q.1.asg).isEmpty&&((W14 q.1.body).isEmpty&&q.1.ps.toList.all fun t=>decide (t<q.2)))=true then some (q.2,q.1.ps.toList,x,y)else none
variable {P:Program}
inductive NT where
 | any
 | sl (sz:Nat) (ks:List NT)
mutual
def nzP:NT→PV→PV
 | .sl sz ks,.v (.slice none 0 0)=>if 0<sz then .sl sz []else .v (.slice none 0 0)
 | .sl sz ks,.sl sz' l=> .sl sz' (nzL ks l)
 | _,x=>x
def nzL:List NT→List (List PV)→List (List PV)
 | ks,[]=>[]
 | ks,r::l=>nzR ks r::nzL ks l
def nzR:List NT→List PV→List PV
 | t::ks,x::xs=>nzP t x::nzR ks xs
 | _,xs=>xs
end
theorem Wo5(ks:List NT):∀l:List (List PV),(nzL ks l).length=l.length
 | []=>by rw[nzL]
 | r::l=>by rw[nzL,Yh,Wo5 ks l,Yh]
theorem Wby:∀(ks:List NT) (l:List PV),(nzR ks l).length=l.length
 | [],l=>by simp[nzR]
 | t::ks,[]=>by simp[nzR]
 | t::ks,x::l=>by rw[nzR,Yh,Wby ks l,Yh]
theorem W93(ks:List NT):∀l:List (List PV),nzL ks l=l.map (nzR ks)
 | []=>by rw[nzL,Y9]
 | r::l=>by rw[nzL,Zh,W93 ks l]
@[simp] theorem Wo6 (l:List PV):nzR [] l=l:=by simp[nzR]
@[simp] theorem V6u (l:List (List PV)):nzL [] l=l:=by
 rw[W93]
 exact (Yg (g:=id) fun x _=>Wo6 x).trans (List.map_id l)
theorem Wo7:∀(ks:List NT) (l:List PV) (j:Nat) (h:j<l.length) (h':j<(nzR ks l).length),(nzR ks l)[j]=nzP (ks.getD j .any) l[j]
 | [],l,j,h,h'=>by
  simp only[Wo6,List.getD_nil]
  cases l[j]<;>simp[nzP]
 | t::ks,x::l,0,h,h'=>by simp[nzR]
 | t::ks,x::l,j+1,h,h'=>by
  simp only[nzR,List.getElem_cons_succ,List.getD_cons_succ]
  exact Wo7 ks l j (by simpa using h) _
theorem PRel.nz{w:World}{bad:Nat→Prop}{x:PV}{v:Value}(h:PRel w bad x v):∀t:NT,PRel w bad (nzP t x) v:=by
 induction h with
 | @v x h=>
  intro t
  cases t with
  | any=>simp only[nzP]; exact .v h
  | sl sz ks=>
   by_cases e:x= .slice none 0 0
   ·subst e
    simp only[nzP]
    split
    ·rename_i hz
     exact PRel.sl (fun _ _=>undef) hz rfl (Z8 _) (by omega) (fun i h=>by simp at h) (fun h=>by omega) (fun ad e=>by cases e) (fun i h=>by simp at h)
    ·exact .v h
   ·have:nzP (.sl sz ks) (.v x)= .v x:=by
     unfold nzP
     split
     ·rename_i h2; cases h2; exact absurd rfl e
     ·rename_i h2; cases h2
     ·rfl
    rw[this]
    exact .v h
 | @sl sz l A n c U hz hn hc hm hsz hA hcell h ih=>
  intro t
  cases t with
  | any=>simp only[nzP]; exact .sl U hz hn hc hm hsz hA hcell h
  | sl sz2 ks=>
   simp only[nzP]
   have hl:(nzL ks l).length=l.length:=Wo5 ks l
   have hg:∀i (hi:i<l.length) (hi':i<(nzL ks l).length),(nzL ks l)[i]=nzR ks l[i]:=fun i hi hi'=>by simp[W93]
   refine .sl U hz (hn.trans hl.symm) hc hm (fun i hi=> ?_) hA (fun ad e i hi j hj=> ?_) (fun i hi j hj=> ?_)
   ·rw[hg i (by omega) hi,Wby]; exact hsz i (by omega)
   ·have hj':j<l[i].length:=by
     have:=hj
     rw[hg i (by omega) hi,Wby]at this
     exact this
    exact hcell ad e i (by omega) j hj'
   ·have hj':j<l[i].length:=by
     have:=hj
     rw[hg i (by omega) hi,Wby]at this
     exact this
    have e:(nzL ks l)[i][j]=nzP (ks.getD j .any) l[i][j]:=by
     simp only[hg i (by omega) hi]
     exact Wo7 ks l[i] j hj' _
    rw[e]
    exact ih i (by omega) j hj' _
def W4e(rg:List Reg)(n:Nat):Nat→NT→AC→Option PV
 | _,t,.p v=>some (nzP t v)
 | _,t,.tight sz l=>some (nzP t (.sl sz l))
 | k+1,t,.own id off sz len _=>if n≤id then (match rg[id]? with
  | some (.pc sz' ls)=>if sz=sz'∧off+len≤ls.length∧len≤9223372036854775807 then some (nzP t (.sl sz ((ls.drop off).take len)))else none
  | some (.es sz' ls)=>if sz=sz'∧off+len≤ls.length∧len≤9223372036854775807 then (W0h (fun r=>W0h (W4e rg n k .any) r) ((ls.drop off).take len)).map fun ps=>nzP t (.sl sz ps)else none
  | _=>none)else none
 | _,_,_=>none
def Wbz(rg:List Reg)(n k:Nat)(t:NT)(x:AC):Option AC:=match W4e rg n k t x with
 | some y=>some (.p y)
 | none=>if acLt n x=true then some x else none
def W3r(rg:List Reg)(n k:Nat):List NT→List AC→Option (List AC)
 | _,[]=>some []
 | t::ts,x::r=>(Wbz rg n k t x).bind fun y=>(W3r rg n k ts r).map (y:: ·)
 | [],x::r=>(Wbz rg n k .any x).bind fun y=>(W3r rg n k [] r).map (y:: ·)
def W5c(rg:List Reg)(n k:Nat):List NT→AV→Option AV
 | ts,.c x=>(Wbz rg n k (ts.getD 0 .any) x).map .c
 | ts,.agg l=>(W3r rg n k ts l).map .agg
 | _,.tup _=>none
def Wg2(rg:List Reg)(n k:Nat):List (List NT)→List AV→Option (List AV)
 | _,[]=>some []
 | ts::tt,x::r=>(W5c rg n k ts x).bind fun y=>(Wg2 rg n k tt r).map (y:: ·)
 | [],x::r=>(W5c rg n k [] x).bind fun y=>(Wg2 rg n k [] r).map (y:: ·)
def Wg3(rg:List Reg)(n k:Nat)(tt:List (List NT)):AV→Option AV
 | .tup l=>(Wg2 rg n k tt l).map .tup
 | v=>W5c rg n k (tt.getD 0 []) v
def W94(rg:List Reg)(n k:Nat)(x y:AC):Prop:=y=x∧acLt n x=true∨∃t z,W4e rg n k t x=some z∧y= .p z
theorem Wc0{rg:List Reg}{n k:Nat}{t:NT}{x y:AC}(h:Wbz rg n k t x=some y):W94 rg n k x y:=by
 unfold Wbz at h
 split at h
 ·rename_i z hz; cases h; exact .inr ⟨t,z,hz,rfl⟩
 ·split at h
  ·rename_i hx; cases h; exact .inl ⟨rfl,hx⟩
  ·cases h
theorem W95{rg:List Reg}{n k:Nat}:∀{ts:List NT} {l m:List AC},W3r rg n k ts l=some m→All2 (W94 rg n k) l m
 | _,[],m,h=>by
  unfold W3r at h
  cases h
  trivial
 | t::ts,x::r,m,h=>by
  unfold W3r at h
  obtain ⟨y,h1,h2⟩:=Z0.1 h
  obtain ⟨q,h3,rfl⟩:=Z1.1 h2
  exact ⟨Wc0 h1,W95 h3⟩
 | [],x::r,m,h=>by
  unfold W3r at h
  obtain ⟨y,h1,h2⟩:=Z0.1 h
  obtain ⟨q,h3,rfl⟩:=Z1.1 h2
  exact ⟨Wc0 h1,W95 h3⟩
theorem W69{rg:List Reg}{n k:Nat}{ts:List NT}{x y:AV}(h:W5c rg n k ts x=some y):tAV1 (W94 rg n k) x y:=by
 cases x with
 | c x=>
  obtain ⟨z,h1,rfl⟩:=Z1.1 h
  exact Wc0 h1
 | agg l=>
  obtain ⟨z,h1,rfl⟩:=Z1.1 h
  exact W95 h1
 | tup l=>cases h
theorem Wc1{rg:List Reg}{n k:Nat}:∀{ts:List (List NT)} {l m:List AV},Wg2 rg n k ts l=some m→All2 (tAV1 (W94 rg n k)) l m
 | _,[],m,h=>by
  unfold Wg2 at h
  cases h
  trivial
 | t::ts,x::r,m,h=>by
  unfold Wg2 at h
  obtain ⟨y,h1,h2⟩:=Z0.1 h
  obtain ⟨q,h3,rfl⟩:=Z1.1 h2
  exact ⟨W69 h1,Wc1 h3⟩
 | [],x::r,m,h=>by
  unfold Wg2 at h
  obtain ⟨y,h1,h2⟩:=Z0.1 h
  obtain ⟨q,h3,rfl⟩:=Z1.1 h2
  exact ⟨W69 h1,Wc1 h3⟩
theorem Wsv{rg:List Reg}{n k:Nat}{tt:List (List NT)}{x y:AV}(h:Wg3 rg n k tt x=some y):tAV (W94 rg n k) x y:=by
 cases x with
 | tup l=>
  obtain ⟨z,h1,rfl⟩:=Z1.1 h
  exact Wc1 h1
 | c x=>
  have h1:=W69 (x:= .c x) h
  cases y<;>first | exact h1 | cases h1
 | agg l=>
  have h1:=W69 (x:= .agg l) h
  cases y<;>first | exact h1 | cases h1
theorem W6a{α β:Type}{f:α→Option β}:∀{l:List α} {m:List β},W0h f l=some m→l.length=m.length∧∀i (h:i<l.length) (h':i<m.length),f l[i]=some m[i]
 | [],m,h=>by
  cases h
  exact ⟨rfl,fun i h=>by simp at h⟩
 | a::l,m,h=>by
  unfold W0h at h
  obtain ⟨y,h1,h2⟩:=Z0.1 h
  obtain ⟨q,h3,rfl⟩:=Z1.1 h2
  obtain ⟨e,hg⟩:=W6a h3
  refine ⟨by simp[e],fun i hi hi'=> ?_⟩
  cases i with
  | zero=>exact h1
  | succ i=>exact hg i (by simpa using hi) (by simpa using hi')
theorem Wo8{rg:List Reg}{n:Nat}{w0 w:World}{fps:List Nat}{base:Nat→Prop}{env:Env}{bad':Nat→Prop}(hrs:RS P w0 w fps base env rg)(hb:∀b,bad' b→W04 base env rg b)
  (hk:∀id r g c,n≤id→rg[id]?=some r→r.live=true→env.f id=some (g,c)→¬bad' g):∀(k:Nat) (t:NT) (x:AC) (y:PV) (v:Value),W4e rg n k t x=some y→CRel w env (W04 base env rg) x v→PRel w bad' y v:=by
 have hsame:Same (W04 base env rg) w w:=⟨Z8 _,fun _ _ _=>rfl⟩
 have hP:∀{x:PV} {v:Value},PRel w (W04 base env rg) x v→PRel w bad' x v:=fun h=>PRel.step hsame (fun b _=>hb b) h
 intro k
 induction k with
 | zero=>
  intro t x y v h hc
  cases x with
  | p x=>simp only[W4e,Yp]at h; subst h; exact (hP hc).nz t
  | tight sz l=>simp only[W4e,Yp]at h; subst h; exact (hP hc.1).nz t
  | _=>simp[W4e]at h
 | succ k ih=>
  intro t x y v h hc
  cases x with
  | p x=>simp only[W4e,Yp]at h; subst h; exact (hP hc).nz t
  | tight sz l=>simp only[W4e,Yp]at h; subst h; exact (hP hc.1).nz t
  | own id off sz len cap=>
   rw[W4e]at h
   split at h
   rotate_left
   ·cases h
   rename_i hid
   obtain ⟨hidn,hc⟩:=hc
   split at h
   ·--pure rows
    rename_i sz' ls hr
    split at h
    rotate_left
    ·cases h
    rename_i hcc
    obtain ⟨rfl,hle,hmx⟩:=hcc
    cases h
    refine PRel.nz ?_ t
    obtain ⟨hz,hs,hrow⟩:=hrs.reg id _ hr
    have hlen:((ls.drop off).take len).length=len:=by simp; omega
    rcases hc with ⟨h1,rfl,rfl,rfl⟩ | ⟨g,c,k',h1,rfl,hk',_⟩
    ·exact PRel.sl (fun _ _=>undef) hz (by simp) (Z8 _) (by omega) (fun i h=>by simp at h) (fun h=>by omega) (fun ad e=>by cases e) (fun i h=>by simp at h)
    ·rcases hrow with ⟨h2,_⟩ | ⟨g',c',cur,t',h2,hg,q1,q2,q3,q4⟩
     ·rw[h1]at h2; cases h2
     rw[h1]at h2
     cases h2
     have hnb:¬bad' g:=hk id _ g c hid hr rfl h1
     have hcells:∀i (hi:i<((ls.drop off).take len).length),∀j (hj:j<((ls.drop off).take len)[i].length),∃u,cur[(off+i)*sz+j]?=some u∧PRel w bad' ((ls.drop off).take len)[i][j] u:=by
      intro i hi j hj
      have e:((ls.drop off).take len)[i]=ls[off+i]'(by simp at hi; omega):=by rw[Zk,Zw]
      simp only[e]at hj ⊢
      obtain ⟨u,hu,hp⟩:=q4 (off+i) (by simp at hi; omega) j hj
      exact ⟨u,hu,hP hp⟩
     refine PRel.sl (fun i j=>cur.getD ((off+i)*sz+j) undef) hz hlen.symm hk' (by omega) (fun i hi=>by rw[Zk,Zw]; exact hs _ _) (fun _=>⟨_,rfl,hnb⟩) (fun ad e i hi j hj=> ?_) (fun i hi j hj=> ?_)
     ·cases e
      obtain ⟨u,hu,_⟩:=hcells i hi j hj
      rw[Addr.add_lit,cell_of_row w g _ cur t' (0,0) hg,Zd,show off*sz+(i*sz+j)=(off+i)*sz+j by rw[Yj]; omega,hu]
      rfl
     ·obtain ⟨u,hu,hp⟩:=hcells i hi j hj
      rw[Zd,hu]
      exact hp
   ·--rows of rows
    rename_i sz' ls hr
    split at h
    rotate_left
    ·cases h
    rename_i hcc
    obtain ⟨rfl,hle,hmx⟩:=hcc
    obtain ⟨ps,hps,rfl⟩:=Z1.1 h
    refine PRel.nz ?_ t
    obtain ⟨hz,hs,hrow⟩:=hrs.reg id _ hr
    have hlen:((ls.drop off).take len).length=len:=by simp; omega
    obtain ⟨hpl,hpg⟩:=W6a hps
    have hgl:∀i (hi:i<ps.length),((ls.drop off).take len)[i]'(by omega)=ls[off+i]'(by omega):=fun i hi=>by rw[Zk,Zw]
    have hpr:∀i (hi:i<ps.length),W0h (W4e rg n k .any) (ls[off+i]'(by omega))=some ps[i]:=fun i hi=>by
     have:=hpg i (by omega) hi
     rw[hgl i hi]at this
     exact this
    have hpz:∀i (hi:i<ps.length),ps[i].length=sz:=fun i hi=>by
     rw[←(W6a (hpr i hi)).1]
     exact hs _ _
    rcases hc with ⟨h1,rfl,rfl,rfl⟩ | ⟨g,c,k',h1,rfl,hk',_⟩
    ·have:ps=[]:=Z9 (by omega)
     subst this
     exact PRel.sl (fun _ _=>undef) hz (by simp) (Z8 _) (by omega) (fun i h=>by simp at h) (fun h=>by omega) (fun ad e=>by cases e) (fun i h=>by simp at h)
    ·rcases hrow with ⟨h2,_⟩ | ⟨g',c',cur,t',h2,hg,q1,q2,q3,q4⟩
     ·rw[h1]at h2; cases h2
     rw[h1]at h2
     cases h2
     have hnb:¬bad' g:=hk id _ g c hid hr rfl h1
     have hcells:∀i (hi:i<ps.length),∀j (hj:j<ps[i].length),∃u,cur[(off+i)*sz+j]?=some u∧PRel w bad' ps[i][j] u:=by
      intro i hi j hj
      obtain ⟨e1,e2⟩:=W6a (hpr i hi)
      have hj':j<(ls[off+i]'(by omega)).length:=by rw[e1]; exact hj
      obtain ⟨u,hu,hcr,_⟩:=q4 (off+i) (by omega) j hj'
      exact ⟨u,hu,ih .any _ _ u (e2 j hj' hj) hcr⟩
     refine PRel.sl (fun i j=>cur.getD ((off+i)*sz+j) undef) hz (by omega) hk' (by omega) (fun i hi=>hpz i hi) (fun _=>⟨_,rfl,hnb⟩) (fun ad e i hi j hj=> ?_) (fun i hi j hj=> ?_)
     ·cases e
      obtain ⟨u,hu,_⟩:=hcells i hi j hj
      rw[Addr.add_lit,cell_of_row w g _ cur t' (0,0) hg,Zd,show off*sz+(i*sz+j)=(off+i)*sz+j by rw[Yj]; omega,hu]
      rfl
     ·obtain ⟨u,hu,hp⟩:=hcells i hi j hj
      rw[Zd,hu]
      exact hp
   ·cases h
  | _=>simp[W4e]at h
def Wc2(n:Nat)(tt:List (List NT))(p:AV×List Reg):AV×List Reg:=match Wg3 p.2 n (p.2.length-n+1) tt p.1 with
 | some v=>if n≤p.2.length∧(avLt n v&&(p.2.take n).all (W18 n))=true then (v,p.2.take n)else p
 | none=>p
theorem Wat{n:Nat}{T:AC→AC→Prop}{N:Nat}:∀(k:Nat) (l:List Reg),n≤k→k+l.length≤N→TRegs ((List.range N).filter (fun i=>decide (n≤i))) T k l (List.replicate l.length .dead)
 | _,[],_,_=>trivial
 | k,r::l,h,hN=>by
  simp only[Yh]at hN
  refine ⟨?_,Wat (k+1) l (by omega) (by omega)⟩
  rw[if_pos (by simp[Zj]; omega)]
theorem Wxu{n:Nat}{T:AC→AC→Prop}(hT:∀x,acLt n x=true→T x x){r:Reg}(h:W18 n r=true):tReg T r r:=by
 cases r with
 | ac l=>
  simp only[W18,Za]at h
  exact All2.of_get rfl fun i h1 h2=>hT _ (h _ (Zl _))
 | es sz l=>
  simp only[W18,Za]at h
  exact ⟨rfl,All2.of_get rfl fun i h1 h2=>All2.of_get rfl fun j h3 h4=>hT _ (h _ (Zl _) _ (Zl _))⟩
 | _=>rfl
theorem Wau{n:Nat}{T:AC→AC→Prop}(hT:∀x,acLt n x=true→T x x){N:Nat}(m:List Reg):∀(k:Nat) (l:List Reg),k+l.length=n→l.all (W18 n)=true→n+m.length≤N→
  TRegs ((List.range N).filter (fun i=>decide (n≤i))) T k (l++m) (l++List.replicate m.length .dead)
 | k,[],h,_,hN=>Wat k m (by simp at h; omega) (by simp at h; omega)
 | k,r::l,h,hl,hN=>by
  simp only[Yh,Y2,Z4]at h hl
  refine ⟨?_,Wau hT m (k+1) l (by omega) hl.2 hN⟩
  rw[if_neg (by simp[Zj]; omega)]
  exact Wxu hT hl.1
theorem Wav(n:Nat)(tt:List (List NT))(p:AV×List Reg):Weak P n ⟨[(0,p.1)],p.2⟩ ⟨[(0,(Wc2 n tt p).1)],(Wc2 n tt p).2⟩:=by
 obtain ⟨v,rg⟩:=p
 unfold Wc2
 split
 rotate_left
 ·exact Weak.refl _ _
 rename_i y hy
 split
 rotate_left
 ·exact Weak.refl _ _
 rename_i hc
 obtain ⟨hn,hc⟩:=hc
 simp only[Z4]at hc
 simp only at hy hn hc ⊢
 have h1:Weak P n ⟨[(0,v)],rg⟩ ⟨[(0,y)],rg.take n++List.replicate (rg.drop n).length .dead⟩:=by
  refine Weak.gen ((List.range rg.length).filter (fun i=>decide (n≤i))) (W94 rg n (rg.length-n+1)) (fun x y h hx=> ?_) (fun {w0 w fps base env bad'} hrs hb hnb {x y v} h hcr=> ?_) ⟨Wsv hy,trivial⟩ ?_
  ·rcases h with ⟨rfl,_⟩ | ⟨t,z,_,rfl⟩
   ·exact hx
   ·rfl
  ·rcases h with ⟨rfl,hlt⟩ | ⟨t,z,hz,rfl⟩
   ·exact CRel.step ⟨Z8 _,fun _ _ _=>rfl⟩ (fun b _=>hb b) (Env.le_refl _) hcr
   ·refine Wo8 hrs hb (fun id r g c hid hr hl he=>hnb id r g c (Zj.2 ⟨Y4.2 (Z3.1 hr).1,by simpa using hid⟩) hr hl he) _ t x z v hz hcr
  ·have:=Wau (T:=W94 rg n (rg.length-n+1)) (n:=n) (fun x hx=> .inl ⟨rfl,hx⟩) (N:=rg.length) (rg.drop n) 0 (rg.take n) (by simp; omega) hc.2 (by simp; omega)
   rw[X5]at this
   exact this
 have h2:=W7m (P:=P) n y (rg.take n++List.replicate (rg.drop n).length .dead)
 have e:(rg.take n++List.replicate (rg.drop n).length Reg.dead).take n=rg.take n:=by
  rw[List.take_append_of_le_length (by simp; omega),List.take_take,Nat.min_self]
 have h3:gcF n (y,rg.take n++List.replicate (rg.drop n).length .dead)=(y,rg.take n):=by
  unfold gcF
  rw[if_pos]
  ·rw[e]
  ·simp only[e,Z4,Zf]
   exact ⟨by simp; omega,hc.1,hc.2⟩
 rw[h3]at h2
 exact h1.trans h2
variable {P:Program}
structure Qry where
 f:CK
 a:List AV
 r:List Reg
 x:AV×List Reg
def Qry.ok(c:W0i)(q:Qry):Prop:=c q.f q.a q.r=some q.x
def Fs{β:Type}(E:W0i→Option β):Prop:=∀(c:W0i) (x:β),E c=some x→∃L:List Qry,(∀q∈L,q.ok c)∧∀c',(∀q∈L,q.ok c')→E c'=some x
theorem Fs.const{β:Type}(v:Option β):Fs (fun _=>v):=fun c x h=>⟨[],fun q hq=>by simp at hq,fun c' _=>h⟩
theorem Fs.bind{β γ:Type}{E:W0i→Option β}{F:β→W0i→Option γ}(hE:Fs E)(hF:∀y,Fs (F y)):Fs (fun c=>(E c).bind fun y=>F y c):=by
 intro c x h
 obtain ⟨y,h1,h2⟩:=Z0.1 h
 obtain ⟨L1,a1,b1⟩:=hE c y h1
 obtain ⟨L2,a2,b2⟩:=hF y c x h2
 refine ⟨L1++L2,fun q hq=> ?_,fun c' hc'=> ?_⟩
 ·rcases Zg.1 hq with hq | hq
  ·exact a1 q hq
  ·exact a2 q hq
 ·show (E c').bind _=_
  rw[b1 c' fun q hq=>hc' q (List.mem_append_left _ hq)]
  exact b2 c' fun q hq=>hc' q (List.mem_append_right _ hq)
theorem Fs.map{β γ:Type}{E:W0i→Option β}(g:β→γ)(hE:Fs E):Fs (fun c=>(E c).map g):=by
 have:=Fs.bind (F:=fun y _=>some (g y)) hE fun y=>Fs.const _
 intro c x h
 have e:∀c,(E c).map g=(E c).bind fun y=>some (g y):=fun c=>by cases E c<;>rfl
 obtain ⟨L,a,b⟩:=this c x ((e c).symm.trans h)
 exact ⟨L,a,fun c' hc'=>(e c').trans (b c' hc')⟩
theorem Fs.call(f:CK)(a:List AV)(r:List Reg):Fs (fun c=>c f a r):=fun c x h=>⟨[⟨f,a,r,x⟩],fun q hq=>by rw[X1.1 hq]; exact h,fun c' hc'=>hc' _ (X1.2 rfl)⟩
theorem Fs.ite{β:Type}{E F:W0i→Option β}(p:Prop) [Decidable p](hE:Fs E)(hF:Fs F):Fs (fun c=>if p then E c else F c):=by
 by_cases h:p
 ·simpa only[if_pos h]using hE
 ·simpa only[if_neg h]using hF
theorem Fs.mono{β:Type}{E:W0i→Option β}(h:Fs E){c c':W0i}(hc:∀f a r x,c f a r=some x→c' f a r=some x){x:β}(hx:E c=some x):E c'=some x:=by
 obtain ⟨L,a,b⟩:=h c x hx
 exact b c' fun q hq=>hc _ _ _ _ (a q hq)
section
variable {P:Program}
theorem Fs.evalOp(o:AOp)(s:St):Fs (fun c=>evalOp P c o s):=by
 cases o with
 | call d f args=>exact Fs.map (fun p=>s.putr d p.1 p.2) (Fs.call (.fn f) (args.map (evF s)) s.regs)
 | callv d x args=>
  intro c y h
  simp only[Go.Sim.evalOp,W65]at h ⊢
  revert h
  generalize evF s x=v
  intro h
  split at h
  ·rename_i f a b
   exact Fs.map (fun p=>s.putr d p.1 p.2) (Fs.call (.fn f) (a.map avFA++args.map (evF s)++b.map avFA) s.regs) c y h
  ·cases h
 | cally d x args=>
  intro c y h
  simp only[Go.Sim.evalOp,W66]at h ⊢
  revert h
  generalize evF s x=v
  intro h
  split at h
  ·rename_i f a b
   exact Fs.map (fun p=>s.putr d p.1 p.2) (Fs.call (.fn f) (a.map avFA++args.map (evF s)++b.map avFA) s.regs) c y h
  ·rename_i id
   exact Fs.map (fun p=>s.putr d p.1 p.2) (Fs.call (.yl id) (args.map (evF s)) s.regs) c y h
  ·cases h
 | _=>exact Fs.const _
theorem Fs.evalIt(it:AIt)(s:St):Fs (fun c=>evalIt P c it s):=by
 unfold Go.Sim.evalIt
 cases hg:it.guard with
 | none=>exact Fs.evalOp it.op s
 | some tw=>
  obtain ⟨t,want⟩:=tw
  simp only
  generalize lkF s.slots t=v
  intro c y h
  split at h
  ·split at h
   ·rename_i hw
    simp only[hw,if_true]
    exact Fs.evalOp it.op s c y h
   ·rename_i hw
    simp only[hw,if_false]
    exact Fs.const _ c y h
  ·exact Fs.const _ c y h
  ·cases h
theorem Fs.evalOps:∀(l:List AIt) (s:St),Fs (fun c=>evalOps P c l s)
 | [],s=>Fs.const _
 | it::r,s=>Fs.bind (Fs.evalIt it s) fun s1=>Fs.evalOps r s1
theorem Fs.via{β:Type}{E:W0i→Option β}(h:Fs E):Fs (fun c=>E (W5l c)):=by
 intro c x hx
 obtain ⟨L,a,b⟩:=h _ x hx
 have:∃L':List Qry,(∀q∈L',q.ok c)∧∀c',(∀q∈L',q.ok c')→∀q∈L,q.ok (W5l c'):=by
  clear b hx
  induction L with
  | nil=>exact ⟨[],fun q hq=>by simp at hq,fun c' _ q hq=>by simp at hq⟩
  | cons q L ih=>
   obtain ⟨L',h1,h2⟩:=ih fun q hq=>a q (Zo _ hq)
   have hq:=a q Xg
   obtain ⟨k,qa,qr,qx⟩:=q
   cases k with
   | yl id=>cases hq
   | fn f=>
    obtain ⟨y,hy,e⟩:=Z1.1 hq
    refine ⟨⟨.fn f,qa,qr,y⟩::L',fun q' hq'=> ?_,fun c' hc' q' hq'=> ?_⟩
    ·rcases Zq.1 hq' with rfl | hq'
     ·exact hy
     ·exact h1 q' hq'
    ·rcases Zq.1 hq' with rfl | hq'
     ·have:=hc' _ Xg
      show (c' (.fn f) qa qr).map _=_
      rw[show c' (.fn f) qa qr=some y from this,Yi,e]
     ·exact h2 c' (fun q hq=>hc' q (Zo _ hq)) q' hq'
 obtain ⟨L',h1,h2⟩:=this
 exact ⟨L',h1,fun c' hc'=>b _ (h2 c' hc')⟩
theorem Fs.evalPar:∀(l:List AIt) (s:St),Fs (fun c=>evalPar P c l s)
 | [],s=>Fs.const _
 | it::r,s=>by
  simp only[Go.Sim.evalPar]
  cases hd:it.d with
  | none=>exact Fs.const _
  | some d=>
   simp only
   refine Fs.ite _ (Fs.bind (Fs.via (Fs.evalIt it s)) fun s1=>Fs.ite _ (Fs.evalPar r _) (Fs.const _)) (Fs.const _)
theorem Fs.evalTree(ks:List Nat):∀(t:ATree) (s:St),Fs (fun c=>evalTree P c ks t s)
 | .done,s=>Fs.const _
 | .tell it t,s=>Fs.bind (Fs.evalOps [it] s) fun s1=>Fs.evalTree ks t s1
 | .again it t,s=>Fs.bind (Fs.evalOps [it] s) fun s1=>Fs.ite _ (Fs.evalTree ks t s) (Fs.const _)
 | .turn it t,s=>Fs.bind (Fs.evalOps [it] s) fun s1=>Fs.evalTree ks t s1
 | .both t u,s=>by
  have e:∀c,Go.Sim.evalTree P c ks (.both t u) s=(Go.Sim.evalTree P c ks t s).bind fun a=>(Go.Sim.evalTree P c ks u s).bind fun b=>if stB a b=true then some a else none:=fun c=>by
   rw[Go.Sim.evalTree]
   cases Go.Sim.evalTree P c ks t s<;>cases Go.Sim.evalTree P c ks u s<;>rfl
  have:=Fs.bind (F:=fun a c=>(Go.Sim.evalTree P c ks u s).bind fun b=>if stB a b=true then some a else none) (Fs.evalTree ks t s) fun a=>Fs.bind (Fs.evalTree ks u s) fun b=>Fs.const _
  intro c x h
  obtain ⟨L,a,b⟩:=this c x ((e c).symm.trans h)
  exact ⟨L,a,fun c' hc'=>(e c').trans (b c' hc')⟩
end
open Classical in
noncomputable def lim {β:Type} (g:Nat→Option β):Option β:=if h:∃x,∃n,g n=some x then some (Classical.choose h)else none
theorem Whz{β:Type}{g:Nat→Option β}(hm:∀n x,g n=some x→g (n+1)=some x){x:β}:lim g=some x↔∃n,g n=some x:=by
 have hle:∀k n x,g n=some x→g (n+k)=some x:=by
  intro k
  induction k with
  | zero=>exact fun n x h=>h
  | succ k ih=>exact fun n x h=>hm _ _ (ih n x h)
 have huniq:∀n m x y,g n=some x→g m=some y→x=y:=by
  intro n m x y h1 h2
  have e1:=hle m n x h1
  have e2:=hle n m y h2
  rw[Nat.add_comm]at e2
  rw[e1]at e2
  exact Y7 e2
 unfold lim
 split
 ·rename_i h
  obtain ⟨m,hm'⟩:=Classical.choose_spec h
  constructor
  ·intro e
   exact ⟨m,by rw[←e]; exact hm'⟩
  ·rintro ⟨n,hn⟩
   rw[huniq _ _ _ _ hm' hn]
 ·rename_i h
  constructor
  ·intro e
   cases e
  ·rintro ⟨n,hn⟩
   exact absurd ⟨x,n,hn⟩ h
theorem Waw{body:St→Option (Exit×St)}:∀{n:Nat} {s:St} {x:Exit×St},loopE body n s=some x→loopE body (n+1) s=some x
 | 0,s,x,h=>by cases h
 | n+1,s,x,h=>by
  rw[loopE]at h ⊢
  split at h
  ·exact Waw h
  ·exact h
noncomputable def W02 (body:St→Option (Exit×St)) (s:St):Option (Exit×St):=lim fun n=>loopE body n s
theorem loopR_some{body:St→Option (Exit×St)}{s:St}{x:Exit×St}:W02 body s=some x↔∃n,loopE body n s=some x:=Whz (g:=fun n=>loopE body n s) fun _ _ h=>Waw h
theorem W51{body:St→Option (Exit×St)}{s s1:St}(h:body s=some (.normal,s1)):W02 body s=W02 body s1:=by
 apply Option.ext
 intro x
 show W02 body s=some x↔W02 body s1=some x
 rw[loopR_some,loopR_some]
 constructor
 ·rintro ⟨n,hn⟩
  cases n with
  | zero=>cases hn
  | succ n=>
   rw[loopE,h]at hn
   exact ⟨n,hn⟩
 ·rintro ⟨n,hn⟩
  refine ⟨n+1,?_⟩
  rw[loopE,h]
  exact hn
theorem W3d{body:St→Option (Exit×St)}{s s1:St}{e:Exit}(h:body s=some (e,s1))(he:e≠ .normal):W02 body s=some (e,s1):=by
 rw[loopR_some]
 refine ⟨1,?_⟩
 rw[loopE,h]
 cases e<;>first | rfl | exact absurd rfl he
def dnR(id x:Nat):Nat:=if id<x then x-1 else x
def faNe(n id:Nat):FA→Bool
 | .p _=>true
 | .ptr x _=>decide (x≠id)&&decide (x<n)
def acNe(n id:Nat):AC→Bool
 | .own x _ _ _ _ | .ptr x _ | .ept x _ _ _ | .hnd _ x=>decide (x≠id)&&decide (x<n)
 | .fn _ a b=>a.all (faNe n id)&&b.all (faNe n id)
 | _=>true
mutual
def avNe(n id:Nat):AV→Bool
 | .c x=>acNe n id x
 | .agg l=>l.all (acNe n id)
 | .tup l=>Wc3 n id l
def Wc3(n id:Nat):List AV→Bool
 | []=>true
 | v::r=>avNe n id v&&Wc3 n id r
end
def slNe(n id:Nat):List (Nat×AV)→Bool
 | []=>true
 | p::r=>avNe n id p.2&&slNe n id r
def Wa4(n id:Nat):Reg→Bool
 | .ac l=>l.all (acNe n id)
 | .es _ l=>l.all (fun k=>k.all (acNe n id))
 | .lp _ _ sl _ _=>slNe n id sl
 | _=>true
section
variable {ρ:Nat→Nat} {n id:Nat} (hρ:∀x,x≠id→x<n→ρ (dnR id x)=x)
include hρ
theorem Wvz{x:FA}(h:faNe n id x=true):W58 ρ (W58 (dnR id) x)=x:=by
 cases x with
 | p x=>rfl
 | ptr y off=>simp only[faNe,Z4,Zf]at h; simp[W58,hρ y h.1 h.2]
theorem Wg4{α:Type}{f g:α→α}{p:α→Bool}(hf:∀x,p x=true→f (g x)=x):∀{l:List α},l.all p=true→(l.map g).map f=l
 | [],_=>rfl
 | a::l,h=>by
  simp only[Y2,Z4]at h
  rw[Zh,Zh,hf a h.1,Wg4 hf h.2]
theorem Wi0{x:AC}(h:acNe n id x=true):W12 ρ (W12 (dnR id) x)=x:=by
 cases x with
 | own y off sz len cap=>simp only[acNe,Z4,Zf]at h; simp[W12,hρ y h.1 h.2]
 | ptr y off=>simp only[acNe,Z4,Zf]at h; simp[W12,hρ y h.1 h.2]
 | ept y sz i j=>simp only[acNe,Z4,Zf]at h; simp[W12,hρ y h.1 h.2]
 | hnd k y=>simp only[acNe,Z4,Zf]at h; simp[W12,hρ y h.1 h.2]
 | fn f a b=>
  simp only[acNe,Z4]at h
  simp only[W12]
  rw[Wg4 hρ (fun x hx=>Wvz hρ hx) h.1,Wg4 hρ (fun x hx=>Wvz hρ hx) h.2]
 | _=>rfl
end
mutual
theorem Wo9{ρ:Nat→Nat}{n id:Nat}(hρ:∀x,x≠id→x<n→ρ (dnR id x)=x):∀{v:AV},avNe n id v=true→W0u ρ (W0u (dnR id) v)=v
 | .c x,h=>by
  simp only[avNe]at h
  simp only[W0u,Wi0 hρ h]
 | .agg l,h=>by
  simp only[avNe]at h
  simp only[W0u]
  rw[Wg4 hρ (fun x hx=>Wi0 hρ hx) h]
 | .tup l,h=>by
  simp only[avNe]at h
  simp only[W0u,Woa hρ h]
theorem Woa{ρ:Nat→Nat}{n id:Nat}(hρ:∀x,x≠id→x<n→ρ (dnR id x)=x):∀{l:List AV},Wc3 n id l=true→W1y ρ (W1y (dnR id) l)=l
 | [],_=>rfl
 | v::r,h=>by
  simp only[Wc3,Z4]at h
  simp only[W1y,Wo9 hρ h.1,Woa hρ h.2]
end
theorem Ww0{ρ:Nat→Nat}{n id:Nat}(hρ:∀x,x≠id→x<n→ρ (dnR id x)=x):∀{l:List (Nat×AV)},slNe n id l=true→W4d ρ (W4d (dnR id) l)=l
 | [],_=>rfl
 | (k,v)::r,h=>by
  simp only[slNe,Z4]at h
  simp only[W4d,Wo9 hρ h.1,Ww0 hρ h.2]
theorem Wxv{ρ:Nat→Nat}{n id:Nat}(hρ:∀x,x≠id→x<n→ρ (dnR id x)=x){r:Reg}(h:Wa4 n id r=true):W0p ρ (W0p (dnR id) r)=r:=by
 cases r with
 | ac l=>
  simp only[Wa4]at h
  simp only[W0p]
  rw[Wg4 hρ (fun x hx=>Wi0 hρ hx) h]
 | es sz l=>
  simp only[Wa4]at h
  simp only[W0p]
  rw[Wg4 hρ (fun k hk=>Wg4 hρ (fun x hx=>Wi0 hρ hx) hk) h]
 | lp f j sl st pe=>
  simp only[Wa4]at h
  simp only[W0p,Ww0 hρ h]
 | _=>rfl
def W1s:Option Reg→Bool
 | some .dead=>true
 | _=>false
def W96(id:Nat)(sl:List (Nat×AV)):List (Nat×AV)→List (Nat×AV)
 | []=>[]
 | (k,v)::r=>(k,W0u (dnR id) (lkF sl k))::W96 id sl r
theorem V1r{n id k:Nat}:∀{l:List (Nat×AV)},slNe n id l=true→avNe n id (lk l k)=true
 | [],_=>by simp[lk,avNe,acNe]
 | (k',v)::r,h=>by
  simp only[slNe,Z4]at h
  simp only[lk]
  split
  ·exact h.1
  ·exact V1r h.2
def W3l(id:Nat)(s:St):St:=
 if (W1s s.regs[id]?&&(slNe s.regs.length id s.slots&&s.regs.all (Wa4 s.regs.length id)))=true then ⟨W96 id s.slots s.slots,(s.regs.eraseIdx id).map (W0p (dnR id))⟩else s
theorem We2{n0 id:Nat}(h0:n0≤id)(s:St):Weak P n0 s (W3l id s):=by
 unfold W3l
 split
 rotate_left
 ·exact Weak.refl _ _
 rename_i h
 simp only[Z4,Za]at h
 obtain ⟨hd,hs,hr⟩:=h
 have hlt:id<s.regs.length:=by
  rcases Ys id s.regs.length with h | h
  ·exact h
  ·rw[Yt h]at hd; cases hd
 have hget:∀i,((List.range s.regs.length).eraseIdx id)[i]?=if i<id then some i else if i+1<s.regs.length then some (i+1)else none:=by
  intro i
  rw[Xv]
  split
  ·rw[Yy (by omega)]
  ·split
   ·rename_i h; rw[Yy h]
   ·rename_i h; rw[Yt (by simpa using h)]
 have hρ:∀x,x≠id→x<s.regs.length→rhoF ((List.range s.regs.length).eraseIdx id) s.regs.length (dnR id x)=x:=by
  intro x hx hx2
  simp only[rhoF,Zc,dnR,hget]
  split
  ·rw[if_neg (by omega),if_pos (by omega)]
   simp; omega
  ·rw[if_pos (by omega)]
   rfl
 refine Weak.ren ((List.range s.regs.length).eraseIdx id) ?_ (List.nodup_range.sublist (List.eraseIdx_sublist _ _)) (RegsOk.of_get ?_ fun i j r hi hm=> ?_) ?_
 ·apply Yx
  intro i
  rw[Zx]
  split
  ·rename_i h
   rw[hget,if_pos (by omega),Yy h]
  ·rename_i h
   rw[Yt (by simpa using h)]
 ·simp[List.length_eraseIdx]
 ·rw[hget]at hi
  rw[Zz]at hm
  obtain ⟨r0,hr0,rfl⟩:=Z1.1 hm
  rw[Xv]at hr0
  have hj:s.regs[j]?=some r0:=by
   split at hi
   ·rename_i h
    cases hi
    rwa[if_pos h]at hr0
   ·rename_i h
    split at hi
    ·cases hi
     rwa[if_neg h]at hr0
    ·cases hi
  rw[hj,Wxv hρ (hr r0 (Zi hj))]
 ·have:∀l:List (Nat×AV),SlotsOk s (rhoF ((List.range s.regs.length).eraseIdx id) s.regs.length) (W96 id s.slots l):=by
   intro l
   induction l with
   | nil=>trivial
   | cons p r ih=>exact ⟨by rw[W1m,Wo9 hρ (V1r hs)],ih⟩
  exact this s.slots
def cmpS(n0:Nat):Nat→St→St
 | 0,s=>s
 | k+1,s=>cmpS n0 k (W3l (n0+k) s)
theorem W97(n0:Nat):∀(k:Nat) (s:St),Weak P n0 s (cmpS n0 k s)
 | 0,_=>Weak.refl _ _
 | k+1,s=>(We2 (X4 _ _) s).trans (W97 n0 k _)
def cmpP(n0:Nat)(p:AV×List Reg):AV×List Reg:=(lkF (cmpS n0 (p.2.length-n0) ⟨[(0,p.1)],p.2⟩).slots 0,(cmpS n0 (p.2.length-n0) ⟨[(0,p.1)],p.2⟩).regs)
theorem Weak.only{n0:Nat}(s:St):Weak P n0 s ⟨[(0,lkF s.slots 0)],s.regs⟩:=by
 intro N w0 env0 bad0 fps base a w hn hR
 obtain ⟨⟨env,hrs,hsl,hev⟩,hsz,hdf⟩:=hR
 refine ⟨⟨env,hrs,fun n=> ?_,hev⟩,hsz,hdf⟩
 rw[W1m]
 simp only[lk]
 split
 ·rename_i h; rw[←h]; exact hsl 0
 ·exact .c trivial
theorem Wob(n:Nat)(p:AV×List Reg):Weak P n ⟨[(0,p.1)],p.2⟩ ⟨[(0,(cmpP n p).1)],(cmpP n p).2⟩:=(W97 n _ _).trans (Weak.only _)
def finQ(n:Nat)(q:AV×List Reg):AV×List Reg:=if q.2.length=n then q else cmpP n q
theorem We3(n:Nat)(q:AV×List Reg):Weak P n ⟨[(0,q.1)],q.2⟩ ⟨[(0,(finQ n q).1)],(finQ n q).2⟩:=by
 unfold finQ
 split
 ·exact Weak.refl _ _
 ·exact Wob n q
abbrev ZT:=Option (List (List NT))
def finR(z:ZT)(n:Nat)(p:AV×List Reg):AV×List Reg:=finQ n (gcF n (match z with | some tt=>Wc2 n tt p | none=>p))
theorem Woc(z:ZT)(n:Nat)(p:AV×List Reg):Weak P n ⟨[(0,p.1)],p.2⟩ ⟨[(0,(finR z n p).1)],(finR z n p).2⟩:=by
 unfold finR
 refine Weak.trans ?_ (We3 n _)
 cases z with
 | some tt=>exact (Wav n tt p).trans (W7m n _ _)
 | none=>exact W7m n _ _
def Wxw(id sz:Nat)(ls:List (List PV))(sl:List (Nat×AV)):List (Nat×AV)→List (Nat×AV)
 | []=>[]
 | (k,v)::r=>(k,frzV id sz ls (lkF sl k))::Wxw id sz ls sl r
theorem Wi1{id sz:Nat}{ls:List (List PV)}{s:St}:∀(l:List (Nat×AV)),FrzSlots id sz ls s (Wxw id sz ls s.slots l)
 | []=>trivial
 | (k,v)::r=>⟨by rw[W1m]; exact Wg1 _,Wi1 r⟩
def Wxx(id:Nat)(s:St):St:=
 match s.regs[id]? with
 | some (.pc sz ls)=>if ls.length≤9223372036854775807 then ⟨Wxw id sz ls s.slots s.slots,Wa3 id sz ls 0 s.regs⟩else s
 | _=>s
theorem Wkj(n id:Nat)(s:St):Weak P n s (Wxx id s):=by
 unfold Wxx
 split
 ·rename_i sz ls hr
  split
  ·rename_i hm
   exact Weak.freeze id sz ls hr hm (Wi1 s.slots) (W7n 0 s.regs)
  ·exact Weak.refl _ _
 ·exact Weak.refl _ _
def bxAC(id:Nat)(cells:List PV):AC→AC
 | .ptr i off=>if i=id∧off≤cells.length then .rp (cells.drop off)else .ptr i off
 | x=>x
def bxAV(id:Nat)(cells:List PV):AV→AV
 | .c x=> .c (bxAC id cells x)
 | v=>v
def bxSl(id:Nat)(cells:List PV)(sl:List (Nat×AV)):List (Nat×AV)→List (Nat×AV)
 | []=>[]
 | (k,v)::r=>(k,bxAV id cells (lkF sl k))::bxSl id cells sl r
def bxSt(id:Nat)(s:St):St:=
 match s.regs[id]? with
 | some (.ac l)=>match W1g l with
  | some cells=>⟨bxSl id cells s.slots s.slots,s.regs.set id .dead⟩
  | none=>s
 | _=>s
theorem We4:∀{l:List AC} {cells:List PV},W1g l=some cells→l=cells.map .p
 | [],_,h=>by cases h; rfl
 | .p x::r,_,h=>by
  obtain ⟨c,hc,rfl⟩:=Z1.1 h
  rw[We4 hc]; rfl
 | .tight _ _::_,_,h | .own _ _ _ _ _::_,_,h | .ptr _ _::_,_,h | .ept _ _ _ _::_,_,h | .rp _::_,_,h | .fn _ _ _::_,_,h | .hnd _ _::_,_,h | .any::_,_,h=>by cases h
theorem Wxy(id:Nat)(cells:List PV)(x:AC):Wfy id cells x (bxAC id cells x):=by
 cases x with
 | ptr i off=>
  simp only[bxAC]
  split
  ·rename_i h
   obtain ⟨rfl,h⟩:=h
   exact .inr ⟨off,rfl,h,rfl⟩
  ·exact .inl rfl
 | _=>exact .inl rfl
theorem Wkk{T:AC→AC→Prop}(hT:∀x,T x x):∀v:AV,tAV1 T v v
 | .c x=>hT x
 | .agg l=>All2.of_get rfl fun i h1 h2=>hT _
 | .tup l=>rfl
theorem We5{T:AC→AC→Prop}(hT:∀x,T x x):∀v:AV,tAV T v v
 | .c x=>hT x
 | .agg l=>All2.of_get rfl fun i h1 h2=>hT _
 | .tup l=>All2.of_get rfl fun i h1 h2=>Wkk hT _
theorem Wxz(id:Nat)(cells:List PV)(v:AV):tAV (Wfy id cells) v (bxAV id cells v):=by
 cases v with
 | c x=>exact Wxy id cells x
 | agg l=>exact We5 (fun x=> .inl rfl) (.agg l)
 | tup l=>exact We5 (fun x=> .inl rfl) (.tup l)
theorem Wod{id:Nat}{cells:List PV}{s:St}:∀(l:List (Nat×AV)),TSlots (Wfy id cells) s (bxSl id cells s.slots l)
 | []=>trivial
 | (k,v)::r=>⟨by rw[W1m]; exact Wxz id cells _,Wod r⟩
theorem Wax{T:AC→AC→Prop}(hT:∀x,T x x)(r:Reg):tReg T r r:=by
 cases r with
 | ac l=>exact All2.of_get rfl fun i h1 h2=>hT _
 | es sz l=>exact ⟨rfl,All2.of_get rfl fun i h1 h2=>All2.of_get rfl fun j h3 h4=>hT _⟩
 | _=>rfl
theorem We6{T:AC→AC→Prop}(hT:∀x,T x x)(id:Nat):∀(k:Nat) (l:List Reg),TRegs [id] T k l (if k≤id then l.set (id-k) .dead else l)
 | k,[]=>by split<;>trivial
 | k,r::l=>by
  have ih:=We6 hT id (k+1) l
  by_cases e:k=id
  ·subst e
   rw[if_neg (by omega)]at ih
   rw[if_pos (Z8 _),Nat.sub_self]
   exact ⟨by rw[if_pos (X1.2 rfl)],ih⟩
  ·by_cases h:k≤id
   ·rw[if_pos (by omega)]at ih
    rw[if_pos h,show id-k=(id-(k+1))+1 by omega]
    exact ⟨by rw[if_neg (fun hm=>e (X1.1 hm))]; exact Wax hT r,ih⟩
   ·rw[if_neg (by omega)]at ih
    rw[if_neg h]
    exact ⟨by rw[if_neg (fun hm=>e (X1.1 hm))]; exact Wax hT r,ih⟩
theorem Woe(n id:Nat)(s:St):Weak P n s (bxSt id s):=by
 unfold bxSt
 split
 ·rename_i l hr
  split
  ·rename_i cells hc
   rw[We4 hc]at hr
   have h:=We6 (T:=Wfy id cells) (fun x=> .inl rfl) id 0 s.regs
   rw[if_pos (Nat.zero_le _)]at h
   exact Weak.box id cells hr (Wod s.slots) h
  ·exact Weak.refl _ _
 ·exact Weak.refl _ _
def W98(t:Nat)(s:St):St:=
 match lkF s.slots t with
 | .c (.own id _ _ _ _)=>Wxx id s
 | .c (.ptr id 0)=>bxSt id s
 | _=>s
theorem We7(n t:Nat)(s:St):Weak P n s (W98 t s):=by
 unfold W98
 split
 ·exact Wkj n _ s
 ·exact Woe n _ s
 ·exact Weak.refl _ _
def frzS:List Nat→St→St
 | [],s=>s
 | t::r,s=>frzS r (W98 t s)
theorem W99(n:Nat):∀(l:List Nat) (s:St),Weak P n s (frzS l s)
 | [],_=>Weak.refl _ _
 | t::r,s=>(We7 n t s).trans (W99 n r _)
def KT.ks:KT→List Nat
 | .l ks=>ks
 | .n (.l ks) _=>ks
 | _=>[]
def KT.fz:KT→List Nat
 | .n (.l _) (.l fz)=>fz
 | .n (.l _) (.n (.l fz) _)=>fz
 | _=>[]
def KT.a:KT→KT
 | .n a _=>a
 | k=>k
def KT.b:KT→KT
 | .n _ b=>b
 | k=>k
def KT.cp:KT→Bool
 | .n (.l _) (.n _ _)=>true
 | _=>false
def cmpK(k:KT)(n:Nat)(s:St):St:=bif k.cp then cmpS n (s.regs.length-n) s else s
theorem We8{n:Nat}(k:KT)(s:St):Weak P n s (cmpK k n s):=by
 unfold cmpK
 cases k.cp with
 | true=>exact W97 n _ s
 | false=>exact Weak.refl _ _
def endS(n:Nat)(k:KT)(s:St):St:=cmpK k n (frzS k.fz (Wbv k.ks s))
theorem We9{n:Nat}(k:KT)(s:St):Weak P n s (endS n k s):=((Weak.keep k.ks).trans (W99 n _ _)).trans (We8 k _)
def Wof(f j:Nat)(s:St)(rg:List Reg):Option (Exit×St):=
 match rg[s.regs.length]? with
 | some (.lp f' j' _ st pe)=>if f'=f∧j'=j∧st≠ .busy then (match pe with
   | none=>some (.normal,⟨s.slots,rg.set s.regs.length .dead⟩)
   | some .ret=>some (.ret,⟨s.slots,rg.set s.regs.length .dead⟩)
   | some (.exit i)=>some (.exit i,⟨s.slots,rg.set s.regs.length .dead⟩))else none
 | _=>none
def lpCall(call:W0i)(f j:Nat)(s:St):AV→Option (AV×List Reg)
 | .c (.fn (.func gf) fa ca)=>call (.fn gf) (fa.map avFA++[.c (.hnd .yl s.regs.length)]++ca.map avFA) (s.regs++[.lp f j s.slots .ready none])
 | _=>none
abbrev W1j:=(St→Option (Exit×St))→St→Option (Exit×St)
def evalG(P:Program)(lp:W1j)(call:W0i)(rd:Bool)(n0:Nat):ACode→KT→St→Option (Exit×St)
 | .skip,_,s=>some (.normal,s)
 | .reg l,k,s=>(evalOps P call l s).map fun s1=>(.normal,endS n0 k s1)
 | .any t,k,s=>(evalTree P call k.ks t s).map fun s1=>(.normal,cmpK k n0 (frzS k.fz s1))
 | .par a b,k,s=>((evalPar P call a s).bind (evalOps P call b)).map fun s1=>(.normal,endS n0 k s1)
 | .seq a b,k,s=>(evalG P lp call rd n0 a k.a s).bind fun x=>match x.1 with
  | .normal=>evalG P lp call rd n0 b k.b x.2
  | e=>some (e,x.2)
 | .cond c a b,k,s=>(W00 (evF s c)).bind fun t=>if t=true then evalG P lp call rd n0 a k.a s else evalG P lp call rd n0 b k.b s
 | .block id c,k,s=>(evalG P lp call rd n0 c k s).map fun x=>match x.1 with
  | .exit i=>if i=id then (.normal,x.2)else (.exit i,x.2)
  | e=>(e,x.2)
 | .loop c,k,s=>lp (evalG P lp call rd n0 c k) s
 | .rfun g f j,k,s=>if rd=true then none else (lpCall call f j s (evF s g)).bind fun p=>Wof f j s p.2
 | .exit id,_,s=>some (.exit id,s)
 | .ret,_,s=>some (.ret,s)
 | .stuck,_,_=>none
section
variable {P:Program} {call:W0i} {rd:Bool} {n0:Nat}
theorem Fs.loopE{B:W0i→St→Option (Exit×St)}(hB:∀s,Fs fun c=>B c s):∀(n:Nat) (s:St),Fs fun c=>loopE (B c) n s
 | 0,s=>Fs.const _
 | n+1,s=>by
  have:=Fs.bind (F:=fun x c=>match x.1 with | .normal=>Go.Sim.loopE (B c) n x.2 | e=>some (e,x.2)) (hB s) fun x=>by
   obtain ⟨e,s1⟩:=x
   cases e with
   | normal=>exact Fs.loopE hB n s1
   | _=>exact Fs.const _
  have e:∀c,Go.Sim.loopE (B c) (n+1) s=(B c s).bind fun x=>match x.1 with | .normal=>Go.Sim.loopE (B c) n x.2 | e=>some (e,x.2):=by
   intro c
   rw[Go.Sim.loopE]
   cases hb:B c s with
   | none=>rfl
   | some x=>
    obtain ⟨e,s1⟩:=x
    cases e<;>rfl
  intro c x h
  obtain ⟨L,a,b⟩:=this c x ((e c).symm.trans h)
  exact ⟨L,a,fun c' hc'=>(e c').trans (b c' hc')⟩
theorem Fs.lpCall(f j:Nat)(s:St)(v:AV):Fs fun c=>lpCall c f j s v:=by
 unfold Go.Sim.lpCall
 split
 ·exact Fs.call _ _ _
 ·exact Fs.const _
theorem Fs.evalG:∀(c:ACode) (k:KT) (s:St),Fs fun call=>evalG P W02 call rd n0 c k s
 | .skip,_,s=>Fs.const _
 | .reg l,k,s=>Fs.map _ (Fs.evalOps l s)
 | .any t,k,s=>Fs.map _ (Fs.evalTree _ t s)
 | .par a b,k,s=>Fs.map _ (Fs.bind (Fs.evalPar a s) fun s1=>Fs.evalOps b s1)
 | .seq a b,k,s=>Fs.bind (Fs.evalG a k.a s) fun x=>by
  obtain ⟨e,s1⟩:=x
  cases e with
  | normal=>exact Fs.evalG b k.b s1
  | _=>exact Fs.const _
 | .cond c a b,k,s=>by
  simp only[Go.Sim.evalG]
  cases W00 (evF s c)with
  | none=>exact Fs.const _
  | some t=>exact Fs.ite _ (Fs.evalG a k.a s) (Fs.evalG b k.b s)
 | .block id c,k,s=>Fs.map _ (Fs.evalG c k s)
 | .loop c,k,s=>by
  intro call x h
  simp only[Go.Sim.evalG]at h ⊢
  obtain ⟨n,hn⟩:=loopR_some.1 h
  obtain ⟨L,a,b⟩:=Fs.loopE (B:=fun call s=>Go.Sim.evalG P W02 call rd n0 c k s) (fun s=>Fs.evalG c k s) n s call x hn
  exact ⟨L,a,fun c' hc'=>loopR_some.2 ⟨n,b c' hc'⟩⟩
 | .rfun g f j,k,s=>by
  simp only[Go.Sim.evalG]
  exact Fs.ite _ (Fs.const _) (Fs.bind (Fs.lpCall f j s _) fun p=>Fs.const _)
 | .exit id,_,s=>Fs.const _
 | .ret,_,s=>Fs.const _
 | .stuck,_,s=>Fs.const _
def LpOk(lp:W1j):Prop:=∀(body:St→Option (Exit×St)) (s:St) (x:Exit×St),lp body s=some x→∃n,loopE body n s=some x
theorem LpOk.R:LpOk W02:=fun _ _ _ h=>loopR_some.1 h
theorem LpOk.E(n:Nat):LpOk fun b s=>loopE b n s:=fun _ _ _ h=>⟨n,h⟩
theorem W9a{lp:W1j}(hlp:LpOk lp)(hcall:CallOk P call){ro:Option Nat}(hrd:rd=false→ro=none):∀(ac:ACode) (k:KT) (s s':St) (e:Exit),evalG P lp call rd n0 ac k s=some (e,s')→W2p P n0 ro ac (fun e1 s1=>e1=e∧Weak P n0 s1 s') s:=by
 intro ac
 induction ac with
 | skip=>
  intro k s s' e h
  simp only[evalG]at h
  cases h
  exact W3o ⟨rfl,Weak.refl _ _⟩
 | reg l=>
  intro k s s' e h
  simp only[evalG]at h
  obtain ⟨s1,h1,h2⟩:=Z1.1 h
  cases h2
  exact W3b (W8w hcall h1 ⟨rfl,We9 k s1⟩)
 | any t=>
  intro k s s' e h
  simp only[evalG]at h
  obtain ⟨s1,h1,h2⟩:=Z1.1 h
  cases h2
  refine W1q (Q:=fun e1 s2=>e1= .normal∧Weak P n0 s2 s1) (Wnm fun ho=> ?_) fun e1 s2 hs=>⟨hs.1,(hs.2.trans (W99 n0 _ _)).trans (We8 k _)⟩
  have:=W37 (n0:=n0) hcall ho h1
  simpa using this
 | par a b=>
  intro k s s' e h
  simp only[evalG]at h
  obtain ⟨s2,h1,h2⟩:=Z1.1 h
  cases h2
  obtain ⟨s1,h3,h4⟩:=Z0.1 h1
  exact Wnn (We0 hcall h3 (W8w hcall h4 ⟨rfl,We9 k s2⟩))
 | seq a b iha ihb=>
  intro k s s' e h
  simp only[evalG]at h
  obtain ⟨⟨e1,s1⟩,h1,h2⟩:=Z0.1 h
  refine W2k fun K hK=>W1q (iha _ _ _ _ h1) fun e2 t ht=> ?_
  obtain ⟨rfl,hw⟩:=ht
  cases e2 with
  | normal=>exact hK t (Wke hw (ihb _ _ _ _ h2))
  | _=>cases h2; exact ⟨rfl,hw⟩
 | cond c a b iha ihb=>
  intro k s s' e h
  simp only[evalG,W0f]at h
  obtain ⟨t,ht,h2⟩:=Z0.1 h
  split at h2
  ·rename_i hc
   subst hc
   exact W2h ht (fun _=>iha _ _ _ _ h2) (fun h=>by cases h)
  ·rename_i hc
   have:t=false:=by simpa using hc
   subst this
   exact W2h ht (fun h=>by cases h) (fun _=>ihb _ _ _ _ h2)
 | block id c ih=>
  intro k s s' e h
  simp only[evalG]at h
  obtain ⟨⟨e1,s1⟩,h1,h2⟩:=Z1.1 h
  refine Wfw (W1q (ih _ _ _ _ h1) fun e2 t ht=> ?_)
  obtain ⟨rfl,hw⟩:=ht
  cases e2 with
  | exit i=>
   simp only[AIn]
   by_cases hi:i=id
   ·simp only[if_pos hi]at h2 ⊢
    cases h2
    exact ⟨rfl,hw⟩
   ·simp only[if_neg hi]at h2 ⊢
    cases h2
    exact ⟨rfl,hw⟩
  | _=>cases h2; exact ⟨rfl,hw⟩
 | loop c ih=>
  intro k s s' e h
  simp only[evalG]at h
  obtain ⟨n,hn⟩:=hlp _ _ _ h
  refine Wkg (fun m s=>loopE (evalG P lp call rd n0 c k) m s=some (e,s')) n hn fun n s hn K hK=> ?_
  cases n with
  | zero=>cases hn
  | succ n=>
   simp only[loopE]at hn
   split at hn
   ·rename_i s1 h1
    refine W1q (ih _ _ _ _ h1) fun e1 t ht=> ?_
    obtain ⟨rfl,hw⟩:=ht
    exact hK t ⟨n,s1,Nat.lt_succ_self _,hw,hn⟩
   ·rename_i r hne
    refine W1q (ih _ _ _ _ hn) fun e1 t ht=> ?_
    obtain ⟨rfl,hw⟩:=ht
    cases e1 with
    | normal=>exact absurd hn (hne s')
    | _=>exact ⟨rfl,hw⟩
 | rfun g f j=>
  intro k s s' e h
  simp only[evalG,W0f]at h
  split at h
  ·cases h
  ·rename_i hr
   have:ro=none:=hrd (by simpa using hr)
   subst this
   obtain ⟨⟨r,rg⟩,h1,h2⟩:=Z0.1 h
   unfold lpCall at h1
   split at h1
   ·rename_i gf fa ca hg
    refine Wki hg ((hcall.fn _ _ _ _ _ h1).mono fun r' rg' hrr=> ?_)
    obtain ⟨rfl,rfl⟩:=hrr
    unfold Wof at h2
    split at h2
    ·rename_i f' j' sl st pe hl
     split at h2
     ·rename_i hc
      obtain ⟨rfl,rfl,hst⟩:=hc
      refine ⟨sl,st,pe,hl,hst,?_⟩
      split at h2
      ·cases h2; exact ⟨rfl,Weak.refl _ _⟩
      ·cases h2; exact ⟨rfl,Weak.refl _ _⟩
      ·cases h2; exact ⟨rfl,Weak.refl _ _⟩
     ·cases h2
    ·cases h2
   ·cases h1
 | exit id=>
  intro k s s' e h
  simp only[evalG]at h
  cases h
  exact Wkf ⟨rfl,Weak.refl _ _⟩
 | ret=>
  intro k s s' e h
  simp only[evalG]at h
  cases h
  exact W8n ⟨rfl,Weak.refl _ _⟩
 | stuck=>
  intro k s s' e h
  simp only[evalG,reduceCtorEq]at h
end
structure Book where
 P:Program
 T:List (Option (FnT×KT))
 L:Nat→Nat→Option LpT
 O:W0i
 Z:Nat→ZT
structure Book.Ok(B:Book):Prop where
 tab:TabOk B.P 0 B.T
 lps:∀f j q,B.L f j=some q→trLp B.P f j=some (q.N,q.ps,q.as,q.bd)
 orc:CallOk B.P B.O
def endR(z:ZT)(n:Nat)(res:List RV)(x:Exit×St):Option (AV×List Reg):=
 match x.1 with
 | .normal | .ret=>(W0h (W5b x.2) res).map fun vs=>finR z n (W8p vs,x.2.regs)
 | _=>none
def W7o(id f j:Nat)(x:Exit×St):Option (AV×List Reg):=
 match x.2.regs[id]? with
 | some (.lp f' j' sl .busy none)=>if f'=f∧j'=j then (match x.1 with
   | .normal=>some (.c (.p (.v (.bool true))),x.2.regs.set id (.lp f j sl .ready none))
   | .ret=>some (.c (.p (.v (.bool false))),x.2.regs.set id (.lp f j sl .done (some .ret)))
   | .exit i=>some (.c (.p (.v (.bool false))),x.2.regs.set id (.lp f j sl .done (some (.exit i))))
   | _=>none)else none
 | _=>none
def W7p(id f j:Nat)(x:Exit×St):Option St:=
 match x.1,x.2.regs[id]? with
 | .normal,some (.lp f' j' sl .ready none)=>if f'=f∧j'=j then some ⟨x.2.slots,x.2.regs.set id (.lp f j sl .busy none)⟩else none
 | _,_=>none
def Book.round(B:Book)(lp:W1j)(call:W0i)(id:Nat)(args:List AV)(regs:List Reg):Option Reg→Option (AV×List Reg)
 | some (.lp f j sl .ready none)=>(B.L f j).bind fun q=>if q.ps.length=args.length then ((evalG B.P lp call true regs.length q.as q.ka ⟨Wfz q.ps args sl,regs⟩).bind (W7p id f j)).bind fun s=>(evalG B.P lp call true regs.length q.bd q.kb s).bind (W7o id f j)else none
 | _=>none
def Book.body(B:Book)(lp:W1j)(call:W0i):W0i:=fun k args regs=>match B.O k args regs with
 | some r=>some r
 | none=>match k with
  | .fn f=>match B.T[f]? with
   | some (some (t,kt))=>if args.length≤t.nt then (evalG B.P lp call false regs.length t.code kt ⟨W0w 0 args,regs⟩).bind (endR (B.Z f) regs.length t.res)else none
   | _=>none
  | .yl id=>B.round lp call id args regs regs[id]?
noncomputable def Book.lvl (B:Book):Nat→W0i
 | 0=>fun _ _ _=>none
 | n+1=>B.body W02 (B.lvl n)
def Book.evalK(B:Book)(fuel:Nat):Nat→W0i
 | 0=>fun _ _ _=>none
 | n+1=>B.body (fun b s=>loopE b fuel s) (B.evalK fuel n)
noncomputable def Book.run (B:Book):W0i:=fun k args regs=>lim fun n=>B.lvl n k args regs
variable {B:Book}
theorem Fs.body(k:CK)(args:List AV)(regs:List Reg):Fs fun call=>B.body W02 call k args regs:=by
 unfold Book.body
 cases B.O k args regs with
 | some r=>exact Fs.const _
 | none=>
  cases k with
  | fn f=>
   simp only
   split
   ·exact Fs.ite _ (Fs.bind (Fs.evalG _ _ _) fun x=>Fs.const _) (Fs.const _)
   ·exact Fs.const _
  | yl id=>
   simp only
   unfold Book.round
   split
   ·rename_i f j sl hr
    cases B.L f j with
    | none=>exact Fs.const _
    | some q=>exact Fs.ite _ (Fs.bind (Fs.bind (Fs.evalG _ _ _) fun x=>Fs.const _) fun s=>Fs.bind (Fs.evalG _ _ _) fun x=>Fs.const _) (Fs.const _)
   ·exact Fs.const _
theorem Book.lvl_mono:∀(n:Nat) (k:CK) (args:List AV) (regs:List Reg) (x:AV×List Reg),B.lvl n k args regs=some x→B.lvl (n+1) k args regs=some x
 | 0,k,args,regs,x,h=>by cases h
 | n+1,k,args,regs,x,h=>Fs.mono (Fs.body k args regs) (fun f a r x h=>Book.lvl_mono n f a r x h) h
theorem Book.run_some{k:CK}{args:List AV}{regs:List Reg}{x:AV×List Reg}:B.run k args regs=some x↔∃n,B.lvl n k args regs=some x:=Whz fun n x h=>Book.lvl_mono n k args regs x h
theorem Book.lvl_le{n m:Nat}{k:CK}{args:List AV}{regs:List Reg}{x:AV×List Reg}(h:B.lvl n k args regs=some x):B.lvl (n+m) k args regs=some x:=by
 induction m with
 | zero=>exact h
 | succ m ih=>exact Book.lvl_mono _ _ _ _ _ ih
theorem Book.run_eq(k:CK)(args:List AV)(regs:List Reg):B.run k args regs=B.body W02 B.run k args regs:=by
 apply Option.ext
 intro x
 show B.run k args regs=some x↔B.body W02 B.run k args regs=some x
 constructor
 ·intro h
  obtain ⟨n,hn⟩:=Book.run_some.1 h
  cases n with
  | zero=>cases hn
  | succ n=>exact Fs.mono (Fs.body k args regs) (fun f a r x h=>Book.run_some.2 ⟨n,h⟩) hn
 ·intro h
  obtain ⟨L,a,b⟩:=Fs.body k args regs B.run x h
  have:∃n,∀q∈L,q.ok (B.lvl n):=by
   clear b h
   induction L with
   | nil=>exact ⟨0,fun q hq=>by simp at hq⟩
   | cons q L ih=>
    obtain ⟨n,hn⟩:=ih fun q hq=>a q (Zo _ hq)
    obtain ⟨m,hm⟩:=Book.run_some.1 (a q Xg)
    refine ⟨n+m,fun q' hq'=> ?_⟩
    rcases Zq.1 hq' with rfl | hq'
    ·rw[Nat.add_comm]; exact Book.lvl_le hm
    ·exact Book.lvl_le (hn q' hq')
  obtain ⟨n,hn⟩:=this
  exact Book.run_some.2 ⟨n+1,b _ hn⟩
theorem Book.run_fn{f:Nat}{t:FnT}{kt:KT}(hT:B.T[f]?=some (some (t,kt))){args:List AV}{regs:List Reg}(hO:B.O (.fn f) args regs=none)(hl:args.length≤t.nt):
  B.run (.fn f) args regs=(evalG B.P W02 B.run false regs.length t.code kt ⟨W0w 0 args,regs⟩).bind (endR (B.Z f) regs.length t.res):=by
 rw[Book.run_eq]
 unfold Book.body
 simp only[hO,hT,if_pos hl]
theorem Book.run_or{k:CK}{args:List AV}{regs:List Reg}{x:AV×List Reg}(hO:B.O k args regs=some x):B.run k args regs=some x:=by
 rw[Book.run_eq]
 unfold Book.body
 simp only[hO]
theorem Book.run_yl{id f j:Nat}{sl:List (Nat×AV)}{q:LpT}{args:List AV}{regs:List Reg}(hr:regs[id]?=some (.lp f j sl .ready none))(hL:B.L f j=some q)(hO:B.O (.yl id) args regs=none)(hl:q.ps.length=args.length):
  B.run (.yl id) args regs=((evalG B.P W02 B.run true regs.length q.as q.ka ⟨Wfz q.ps args sl,regs⟩).bind (W7p id f j)).bind fun s=>(evalG B.P W02 B.run true regs.length q.bd q.kb s).bind (W7o id f j):=by
 rw[Book.run_eq]
 unfold Book.body
 simp only[hO,hr,Book.round,hL,Zn,if_pos hl]
theorem Book.body_ok(hB:B.Ok){lp:W1j}(hlp:LpOk lp){call:W0i}(hcall:CallOk B.P call):CallOk B.P (B.body lp call):=by
 refine ⟨fun f args regs r rg h=> ?_,fun id args regs r rg h=> ?_⟩
 ·simp only[Book.body]at h
  split at h
  ·rename_i p hp
   cases h
   exact hB.orc.fn _ _ _ _ _ hp
  ·split at h
   rotate_left
   ·cases h
   rename_i t kt ht
   have hf:=hB.tab.get ht
   rw[Xn]at hf
   obtain ⟨fn,hfn,hf2⟩:=Z0.1 hf
   split at hf2
   rotate_left
   ·cases hf2
   rename_i hname
   obtain ⟨c,hb,hf3⟩:=Z0.1 hf2
   obtain ⟨ac,htr,hf4⟩:=Z0.1 hf3
   obtain ⟨rs,hrs,rfl⟩:=Z1.1 hf4
   split at h
   rotate_left
   ·cases h
   rename_i hc
   obtain ⟨⟨e,s'⟩,he,h⟩:=Z0.1 h
   have hex:(e= .normal∨e= .ret)∧∃vs,W0h (W5b s') rs=some vs∧finR (B.Z f) regs.length (W8p vs,s'.regs)=(r,rg):=by
    cases e with
    | normal=>exact ⟨.inl rfl,Z1.1 h⟩
    | ret=>exact ⟨.inr rfl,Z1.1 h⟩
    | _=>cases h
   obtain ⟨hne,vs,hvs,hg⟩:=hex
   have h1:FS B.P f args regs fun r' rg'=>r'=W8p vs∧rg'=s'.regs:=by
    refine Wnr hfn hname hb rs hrs htr hc (W1q (W9a hlp hcall (fun _=>rfl) ac kt _ s' e he) fun e1 s1 hs=> ?_)
    obtain ⟨rfl,hw⟩:=hs
    exact Fin2.weak hne hw hvs ⟨rfl,rfl⟩
   refine h1.post fun res rg' hr=> ?_
   obtain ⟨rfl,rfl⟩:=hr
   have hw:=Woc (P:=B.P) (B.Z f) regs.length (W8p vs,s'.regs)
   rw[hg]at hw
   exact ⟨r,rg,hw,rfl,rfl⟩
 ·simp only[Book.body]at h
  split at h
  ·rename_i p hp
   cases h
   exact hB.orc.yl _ _ _ _ _ hp
  ·unfold Book.round at h
   split at h
   rotate_left
   ·cases h
   rename_i f j sl hr
   obtain ⟨q,hq,h⟩:=Z0.1 h
   have htl:=hB.lps f j q hq
   obtain ⟨⟨L,N⟩,hL,htl⟩:=Z0.1 htl
   obtain ⟨x,hx,htl⟩:=Z0.1 htl
   obtain ⟨y,hy,htl⟩:=Z0.1 htl
   split at htl
   rotate_left
   ·cases htl
   rename_i hc
   simp only[Z4,Za,Zf]at hc
   obtain ⟨c1,c2,c3⟩:=hc
   injection htl with htl
   injection htl with e1 htl
   injection htl with e2 htl
   injection htl with e3 e4
   split at h
   rotate_left
   ·cases h
   rename_i hlen
   obtain ⟨s2,h1,h2⟩:=Z0.1 h
   obtain ⟨⟨ex1,s1⟩,h3,h4⟩:=Z0.1 h1
   obtain ⟨⟨ex2,s3⟩,h5,h6⟩:=Z0.1 h2
   refine V6s hr hL (by rw[e2]; exact hlen) c3 hx c1 hy c2 fun l=> ?_
   rw[e2,e3]
   refine W1q (W9a hlp hcall (ro:=some l) (fun h=>by cases h) _ _ _ _ _ h3) fun e t ht=> ?_
   obtain ⟨rfl,hw⟩:=ht
   refine ⟨s1,hw,?_⟩
   unfold W7p at h4
   split at h4
   rotate_left
   ·cases h4
   rename_i he hsl1
   split at h4
   rotate_left
   ·cases h4
   rename_i hfj
   obtain ⟨rfl,rfl⟩:=hfj
   injection h4 with h4
   simp only at he hsl1
   subst he
   refine ⟨_,hsl1,?_⟩
   simp only at h4
   rw[h4,e4]
   refine W1q (W9a hlp hcall (ro:=some l) (fun h=>by cases h) _ _ _ _ _ h5) fun e t2 ht2=> ?_
   obtain ⟨rfl,hw2⟩:=ht2
   refine ⟨s3,hw2,?_⟩
   unfold W7o at h6
   split at h6
   rotate_left
   ·cases h6
   rename_i hsl2
   split at h6
   rotate_left
   ·cases h6
   rename_i hfj
   obtain ⟨rfl,rfl⟩:=hfj
   simp only at h6 hsl2
   cases e with
   | normal=>cases h6; exact ⟨_,hsl2,rfl,rfl⟩
   | ret=>cases h6; exact ⟨_,hsl2,rfl,rfl⟩
   | exit i=>cases h6; exact ⟨_,hsl2,rfl,rfl⟩
   | _=>cases h6
theorem Book.lvl_ok(hB:B.Ok):∀n,CallOk B.P (B.lvl n)
 | 0=>⟨fun _ _ _ _ _ h=>(by cases h),fun _ _ _ _ _ h=>(by cases h)⟩
 | n+1=>Book.body_ok hB LpOk.R (Book.lvl_ok hB n)
theorem Book.evalK_ok(hB:B.Ok)(fuel:Nat):∀n,CallOk B.P (B.evalK fuel n)
 | 0=>⟨fun _ _ _ _ _ h=>(by cases h),fun _ _ _ _ _ h=>(by cases h)⟩
 | n+1=>Book.body_ok hB (LpOk.E fuel) (Book.evalK_ok hB fuel n)
theorem Book.run_FS(hB:B.Ok){f:Nat}{args:List AV}{regs:List Reg}{r:AV}{rg:List Reg}(h:B.run (.fn f) args regs=some (r,rg)):FS B.P f args regs fun r' rg'=>r'=r∧rg'=rg:=by
 obtain ⟨n,hn⟩:=Book.run_some.1 h
 exact (Book.lvl_ok hB n).fn f args regs r rg hn
abbrev I(k:IntKind)(n:Int):AV:= .c (.p (.v (.int k n)))
abbrev Bo(b:Bool):AV:= .c (.p (.v (.bool b)))
abbrev Sl(sz:Nat)(l:List (List PV)):AV:= .c (.p (.sl sz l))
@[simp] theorem ev_t (sl:List (Nat×AV)) (rg:List Reg) (n:Nat):St.ev ⟨sl,rg⟩ (.t n)=lk sl n:=_root_.id rfl
@[simp] theorem V9t (n:Nat):lk [] n= .c .any:=_root_.id rfl
@[simp] theorem V9u (n:Nat) (v:AV) (r:List (Nat×AV)):lk ((n,v)::r) n=v:=by simp[lk]
@[simp] theorem V6v {k n:Nat} (h:k≠n) (v:AV) (r:List (Nat×AV)):lk ((k,v)::r) n=lk r n:=by simp[lk,h]
def cont(P:Program)(c:W0i)(r:List AIt)(d:Nat)(sl:List (Nat×AV))(rg:List Reg)(o:Option AV):Option St:=o.bind fun v=>evalOps P c r ⟨(d,v)::sl,rg⟩
theorem Wog(P:Program)(c:W0i)(r:List AIt)(d:Nat)(sl:List (Nat×AV))(rg:List Reg)(v:AV):cont P c r d sl rg (some v)=evalOps P c r ⟨(d,v)::sl,rg⟩:=_root_.id rfl
def W9b(P:Program)(c:W0i)(r:List AIt)(d:Nat)(sl:List (Nat×AV))(o:Option (AV×List Reg)):Option St:=o.bind fun p=>evalOps P c r ⟨(d,p.1)::sl,p.2⟩
theorem Wkl(P:Program)(c:W0i)(r:List AIt)(d:Nat)(sl:List (Nat×AV))(v:AV)(rg:List Reg):W9b P c r d sl (some (v,rg))=evalOps P c r ⟨(d,v)::sl,rg⟩:=_root_.id rfl
def Woh(P:Program)(c:W0i)(r:List AIt)(sl:List (Nat×AV))(o:Option (AV×List Reg)):Option St:=o.bind fun p=>evalOps P c r ⟨sl,p.2⟩
def Wy0(P:Program)(c:W0i)(r:List AIt)(sl:List (Nat×AV))(o:Option (List Reg)):Option St:=o.bind fun rg=>evalOps P c r ⟨sl,rg⟩
theorem Wkm(P:Program)(c:W0i)(r:List AIt)(sl:List (Nat×AV))(rg:List Reg):Wy0 P c r sl (some rg)=evalOps P c r ⟨sl,rg⟩:=_root_.id rfl
def Wsw(c:W0i)(args:List AV)(rg:List Reg)(o:Option (Nat×List FA×List FA)):Option (AV×List Reg):=o.bind fun q=>c (.fn q.1) (q.2.1.map avFA++args++q.2.2.map avFA) rg
def W4f(c:W0i)(args:List AV)(rg:List Reg)(o:Option (CK×List FA×List FA)):Option (AV×List Reg):=o.bind fun q=>c q.1 (q.2.1.map avFA++args++q.2.2.map avFA) rg
theorem Wkn(c:W0i)(args:List AV)(rg:List Reg)(f:CK)(a b:List FA):W4f c args rg (some (f,a,b))=c f (a.map avFA++args++b.map avFA) rg:=_root_.id rfl
def mkfn(f:Fn)(a b:Option (List FA)):Option AV:=a.bind fun a=>b.map fun b=> .c (.fn f a b)
theorem Woi(f:Fn)(a b:List FA):mkfn f (some a) (some b)=some (.c (.fn f a b)):=_root_.id rfl
def gdk(P:Program)(c:W0i)(r:List AIt)(w:Bool)(d:Option Nat)(op:AOp)(sl:List (Nat×AV))(rg:List Reg)(v:AV):Option St:=
 match v with
 | .c (.p (.v (.bool b)))=>if b=w then evalOps P c (⟨none,d,op⟩::r) ⟨sl,rg⟩else evalOps P c r (St.put ⟨sl,rg⟩ d (.tup []))
 | .tup []=>evalOps P c r (St.put ⟨sl,rg⟩ d (.tup []))
 | _=>none
def vbin(op:BinOp)(x y:AV):Option AV:=(W33 x).bind fun a=>(W33 y).bind fun b=>(binE op a b).map fun v=> .c (.p (.v v))
def veqs(P:Program)(neg:Bool)(t:Nat)(ks:List IntKind):AV→AV→Option AV
 | .agg l,.agg l'=>(W2f ks l).bind fun us=>(W2f ks l').bind fun vs=>if W8q P t ks=true then some (Bo (if neg then !decide (us=vs)else decide (us=vs)))else none
 | _,_=>none
def vbeq(neg:Bool)(x y:AV):Option AV:=(W00 x).bind fun a=>(W00 y).map fun b=>Bo (if neg then !(a==b)else (a==b))
def W0c(v a b:AV):Option AV:=
 (W00 v).map fun t=>if t=true then a else b
def vun1:UnOp→Option Value→Option AV
 | .not,some (.bool b)=>some (Bo (!b))
 | .neg,some (.int k n)=>some (I k (k.wrap (0-n)))
 | _,_=>none
def vun(op:UnOp)(x:AV):Option AV:=vun1 op (W33 x)
def vcvi(k:IntKind)(x:AV):Option AV:=(W0m x).map fun q=>I k (k.wrap q.2)
def W0a:AV→Option AV
 | .c (.ptr id off)=>some (.c (.ptr id off))
 | .c (.ept id sz i j)=>some (.c (.ept id sz i j))
 | .c (.rp l)=>some (.c (.rp l))
 | _=>none
def vfad(off:Nat):AV→Option AV
 | .c (.ptr id o)=>some (.c (.ptr id (o+off)))
 | .c (.ept id sz i j)=>some (.c (.ept id sz i (j+off)))
 | .c (.rp l)=>some (.c (.rp (l.drop off)))
 | _=>none
def vfld(off n:Nat)(agg:Bool):AV→Option AV
 | .agg l=>if off+n≤l.length then pack agg ((l.drop off).take n)else none
 | _=>none
def W0n(off n:Nat)(agg:Bool):Option Reg→Option AV
 | some (.ac l)=>if off+n≤l.length then pack agg ((l.drop off).take n)else none
 | _=>none
def Woj(sz i j n:Nat)(agg:Bool):Option Reg→Option AV
 | some (.pc sz' ls)=>if sz=sz'∧j+n≤sz then (ls[i]?).bind fun c=>pack agg (((c.drop j).take n).map .p)else none
 | some (.es sz' ls)=>if sz=sz'∧j+n≤sz then (ls[i]?).bind fun c=>pack agg ((c.drop j).take n)else none
 | _=>none
def W01(rg:List Reg)(n:Nat)(agg:Bool):AV→Option AV
 | .c (.ptr id off)=>W0n off n agg rg[id]?
 | .c (.ept id sz i j)=>Woj sz i j n agg rg[id]?
 | .c (.rp l)=>if n≤l.length then pack agg ((l.take n).map .p)else none
 | _=>none
def W1n(off n:Nat)(xs:List AC):Option Reg→Option Reg
 | some (.ac l)=>if xs.length=n∧off+n≤l.length then some (.ac (l.take off++xs++l.drop (off+n)))else none
 | _=>none
def W9c(sz i j n:Nat)(xs:List AC):Option Reg→Option Reg
 | some (.pc sz' ls)=>if sz=sz' then (match W1g xs with
   | some ps=>if ps.length=n∧j+n≤sz then (ls[i]?).map fun c=> .pc sz (ls.set i (c.take j++ps++c.drop (j+n)))else none
   | none=>(stE n sz i j xs (upL ls)).map fun l=> .es sz l)else none
 | some (.es sz' ls)=>if sz=sz' then (stE n sz i j xs ls).map fun l=> .es sz l else none
 | _=>none
def W03(rg:List Reg)(n:Nat):AV→AV→Option (List Reg)
 | .c (.ptr id off),v=>(cellsOf v).bind fun xs=>(W1n off n xs rg[id]?).map fun r=>rg.set id r
 | .c (.ept id sz i j),v=>(cellsOf v).bind fun xs=>(W9c sz i j n xs rg[id]?).map fun r=>rg.set id r
 | _,_=>none
def Wa5(sz:Nat)(i:Int):AV→Option AV
 | .c (.p (.sl sz' l))=>if sz=sz'∧0≤i then (l[i.toNat]?).map fun c=> .c (.rp c)else none
 | .c (.own id off sz' len _)=>if sz=sz'∧0≤i∧i<len then some (.c (.ept id sz (off+i.toNat) 0))else none
 | _=>none
def vixs(sz:Nat)(i x:AV):Option AV:=(W0m i).bind fun q=>Wa5 sz q.2 x
def Wy1(len sz:Nat)(i:Int):AV→Option AV
 | .c (.ept id sz' a 0)=>if sz=sz'∧0≤i∧i<len then some (.c (.ept id sz (a+i.toNat) 0))else none
 | .c (.ptr id off)=>if 0≤i∧i<len then some (.c (.ptr id (off+i.toNat*sz)))else none
 | .c (.rp l)=>if 0≤i∧i<len then some (.c (.rp (l.drop (i.toNat*sz))))else none
 | _=>none
def vixa(len sz:Nat)(i x:AV):Option AV:=(W0m i).bind fun q=>Wy1 len sz q.2 x
def vlen(x:AV):Option AV:=(W1i x).map fun n=>I .i64 n
def Ww1:Option Value→Option AV
 | some (.string b)=>some (I .i64 b.size)
 | _=>none
def Wko(x:AV):Option AV:=Ww1 (W33 x)
def vext(i:Nat):AV→Option AV
 | .tup l=>l[i]?
 | _=>none
def vmm(mx:Bool)(x y:AV):Option AV:=(W0m x).bind fun q=>(W0m y).map fun r=>I q.1 (if mx then (if q.2<r.2 then r.2 else q.2)else (if r.2<q.2 then r.2 else q.2))
def Wok(len sz:Nat)(agg:Bool)(i:Int):AV→Option AV
 | .agg l=>if 0≤i∧i<len∧i.toNat*sz+sz≤l.length then pack agg ((l.drop (i.toNat*sz)).take sz)else none
 | _=>none
def vixv(len sz:Nat)(agg:Bool)(i x:AV):Option AV:=(W0m i).bind fun q=>Wok len sz agg q.2 x
def vapp(rg:List Reg)(sz bytes:Nat)(x y:AV):Option (AV×List Reg):=
 match W3p rg x y sz bytes with
 | some p=>some p
 | none=>Wg0 rg x y sz bytes
theorem Wsx{α β γ:Type}{p:Prop} [Decidable p]{f:α→β}{g:β→Option γ}(o:Option α):((if p then o.map f else none).bind g)=(if p then o else none).bind fun v=>g (f v):=by split<;>cases o<;>rfl
theorem V1s{α β γ δ:Type}{p:Prop} [Decidable p]{f:α→β}{g:β→Option γ}(u:Option δ)(o:δ→Option α):((if p then u.bind fun c=>(o c).map f else none).bind g)=(if p then u.bind o else none).bind fun v=>g (f v):=by
 split
 ·cases u with
  | none=>rfl
  | some c=>simp only[Zn]; cases o c<;>rfl
 ·rfl
theorem Wol{α β γ:Type}{p:Prop} [Decidable p]{f:α→β}{g:β→Option γ}(x:α):((if p then some (f x)else none).bind g)=(if p then some x else none).bind fun v=>g (f v):=by split<;>rfl
section
variable {P:Program} {c:W0i} {r:List AIt} {dd:Option Nat} {d:Nat} {sl:List (Nat×AV)} {rg:List Reg} {x y z:AX}
theorem Wy2(s:St):evalOps P c [] s=some s:=_root_.id rfl
theorem W0r(op:AOp)(s:St):evalOps P c (⟨none,dd,op⟩::r) s=(evalOp P c op s).bind (evalOps P c r):=_root_.id rfl
theorem Ww2:evalOps P c (⟨none,dd,.mv (some d) x⟩::r) ⟨sl,rg⟩=cont P c r d sl rg (some (St.ev ⟨sl,rg⟩ x)):=by
 rw[W0r,cont]
 simp only[evalOp,Wnt,W0f]
 rfl
theorem Wom(op:BinOp):evalOps P c (⟨none,dd,.bin (some d) op x y⟩::r) ⟨sl,rg⟩=cont P c r d sl rg (vbin op (St.ev ⟨sl,rg⟩ x) (St.ev ⟨sl,rg⟩ y)):=by
 rw[W0r,cont]
 simp only[evalOp,Wdk,W0f]
 generalize St.ev ⟨sl,rg⟩ x=vx
 generalize St.ev ⟨sl,rg⟩ y=vy
 unfold vbin
 generalize W33 vx=o1
 generalize W33 vy=o2
 cases o1<;>cases o2<;>((repeat' split)<;>first | rfl | simp_all[St.put,St.putr,Option.bind_map,Yq,Yn,Option.map_map]<;>omega)
theorem Won(neg:Bool)(t:Nat)(ks:List IntKind):evalOps P c (⟨none,dd,.eqs (some d) neg t ks x y⟩::r) ⟨sl,rg⟩=cont P c r d sl rg (veqs P neg t ks (St.ev ⟨sl,rg⟩ x) (St.ev ⟨sl,rg⟩ y)):=by
 rw[W0r,cont]
 simp only[evalOp,Wdl,W0f]
 generalize St.ev ⟨sl,rg⟩ x=vx
 generalize St.ev ⟨sl,rg⟩ y=vy
 cases vx<;>cases vy<;>simp only[veqs,Option.bind_none]
 rename_i l l'
 cases W2f ks l<;>cases W2f ks l'<;>simp only[Option.bind_none,Zn]
 split<;>rfl
theorem Woo(neg:Bool):evalOps P c (⟨none,dd,.beq (some d) neg x y⟩::r) ⟨sl,rg⟩=cont P c r d sl rg (vbeq neg (St.ev ⟨sl,rg⟩ x) (St.ev ⟨sl,rg⟩ y)):=by
 rw[W0r,cont]
 simp only[evalOp,Wdm,W0f]
 generalize St.ev ⟨sl,rg⟩ x=vx
 generalize St.ev ⟨sl,rg⟩ y=vy
 unfold vbeq
 generalize W00 vx=o1
 generalize W00 vy=o2
 cases o1<;>cases o2<;>((repeat' split)<;>first | rfl | simp_all[St.put,St.putr,Option.bind_map,Yq,Yn,Option.map_map]<;>omega)
theorem Wi2:evalOps P c (⟨none,dd,.pick (some d) x y z⟩::r) ⟨sl,rg⟩=cont P c r d sl rg (W0c (St.ev ⟨sl,rg⟩ x) (St.ev ⟨sl,rg⟩ y) (St.ev ⟨sl,rg⟩ z)):=by
 rw[W0r,cont]
 simp only[evalOp,W8r,W0f]
 generalize St.ev ⟨sl,rg⟩ x=vx
 generalize St.ev ⟨sl,rg⟩ y=vy
 generalize St.ev ⟨sl,rg⟩ z=vz
 unfold W0c
 generalize W00 vx=o1
 cases o1<;>((repeat' split)<;>first | rfl | simp_all[St.put,St.putr,Option.bind_map,Yq,Yn,Option.map_map]<;>omega)
theorem Ww3(op:UnOp):evalOps P c (⟨none,dd,.un (some d) op x⟩::r) ⟨sl,rg⟩=cont P c r d sl rg (vun op (St.ev ⟨sl,rg⟩ x)):=by
 rw[W0r,cont]
 simp only[evalOp,Wnu,W0f]
 generalize St.ev ⟨sl,rg⟩ x=vx
 unfold vun vun1
 generalize W33 vx=o1
 cases o1<;>((repeat' split)<;>first | rfl | simp_all[St.put,St.putr,Option.bind_map,Yq,Yn,Option.map_map]<;>omega)
theorem Wop(k:IntKind):evalOps P c (⟨none,dd,.cvi (some d) k x⟩::r) ⟨sl,rg⟩=cont P c r d sl rg (vcvi k (St.ev ⟨sl,rg⟩ x)):=by
 rw[W0r,cont]
 simp only[evalOp,Wdn,W0f]
 generalize St.ev ⟨sl,rg⟩ x=vx
 unfold vcvi
 generalize W0m vx=o1
 cases o1<;>((repeat' split)<;>first | rfl | simp_all[St.put,St.putr,Option.bind_map,Yq,Yn,Option.map_map]<;>omega)
theorem Wi3:evalOps P c (⟨none,dd,.nilc (some d) x⟩::r) ⟨sl,rg⟩=cont P c r d sl rg (W0a (St.ev ⟨sl,rg⟩ x)):=by
 rw[W0r,cont]
 simp only[evalOp,W8s,W0f]
 generalize St.ev ⟨sl,rg⟩ x=vx
 cases vx with
 | c x=>cases x<;>rfl
 | agg l=>rfl
 | tup l=>rfl
theorem Woq(off:Nat):evalOps P c (⟨none,dd,.fad (some d) off x⟩::r) ⟨sl,rg⟩=cont P c r d sl rg (vfad off (St.ev ⟨sl,rg⟩ x)):=by
 rw[W0r,cont]
 simp only[evalOp,Wdp,W0f]
 generalize St.ev ⟨sl,rg⟩ x=vx
 cases vx with
 | c x=>cases x<;>rfl
 | agg l=>rfl
 | tup l=>rfl
theorem Wor(off n:Nat)(agg:Bool):evalOps P c (⟨none,dd,.fld (some d) off n agg x⟩::r) ⟨sl,rg⟩=cont P c r d sl rg (vfld off n agg (St.ev ⟨sl,rg⟩ x)):=by
 rw[W0r,cont]
 simp only[evalOp,Wdq,W0f]
 generalize St.ev ⟨sl,rg⟩ x=vx
 cases vx with
 | c y=>rfl
 | tup l=>rfl
 | agg l=>exact Wsx _
theorem Wi4(n:Nat)(agg:Bool):evalOps P c (⟨none,dd,.load (some d) n agg x⟩::r) ⟨sl,rg⟩=cont P c r d sl rg (W01 rg n agg (St.ev ⟨sl,rg⟩ x)):=by
 rw[W0r,cont]
 simp only[evalOp,W8t,W0f]
 generalize St.ev ⟨sl,rg⟩ x=vx
 cases vx with
 | agg l=>rfl
 | tup l=>rfl
 | c y=>cases y with
  | ptr id off=>
   simp only[W01]
   cases rg[id]? with
   | none=>rfl
   | some w=>cases w<;>first | exact Wsx _ | rfl
  | ept id sz i j=>
   simp only[W01]
   cases rg[id]? with
   | none=>rfl
   | some w=>cases w<;>first | exact V1s _ _ | rfl
  | rp l=>exact Wsx _
  | _=>rfl
theorem Wos(sz:Nat):evalOps P c (⟨none,dd,.ixs (some d) sz x y⟩::r) ⟨sl,rg⟩=cont P c r d sl rg (vixs sz (St.ev ⟨sl,rg⟩ y) (St.ev ⟨sl,rg⟩ x)):=by
 rw[W0r,cont]
 simp only[evalOp,Wdr,W0f]
 generalize St.ev ⟨sl,rg⟩ x=vx
 generalize St.ev ⟨sl,rg⟩ y=vy
 unfold vixs
 cases W0m vy with
 | none=>rfl
 | some q=>
  obtain ⟨k,i⟩:=q
  cases vx with
  | agg l=>rfl
  | tup l=>rfl
  | c y=>cases y with
   | p z=>cases z with
    | v z=>rfl
    | sl sz' l=>simp only[Wa5,Zn]; cases l[i.toNat]?<;>split<;>rfl
   | own id off sz' len cap=>simp only[Wa5,Zn]; split<;>rfl
   | _=>rfl
theorem Wot(len sz:Nat):evalOps P c (⟨none,dd,.ixa (some d) len sz x y⟩::r) ⟨sl,rg⟩=cont P c r d sl rg (vixa len sz (St.ev ⟨sl,rg⟩ y) (St.ev ⟨sl,rg⟩ x)):=by
 rw[W0r,cont]
 simp only[evalOp,Wds,W0f]
 generalize St.ev ⟨sl,rg⟩ x=vx
 generalize St.ev ⟨sl,rg⟩ y=vy
 unfold vixa
 cases W0m vy with
 | none=>rfl
 | some q=>
  obtain ⟨k,i⟩:=q
  cases vx with
  | agg l=>rfl
  | tup l=>rfl
  | c y=>cases y with
   | ept id sz' u j=>cases j with
    | zero=>exact Wol _
    | succ j=>rfl
   | ptr id off=>exact Wol _
   | rp l=>exact Wol _
   | _=>rfl
theorem Wou:evalOps P c (⟨none,dd,.len (some d) x⟩::r) ⟨sl,rg⟩=cont P c r d sl rg (vlen (St.ev ⟨sl,rg⟩ x)):=by
 rw[W0r,cont]
 simp only[evalOp,Wdt,W0f]
 generalize St.ev ⟨sl,rg⟩ x=vx
 unfold vlen
 generalize W1i vx=o1
 cases o1<;>((repeat' split)<;>first | rfl | simp_all[St.put,St.putr,Option.bind_map,Yq,Yn,Option.map_map]<;>omega)
theorem Wi5:evalOps P c (⟨none,dd,.lens (some d) x⟩::r) ⟨sl,rg⟩=cont P c r d sl rg (Wko (St.ev ⟨sl,rg⟩ x)):=by
 rw[W0r,cont]
 simp only[evalOp,W8u,W0f]
 generalize St.ev ⟨sl,rg⟩ x=vx
 unfold Wko Ww1
 generalize W33 vx=o1
 cases o1<;>((repeat' split)<;>first | rfl | simp_all[St.put,St.putr,Option.bind_map,Yq,Yn,Option.map_map]<;>omega)
theorem Wov(i:Nat):evalOps P c (⟨none,dd,.ext (some d) x i⟩::r) ⟨sl,rg⟩=cont P c r d sl rg (vext i (St.ev ⟨sl,rg⟩ x)):=by
 rw[W0r,cont]
 simp only[evalOp,Wdv,W0f]
 generalize St.ev ⟨sl,rg⟩ x=vx
 unfold vext
 (repeat' split)<;>first | rfl | simp_all[St.put,St.putr,Option.bind_map,Yq,Yn,Option.map_map]<;>omega
theorem Ww4(mx:Bool):evalOps P c (⟨none,dd,.mm (some d) mx x y⟩::r) ⟨sl,rg⟩=cont P c r d sl rg (vmm mx (St.ev ⟨sl,rg⟩ x) (St.ev ⟨sl,rg⟩ y)):=by
 rw[W0r,cont]
 simp only[evalOp,Wnx,W0f]
 unfold vmm
 cases W0m (St.ev ⟨sl,rg⟩ x)with
 | none=>rfl
 | some q=>cases W0m (St.ev ⟨sl,rg⟩ y)<;>rfl
theorem Wow(len sz:Nat)(agg:Bool):evalOps P c (⟨none,dd,.ixv (some d) len sz agg x y⟩::r) ⟨sl,rg⟩=cont P c r d sl rg (vixv len sz agg (St.ev ⟨sl,rg⟩ y) (St.ev ⟨sl,rg⟩ x)):=by
 rw[W0r,cont]
 simp only[evalOp,Wdu,W0f]
 generalize St.ev ⟨sl,rg⟩ x=vx
 generalize St.ev ⟨sl,rg⟩ y=vy
 unfold vixv
 cases W0m vy with
 | none=>rfl
 | some q=>
  obtain ⟨k,i⟩:=q
  cases vx with
  | agg l=>exact Wsx _
  | tup l=>rfl
  | c y=>cases y with
   | any=>rfl
   | _=>rfl
theorem Wox(zs:List Value):evalOps P c (⟨none,dd,.alloc (some d) zs⟩::r) ⟨sl,rg⟩=evalOps P c r ⟨(d,.c (.ptr rg.length 0))::sl,rg++[.ac (zs.map fun z=> .p (.v z))]⟩:=_root_.id rfl
theorem Woy:evalOps P c (⟨none,dd,.box (some d) x⟩::r) ⟨sl,rg⟩=W9b P c r d sl ((cellsOf (St.ev ⟨sl,rg⟩ x)).map fun l=>(.c (.ptr rg.length 0),rg++[.ac l])):=by
 rw[W0r]
 simp only[evalOp,Wnv,W0f]
 cases cellsOf (St.ev ⟨sl,rg⟩ x)<;>rfl
theorem Wea(n:Nat):evalOps P c (⟨none,dd,.store n x y⟩::r) ⟨sl,rg⟩=Wy0 P c r sl (W03 rg n (St.ev ⟨sl,rg⟩ x) (St.ev ⟨sl,rg⟩ y)):=by
 rw[W0r]
 simp only[evalOp,Wbu,W0f]
 generalize St.ev ⟨sl,rg⟩ x=vx
 generalize St.ev ⟨sl,rg⟩ y=vy
 cases vx with
 | agg l=>simp only[W03]; cases cellsOf vy<;>rfl
 | tup l=>simp only[W03]; cases cellsOf vy<;>rfl
 | c z=>
  cases hc:cellsOf vy with
  | none=>cases z<;>simp only[W03,hc,Option.bind_none]<;>rfl
  | some xs=>
   cases z with
   | ptr id off=>
    simp only[W03,hc,Zn]
    cases rg[id]? with
    | none=>rfl
    | some w=>cases w<;>simp only[W1n]<;>first | rfl | (split<;>rfl)
   | ept id sz i j=>
    simp only[W03,hc,Zn]
    cases rg[id]? with
    | none=>rfl
    | some w=>cases w with
     | pc sz' ls=>
      simp only[W9c]
      by_cases hz:sz=sz'
      ·simp only[if_pos hz]
       cases W1g xs with
       | none=>simp only[]; cases stE n sz i j xs (upL ls)<;>rfl
       | some ps=>
        simp only[]
        split
        ·cases ls[i]?<;>rfl
        ·rfl
      ·simp only[if_neg hz]
       rfl
     | es sz' ls=>
      simp only[W9c]
      by_cases hz:sz=sz'
      ·simp only[if_pos hz]
       cases stE n sz i j xs ls<;>rfl
      ·simp only[if_neg hz]
       rfl
     | _=>rfl
   | _=>rfl
theorem Web(zs:List Value)(parts:List (Nat×Nat×AX)):evalOps P c (⟨none,dd,.build (some d) zs parts⟩::r) ⟨sl,rg⟩=cont P c r d sl rg ((W7w (zs.map fun z=> .p (.v z)) (parts.map fun q=>(q.1,q.2.1,St.ev ⟨sl,rg⟩ q.2.2))).map .agg):=by
 rw[W0r]
 simp only[evalOp,W64,W0f]
 cases W7w (zs.map fun z=> .p (.v z)) (parts.map fun q=>(q.1,q.2.1,St.ev ⟨sl,rg⟩ q.2.2))<;>rfl
def vbsl(rg:List Reg)(sz len:Nat)(zs:List Value)(parts:List (Nat×AV)):Option Reg:=
 match Wct sz (List.replicate len (zs.map .v)) parts with
 | some ls=>some (.pc sz ls)
 | none=>(Wcu sz (upL (List.replicate len (zs.map .v))) parts).map (.es sz)
theorem Woz(sz len:Nat)(zs:List Value)(parts:List (Nat×AX)):evalOps P c (⟨none,dd,.bsl (some d) sz len zs parts⟩::r) ⟨sl,rg⟩=W9b P c r d sl ((vbsl rg sz len zs (parts.map fun q=>(q.1,St.ev ⟨sl,rg⟩ q.2))).map fun w=>(.c (.own rg.length 0 sz len .free),rg++[w])):=by
 rw[W0r]
 simp only[evalOp,Wnw,W0f,vbsl]
 cases Wct sz (List.replicate len (zs.map .v)) (parts.map fun q=>(q.1,St.ev ⟨sl,rg⟩ q.2))with
 | some ls=>rfl
 | none=>
  simp only
  cases Wcu sz (upL (List.replicate len (zs.map .v))) (parts.map fun q=>(q.1,St.ev ⟨sl,rg⟩ q.2))<;>rfl
theorem Wp0(sz bytes:Nat):evalOps P c (⟨none,dd,.app (some d) sz bytes x y⟩::r) ⟨sl,rg⟩=W9b P c r d sl (vapp rg sz bytes (St.ev ⟨sl,rg⟩ x) (St.ev ⟨sl,rg⟩ y)):=by
 rw[W0r]
 simp only[evalOp,Wny,W0f,vapp]
 cases W3p rg (St.ev ⟨sl,rg⟩ x) (St.ev ⟨sl,rg⟩ y) sz bytes with
 | some p=>rfl
 | none=>
  simp only
  cases Wg0 rg (St.ev ⟨sl,rg⟩ x) (St.ev ⟨sl,rg⟩ y) sz bytes<;>rfl
theorem Wi6(f:Nat)(args:List AX):evalOps P c (⟨none,dd,.call (some d) f args⟩::r) ⟨sl,rg⟩=W9b P c r d sl (c (.fn f) (args.map (St.ev ⟨sl,rg⟩)) rg):=by
 rw[W0r]
 simp only[evalOp,W8v,W0f]
 cases c (.fn f) (args.map (St.ev ⟨sl,rg⟩)) rg<;>rfl
theorem Wec(f:Nat)(args:List AX):evalOps P c (⟨none,dd,.call none f args⟩::r) ⟨sl,rg⟩=Woh P c r sl (c (.fn f) (args.map (St.ev ⟨sl,rg⟩)) rg):=by
 rw[W0r]
 simp only[evalOp,W8v,W0f]
 cases c (.fn f) (args.map (St.ev ⟨sl,rg⟩)) rg<;>rfl
def W9d:AV→Option (Nat×List FA×List FA)
 | .c (.fn (.func f) a b)=>some (f,a,b)
 | _=>none
theorem Wed(args:List AX):evalOps P c (⟨none,dd,.callv (some d) x args⟩::r) ⟨sl,rg⟩=W9b P c r d sl (Wsw c (args.map (St.ev ⟨sl,rg⟩)) rg (W9d (St.ev ⟨sl,rg⟩ x))):=by
 rw[W0r,W9b,Wsw]
 simp only[evalOp,W65,W0f]
 generalize hx:St.ev ⟨sl,rg⟩ x=vx
 cases vx with
 | agg l=>rfl
 | tup l=>rfl
 | c z=>cases z with
  | fn g a b=>cases g with
   | func f=>
    simp only[W9d,Zn]
    cases c (.fn f) (a.map avFA++args.map (St.ev ⟨sl,rg⟩)++b.map avFA) rg<;>rfl
   | _=>rfl
  | _=>rfl
def W2i:AV→Option (CK×List FA×List FA)
 | .c (.fn (.func f) a b)=>some (.fn f,a,b)
 | .c (.hnd .yl id)=>some (.yl id,[],[])
 | _=>none
theorem Wee(args:List AX):evalOps P c (⟨none,dd,.cally (some d) x args⟩::r) ⟨sl,rg⟩=W9b P c r d sl (W4f c (args.map (St.ev ⟨sl,rg⟩)) rg (W2i (St.ev ⟨sl,rg⟩ x))):=by
 rw[W0r,W9b,W4f]
 simp only[evalOp,W66,W0f]
 generalize hx:St.ev ⟨sl,rg⟩ x=vx
 cases vx with
 | agg l=>rfl
 | tup l=>rfl
 | c z=>cases z with
  | fn g a b=>cases g with
   | func f=>
    simp only[W2i,Zn]
    cases c (.fn f) (a.map avFA++args.map (St.ev ⟨sl,rg⟩)++b.map avFA) rg<;>rfl
   | _=>rfl
  | hnd k id=>cases k with
   | yl=>
    simp only[W2i,Zn,Y9,Xa,Zr]
    cases c (.yl id) (args.map (St.ev ⟨sl,rg⟩)) rg<;>rfl
   | _=>rfl
  | _=>rfl
theorem Way(args:List AX):evalOps P c (⟨none,dd,.cally none x args⟩::r) ⟨sl,rg⟩=Woh P c r sl (W4f c (args.map (St.ev ⟨sl,rg⟩)) rg (W2i (St.ev ⟨sl,rg⟩ x))):=by
 rw[W0r,Woh,W4f]
 simp only[evalOp,W66,W0f]
 generalize hx:St.ev ⟨sl,rg⟩ x=vx
 cases vx with
 | agg l=>rfl
 | tup l=>rfl
 | c z=>cases z with
  | fn g a b=>cases g with
   | func f=>
    simp only[W2i,Zn]
    cases c (.fn f) (a.map avFA++args.map (St.ev ⟨sl,rg⟩)++b.map avFA) rg<;>rfl
   | _=>rfl
  | hnd k id=>cases k with
   | yl=>
    simp only[W2i,Zn,Y9,Xa,Zr]
    cases c (.yl id) (args.map (St.ev ⟨sl,rg⟩)) rg<;>rfl
   | _=>rfl
  | _=>rfl
theorem Wp1(f:Fn)(first captured:List AX):evalOps P c (⟨none,dd,.mkf (some d) f first captured⟩::r) ⟨sl,rg⟩=cont P c r d sl rg (mkfn f (W0h (fun x=>faOf (St.ev ⟨sl,rg⟩ x)) first) (W0h (fun x=>faOf (St.ev ⟨sl,rg⟩ x)) captured)):=by
 rw[W0r]
 simp only[evalOp,Wdw,W0f]
 cases W0h (fun x=>faOf (St.ev ⟨sl,rg⟩ x)) first<;>cases W0h (fun x=>faOf (St.ev ⟨sl,rg⟩ x)) captured<;>rfl
theorem V1t(k:XOp)(args:List AX):evalOps P c (⟨none,dd,.x (some d) k args⟩::r) ⟨sl,rg⟩=W9b P c r d sl (xE k (args.map (St.ev ⟨sl,rg⟩)) rg):=by
 rw[W0r]
 simp only[evalOp,ev_x,W0f]
 cases xE k (args.map (St.ev ⟨sl,rg⟩)) rg<;>rfl
theorem Ww5(k:XOp)(args:List AX):evalOps P c (⟨none,dd,.x none k args⟩::r) ⟨sl,rg⟩=Woh P c r sl (xE k (args.map (St.ev ⟨sl,rg⟩)) rg):=by
 rw[W0r]
 simp only[evalOp,ev_x,W0f]
 cases xE k (args.map (St.ev ⟨sl,rg⟩)) rg<;>rfl
theorem Wp2:evalOps P c (⟨none,dd,.ixt (some d) x y⟩::r) ⟨sl,rg⟩=(Wap (some d) x y ⟨sl,rg⟩).bind (evalOps P c r):=_root_.id rfl
end
end Go.Sim
namespace Go.Sim
open Go.RowKit Go.Proofs.YtahoelmjfgoedaaGreat.B
attribute [simp] Wog Wkl Wkm Wkn Woi
attribute [simp ↓] Wy2 Ww2 Wom Won Woo Wi2 Ww3 Wop Wi3 Woq Wor Wi4 Wos Wot Wou Wi5 Wov Ww4 Wow Wox Woy Wea Web Woz Wp0 Wi6 Wec Wed Wee Way Wp1 V1t Ww5 Wp2
theorem Wp3(k:IntKind):kB k k=true:=by cases k<;>rfl
section
variable (k:IntKind) (a b:Int)
@[simp] theorem V5c:vbin .add (I k a) (I k b)=some (I k (k.wrap (a+b))):=by cases k<;>rfl
@[simp] theorem V5d:vbin .sub (I k a) (I k b)=some (I k (k.wrap (a-b))):=by cases k<;>rfl
@[simp] theorem V5e:vbin .mul (I k a) (I k b)=some (I k (k.wrap (a*b))):=by cases k<;>rfl
@[simp] theorem V5f (h:b≠0):vbin .quo (I k a) (I k b)=some (I k (k.wrap (a.tdiv b))):=by
 show Option.map (fun v=>AV.c (AC.p (PV.v v))) (if kB k k=true∧b≠0 then some (Value.int k (k.wrap (a.tdiv b)))else none)=_
 rw[if_pos ⟨Wp3 k,h⟩]
 rfl
@[simp] theorem V5g (h:b≠0):vbin .rem (I k a) (I k b)=some (I k (a.tmod b)):=by
 show Option.map (fun v=>AV.c (AC.p (PV.v v))) (if kB k k=true∧b≠0 then some (Value.int k (a.tmod b))else none)=_
 rw[if_pos ⟨Wp3 k,h⟩]
 rfl
@[simp] theorem V5h:vbin .and (I k a) (I k b)=some (I k (bits .and k a b)):=by cases k<;>rfl
@[simp] theorem V5i:vbin .xor (I k a) (I k b)=some (I k (bits .xor k a b)):=by cases k<;>rfl
@[simp] theorem V5j:vbin .eql (I k a) (I k b)=some (Bo (decide (a=b))):=by cases k<;>rfl
@[simp] theorem V5k:vbin .neq (I k a) (I k b)=some (Bo (!decide (a=b))):=by cases k<;>rfl
@[simp] theorem V5l:vbin .lss (I k a) (I k b)=some (Bo (decide (a<b))):=by cases k<;>rfl
@[simp] theorem V5m:vbin .leq (I k a) (I k b)=some (Bo (decide (a≤b))):=by cases k<;>rfl
@[simp] theorem V5n:vbin .gtr (I k a) (I k b)=some (Bo (decide (b<a))):=by cases k<;>rfl
@[simp] theorem V5o:vbin .geq (I k a) (I k b)=some (Bo (decide (b≤a))):=by cases k<;>rfl
@[simp] theorem V5p (k':IntKind) (h:0≤b):vbin .shr (I k a) (I k' b)=some (I k (a/2^(min b.toNat k.bits))):=by
 show Option.map (fun v=>AV.c (AC.p (PV.v v))) (if 0≤b then some (Value.int k (a/2^(min b.toNat k.bits)))else none)=_
 rw[if_pos h]
 rfl
end
@[simp] theorem V6w (neg a b:Bool):vbeq neg (Bo a) (Bo b)=some (Bo (if neg then !(a==b)else (a==b))):=_root_.id rfl
@[simp] theorem V5q (t:Bool) (a b:AV):W0c (Bo t) a b=some (if t=true then a else b):=_root_.id rfl
@[simp] theorem V6x (b:Bool):vun .not (Bo b)=some (Bo (!b)):=_root_.id rfl
@[simp] theorem V6y (k k':IntKind) (n:Int):vcvi k (I k' n)=some (I k (k.wrap n)):=_root_.id rfl
@[simp] theorem V6z (id off:Nat):W0a (.c (.ptr id off))=some (.c (.ptr id off)):=_root_.id rfl
@[simp] theorem V9v (off id o:Nat):vfad off (.c (.ptr id o))=some (.c (.ptr id (o+off))):=_root_.id rfl
@[simp] theorem V9w (off:Nat) (l:List PV):vfad off (.c (.rp l))=some (.c (.rp (l.drop off))):=_root_.id rfl
@[simp] theorem V70 (rg:List Reg) (n:Nat) (agg:Bool) (id off:Nat):W01 rg n agg (.c (.ptr id off))=W0n off n agg rg[id]?:=_root_.id rfl
@[simp] theorem V71 (rg:List Reg) (n:Nat) (agg:Bool) (id sz i j:Nat):W01 rg n agg (.c (.ept id sz i j))=Woj sz i j n agg rg[id]?:=_root_.id rfl
@[simp] theorem V5r (rg:List Reg) (n id off:Nat) (v:AV):W03 rg n (.c (.ptr id off)) v=(cellsOf v).bind fun xs=>(W1n off n xs rg[id]?).map fun r=>rg.set id r:=_root_.id rfl
@[simp] theorem V5s (rg:List Reg) (n id sz i j:Nat) (v:AV):W03 rg n (.c (.ept id sz i j)) v=(cellsOf v).bind fun xs=>(W9c sz i j n xs rg[id]?).map fun r=>rg.set id r:=_root_.id rfl
@[simp] theorem V72 (sz:Nat) (l:List (List PV)):vlen (Sl sz l)=some (I .i64 l.length):=_root_.id rfl
@[simp] theorem V9x (id off sz len:Nat) (c:Cap):vlen (.c (.own id off sz len c))=some (I .i64 len):=_root_.id rfl
@[simp] theorem V9y:vlen (.c (.p (.v (.slice none 0 0))))=some (I .i64 0):=_root_.id rfl
@[simp] theorem V73 (i:Nat) (l:List AV):vext i (.tup l)=l[i]?:=_root_.id rfl
@[simp] theorem V9z (mx:Bool) (k k':IntKind) (a b:Int):vmm mx (I k a) (I k' b)=some (I k (if mx then (if a<b then b else a)else (if b<a then b else a))):=_root_.id rfl
@[simp] theorem V74 (sz:Nat) (k:IntKind) (i:Int) (l:List (List PV)) (h:0≤i):vixs sz (I k i) (Sl sz l)=(l[i.toNat]?).map fun c=> .c (.rp c):=by
 show Wa5 sz i (Sl sz l)=_
 simp only[Wa5]
 rw[if_pos ⟨trivial,h⟩]
@[simp] theorem Va0 (sz:Nat) (k:IntKind) (i:Int) (id off len:Nat) (c:Cap) (h:0≤i) (h':i<len):vixs sz (I k i) (.c (.own id off sz len c))=some (.c (.ept id sz (off+i.toNat) 0)):=by
 show Wa5 sz i (.c (.own id off sz len c))=_
 simp only[Wa5]
 rw[if_pos ⟨trivial,h,h'⟩]
@[simp] theorem V75 (len sz:Nat) (k:IntKind) (i:Int) (x:AV):vixa len sz (I k i) x=Wy1 len sz i x:=_root_.id rfl
@[simp] theorem V76 (len sz:Nat) (agg:Bool) (k:IntKind) (i:Int) (x:AV):vixv len sz agg (I k i) x=Wok len sz agg i x:=_root_.id rfl
attribute [simp low] vfld W0n W1n
attribute [simp] Woj W9c Wy1 Wok W9d W2i avFA faOf
@[simp] theorem Wy3 (l:List AC):cellsOf (.agg l)=some l:=_root_.id rfl
@[simp] theorem V1u (x:Value):cellsOf (.c (.p (.v x)))=some [.p (.v x)]:=_root_.id rfl
@[simp] theorem V0s (sz:Nat) (l:List (List PV)):cellsOf (Sl sz l)=some [.p (.sl sz l)]:=_root_.id rfl
@[simp] theorem Wy4 (id off sz len:Nat) (c:Cap):cellsOf (.c (.own id off sz len c))=some [.own id off sz len c]:=_root_.id rfl
@[simp] theorem Wy5 (id off:Nat):cellsOf (.c (.ptr id off))=some [.ptr id off]:=_root_.id rfl
@[simp] theorem Wy6 (k:HK) (id:Nat):cellsOf (.c (.hnd k id))=some [.hnd k id]:=_root_.id rfl
@[simp] theorem Va1 (x:AC):pack false [x]=some (.c x):=_root_.id rfl
@[simp] theorem Va2 (l:List AC):pack true l=if l.all AC.known=true then some (.agg l)else none:=_root_.id rfl
@[simp] theorem V77 (x:PV):AC.known (.p x)=true:=_root_.id rfl
@[simp] theorem V1v (id off sz len:Nat) (c:Cap):AC.known (.own id off sz len c)=true:=_root_.id rfl
@[simp] theorem V1w (id off:Nat):AC.known (.ptr id off)=true:=_root_.id rfl
attribute [simp] W1g W7w Wct Wcu W0h vbsl W2f upL
@[simp] theorem V5t (b:Bool):W00 (Bo b)=some b:=_root_.id rfl
@[simp] theorem V78 (n:Nat):W17 none n=some (n:Int):=_root_.id rfl
@[simp] theorem V79 (k:IntKind) (i:Int) (n:Nat):W17 (some (I k i)) n=some i:=_root_.id rfl
section
variable {rg m:List Reg} {x:Reg}
@[simp] theorem Wp4:(rg++m)[rg.length]?=m[0]?:=by rw[Y3 (Z8 _),Nat.sub_self]
@[simp] theorem W0e (k:Nat):(rg++m)[rg.length+k]?=m[k]?:=by rw[Y3 (X4 _ _),Nat.add_sub_cancel_left]
@[simp] theorem Wy7:(rg++m).set rg.length x=rg++m.set 0 x:=by rw[List.set_append_right _ _ (Z8 _),Nat.sub_self]
@[simp] theorem W1z (k:Nat):(rg++m).set (rg.length+k) x=rg++m.set k x:=by rw[List.set_append_right _ _ (X4 _ _),Nat.add_sub_cancel_left]
end
section
variable {P:Program} {call:W0i} {rd:Bool} {n0:Nat}
@[simp ↓] theorem Vah (l:List AIt) (k:KT) (s:St):evalG P W02 call rd n0 (.reg l) k s=(evalOps P call l s).map fun s1=>(.normal,endS n0 k s1):=_root_.id rfl
noncomputable def seqR (P:Program) (call:W0i) (rd:Bool) (n0:Nat) (b:ACode) (k:KT) (o:Option (Exit×St)):Option (Exit×St):=o.bind fun x=>match x.1 with
  | .normal=>evalG P W02 call rd n0 b k x.2
  | e=>some (e,x.2)
@[simp] theorem Va3 (b:ACode) (k:KT) (s:St):seqR P call rd n0 b k (some (.normal,s))=evalG P W02 call rd n0 b k s:=_root_.id rfl
@[simp ↓] theorem Vai (a b:ACode) (k:KT) (s:St):evalG P W02 call rd n0 (.seq a b) k s=seqR P call rd n0 b k.b (evalG P W02 call rd n0 a k.a s):=_root_.id rfl
def inR(id:Nat)(x:Exit×St):Exit×St:=
 match x.1 with
 | .exit i=>if i=id then (.normal,x.2)else (.exit i,x.2)
 | e=>(e,x.2)
@[simp ↓] theorem V7a (id:Nat) (c:ACode) (k:KT) (s:St):evalG P W02 call rd n0 (.block id c) k s=(evalG P W02 call rd n0 c k s).map (inR id):=by rw[evalG]; rfl
@[simp ↓] theorem Va4 (g:AX) (f j:Nat) (k:KT) (s:St):evalG P W02 call false n0 (.rfun g f j) k s=(lpCall call f j s (s.ev g)).bind fun p=>Wof f j s p.2:=by rw[evalG,W0f]; rfl
@[simp ↓] theorem Vaj (k:KT) (s:St):evalG P W02 call rd n0 .ret k s=some (.ret,s):=_root_.id rfl
end
@[simp] theorem V1x (s:St) (k:Nat) (r:List Nat) (acc:List (Nat×AV)):W48 s (k::r) acc=W48 s r ((k,lk s.slots k)::acc):=by rw[W48,Wxo,W1m]
@[simp] theorem V5u (s:St) (acc:List (Nat×AV)):W48 s [] acc=⟨acc,s.regs⟩:=_root_.id rfl
attribute [simp] Wbv endS frzS KT.ks KT.fz KT.a KT.b KT.cp cmpK W0w W5b W8p
def wf(rg:List Reg):Prop:=rg.all (W18 rg.length)=true
theorem Wp5{n m:Nat}(hv:∀v,avLt n v=true→avLt m v=true):∀{l:List (Nat×AV)},slLt n l=true→slLt m l=true
 | [],_=>rfl
 | p::r,h=>by
  simp only[slLt,Z4]at h ⊢
  exact ⟨hv _ h.1,Wp5 hv h.2⟩
theorem Wef{n m:Nat}(h:n≤m){x:FA}(hx:faLt n x=true):faLt m x=true:=by
 cases x<;>simp_all[faLt]
 omega
theorem W1k{α:Type}{p q:α→Bool}(h:∀x,p x=true→q x=true){l:List α}(hl:l.all p=true):l.all q=true:=by
 simp only[Za]at hl ⊢
 exact fun x hx=>h x (hl x hx)
theorem W3s{n m:Nat}(h:n≤m){x:AC}(hx:acLt n x=true):acLt m x=true:=by
 cases x<;>simp only[acLt,Zf,Z4]at hx ⊢ <;>first | omega | exact ⟨W1k (fun _=>Wef h) hx.1,W1k (fun _=>Wef h) hx.2⟩
mutual
theorem W9e{n m:Nat}(h:n≤m):∀{v:AV},avLt n v=true→avLt m v=true
 | .c x,hv=>by
  simp only[avLt]at hv ⊢
  exact W3s h hv
 | .agg l,hv=>by
  simp only[avLt]at hv ⊢
  exact W1k (fun _=>W3s h) hv
 | .tup l,hv=>by
  simp only[avLt]at hv ⊢
  exact Waz h hv
theorem Waz{n m:Nat}(h:n≤m):∀{l:List AV},W3g n l=true→W3g m l=true
 | [],_=>by simp only[W3g]
 | v::r,hv=>by
  simp only[W3g,Z4]at hv ⊢
  exact ⟨W9e h hv.1,Waz h hv.2⟩
end
theorem Wkp{n m:Nat}(h:n≤m){x:Reg}(hx:W18 n x=true):W18 m x=true:=by
 cases x with
 | ac l=>exact W1k (fun _=>W3s h) hx
 | es sz l=>exact W1k (fun _=>W1k fun _=>W3s h) hx
 | lp f j sl st pe=>exact Wp5 (fun _=>W9e h) hx
 | _=>rfl
@[simp] theorem V1y:wf []:=_root_.id rfl
theorem W2l{rg:List Reg}{id:Nat}{r:Reg}(h:wf rg)(hr:W18 rg.length r=true):wf (rg.set id r):=by
 simp only[wf,List.length_set,Za]at h ⊢
 intro x hx
 rcases List.mem_or_eq_of_mem_set hx with hx | rfl
 ·exact h x hx
 ·exact hr
theorem W07{rg m:List Reg}(h:wf rg)(hm:m.all (W18 (rg.length+m.length))=true):wf (rg++m):=by
 simp only[wf,Z5,Xf,Z4]at h ⊢
 exact ⟨W1k (fun _=>Wkp (X4 _ _)) h,hm⟩
theorem Wi7{n:Nat}{v:AV}{rg:List Reg}(h:rg.length=n):gcF n (v,rg)=(v,rg):=by
 unfold gcF
 split
 ·simp only[Ze (Nat.le_of_eq h)]
 ·rfl
theorem W20{n:Nat}{v:AV}{rg m:List Reg}(hn:rg.length=n)(hw:wf rg)(hv:avLt n v=true):gcF n (v,rg++m)=(v,rg):=by
 subst hn
 unfold gcF
 rw[if_pos]
 ·simp
 ·simp only[List.take_left,Z4,Zf]
  exact ⟨by simp,hv,hw⟩
@[simp] theorem Va5 (n:Nat) (p:AV×List Reg):finR none n p=finQ n (gcF n p):=_root_.id rfl
@[simp] theorem V1z (n:Nat) (v:AV) (rg:List Reg) (h:rg.length=n):finQ n (v,rg)=(v,rg):=by simp[finQ,h]
def finD(n:Nat)(rg m:List Reg)(v:AV):Option AV→AV×List Reg
 | some v'=>if avLt n v'=true then (v',rg)else finQ n (gcF n (v,rg++m))
 | none=>finQ n (gcF n (v,rg++m))
@[simp] theorem V20 (n:Nat) (rg m:List Reg) (v v':AV) (h:avLt n v'=true):finD n rg m v (some v')=(v',rg):=by
 rw[finD,if_pos h]
theorem W1h(tt:List (List NT))(n:Nat)(v:AV)(rg m:List Reg)(hn:rg.length=n)(hw:wf rg):finR (some tt) n (v,rg++m)=finD n rg m v (Wg3 (rg++m) n (m.length+1) tt v):=by
 subst hn
 have hl:(rg++m).length-rg.length+1=m.length+1:=by simp
 have hc:rg.length≤(rg++m).length:=by simp
 have e:finR (some tt) rg.length (v,rg++m)=finQ rg.length (gcF rg.length (Wc2 rg.length tt (v,rg++m))):=rfl
 rw[e]
 unfold Wc2
 simp only[hl]
 cases Wg3 (rg++m) rg.length (m.length+1) tt v with
 | none=>rfl
 | some v'=>
  simp only[finD,List.take_left]
  by_cases h:avLt rg.length v'=true
  ·have hw':rg.all (W18 rg.length)=true:=hw
   rw[if_pos ⟨hc,by rw[h,hw']; rfl⟩,if_pos h,Wi7 rfl]
   simp[finQ]
  ·rw[if_neg (fun hh=>h (by simpa using (Z4 _ _▸hh.2:_∧_).1)),if_neg h]
theorem Wb0(tt:List (List NT))(n:Nat)(v:AV)(rg:List Reg)(hn:rg.length=n)(hw:wf rg):finR (some tt) n (v,rg)=finD n rg [] v (Wg3 rg n 1 tt v):=by
 have:=W1h tt n v rg [] hn hw
 simpa using this
attribute [simp] W1h Wb0
def Wkq(rg:List Reg)(n k:Nat)(t:NT)(off sz len:Nat):Option Reg→Option PV
 | some (.pc sz' ls)=>if sz=sz'∧off+len≤ls.length∧len≤9223372036854775807 then some (nzP t (.sl sz ((ls.drop off).take len)))else none
 | some (.es sz' ls)=>if sz=sz'∧off+len≤ls.length∧len≤9223372036854775807 then (W0h (fun r=>W0h (W4e rg n k .any) r) ((ls.drop off).take len)).map fun ps=>nzP t (.sl sz ps)else none
 | _=>none
def Wp6(n:Nat)(x:AC):Option PV→Option AC
 | some y=>some (.p y)
 | none=>if acLt n x=true then some x else none
section
variable (rg:List Reg) (n k:Nat) (t:NT)
@[simp] theorem V7b (v:PV):W4e rg n k t (.p v)=some (nzP t v):=by cases k<;>simp[W4e]
@[simp] theorem V21 (id off sz len:Nat) (c:Cap) (h:n≤id):W4e rg n (k+1) t (.own id off sz len c)=Wkq rg n k t off sz len rg[id]?:=by
 rw[W4e,if_pos h]
 unfold Wkq
 rfl
@[simp] theorem V5v (off sz len:Nat) (ls:List (List PV)) (h:off+len≤ls.length) (h2:len≤9223372036854775807):Wkq rg n k t off sz len (some (.pc sz ls))=some (nzP t (.sl sz ((ls.drop off).take len))):=by
 rw[Wkq,if_pos ⟨rfl,h,h2⟩]
@[simp] theorem V5w (x:AC):Wbz rg n k t x=Wp6 n x (W4e rg n k t x):=by
 unfold Wbz Wp6
 rfl
@[simp] theorem V7c (x:AC) (y:PV):Wp6 n x (some y)=some (.p y):=_root_.id rfl
@[simp] theorem V5x (ts:List NT):W3r rg n k ts []=some []:=by unfold W3r; rfl
@[simp] theorem V5y (ts:List NT) (x:AC) (r:List AC):W3r rg n k (t::ts) (x::r)=(Wbz rg n k t x).bind fun y=>(W3r rg n k ts r).map (y:: ·):=by rw[W3r]
@[simp] theorem V5z (ts:List NT) (x:AC):W5c rg n k ts (.c x)=(Wbz rg n k (ts.getD 0 .any) x).map .c:=_root_.id rfl
@[simp] theorem V0t (ts:List NT) (l:List AC):W5c rg n k ts (.agg l)=(W3r rg n k ts l).map .agg:=_root_.id rfl
@[simp] theorem V7d (tt:List (List NT)) (x:AC):Wg3 rg n k tt (.c x)=W5c rg n k (tt.getD 0 []) (.c x):=_root_.id rfl
@[simp] theorem V22 (tt:List (List NT)) (l:List AC):Wg3 rg n k tt (.agg l)=W5c rg n k (tt.getD 0 []) (.agg l):=_root_.id rfl
@[simp] theorem V7e (x:PV):nzP .any x=x:=by cases x<;>simp[nzP]
@[simp] theorem V7f (sz:Nat) (ks:List NT) (h:0<sz):nzP (.sl sz ks) (.v (.slice none 0 0))= .sl sz []:=by rw[nzP,if_pos h]
@[simp] theorem Va6 (sz sz':Nat) (ks:List NT) (l:List (List PV)):nzP (.sl sz ks) (.sl sz' l)= .sl sz' (nzL ks l):=by rw[nzP]
end
section
variable (n:Nat)
@[simp] theorem Va7 (x:AC):avLt n (.c x)=acLt n x:=by simp only[avLt]
@[simp] theorem V60 (l:List AC):avLt n (.agg l)=l.all (acLt n):=by simp only[avLt]
@[simp] theorem V61 (l:List AV):avLt n (.tup l)=W3g n l:=by simp only[avLt]
@[simp] theorem V23:W3g n []=true:=by simp only[W3g]
@[simp] theorem V0u (v:AV) (r:List AV):W3g n (v::r)=(avLt n v&&W3g n r):=by simp only[W3g]
@[simp] theorem Va8 (x:PV):acLt n (.p x)=true:=_root_.id rfl
@[simp] theorem V62:acLt n .any=true:=_root_.id rfl
@[simp] theorem V63 (id off sz len:Nat) (c:Cap):acLt n (.own id off sz len c)=decide (id<n):=_root_.id rfl
@[simp] theorem V64 (id off:Nat):acLt n (.ptr id off)=decide (id<n):=_root_.id rfl
@[simp] theorem V65 (k:HK) (id:Nat):acLt n (.hnd k id)=decide (id<n):=_root_.id rfl
@[simp] theorem V66 (sz:Nat) (l:List (List PV)):W18 n (.pc sz l)=true:=_root_.id rfl
@[simp] theorem V67 (l:List AC):W18 n (.ac l)=l.all (acLt n):=_root_.id rfl
@[simp] theorem V68 (o:Ob):W18 n (.ob o)=true:=_root_.id rfl
@[simp] theorem V0v:W18 n .dead=true:=_root_.id rfl
end
@[simp] theorem V7g (n:Nat) (v:AV) (rg:List Reg) (h:rg.length=n):gcF n (v,rg)=(v,rg):=Wi7 h
@[simp] theorem V24 (v:AV) (rg m:List Reg) (hw:wf rg) (hv:avLt rg.length v=true):gcF rg.length (v,rg++m)=(v,rg):=W20 rfl hw hv
attribute [simp] frzV Wxr frzC frzR
theorem Wc4{n id k:Nat}(hi:k≤id)(hn:k≤n){x:AC}(h:acLt k x=true):acNe n id x=true:=by
 have hf:∀y,faLt k y=true→faNe n id y=true:=by
  intro y hy
  cases y with
  | p y=>rfl
  | ptr i o=>simp only[faLt,faNe,Zf,Z4]at hy ⊢; omega
 cases x<;>simp only[acLt,acNe,Zf,Z4]at h ⊢ <;>first | omega | exact ⟨W1k hf h.1,W1k hf h.2⟩
mutual
theorem Wp7{n id k:Nat}(hi:k≤id)(hn:k≤n):∀{v:AV},avLt k v=true→avNe n id v=true
 | .c x,hv=>by
  simp only[avLt]at hv
  simp only[avNe]
  exact Wc4 hi hn hv
 | .agg l,hv=>by
  simp only[avLt]at hv
  simp only[avNe]
  exact W1k (fun _=>Wc4 hi hn) hv
 | .tup l,hv=>by
  simp only[avLt]at hv
  simp only[avNe]
  exact Wi8 hi hn hv
theorem Wi8{n id k:Nat}(hi:k≤id)(hn:k≤n):∀{l:List AV},W3g k l=true→Wc3 n id l=true
 | [],_=>by simp only[Wc3]
 | v::r,hv=>by
  simp only[W3g,Z4]at hv
  simp only[Wc3,Z4]
  exact ⟨Wp7 hi hn hv.1,Wi8 hi hn hv.2⟩
end
theorem Wp8{n id k:Nat}(hi:k≤id)(hn:k≤n):∀{l:List (Nat×AV)},slLt k l=true→slNe n id l=true
 | [],_=>rfl
 | p::r,h=>by
  simp only[slLt,Z4]at h
  simp only[slNe,Z4]
  exact ⟨Wp7 hi hn h.1,Wp8 hi hn h.2⟩
theorem Wsy{n id k:Nat}(hi:k≤id)(hn:k≤n){r:Reg}(h:W18 k r=true):Wa4 n id r=true:=by
 cases r with
 | ac l=>exact W1k (fun _=>Wc4 hi hn) h
 | es sz l=>exact W1k (fun _=>W1k fun _=>Wc4 hi hn) h
 | lp f j sl st pe=>exact Wp8 hi hn h
 | _=>rfl
theorem V7h{rg:List Reg}(h:wf rg){n id:Nat}(hi:rg.length≤id)(hn:rg.length≤n):rg.all (Wa4 n id)=true:=W1k (fun _=>Wsy hi hn) h
theorem V25{rg:List Reg}(h:wf rg){id:Nat}(hi:rg.length≤id):rg.map (W0p (dnR id))=rg:=by
 have:∀l:List Reg,l.all (W18 rg.length)=true→l.map (W0p (dnR id))=l:=by
  intro l
  induction l with
  | nil=>exact fun _=>rfl
  | cons r l ih=>
   intro hl
   simp only[Y2,Z4]at hl
   rw[Zh,W68 (fun i hi2=>by simp only[dnR]; rw[if_neg (by omega)]) hl.1,ih hl.2]
 exact this rg h
theorem W7q{rg m:List Reg}(hw:wf rg)(k:Nat)(sl:List (Nat×AV)):W3l (rg.length+k) ⟨sl,rg++m⟩=
  if (W1s m[k]?&&(slNe (rg.length+m.length) (rg.length+k) sl&&m.all (Wa4 (rg.length+m.length) (rg.length+k))))=true then ⟨W96 (rg.length+k) sl sl,rg++(m.eraseIdx k).map (W0p (dnR (rg.length+k)))⟩else ⟨sl,rg++m⟩:=by
 unfold W3l
 simp only[W0e,Z5,Xf,V7h hw (X4 _ k) (X4 _ _),Xp]
 rw[List.eraseIdx_append_of_length_le (X4 _ _),Nat.add_sub_cancel_left,Yz,V25 hw (X4 _ _)]
end Go.Sim
namespace Go.Sim
open Go.RowKit Go.Proofs.YtahoelmjfgoedaaGreat.B
section
variable {β:Type}
def B1(o:Option AV)(K:AV→Option β):Option β:=o.bind K
def B2(o:Option (AV×List Reg))(K:AV→List Reg→Option β):Option β:=o.bind fun p=>K p.1 p.2
def B0(o:Option (List Reg))(K:List Reg→Option β):Option β:=o.bind K
def B3(o:Option (Exit×St))(K:Exit→St→Option β):Option β:=o.bind fun x=>K x.1 x.2
def BS(o:Option St)(K:St→Option β):Option β:=o.bind K
def Cd(o:Option Bool)(x y:Option β):Option β:=o.bind fun t=>if t=true then x else y
def Sm(a b:AV)(x:Option β):Option β:=if avB a b=true then x else none
def Sr(a b:List Reg)(x:Option β):Option β:=if W3q regB a b=true then x else none
def LetS(s:St)(K:St→Option β):Option β:=K s
def Jn{κ:Type}(k:κ)(f:κ→Option β):Option β:=f k
theorem Wy8(v:AV)(K:AV→Option β):B1 (some v) K=K v:=_root_.id rfl
theorem Wy9(v:AV)(rg:List Reg)(K:AV→List Reg→Option β):B2 (some (v,rg)) K=K v rg:=_root_.id rfl
theorem Wya(rg:List Reg)(K:List Reg→Option β):B0 (some rg) K=K rg:=_root_.id rfl
theorem Wyb(e:Exit)(s:St)(K:Exit→St→Option β):B3 (some (e,s)) K=K e s:=_root_.id rfl
theorem Cd_t(x y:Option β):Cd (some true) x y=x:=_root_.id rfl
theorem Cd_f(x y:Option β):Cd (some false) x y=y:=_root_.id rfl
theorem Wyc(sl:List (Nat×AV))(rg:List Reg)(K:St→Option β):LetS ⟨sl,rg⟩ K=K ⟨sl,rg⟩:=_root_.id rfl
theorem V7i{κ:Type}(k:κ)(f:κ→Option β):Jn k f=f k:=_root_.id rfl
theorem Wsz{o o':Option AV}(h:o=o')(K:AV→Option β):B1 o K=B1 o' K:=by rw[h]
theorem Wt0{o o':Option (AV×List Reg)}(h:o=o')(K:AV→List Reg→Option β):B2 o K=B2 o' K:=by rw[h]
theorem Wt1{o o':Option (List Reg)}(h:o=o')(K:List Reg→Option β):B0 o K=B0 o' K:=by rw[h]
theorem Wt2{o o':Option (Exit×St)}(h:o=o')(K:Exit→St→Option β):B3 o K=B3 o' K:=by rw[h]
theorem Wt3{o o':Option Bool}(h:o=o')(x y:Option β):Cd o x y=Cd o' x y:=by rw[h]
theorem Wkr{s s':St}(h:s=s')(K:St→Option β):LetS s K=LetS s' K:=by rw[h]
attribute [simp] Wy8 Wy9 Wya Wyb Cd_t Cd_f Wyc V7i
attribute [congr] Wsz Wt0 Wt1 Wt2 Wt3 Wkr
theorem Ww6(o:Option AV)(f:AV→St)(K:St→Option β):B1 o (fun v=>K (f v))=(o.map f).bind K:=by cases o<;>rfl
theorem Ww7(o:Option (AV×List Reg))(f:AV×List Reg→St)(K:St→Option β):B2 o (fun v rg=>K (f (v,rg)))=(o.map f).bind K:=by cases o<;>rfl
theorem Ww8(o:Option (List Reg))(f:List Reg→St)(K:St→Option β):B0 o (fun rg=>K (f rg))=(o.map f).bind K:=by cases o<;>rfl
end
def Gv(w:Bool)(g:AV)(o:Option AV):Option AV:=match g with
 | .c (.p (.v (.bool b)))=>if b=w then o else some (.tup [])
 | .tup []=>some (.tup [])
 | _=>none
def Gr(w:Bool)(g:AV)(rg:List Reg)(o:Option (AV×List Reg)):Option (AV×List Reg):=match g with
 | .c (.p (.v (.bool b)))=>if b=w then o else some (.tup [],rg)
 | .tup []=>some (.tup [],rg)
 | _=>none
def Gs(w:Bool)(g:AV)(rg:List Reg)(o:Option (List Reg)):Option (List Reg):=match g with
 | .c (.p (.v (.bool b)))=>if b=w then o else some rg
 | .tup []=>some rg
 | _=>none
section
variable (o:Option AV) (o2:Option (AV×List Reg)) (o0:Option (List Reg)) (rg:List Reg) (w:Bool)
@[simp] theorem Vak:Gv true (Bo true) o=o:=_root_.id rfl
@[simp] theorem Val:Gv false (Bo false) o=o:=_root_.id rfl
@[simp] theorem Vam:Gv true (Bo false) o=some (.tup []):=_root_.id rfl
@[simp] theorem Van:Gv false (Bo true) o=some (.tup []):=_root_.id rfl
@[simp] theorem Gv_n:Gv w (.tup []) o=some (.tup []):=_root_.id rfl
@[simp] theorem Vao:Gr true (Bo true) rg o2=o2:=_root_.id rfl
@[simp] theorem Vap:Gr false (Bo false) rg o2=o2:=_root_.id rfl
@[simp] theorem Vaq:Gr true (Bo false) rg o2=some (.tup [],rg):=_root_.id rfl
@[simp] theorem Var:Gr false (Bo true) rg o2=some (.tup [],rg):=_root_.id rfl
@[simp] theorem Gr_n:Gr w (.tup []) rg o2=some (.tup [],rg):=_root_.id rfl
end
def W06(zs:List Value)(parts:List (Nat×Nat×AV)):Option AV:=(W7w (zs.map fun z=> .p (.v z)) parts).map .agg
def vsls(sz:Nat)(x:AV)(lo hi mx:Option AV):Option AV:=match x with
 | .c (.p (.sl sz' l))=>match W17 lo 0,W17 hi l.length,mx with
  | some lo,some hi,none=>if sz=sz'∧0≤lo∧lo≤hi∧hi≤l.length then some (.c (.p (.sl sz ((l.take hi.toNat).drop lo.toNat))))else none
  | some lo,some hi,some m=>if sz=sz'∧0≤lo∧lo≤hi∧hi≤l.length∧(W0m m).map (·.2)=some hi then some (.c (.tight sz ((l.take hi.toNat).drop lo.toNat)))else none
  | _,_,_=>none
 | .c (.own id off sz' len cap)=>match W17 lo 0,W17 hi len,mx with
  | some lo,some hi,none=>if sz=sz'∧0≤lo∧lo≤hi∧hi≤len∧(lo=0∨lo<hi∨0<sz)then some (.c (cutV id off sz lo hi cap))else none
  | some lo,some hi,some m=>if sz=sz'∧0≤lo∧lo≤hi∧hi≤len∧(lo=0∨lo<hi)∧(W0m m).map (·.2)=some hi then some (.c (.own id (off+lo.toNat) sz (hi.toNat-lo.toNat) (.ex (hi.toNat-lo.toNat))))else none
  | _,_,_=>none
 | .c (.p (.v (.slice none 0 0)))=>match W17 lo 0,W17 hi 0,mx with
  | some lo,some hi,none=>if lo=0∧hi=0 then some (.c (.p (.v (.slice none 0 0))))else none
  | some lo,some hi,some m=>if lo=0∧hi=0∧(W0m m).map (·.2)=some hi then some (.c (.p (.v (.slice none 0 0))))else none
  | _,_,_=>none
 | _=>none
def vsla(n sz:Nat)(x:AV)(lo hi mx:Option AV):Option AV:=match x,mx with
 | .c (.ept id sz' i 0),none=>match W17 lo 0,W17 hi n with
  | some lo,some hi=>if sz=sz'∧0≤lo∧lo≤hi∧hi≤n∧(lo=0∨lo<hi)then some (.c (.own id (i+lo.toNat) sz (hi.toNat-lo.toNat) (.ex (n-lo.toNat))))else none
  | _,_=>none
 | .c (.rp l),none=>match W17 lo 0,W17 hi n with
  | some lo,some hi=>if lo=0∧0≤hi∧hi≤n∧0<sz∧n≤9223372036854775807∧n*sz≤l.length then some (.c (.p (.sl sz (W1v sz hi.toNat l))))else none
  | _,_=>none
 | _,_=>none
def vb2s(rg:List Reg)(x:AV):Option AV:=match W15 rg x,W1i x with
 | some ls,some n=>if n=ls.length∧(szOf x=none∨szOf x=some 1)then (W0h Wns ls).map fun bs=> .c (.p (.v (.string ⟨(bs.map fun b=>UInt8.ofNat b.toNat).toArray⟩)))else none
 | _,_=>none
def vixt(x y:AV):Option AV:=match W0m y,W33 x with
 | some (_,i),some (.string b)=>if 0≤i then (b.data[i.toNat]?).map fun u=>I .u8 u.toNat else none
 | _,_=>none
def W08(zs:List Value)(rg:List Reg):Option (AV×List Reg):=some (.c (.ptr rg.length 0),rg++[.ac (zs.map fun z=> .p (.v z))])
def Wc5(sz n:Nat)(zs:List Value)(rg:List Reg):Option (AV×List Reg):=some (.c (.ept rg.length sz 0 0),rg++[.pc sz (List.replicate n (zs.map .v))])
def vbox(x:AV)(rg:List Reg):Option (AV×List Reg):=(cellsOf x).map fun l=>(.c (.ptr rg.length 0),rg++[.ac l])
def W0x(rg:List Reg)(sz len:Nat)(zs:List Value)(parts:List (Nat×AV)):Option (AV×List Reg):=(vbsl rg sz len zs parts).map fun w=>(.c (.own rg.length 0 sz len .free),rg++[w])
def vmks(rg:List Reg)(sz bytes:Nat)(z:List Value)(x y:AV):Option (AV×List Reg):=match W0m x,W0m y with
 | some (_,n),some (_,c)=>if 0≤n∧n≤c∧c≤140737488355328∧c*bytes≤140737488355328 then some (.c (.own rg.length 0 sz n.toNat .free),rg++[.pc sz (List.replicate n.toNat (z.map .v))])else none
 | _,_=>none
def AOp.kd:AOp→Nat
 | .alloc _ _=>1
 | .allocA _ _ _ _=>1
 | .box _ _=>1
 | .bsl _ _ _ _ _=>1
 | .app _ _ _ _ _=>1
 | .mks _ _ _ _ _ _=>1
 | .call _ _ _=>1
 | .callv _ _ _=>1
 | .cally _ _ _=>1
 | .x _ _ _=>1
 | .store _ _ _=>2
 | _=>0
def opV(P:Program)(s:St):AOp→Option AV
 | .mv _ x=>some (evF s x)
 | .bin _ op x y=>vbin op (evF s x) (evF s y)
 | .eqs _ neg t ks x y=>veqs P neg t ks (evF s x) (evF s y)
 | .beq _ neg x y=>vbeq neg (evF s x) (evF s y)
 | .pick _ x y z=>W0c (evF s x) (evF s y) (evF s z)
 | .un _ op x=>vun op (evF s x)
 | .cvi _ k x=>vcvi k (evF s x)
 | .nilc _ x=>W0a (evF s x)
 | .fad _ off x=>vfad off (evF s x)
 | .fld _ off n agg x=>vfld off n agg (evF s x)
 | .load _ n agg x=>W01 s.regs n agg (evF s x)
 | .ixs _ sz x y=>vixs sz (evF s y) (evF s x)
 | .ixa _ len sz x y=>vixa len sz (evF s y) (evF s x)
 | .len _ x=>vlen (evF s x)
 | .lens _ x=>Wko (evF s x)
 | .ext _ x i=>vext i (evF s x)
 | .mm _ mx x y=>vmm mx (evF s x) (evF s y)
 | .ixv _ len sz agg x y=>vixv len sz agg (evF s y) (evF s x)
 | .build _ zs parts=>W06 zs (parts.map fun q=>(q.1,q.2.1,evF s q.2.2))
 | .mkf _ f fi ca=>mkfn f (W0h (fun x=>faOf (evF s x)) fi) (W0h (fun x=>faOf (evF s x)) ca)
 | .sls _ sz x lo hi mx=>vsls sz (evF s x) (lo.map (evF s)) (hi.map (evF s)) (mx.map (evF s))
 | .sla _ n sz x lo hi mx=>vsla n sz (evF s x) (lo.map (evF s)) (hi.map (evF s)) (mx.map (evF s))
 | .b2s _ x=>vb2s s.regs (evF s x)
 | .ixt _ x y=>vixt (evF s x) (evF s y)
 | _=>none
def opR(P:Program)(c:W0i)(s:St):AOp→Option (AV×List Reg)
 | .alloc _ zs=>W08 zs s.regs
 | .allocA _ sz n zs=>Wc5 sz n zs s.regs
 | .box _ x=>vbox (evF s x) s.regs
 | .bsl _ sz len zs parts=>W0x s.regs sz len zs (parts.map fun q=>(q.1,evF s q.2))
 | .app _ sz bytes x y=>vapp s.regs sz bytes (evF s x) (evF s y)
 | .mks _ sz bytes zs x y=>vmks s.regs sz bytes zs (evF s x) (evF s y)
 | .call _ f args=>c (.fn f) (args.map (evF s)) s.regs
 | .callv _ x args=>Wsw c (args.map (evF s)) s.regs (W9d (evF s x))
 | .cally _ x args=>W4f c (args.map (evF s)) s.regs (W2i (evF s x))
 | .x _ k args=>xE k (args.map (evF s)) s.regs
 | _=>none
def opS(s:St):AOp→Option (List Reg)
 | .store n x y=>W03 s.regs n (evF s x) (evF s y)
 | _=>none
theorem Wt4{P:Program}{c:W0i}{r:List AIt}{dd:Option Nat}{d:Nat}{sl:List (Nat×AV)}{rg:List Reg}{x y:AX}:evalOps P c (⟨none,dd,.ixt (some d) x y⟩::r) ⟨sl,rg⟩=cont P c r d sl rg (vixt (St.ev ⟨sl,rg⟩ x) (St.ev ⟨sl,rg⟩ y)):=by
 rw[Wp2,cont]
 simp only[Wap,W0f,vixt]
 cases W0m (St.ev ⟨sl,rg⟩ y)with
 | none=>rfl
 | some q=>
  cases W33 (St.ev ⟨sl,rg⟩ x)with
  | none=>rfl
  | some v=>
   cases v<;>try rfl
   rename_i b
   obtain ⟨k,i⟩:=q
   simp only
   by_cases h:0≤i
   ·by_cases h2:i.toNat<b.size
    ·have h3:b.data[i.toNat]?=some (b[i.toNat]'h2):=Y0 h2
     rw[dif_pos ⟨h,h2⟩,if_pos h,h3]
     rfl
    ·have h3:b.data[i.toNat]?=none:=Xj (by simpa using Nat.le_of_not_lt h2)
     rw[dif_neg (fun hh=>h2 hh.2),if_pos h,h3]
     rfl
   ·rw[dif_neg (fun hh=>h hh.1),if_neg h]
    rfl
section
variable {P:Program} {c:W0i}
theorem W13(op:AOp)(s:St):evalOps P c [⟨none,none,op⟩] s=evalOp P c op s:=by
 rw[W0r]
 cases evalOp P c op s<;>rfl
theorem W19(d:Nat)(sl:List (Nat×AV))(rg:List Reg)(o:Option AV):cont P c [] d sl rg o=o.map fun v=>⟨(d,v)::sl,rg⟩:=by
 cases o<;>rfl
theorem W3e(d:Nat)(sl:List (Nat×AV))(o:Option (AV×List Reg)):W9b P c [] d sl o=o.map fun p=>⟨(d,p.1)::sl,p.2⟩:=by
 cases o<;>rfl
theorem W9f(sl:List (Nat×AV))(o:Option (AV×List Reg)):Woh P c [] sl o=o.map fun p=>⟨sl,p.2⟩:=by
 cases o<;>rfl
theorem Wp9(sl:List (Nat×AV))(o:Option (List Reg)):Wy0 P c [] sl o=o.map fun rg=>⟨sl,rg⟩:=by
 cases o<;>rfl
theorem Wyd(d:Nat)(sz:Nat)(x:AX)(lo hi mx:Option AX)(s:St):Waq (some d) sz x lo hi mx s=(vsls sz (evF s x) (lo.map (evF s)) (hi.map (evF s)) (mx.map (evF s))).map (s.put (some d)):=by
 unfold Waq vsls
 generalize evF s x=v
 generalize lo.map (evF s)=a
 generalize hi.map (evF s)=b
 generalize mx.map (evF s)=m
 cases v with
 | agg l=>rfl
 | tup l=>rfl
 | c x=>cases x with
  | own id off sz' len cap=>
   simp only[]
   generalize W17 a 0=p
   generalize W17 b len=q
   cases p<;>cases q<;>cases m<;>first | rfl | (simp only[]; split<;>rfl)
  | p y=>cases y with
   | sl sz' l=>
    simp only[]
    generalize W17 a 0=p
    generalize W17 b l.length=q
    cases p<;>cases q<;>cases m<;>first | rfl | (simp only[]; split<;>rfl)
   | v z=>cases z with
    | slice A n c=>cases A with
     | some _=>rfl
     | none=>cases n with
      | succ n=>rfl
      | zero=>cases c with
       | succ c=>rfl
       | zero=>
        simp only[]
        generalize W17 a 0=p
        generalize W17 b 0=q
        cases p<;>cases q<;>cases m<;>first | rfl | (simp only[]; split<;>rfl)
    | _=>rfl
  | _=>rfl
theorem Wye(d:Nat)(n sz:Nat)(x:AX)(lo hi mx:Option AX)(s:St):Whr (some d) n sz x lo hi mx s=(vsla n sz (evF s x) (lo.map (evF s)) (hi.map (evF s)) (mx.map (evF s))).map (s.put (some d)):=by
 unfold Whr vsla
 generalize evF s x=v
 generalize lo.map (evF s)=a
 generalize hi.map (evF s)=b
 cases v with
 | agg l=>rfl
 | tup l=>rfl
 | c y=>cases y with
  | ept id sz' i j=>cases j with
   | succ j=>rfl
   | zero=>cases mx with
    | some m=>rfl
    | none=>
     simp only[Option.map_none]
     generalize W17 a 0=p
     generalize W17 b n=q
     cases p<;>cases q<;>first | rfl | (simp only[]; split<;>rfl)
  | rp l=>cases mx with
   | some m=>rfl
   | none=>
    simp only[Option.map_none]
    generalize W17 a 0=p
    generalize W17 b n=q
    cases p<;>cases q<;>first | rfl | (simp only[]; split<;>rfl)
  | _=>rfl
theorem Wyf(d:Nat)(sz bytes:Nat)(zs:List Value)(x y:AX)(s:St):Whs (some d) sz bytes zs x y s=(vmks s.regs sz bytes zs (evF s x) (evF s y)).map fun p=>s.putr (some d) p.1 p.2:=by
 unfold Whs vmks
 cases W0m (evF s x)with
 | none=>rfl
 | some p=>cases W0m (evF s y)with
  | none=>rfl
  | some q=>
   obtain ⟨_,n⟩:=p
   obtain ⟨_,c⟩:=q
   simp only[]
   split<;>rfl
theorem Wyg(d:Nat)(x:AX)(s:St):War (some d) x s=(vb2s s.regs (evF s x)).map (s.put (some d)):=by
 unfold War vb2s
 cases W15 s.regs (evF s x)with
 | none=>rfl
 | some ls=>cases W1i (evF s x)with
  | none=>rfl
  | some n=>
   simp only[]
   split
   ·cases W0h Wns ls<;>rfl
   ·rfl
def dOk:AOp→Bool
 | .call _ _ _ | .cally _ _ _ | .x _ _ _ | .store _ _ _=>true
 | op=>op.dst.isSome
theorem V7j(d:Nat)(x:AX)(s:St):evalOp P c (.mv (some d) x) s=(some (evF s x)).map (s.put (some d)):=by
 obtain ⟨sl,rg⟩:=s
 rw[←W13,Ww2,W19]
 simp only[W0f]
 first | rfl | done
theorem V26(d:Nat)(op:BinOp)(x:AX)(y:AX)(s:St):evalOp P c (.bin (some d) op x y) s=(vbin op (evF s x) (evF s y)).map (s.put (some d)):=by
 obtain ⟨sl,rg⟩:=s
 rw[←W13,Wom,W19]
 simp only[W0f]
 first | rfl | done
theorem V27(d:Nat)(neg:Bool)(t:Nat)(ks:List IntKind)(x:AX)(y:AX)(s:St):evalOp P c (.eqs (some d) neg t ks x y) s=(veqs P neg t ks (evF s x) (evF s y)).map (s.put (some d)):=by
 obtain ⟨sl,rg⟩:=s
 rw[←W13,Won,W19]
 simp only[W0f]
 first | rfl | done
theorem V28(d:Nat)(neg:Bool)(x:AX)(y:AX)(s:St):evalOp P c (.beq (some d) neg x y) s=(vbeq neg (evF s x) (evF s y)).map (s.put (some d)):=by
 obtain ⟨sl,rg⟩:=s
 rw[←W13,Woo,W19]
 simp only[W0f]
 first | rfl | done
theorem Wyh(d:Nat)(x:AX)(y:AX)(z:AX)(s:St):evalOp P c (.pick (some d) x y z) s=(W0c (evF s x) (evF s y) (evF s z)).map (s.put (some d)):=by
 obtain ⟨sl,rg⟩:=s
 rw[←W13,Wi2,W19]
 simp only[W0f]
 first | rfl | done
theorem V7k(d:Nat)(op:UnOp)(x:AX)(s:St):evalOp P c (.un (some d) op x) s=(vun op (evF s x)).map (s.put (some d)):=by
 obtain ⟨sl,rg⟩:=s
 rw[←W13,Ww3,W19]
 simp only[W0f]
 first | rfl | done
theorem V29(d:Nat)(k:IntKind)(x:AX)(s:St):evalOp P c (.cvi (some d) k x) s=(vcvi k (evF s x)).map (s.put (some d)):=by
 obtain ⟨sl,rg⟩:=s
 rw[←W13,Wop,W19]
 simp only[W0f]
 first | rfl | done
theorem Wyi(d:Nat)(x:AX)(s:St):evalOp P c (.nilc (some d) x) s=(W0a (evF s x)).map (s.put (some d)):=by
 obtain ⟨sl,rg⟩:=s
 rw[←W13,Wi3,W19]
 simp only[W0f]
 first | rfl | done
theorem V2a(d:Nat)(off:Nat)(x:AX)(s:St):evalOp P c (.fad (some d) off x) s=(vfad off (evF s x)).map (s.put (some d)):=by
 obtain ⟨sl,rg⟩:=s
 rw[←W13,Woq,W19]
 simp only[W0f]
 first | rfl | done
theorem V2b(d:Nat)(off:Nat)(n:Nat)(agg:Bool)(x:AX)(s:St):evalOp P c (.fld (some d) off n agg x) s=(vfld off n agg (evF s x)).map (s.put (some d)):=by
 obtain ⟨sl,rg⟩:=s
 rw[←W13,Wor,W19]
 simp only[W0f]
 first | rfl | done
theorem Wyj(d:Nat)(n:Nat)(agg:Bool)(x:AX)(s:St):evalOp P c (.load (some d) n agg x) s=(W01 s.regs n agg (evF s x)).map (s.put (some d)):=by
 obtain ⟨sl,rg⟩:=s
 rw[←W13,Wi4,W19]
 simp only[W0f]
 first | rfl | done
theorem V2c(d:Nat)(sz:Nat)(x:AX)(y:AX)(s:St):evalOp P c (.ixs (some d) sz x y) s=(vixs sz (evF s y) (evF s x)).map (s.put (some d)):=by
 obtain ⟨sl,rg⟩:=s
 rw[←W13,Wos,W19]
 simp only[W0f]
 first | rfl | done
theorem V2d(d:Nat)(len:Nat)(sz:Nat)(x:AX)(y:AX)(s:St):evalOp P c (.ixa (some d) len sz x y) s=(vixa len sz (evF s y) (evF s x)).map (s.put (some d)):=by
 obtain ⟨sl,rg⟩:=s
 rw[←W13,Wot,W19]
 simp only[W0f]
 first | rfl | done
theorem V2e(d:Nat)(x:AX)(s:St):evalOp P c (.len (some d) x) s=(vlen (evF s x)).map (s.put (some d)):=by
 obtain ⟨sl,rg⟩:=s
 rw[←W13,Wou,W19]
 simp only[W0f]
 first | rfl | done
theorem Wyk(d:Nat)(x:AX)(s:St):evalOp P c (.lens (some d) x) s=(Wko (evF s x)).map (s.put (some d)):=by
 obtain ⟨sl,rg⟩:=s
 rw[←W13,Wi5,W19]
 simp only[W0f]
 first | rfl | done
theorem V2f(d:Nat)(x:AX)(i:Nat)(s:St):evalOp P c (.ext (some d) x i) s=(vext i (evF s x)).map (s.put (some d)):=by
 obtain ⟨sl,rg⟩:=s
 rw[←W13,Wov,W19]
 simp only[W0f]
 first | rfl | done
theorem V7l(d:Nat)(mx:Bool)(x:AX)(y:AX)(s:St):evalOp P c (.mm (some d) mx x y) s=(vmm mx (evF s x) (evF s y)).map (s.put (some d)):=by
 obtain ⟨sl,rg⟩:=s
 rw[←W13,Ww4,W19]
 simp only[W0f]
 first | rfl | done
theorem V2g(d:Nat)(len:Nat)(sz:Nat)(agg:Bool)(x:AX)(y:AX)(s:St):evalOp P c (.ixv (some d) len sz agg x y) s=(vixv len sz agg (evF s y) (evF s x)).map (s.put (some d)):=by
 obtain ⟨sl,rg⟩:=s
 rw[←W13,Wow,W19]
 simp only[W0f]
 first | rfl | done
theorem Wt5(d:Nat)(zs:List Value)(parts:List (Nat×Nat×AX))(s:St):evalOp P c (.build (some d) zs parts) s=(W06 zs (parts.map fun q=>(q.1,q.2.1,evF s q.2.2))).map (s.put (some d)):=by
 obtain ⟨sl,rg⟩:=s
 rw[←W13,Web,W19]
 simp only[W0f,W06]
 first | rfl | done
theorem V2h(d:Nat)(f:Fn)(fi:List AX)(ca:List AX)(s:St):evalOp P c (.mkf (some d) f fi ca) s=(mkfn f (W0h (fun x=>faOf (evF s x)) fi) (W0h (fun x=>faOf (evF s x)) ca)).map (s.put (some d)):=by
 obtain ⟨sl,rg⟩:=s
 rw[←W13,Wp1,W19]
 simp only[W0f]
 first | rfl | done
theorem V2i(d:Nat)(sz:Nat)(x:AX)(lo:Option AX)(hi:Option AX)(mx:Option AX)(s:St):evalOp P c (.sls (some d) sz x lo hi mx) s=(vsls sz (evF s x) (lo.map (evF s)) (hi.map (evF s)) (mx.map (evF s))).map (s.put (some d)):=by
 exact Wyd d sz x lo hi mx s
theorem V2j(d:Nat)(n:Nat)(sz:Nat)(x:AX)(lo:Option AX)(hi:Option AX)(mx:Option AX)(s:St):evalOp P c (.sla (some d) n sz x lo hi mx) s=(vsla n sz (evF s x) (lo.map (evF s)) (hi.map (evF s)) (mx.map (evF s))).map (s.put (some d)):=by
 exact Wye d n sz x lo hi mx s
theorem V2k(d:Nat)(x:AX)(s:St):evalOp P c (.b2s (some d) x) s=(vb2s s.regs (evF s x)).map (s.put (some d)):=by
 exact Wyg d x s
theorem V2l(d:Nat)(x:AX)(y:AX)(s:St):evalOp P c (.ixt (some d) x y) s=(vixt (evF s x) (evF s y)).map (s.put (some d)):=by
 obtain ⟨sl,rg⟩:=s
 rw[←W13,Wt4,W19]
 simp only[W0f]
 first | rfl | done
theorem Wt6(d:Nat)(zs:List Value)(s:St):evalOp P c (.alloc (some d) zs) s=(W08 zs s.regs).map fun p=>s.putr (some d) p.1 p.2:=by
 rfl
theorem Wpa(d:Nat)(sz:Nat)(n:Nat)(zs:List Value)(s:St):evalOp P c (.allocA (some d) sz n zs) s=(Wc5 sz n zs s.regs).map fun p=>s.putr (some d) p.1 p.2:=by
 rfl
theorem V2m(d:Nat)(x:AX)(s:St):evalOp P c (.box (some d) x) s=(vbox (evF s x) s.regs).map fun p=>s.putr (some d) p.1 p.2:=by
 obtain ⟨sl,rg⟩:=s
 rw[←W13,Woy,W3e]
 simp only[W0f,vbox]
 rfl
theorem V2n(d:Nat)(sz:Nat)(len:Nat)(zs:List Value)(parts:List (Nat×AX))(s:St):evalOp P c (.bsl (some d) sz len zs parts) s=(W0x s.regs sz len zs (parts.map fun q=>(q.1,evF s q.2))).map fun p=>s.putr (some d) p.1 p.2:=by
 obtain ⟨sl,rg⟩:=s
 rw[←W13,Woz,W3e]
 simp only[W0f,W0x]
 rfl
theorem V2o(d:Nat)(sz:Nat)(bytes:Nat)(x:AX)(y:AX)(s:St):evalOp P c (.app (some d) sz bytes x y) s=(vapp s.regs sz bytes (evF s x) (evF s y)).map fun p=>s.putr (some d) p.1 p.2:=by
 obtain ⟨sl,rg⟩:=s
 rw[←W13,Wp0,W3e]
 simp only[W0f]
 rfl
theorem V2p(d:Nat)(sz:Nat)(bytes:Nat)(zs:List Value)(x:AX)(y:AX)(s:St):evalOp P c (.mks (some d) sz bytes zs x y) s=(vmks s.regs sz bytes zs (evF s x) (evF s y)).map fun p=>s.putr (some d) p.1 p.2:=by
 exact Wyf d sz bytes zs x y s
theorem Wyl(d:Nat)(f:Nat)(args:List AX)(s:St):evalOp P c (.call (some d) f args) s=(c (.fn f) (args.map (evF s)) s.regs).map fun p=>s.putr (some d) p.1 p.2:=by
 obtain ⟨sl,rg⟩:=s
 rw[←W13,Wi6,W3e]
 simp only[W0f]
 rfl
theorem Wt7(d:Nat)(x:AX)(args:List AX)(s:St):evalOp P c (.callv (some d) x args) s=(Wsw c (args.map (evF s)) s.regs (W9d (evF s x))).map fun p=>s.putr (some d) p.1 p.2:=by
 obtain ⟨sl,rg⟩:=s
 rw[←W13,Wed,W3e]
 simp only[W0f]
 rfl
theorem Wt8(d:Nat)(x:AX)(args:List AX)(s:St):evalOp P c (.cally (some d) x args) s=(W4f c (args.map (evF s)) s.regs (W2i (evF s x))).map fun p=>s.putr (some d) p.1 p.2:=by
 obtain ⟨sl,rg⟩:=s
 rw[←W13,Wee,W3e]
 simp only[W0f]
 rfl
theorem pR_x(d:Nat)(k:XOp)(args:List AX)(s:St):evalOp P c (.x (some d) k args) s=(xE k (args.map (evF s)) s.regs).map fun p=>s.putr (some d) p.1 p.2:=by
 obtain ⟨sl,rg⟩:=s
 rw[←W13,V1t,W3e]
 simp only[W0f]
 rfl
theorem Wt9(f:Nat)(args:List AX)(s:St):evalOp P c (.call none f args) s=(c (.fn f) (args.map (evF s)) s.regs).map fun p=>s.putr none p.1 p.2:=by
 obtain ⟨sl,rg⟩:=s
 rw[←W13,Wec,W9f]
 simp only[W0f]
 rfl
theorem Wpb(x:AX)(args:List AX)(s:St):evalOp P c (.cally none x args) s=(W4f c (args.map (evF s)) s.regs (W2i (evF s x))).map fun p=>s.putr none p.1 p.2:=by
 obtain ⟨sl,rg⟩:=s
 rw[←W13,Way,W9f]
 simp only[W0f]
 rfl
theorem V7m(k:XOp)(args:List AX)(s:St):evalOp P c (.x none k args) s=(xE k (args.map (evF s)) s.regs).map fun p=>s.putr none p.1 p.2:=by
 obtain ⟨sl,rg⟩:=s
 rw[←W13,Ww5,W9f]
 simp only[W0f]
 rfl
theorem Wi9(n:Nat)(x y:AX)(s:St):evalOp P c (.store n x y) s=(W03 s.regs n (evF s x) (evF s y)).map fun rg=>⟨s.slots,rg⟩:=by
 obtain ⟨sl,rg⟩:=s
 rw[←W13,Wea,Wp9]
 simp only[W0f]
theorem Ww9(op:AOp)(s:St)(hk:op.kd=0)(hd:dOk op=true):evalOp P c op s=(opV P s op).map (s.put op.dst):=by
 cases op with
 | mv d x=>cases d with
  | none=>cases hd
  | some d=>exact V7j d x s
 | bin d op x y=>cases d with
  | none=>cases hd
  | some d=>exact V26 d op x y s
 | eqs d neg t ks x y=>cases d with
  | none=>cases hd
  | some d=>exact V27 d neg t ks x y s
 | beq d neg x y=>cases d with
  | none=>cases hd
  | some d=>exact V28 d neg x y s
 | pick d x y z=>cases d with
  | none=>cases hd
  | some d=>exact Wyh d x y z s
 | un d op x=>cases d with
  | none=>cases hd
  | some d=>exact V7k d op x s
 | cvi d k x=>cases d with
  | none=>cases hd
  | some d=>exact V29 d k x s
 | nilc d x=>cases d with
  | none=>cases hd
  | some d=>exact Wyi d x s
 | fad d off x=>cases d with
  | none=>cases hd
  | some d=>exact V2a d off x s
 | fld d off n agg x=>cases d with
  | none=>cases hd
  | some d=>exact V2b d off n agg x s
 | load d n agg x=>cases d with
  | none=>cases hd
  | some d=>exact Wyj d n agg x s
 | ixs d sz x y=>cases d with
  | none=>cases hd
  | some d=>exact V2c d sz x y s
 | ixa d len sz x y=>cases d with
  | none=>cases hd
  | some d=>exact V2d d len sz x y s
 | len d x=>cases d with
  | none=>cases hd
  | some d=>exact V2e d x s
 | lens d x=>cases d with
  | none=>cases hd
  | some d=>exact Wyk d x s
 | ext d x i=>cases d with
  | none=>cases hd
  | some d=>exact V2f d x i s
 | mm d mx x y=>cases d with
  | none=>cases hd
  | some d=>exact V7l d mx x y s
 | ixv d len sz agg x y=>cases d with
  | none=>cases hd
  | some d=>exact V2g d len sz agg x y s
 | build d zs parts=>cases d with
  | none=>cases hd
  | some d=>exact Wt5 d zs parts s
 | mkf d f fi ca=>cases d with
  | none=>cases hd
  | some d=>exact V2h d f fi ca s
 | sls d sz x lo hi mx=>cases d with
  | none=>cases hd
  | some d=>exact V2i d sz x lo hi mx s
 | sla d n sz x lo hi mx=>cases d with
  | none=>cases hd
  | some d=>exact V2j d n sz x lo hi mx s
 | b2s d x=>cases d with
  | none=>cases hd
  | some d=>exact V2k d x s
 | ixt d x y=>cases d with
  | none=>cases hd
  | some d=>exact V2l d x y s
 | _=>cases hk
theorem Wwa(op:AOp)(s:St)(hk:op.kd=1)(hd:dOk op=true):evalOp P c op s=(opR P c s op).map fun p=>s.putr op.dst p.1 p.2:=by
 cases op with
 | alloc d zs=>cases d with
  | none=>cases hd
  | some d=>exact Wt6 d zs s
 | allocA d sz n zs=>cases d with
  | none=>cases hd
  | some d=>exact Wpa d sz n zs s
 | box d x=>cases d with
  | none=>cases hd
  | some d=>exact V2m d x s
 | bsl d sz len zs parts=>cases d with
  | none=>cases hd
  | some d=>exact V2n d sz len zs parts s
 | app d sz bytes x y=>cases d with
  | none=>cases hd
  | some d=>exact V2o d sz bytes x y s
 | mks d sz bytes zs x y=>cases d with
  | none=>cases hd
  | some d=>exact V2p d sz bytes zs x y s
 | call d f args=>cases d with
  | none=>exact Wt9 f args s
  | some d=>exact Wyl d f args s
 | callv d x args=>cases d with
  | none=>cases hd
  | some d=>exact Wt7 d x args s
 | cally d x args=>cases d with
  | none=>exact Wpb x args s
  | some d=>exact Wt8 d x args s
 | x d k args=>cases d with
  | none=>exact V7m k args s
  | some d=>exact pR_x d k args s
 | _=>cases hk
def gB:Option (Nat×Bool)→Bool
 | none=>true
 | _=>false
def dB:Option Nat→Option Nat→Bool
 | none,none=>true
 | some a,some b=>Nat.beq a b
 | _,_=>false
theorem V7n{a b:Option Nat}(h:dB a b=true):a=b:=by
 cases a<;>cases b<;>simp_all[dB]
def mvOf:AOp→Option (Nat×AX)
 | .mv (some d) x=>some (d,x)
 | _=>none
theorem Wym{op:AOp}{d:Nat}{x:AX}(h:mvOf op=some (d,x)):op= .mv (some d) x:=by
 cases op with
 | mv e y=>cases e with
  | none=>cases h
  | some e=>cases h; rfl
 | _=>cases h
def AIt.ok(it:AIt):Bool:=dOk it.op&&(gB it.guard||dB it.d it.op.dst)
def itC{β:Type}(P:Program)(c:W0i)(it:AIt)(s:St)(K:St→Option β):Option β:=
 bif it.ok then (match it.guard with
  | none=>(match mvOf it.op with
   | some q=>K ⟨(q.1,evF s q.2)::s.slots,s.regs⟩
   | none=>match it.op.kd with
   | 0=>B1 (opV P s it.op) fun v=>K (s.put it.op.dst v)
   | 1=>B2 (opR P c s it.op) fun v rg=>K (s.putr it.op.dst v rg)
   | _=>B0 (opS s it.op) fun rg=>K ⟨s.slots,rg⟩)
  | some (t,w)=>(match it.op.kd with
   | 0=>B1 (Gv w (lkF s.slots t) (opV P s it.op)) fun v=>K (s.put it.op.dst v)
   | 1=>B2 (Gr w (lkF s.slots t) s.regs (opR P c s it.op)) fun v rg=>K (s.putr it.op.dst v rg)
   | _=>B0 (Gs w (lkF s.slots t) s.regs (opS s it.op)) fun rg=>K ⟨s.slots,rg⟩))
 else BS (evalIt P c it s) K
theorem Wta(op:AOp):op.kd=0∨op.kd=1∨op.kd=2:=by cases op<;>simp[AOp.kd]
theorem Weg{β:Type}(it:AIt)(s:St)(K:St→Option β):itC P c it s K=(evalIt P c it s).bind K:=by
 unfold itC
 cases hok:it.ok with
 | false=>rfl
 | true=>
  obtain ⟨g,d,op⟩:=it
  simp only[AIt.ok,Z4,Bool.or_eq_true]at hok
  obtain ⟨hd,hg⟩:=hok
  cases g with
  | none=>
   simp only[cond_true,evalIt]
   cases hm:mvOf op with
   | some q=>
    obtain ⟨d,x⟩:=q
    rw[Wym hm]
    rfl
   | none=>
   simp only[]
   rcases Wta op with hk | hk | hk
   ·rw[hk,Ww9 op s hk hd]
    exact Ww6 _ _ K
   ·rw[hk,Wwa op s hk hd]
    exact Ww7 _ (fun p=>s.putr op.dst p.1 p.2) K
   ·rw[hk]
    cases op with
    | store n x y=>
     rw[Wi9]
     exact Ww8 _ _ K
    | _=>cases hk
  | some tw=>
   obtain ⟨t,w⟩:=tw
   have hdd:d=op.dst:=by
    rcases hg with h | h
    ·cases h
    ·exact V7n h
   subst hdd
   simp only[cond_true,evalIt]
   generalize lkF s.slots t=g
   rcases Wta op with hk | hk | hk
   ·rw[hk]
    show B1 _ (fun v=>K (s.put op.dst v))=_
    rw[Ww6]
    congr 1
    unfold Gv
    split
    ·rename_i b
     by_cases hb:b=w
     ·simp only[if_pos hb]
      rw[Ww9 op s hk hd]
     ·simp only[if_neg hb]
      rfl
    ·rfl
    ·rename_i h1 h2
     first
     | rfl
     | (split<;>first | rfl | exact absurd rfl (h1 _) | exact absurd rfl h2)
   ·rw[hk]
    show B2 _ (fun v rg=>K (s.putr op.dst v rg))=_
    rw[Ww7 _ (fun p=>s.putr op.dst p.1 p.2) K]
    congr 1
    unfold Gr
    split
    ·rename_i b
     by_cases hb:b=w
     ·simp only[if_pos hb]
      rw[Wwa op s hk hd]
     ·simp only[if_neg hb]
      rfl
    ·rfl
    ·rename_i h1 h2
     first
     | rfl
     | (split<;>first | rfl | exact absurd rfl (h1 _) | exact absurd rfl h2)
   ·rw[hk]
    cases op with
    | store n x y=>
     show B0 _ (fun rg=>K ⟨s.slots,rg⟩)=_
     rw[Ww8 _ (fun rg=>(⟨s.slots,rg⟩:St)) K]
     congr 1
     unfold Gs
     split
     ·rename_i b
      by_cases hb:b=w
      ·simp only[if_pos hb]
       rw[Wi9]
       rfl
      ·simp only[if_neg hb]
       rfl
     ·rfl
     ·rename_i h1 h2
      first
      | rfl
      | (split<;>first | rfl | exact absurd rfl (h1 _) | exact absurd rfl h2)
    | _=>cases hk
def opsC{β:Type}(P:Program)(c:W0i):List AIt→St→(St→Option β)→Option β
 | [],s,K=>K s
 | it::r,s,K=>itC P c it s fun s1=>opsC P c r s1 K
theorem Wg5{β:Type}:∀(l:List AIt) (s:St) (K:St→Option β),opsC P c l s K=(evalOps P c l s).bind K
 | [],s,K=>rfl
 | it::r,s,K=>by
  rw[opsC,Weg,evalOps,Yn]
  congr 1
  funext s1
  exact Wg5 r s1 K
def Wtb:Option St→Option St→Option St
 | some a,some b=>if stB a b=true then some a else none
 | _,_=>none
theorem Wb1{α:Type}(o:Option α):o.bind some=o:=by cases o<;>rfl
theorem Wpc(it:AIt)(s:St):evalOps P c [it] s=evalIt P c it s:=by
 simp only[evalOps]
 cases evalIt P c it s<;>rfl
def Wyn(it:AIt)(s s1:St){β:Type}(x:Option β):Option β:=match it.d with
 | some d=>Sm (lkF s1.slots d) (lkF s.slots d) x
 | none=>none
def Weh(ks:List Nat)(s:St):St:=⟨(ks.map fun k=>(k,lkF s.slots k)).reverse,s.regs⟩
theorem Wia(s:St):∀(ks:List Nat) (acc:List (Nat×AV)),W48 s ks acc=⟨(ks.map fun k=>(k,lkF s.slots k)).reverse++acc,s.regs⟩
 | [],acc=>rfl
 | k::r,acc=>by
  rw[W48,Wxo,Wia s r]
  simp
theorem Wpd(ks:List Nat)(s:St):Wbv ks s=Weh ks s:=by
 rw[Wbv,Wia,Weh,Zr]
def W4k{β:Type}(P:Program)(c:W0i)(ks:List Nat):ATree→St→(St→Option β)→Option β
 | .done,s,K=>K (Weh ks s)
 | .tell it t,s,K=>itC P c it s fun s1=>W4k P c ks t s1 K
 | .turn it t,s,K=>itC P c it s fun s1=>W4k P c ks t s1 K
 | .again it t,s,K=>itC P c it s fun s1=>Wyn it s s1 (W4k P c ks t s K)
 | .both t u,s,K=>BS (Wtb (W4k P c ks t s some) (W4k P c ks u s some)) K
theorem Wtc{β:Type}(it:AIt)(s s1:St)(x:Option β):Wyn it s s1 x=if Wsu it s s1=true then x else none:=by
 unfold Wyn Wsu Sm
 cases it.d with
 | none=>rfl
 | some d=>simp only[W1m]
theorem W52{β:Type}(ks:List Nat):∀(t:ATree) (s:St) (K:St→Option β),W4k P c ks t s K=(evalTree P c ks t s).bind K
 | .done,s,K=>by rw[W4k,evalTree,Wpd]; rfl
 | .tell it t,s,K=>by
  rw[W4k,Weg,evalTree,Wpc,Yn]
  congr 1
  funext s1
  exact W52 ks t s1 K
 | .turn it t,s,K=>by
  rw[W4k,Weg,evalTree,Wpc,Yn]
  congr 1
  funext s1
  exact W52 ks t s1 K
 | .again it t,s,K=>by
  rw[W4k,Weg,evalTree,Wpc,Yn]
  congr 1
  funext s1
  rw[Wtc,W52 ks t s K]
  split<;>rfl
 | .both t u,s,K=>by
  rw[W4k,W52 ks t s some,W52 ks u s some,evalTree,Wb1,Wb1]
  cases evalTree P c ks t s<;>cases evalTree P c ks u s<;>rfl
def parG{β:Type}(it:AIt)(s s1:St)(x:Option β):Option β:=bif it.op.isCall then Sr s1.regs s.regs x else x
def parC{β:Type}(P:Program)(c:W0i):List AIt→St→(St→Option β)→Option β
 | [],s,K=>K s
 | it::r,s,K=>match it.d with
  | some d=>if it.op.loc.isSome=true∧it.op.dst=some d then itC P (W5l c) it s fun s1=>parG it s s1 (parC P c r ⟨(d,lkF s1.slots d)::s.slots,s.regs⟩ K)else none
  | none=>none
theorem Wpe{β:Type}:∀(l:List AIt) (s:St) (K:St→Option β),parC P c l s K=(evalPar P c l s).bind K
 | [],s,K=>rfl
 | it::r,s,K=>by
  rw[parC,evalPar]
  cases it.d with
  | none=>rfl
  | some d=>
   simp only
   split
   ·rw[Weg,Yn]
    congr 1
    funext s1
    rw[Wpe r,parG,W1m]
    cases it.op.isCall with
    | false=>simp
    | true=>
     simp only[cond_true,Bool.not_true,Bool.false_or,Sr]
     split<;>rfl
   ·rfl
def endC{β:Type}(n:Nat)(k:KT)(s:St)(K:St→Option β):Option β:=match k with
 | .l ks=>K (Weh ks s)
 | k=>LetS (cmpK k n (frzS k.fz (Weh k.ks s))) K
theorem Wpf{β:Type}(n:Nat)(k:KT)(s:St)(K:St→Option β):endC n k s K=K (endS n k s):=by
 unfold endC endS
 rw[Wpd]
 cases k with
 | l ks=>rfl
 | n a b=>rfl
def endT{β:Type}(n:Nat)(k:KT)(s:St)(K:St→Option β):Option β:=match k with
 | .l ks=>K s
 | k=>LetS (cmpK k n (frzS k.fz s)) K
theorem Wyo{β:Type}(n:Nat)(k:KT)(s:St)(K:St→Option β):endT n k s K=K (cmpK k n (frzS k.fz s)):=by
 unfold endT
 cases k<;>rfl
def X3{β:Type}(e:Exit)(n r:Option β)(x:Nat→Option β):Option β:=match e with
 | .normal=>n
 | .ret=>r
 | .exit i=>x i
 | _=>none
@[simp] theorem X3_n {β:Type} (n r:Option β) (x:Nat→Option β):X3 .normal n r x=n:=_root_.id rfl
@[simp] theorem X3_r {β:Type} (n r:Option β) (x:Nat→Option β):X3 .ret n r x=r:=_root_.id rfl
@[simp] theorem X3_x {β:Type} (i:Nat) (n r:Option β) (x:Nat→Option β):X3 (.exit i) n r x=x i:=_root_.id rfl
def okE:Exit→Bool
 | .normal | .ret | .exit _=>true
 | _=>false
theorem Wtd{body:St→Option (Exit×St)}(hb:∀s e s',body s=some (e,s')→okE e=true):∀(n:Nat) (s:St) (e:Exit) (s':St),loopE body n s=some (e,s')→okE e=true
 | 0,_,_,_,h=>by cases h
 | n+1,s,e,s',h=>by
  rw[loopE]at h
  split at h
  ·exact Wtd hb n _ _ _ h
  ·exact hb _ _ _ h
def okX:Exit→Bool
 | .ret | .exit _=>true
 | _=>false
theorem V2q{e:Exit}(h:okX e=true):okE e=true:=by cases e<;>first | rfl | cases h
theorem W9g{body:St→Option (Exit×St)}(hb:∀s e s',body s=some (e,s')→okE e=true):∀(n:Nat) (s:St) (e:Exit) (s':St),loopE body n s=some (e,s')→okX e=true
 | 0,_,_,_,h=>by cases h
 | n+1,s,e,s',h=>by
  rw[loopE]at h
  split at h
  ·exact W9g hb n _ _ _ h
  ·rename_i hne
   have:=hb _ _ _ h
   cases e with
   | normal=>exact absurd h (hne s')
   | ret=>rfl
   | exit i=>rfl
   | _=>cases this
def LpEnd3(lp:W1j):Prop:=∀(body:St→Option (Exit×St)) (s:St) (e:Exit) (s':St),(∀s e s',body s=some (e,s')→okE e=true)→lp body s=some (e,s')→okX e=true
theorem LpEnd3.R:LpEnd3 W02:=fun body s e s' hb h=>by
 obtain ⟨n,hn⟩:=loopR_some.1 h
 exact W9g hb n s e s' hn
theorem LpEnd3.E(n:Nat):LpEnd3 fun b s=>loopE b n s:=fun body s e s' hb h=>W9g hb n s e s' h
theorem W36{lp:W1j}(hlp:LpEnd3 lp){rd:Bool}{n0:Nat}:∀(a:ACode) (k:KT) (s:St) (e:Exit) (s':St),evalG P lp c rd n0 a k s=some (e,s')→okE e=true
 | .skip,_,s,e,s',h=>by simp only[evalG]at h; cases h; rfl
 | .reg l,k,s,e,s',h=>by simp only[evalG]at h; obtain ⟨_,_,h⟩:=Z1.1 h; cases h; rfl
 | .any l,k,s,e,s',h=>by simp only[evalG]at h; obtain ⟨_,_,h⟩:=Z1.1 h; cases h; rfl
 | .par a b,k,s,e,s',h=>by simp only[evalG]at h; obtain ⟨_,_,h⟩:=Z1.1 h; cases h; rfl
 | .seq a b,k,s,e,s',h=>by
  simp only[evalG]at h
  obtain ⟨⟨e1,s1⟩,h1,h2⟩:=Z0.1 h
  cases e1 with
  | normal=>exact W36 hlp b _ _ _ _ h2
  | _=>cases h2; exact W36 hlp a _ _ _ _ h1
 | .cond x a b,k,s,e,s',h=>by
  simp only[evalG]at h
  obtain ⟨t,h1,h2⟩:=Z0.1 h
  split at h2
  ·exact W36 hlp a _ _ _ _ h2
  ·exact W36 hlp b _ _ _ _ h2
 | .block id a,k,s,e,s',h=>by
  simp only[evalG]at h
  obtain ⟨⟨e1,s1⟩,h1,h2⟩:=Z1.1 h
  have:=W36 hlp a _ _ _ _ h1
  cases e1 with
  | exit i=>
   simp only at h2
   split at h2<;>(cases h2; rfl)
  | _=>cases h2; exact this
 | .loop a,k,s,e,s',h=>by
  simp only[evalG]at h
  exact V2q (hlp _ _ _ _ (fun s e s' h=>W36 hlp a k s e s' h) h)
 | .rfun g f j,k,s,e,s',h=>by
  simp only[evalG]at h
  split at h
  ·cases h
  ·obtain ⟨p,h1,h2⟩:=Z0.1 h
   unfold Wof at h2
   split at h2
   ·split at h2
    ·split at h2<;>(cases h2; rfl)
    ·cases h2
   ·cases h2
 | .exit id,_,s,e,s',h=>by simp only[evalG]at h; cases h; rfl
 | .ret,_,s,e,s',h=>by simp only[evalG]at h; cases h; rfl
 | .stuck,_,s,e,s',h=>by simp only[evalG]at h; cases h
def W3f{β:Type}(P:Program)(lp:W1j)(c:W0i)(rd:Bool)(n0:Nat):ACode→KT→St→(Exit→St→Option β)→Option β
 | .skip,_,s,K=>K .normal s
 | .reg l,k,s,K=>opsC P c l s fun s1=>endC n0 k s1 (K .normal)
 | .any t,k,s,K=>W4k P c k.ks t s fun s1=>endT n0 k s1 (K .normal)
 | .par a b,k,s,K=>parC P c a s fun s1=>opsC P c b s1 fun s1=>endC n0 k s1 (K .normal)
 | .seq a b,k,s,K=>W3f P lp c rd n0 a k.a s fun e s1=>X3 e (W3f P lp c rd n0 b k.b s1 K) (K .ret s1) (fun i=>K (.exit i) s1)
 | .cond x a b,k,s,K=>Cd (W00 (evF s x)) (W3f P lp c rd n0 a k.a s K) (W3f P lp c rd n0 b k.b s K)
 | .block id a,k,s,K=>W3f P lp c rd n0 a k s fun e s1=>X3 e (K .normal s1) (K .ret s1) (fun i=>bif Nat.beq i id then K .normal s1 else K (.exit i) s1)
 | .loop a,k,s,K=>B3 (lp (fun s=>W3f P lp c rd n0 a k s fun e s1=>some (e,s1)) s) fun e s1=>X3 e none (K .ret s1) (fun i=>K (.exit i) s1)
 | .rfun g f j,k,s,K=>B3 (evalG P lp c rd n0 (.rfun g f j) k s) K
 | .exit id,_,s,K=>K (.exit id) s
 | .ret,_,s,K=>K .ret s
 | .stuck,_,_,_=>none
theorem W3j{lp:W1j}(hlp:LpEnd3 lp){β:Type}{rd:Bool}{n0:Nat}:∀(a:ACode) (k:KT) (s:St) (K:Exit→St→Option β),W3f P lp c rd n0 a k s K=(evalG P lp c rd n0 a k s).bind fun x=>K x.1 x.2
 | .skip,_,s,K=>rfl
 | .reg l,k,s,K=>by
  rw[W3f,Wg5,evalG]
  simp only[Wpf]
  cases evalOps P c l s<;>rfl
 | .any t,k,s,K=>by
  rw[W3f,W52,evalG]
  simp only[Wyo]
  cases evalTree P c k.ks t s<;>rfl
 | .par a b,k,s,K=>by
  rw[W3f,Wpe,evalG]
  simp only[Wg5,Wpf]
  cases evalPar P c a s with
  | none=>rfl
  | some s1=>
   show (evalOps P c b s1).bind _=_
   simp only[Zn]
   cases evalOps P c b s1<;>rfl
 | .seq a b,k,s,K=>by
  rw[W3f,W3j hlp a,evalG,Yn]
  cases h:evalG P lp c rd n0 a k.a s with
  | none=>rfl
  | some x=>
   obtain ⟨e,s1⟩:=x
   have ho:=W36 hlp a _ _ _ _ h
   simp only[Zn]
   cases e with
   | normal=>exact W3j hlp b _ s1 K
   | ret=>rfl
   | exit i=>rfl
   | _=>cases ho
 | .cond x a b,k,s,K=>by
  rw[W3f,W3j hlp a,W3j hlp b,evalG,Cd,Yn]
  congr 1
  funext t
  split<;>rfl
 | .block id a,k,s,K=>by
  rw[W3f,W3j hlp a,evalG]
  cases hh:evalG P lp c rd n0 a k s with
  | none=>rfl
  | some x=>
   obtain ⟨e,s1⟩:=x
   have ho:=W36 hlp a _ _ _ _ hh
   simp only[Zn,Yi]
   cases e with
   | normal=>rfl
   | ret=>rfl
   | exit i=>
    by_cases h:i=id
    ·subst h
     simp
    ·have:Nat.beq i id=false:=by
      cases hb:Nat.beq i id with
      | false=>rfl
      | true=>exact absurd (Nat.eq_of_beq_eq_true hb) h
     simp[this,h]
   | _=>cases ho
 | .loop a,k,s,K=>by
  rw[W3f,evalG,B3]
  have:(fun s=>W3f P lp c rd n0 a k s fun e s1=>some (e,s1))=evalG P lp c rd n0 a k:=by
   funext s
   rw[W3j hlp a]
   cases evalG P lp c rd n0 a k s<;>rfl
  rw[this]
  cases h:lp (evalG P lp c rd n0 a k) s with
  | none=>rfl
  | some x=>
   obtain ⟨e,s1⟩:=x
   have ho:=hlp _ _ _ _ (fun s e s' h=>W36 hlp a k s e s' h) h
   simp only[Zn]
   cases e with
   | ret=>rfl
   | exit i=>rfl
   | _=>cases ho
 | .rfun g f j,k,s,K=>rfl
 | .exit id,_,s,K=>rfl
 | .ret,_,s,K=>rfl
 | .stuck,_,_,_=>rfl
def Fin(z:ZT)(n:Nat)(vs:List AV)(rg:List Reg):Option (AV×List Reg):=some (finR z n (W8p vs,rg))
section
variable {P:Program} {c:W0i}
abbrev Sls:=List (Nat×AV)
def putK{β:Type}(d:Option Nat)(v:AV)(sl:Sls)(rg:List Reg)(K:Sls→List Reg→Option β):Option β:=match d with
 | some d=>K ((d,v)::sl) rg
 | none=>K sl rg
theorem Wyp{β:Type}(d:Option Nat)(v:AV)(sl:Sls)(rg:List Reg)(K:Sls→List Reg→Option β):putK d v sl rg K=K (St.put ⟨sl,rg⟩ d v).slots (St.put ⟨sl,rg⟩ d v).regs:=by cases d<;>rfl
def itR{β:Type}(P:Program)(c:W0i)(it:AIt)(sl:Sls)(rg:List Reg)(K:Sls→List Reg→Option β):Option β:=
 bif it.ok then (match it.guard with
  | none=>(match mvOf it.op with
   | some q=>K ((q.1,evF ⟨sl,rg⟩ q.2)::sl) rg
   | none=>match it.op.kd with
   | 0=>B1 (opV P ⟨sl,rg⟩ it.op) fun v=>putK it.op.dst v sl rg K
   | 1=>B2 (opR P c ⟨sl,rg⟩ it.op) fun v rg=>putK it.op.dst v sl rg K
   | _=>B0 (opS ⟨sl,rg⟩ it.op) fun rg=>K sl rg)
  | some (t,w)=>(match it.op.kd with
   | 0=>B1 (Gv w (lkF sl t) (opV P ⟨sl,rg⟩ it.op)) fun v=>putK it.op.dst v sl rg K
   | 1=>B2 (Gr w (lkF sl t) rg (opR P c ⟨sl,rg⟩ it.op)) fun v rg=>putK it.op.dst v sl rg K
   | _=>B0 (Gs w (lkF sl t) rg (opS ⟨sl,rg⟩ it.op)) fun rg=>K sl rg))
 else BS (evalIt P c it ⟨sl,rg⟩) fun s=>K s.slots s.regs
theorem Wei{β:Type}(it:AIt)(sl:Sls)(rg:List Reg)(K:Sls→List Reg→Option β):itR P c it sl rg K=itC P c it ⟨sl,rg⟩ fun s=>K s.slots s.regs:=by
 unfold itR itC
 simp only[Wyp]
 cases it.ok with
 | false=>rfl
 | true=>
  simp only[cond_true]
  cases it.guard with
  | none=>
   simp only[]
   cases mvOf it.op with
   | some q=>rfl
   | none=>
    simp only[]
    rcases Wta it.op with hk | hk | hk<;>rw[hk]<;>rfl
  | some tw=>
   simp only[]
   rcases Wta it.op with hk | hk | hk<;>rw[hk]<;>rfl
noncomputable def opsR {β:Type} (P:Program) (c:W0i) (l:List AIt):Sls→List Reg→(Sls→List Reg→Option β)→Option β:=
 @List.rec AIt (fun _=>Sls→List Reg→(Sls→List Reg→Option β)→Option β) (fun sl rg K=>K sl rg) (fun it _ ih sl rg K=>itR P c it sl rg fun sl rg=>ih sl rg K) l
theorem Wg6{β:Type}:∀(l:List AIt) (sl:Sls) (rg:List Reg) (K:Sls→List Reg→Option β),opsR P c l sl rg K=opsC P c l ⟨sl,rg⟩ fun s=>K s.slots s.regs
 | [],sl,rg,K=>rfl
 | it::r,sl,rg,K=>by
  show itR P c it sl rg (fun sl rg=>opsR P c r sl rg K)=_
  rw[opsC,Wei]
  congr 1
  funext s1
  exact Wg6 r _ _ K
noncomputable def Wpg {β:Type} (sl:Sls) (rg:List Reg) (ks:List Nat):Sls→(Sls→List Reg→Option β)→Option β:=
 @List.rec Nat (fun _=>Sls→(Sls→List Reg→Option β)→Option β) (fun acc K=>K acc rg) (fun k _ ih acc K=>ih ((k,lkF sl k)::acc) K) ks
theorem Wej{β:Type}(sl:Sls)(rg:List Reg):∀(ks:List Nat) (acc:Sls) (K:Sls→List Reg→Option β),Wpg sl rg ks acc K=K ((ks.map fun k=>(k,lkF sl k)).reverse++acc) rg
 | [],acc,K=>rfl
 | k::r,acc,K=>by
  show Wpg sl rg r ((k,lkF sl k)::acc) K=_
  rw[Wej sl rg r]
  simp
theorem Wib{β:Type}(sl:Sls)(rg:List Reg)(ks:List Nat)(K:Sls→List Reg→Option β):Wpg sl rg ks [] K=K (Weh ks ⟨sl,rg⟩).slots (Weh ks ⟨sl,rg⟩).regs:=by
 rw[Wej,Zr]
 rfl
def V2r{β:Type}(d:Option Nat)(sl sl1:Sls)(x:Option β):Option β:=match d with
 | some d=>Sm (lkF sl1 d) (lkF sl d) x
 | none=>none
noncomputable def Wek {β:Type} (P:Program) (c:W0i) (ks:List Nat) (t:ATree):Sls→List Reg→(Sls→List Reg→Option β)→Option β:=
 @ATree.rec (fun _=>(β:Type)→Sls→List Reg→(Sls→List Reg→Option β)→Option β)
  (fun _ sl rg K=>Wpg sl rg ks [] K)
  (fun it _ ih β sl rg K=>itR P c it sl rg fun sl rg=>ih β sl rg K)
  (fun it _ ih β sl rg K=>itR P c it sl rg fun sl1 _=>V2r it.d sl sl1 (ih β sl rg K))
  (fun it _ ih β sl rg K=>itR P c it sl rg fun sl rg=>ih β sl rg K)
  (fun _ _ iht ihu _ sl rg K=>BS (Wtb (iht St sl rg fun sl rg=>some ⟨sl,rg⟩) (ihu St sl rg fun sl rg=>some ⟨sl,rg⟩)) fun s=>K s.slots s.regs) t β
theorem W53{β:Type}(ks:List Nat):∀(t:ATree) (sl:Sls) (rg:List Reg) (K:Sls→List Reg→Option β),Wek P c ks t sl rg K=W4k P c ks t ⟨sl,rg⟩ fun s=>K s.slots s.regs
 | .done,sl,rg,K=>Wib sl rg ks K
 | .tell it t,sl,rg,K=>by
  show itR P c it sl rg (fun sl rg=>Wek P c ks t sl rg K)=_
  rw[W4k,Wei]
  congr 1
  funext s1
  exact W53 ks t _ _ K
 | .turn it t,sl,rg,K=>by
  show itR P c it sl rg (fun sl rg=>Wek P c ks t sl rg K)=_
  rw[W4k,Wei]
  congr 1
  funext s1
  exact W53 ks t _ _ K
 | .again it t,sl,rg,K=>by
  show itR P c it sl rg (fun sl1 _=>V2r it.d sl sl1 (Wek P c ks t sl rg K))=_
  rw[W4k,Wei]
  congr 1
  funext s1
  rw[W53 ks t sl rg K]
  rfl
 | .both t u,sl,rg,K=>by
  show BS (Wtb (Wek P c ks t sl rg fun sl rg=>some ⟨sl,rg⟩) (Wek P c ks u sl rg fun sl rg=>some ⟨sl,rg⟩)) (fun s=>K s.slots s.regs)=_
  rw[W4k,W53 ks t,W53 ks u]
def V2s{β:Type}(it:AIt)(rg rg1:List Reg)(x:Option β):Option β:=bif it.op.isCall then Sr rg1 rg x else x
noncomputable def parR {β:Type} (P:Program) (c:W0i) (l:List AIt):Sls→List Reg→(Sls→List Reg→Option β)→Option β:=
 @List.rec AIt (fun _=>Sls→List Reg→(Sls→List Reg→Option β)→Option β) (fun sl rg K=>K sl rg)
  (fun it _ ih sl rg K=>match it.d with
   | some d=>if it.op.loc.isSome=true∧it.op.dst=some d then itR P (W5l c) it sl rg fun sl1 rg1=>V2s it rg rg1 (ih ((d,lkF sl1 d)::sl) rg K)else none
   | none=>none) l
theorem Wph{β:Type}:∀(l:List AIt) (sl:Sls) (rg:List Reg) (K:Sls→List Reg→Option β),parR P c l sl rg K=parC P c l ⟨sl,rg⟩ fun s=>K s.slots s.regs
 | [],sl,rg,K=>rfl
 | it::r,sl,rg,K=>by
  show (match it.d with
   | some d=>if it.op.loc.isSome=true∧it.op.dst=some d then itR P (W5l c) it sl rg fun sl1 rg1=>V2s it rg rg1 (parR P c r ((d,lkF sl1 d)::sl) rg K)else none
   | none=>none)=_
  rw[parC]
  cases it.d with
  | none=>rfl
  | some d=>
   simp only[]
   split
   ·rw[Wei]
    congr 1
    funext s1
    rw[Wph r]
    rfl
   ·rfl
noncomputable def Wpi {β:Type} (n:Nat) (k:KT) (sl:Sls) (rg:List Reg) (K:Sls→List Reg→Option β):Option β:=match k with
 | .l ks=>Wpg sl rg ks [] K
 | k=>LetS (cmpK k n (frzS k.fz (Weh k.ks ⟨sl,rg⟩))) fun s=>K s.slots s.regs
theorem Wic{β:Type}(n:Nat)(k:KT)(sl:Sls)(rg:List Reg)(K:Sls→List Reg→Option β):Wpi n k sl rg K=endC n k ⟨sl,rg⟩ fun s=>K s.slots s.regs:=by
 cases k with
 | l ks=>exact Wib sl rg ks K
 | n a b=>rfl
def Wyq{β:Type}(n:Nat)(k:KT)(sl:Sls)(rg:List Reg)(K:Sls→List Reg→Option β):Option β:=match k with
 | .l ks=>K sl rg
 | k=>LetS (cmpK k n (frzS k.fz ⟨sl,rg⟩)) fun s=>K s.slots s.regs
theorem Wte{β:Type}(n:Nat)(k:KT)(sl:Sls)(rg:List Reg)(K:Sls→List Reg→Option β):Wyq n k sl rg K=endT n k ⟨sl,rg⟩ fun s=>K s.slots s.regs:=by
 cases k<;>rfl
noncomputable def evR {β:Type} (P:Program) (lp:W1j) (c:W0i) (rd:Bool) (n0:Nat) (a:ACode):KT→Sls→List Reg→(Exit→Sls→List Reg→Option β)→Option β:=
 @ACode.rec (fun _=>(β:Type)→KT→Sls→List Reg→(Exit→Sls→List Reg→Option β)→Option β)
  (fun _ _ sl rg K=>K .normal sl rg)
  (fun l _ k sl rg K=>opsR P c l sl rg fun sl rg=>Wpi n0 k sl rg (K .normal))
  (fun t _ k sl rg K=>Wek P c k.ks t sl rg fun sl rg=>Wyq n0 k sl rg (K .normal))
  (fun a b _ k sl rg K=>parR P c a sl rg fun sl rg=>opsR P c b sl rg fun sl rg=>Wpi n0 k sl rg (K .normal))
  (fun _ _ iha ihb β k sl rg K=>iha β k.a sl rg fun e sl rg=>X3 e (ihb β k.b sl rg K) (K .ret sl rg) (fun i=>K (.exit i) sl rg))
  (fun x _ _ iha ihb β k sl rg K=>Cd (W00 (evF ⟨sl,rg⟩ x)) (iha β k.a sl rg K) (ihb β k.b sl rg K))
  (fun id _ ih β k sl rg K=>ih β k sl rg fun e sl rg=>X3 e (K .normal sl rg) (K .ret sl rg) (fun i=>bif Nat.beq i id then K .normal sl rg else K (.exit i) sl rg))
  (fun _ ih _ k sl rg K=>B3 (lp (fun s=>ih (Exit×St) k s.slots s.regs fun e sl rg=>some (e,⟨sl,rg⟩)) ⟨sl,rg⟩) fun e s=>X3 e none (K .ret s.slots s.regs) (fun i=>K (.exit i) s.slots s.regs))
  (fun g f j _ k sl rg K=>B3 (evalG P lp c rd n0 (.rfun g f j) k ⟨sl,rg⟩) fun e s=>K e s.slots s.regs)
  (fun id _ _ sl rg K=>K (.exit id) sl rg)
  (fun _ _ sl rg K=>K .ret sl rg)
  (fun _ _ _ _ _=>none) a β
theorem W75{lp:W1j}{rd:Bool}{n0:Nat}:∀(a:ACode) {β:Type} (k:KT) (sl:Sls) (rg:List Reg) (K:Exit→Sls→List Reg→Option β),evR P lp c rd n0 a k sl rg K=W3f P lp c rd n0 a k ⟨sl,rg⟩ fun e s=>K e s.slots s.regs
 | .skip,_,k,sl,rg,K=>rfl
 | .reg l,_,k,sl,rg,K=>by
  show opsR P c l sl rg (fun sl rg=>Wpi n0 k sl rg (K .normal))=_
  rw[Wg6,W3f]
  congr 1
  funext s
  exact Wic n0 k _ _ _
 | .any t,_,k,sl,rg,K=>by
  show Wek P c k.ks t sl rg (fun sl rg=>Wyq n0 k sl rg (K .normal))=_
  rw[W53,W3f]
  congr 1
  all_goals (funext s; exact Wte n0 k _ _ _)
 | .par a b,_,k,sl,rg,K=>by
  show parR P c a sl rg (fun sl rg=>opsR P c b sl rg fun sl rg=>Wpi n0 k sl rg (K .normal))=_
  rw[Wph,W3f]
  congr 1
  funext s
  rw[Wg6]
  congr 1
  funext s
  first | exact Wic n0 k _ _ _ | rfl
 | .seq a b,_,k,sl,rg,K=>by
  show evR P lp c rd n0 a k.a sl rg (fun e sl rg=>X3 e (evR P lp c rd n0 b k.b sl rg K) (K .ret sl rg) (fun i=>K (.exit i) sl rg))=_
  rw[W75 a,W3f]
  congr 1
  funext e s1
  rw[W75 b]
 | .cond x a b,_,k,sl,rg,K=>by
  show Cd (W00 (evF ⟨sl,rg⟩ x)) (evR P lp c rd n0 a k.a sl rg K) (evR P lp c rd n0 b k.b sl rg K)=_
  rw[W75 a,W75 b,W3f]
 | .block id a,_,k,sl,rg,K=>W75 a _ _ _ _
 | .loop a,_,k,sl,rg,K=>by
  show B3 (lp (fun s=>evR (β:=Exit×St) P lp c rd n0 a k s.slots s.regs fun e sl rg=>some (e,(⟨sl,rg⟩:St))) ⟨sl,rg⟩) (fun e s=>X3 e none (K .ret s.slots s.regs) (fun i=>K (.exit i) s.slots s.regs))=_
  rw[W3f]
  have:(fun s:St=>evR (β:=Exit×St) P lp c rd n0 a k s.slots s.regs fun e sl rg=>some (e,(⟨sl,rg⟩:St)))=fun s=>W3f P lp c rd n0 a k s fun e s1=>some (e,s1):=by
   funext s
   exact W75 a _ _ _ _
  rw[this]
 | .rfun g f j,_,k,sl,rg,K=>rfl
 | .exit id,_,k,sl,rg,K=>rfl
 | .ret,_,k,sl,rg,K=>rfl
 | .stuck,_,k,sl,rg,K=>rfl
end
def W0q(v:AV)(rg:List Reg)(n:Nat)(agg:Bool):Option AV:=match v with
 | .c (.ptr id off)=>match rg[id]? with
  | some (.ac l)=>if off+n≤l.length then pack agg ((l.drop off).take n)else none
  | _=>none
 | _=>none
def Rc(z:ZT)(n:Nat)(vs:Option (List AV))(rg:List Reg):Option (AV×List Reg):=vs.map fun vs=>finR z n (W8p vs,rg)
def cons?(x:Option AV)(l:Option (List AV)):Option (List AV):=x.bind fun b=>l.map (b:: ·)
@[simp] theorem V2t (id off:Nat) (rg:List Reg) (n:Nat) (agg:Bool):W0q (.c (.ptr id off)) rg n agg=W0n off n agg rg[id]?:=by
 unfold W0q W0n
 rfl
def tOf(P:Program)(f:Nat):FnT:=(trF P f).getD ⟨0,.stuck,[]⟩
theorem V2u{P:Program}{f:Nat}(h:(trF P f).isSome=true):trF P f=some (tOf P f):=by
 unfold tOf
 cases hx:trF P f with
 | none=>rw[hx]at h; cases h
 | some t=>rfl
theorem Book.run_C{B:Book}{f:Nat}{t:FnT}{kt:KT}(hT:B.T[f]?=some (some (t,kt))){args:List AV}{regs:List Reg}(hO:B.O (.fn f) args regs=none)(hl:args.length≤t.nt):
  B.run (.fn f) args regs=evR B.P W02 B.run false regs.length t.code kt (W0w 0 args) regs fun e sl rg=>endR (B.Z f) regs.length t.res (e,⟨sl,rg⟩):=by
 rw[Book.run_fn hT hO hl,W75,W3j LpEnd3.R]
abbrev ShF:=W1j→W0i→ZT→List AV→List Reg→Option (AV×List Reg)
def ShOk(T:List (Option (FnT×KT)))(P:Program)(f:Nat)(F:ShF):Prop:=∀(lp:W1j) (c:W0i) (z:ZT) (args:List AV) (rg:List Reg) (x:AV×List Reg),F lp c z args rg=some x→
 ∃t kt,T[f]?=some (some (t,kt))∧args.length≤t.nt∧evR P lp c false rg.length t.code kt (W0w 0 args) rg (fun e sl rg1=>endR z rg.length t.res (e,⟨sl,rg1⟩))=some x
def un0(F:W1j→W0i→ZT→List Reg→Option (AV×List Reg)):ShF:=fun lp c z args rg=>match args with
 | []=>F lp c z rg
 | _=>none
theorem sh0{T:List (Option (FnT×KT))}{P:Program}{f:Nat}{t:FnT}{kt:KT}{F:W1j→W0i→ZT→List Reg→Option (AV×List Reg)}(hT:T[f]?=some (some (t,kt)))(hl:Nat.ble 0 t.nt=true)
  (hS:∀(lp:W1j) (c:W0i) (z:ZT) (rg:List Reg),evR P lp c false rg.length t.code kt (W0w 0 []) rg (fun e sl rg1=>endR z rg.length t.res (e,⟨sl,rg1⟩))=F lp c z rg):ShOk T P f (un0 F):=by
 intro lp c z args rg x h
 unfold un0 at h
 split at h
 ·exact ⟨t,kt,hT,Yk hl,(hS _ _ _ _).trans h⟩
 ·cases h
def un1(F:W1j→W0i→ZT→AV→List Reg→Option (AV×List Reg)):ShF:=fun lp c z args rg=>match args with
 | [a0]=>F lp c z a0 rg
 | _=>none
theorem sh1{T:List (Option (FnT×KT))}{P:Program}{f:Nat}{t:FnT}{kt:KT}{F:W1j→W0i→ZT→AV→List Reg→Option (AV×List Reg)}(hT:T[f]?=some (some (t,kt)))(hl:Nat.ble 1 t.nt=true)
  (hS:∀(lp:W1j) (c:W0i) (z:ZT) (a0:AV) (rg:List Reg),evR P lp c false rg.length t.code kt (W0w 0 [a0]) rg (fun e sl rg1=>endR z rg.length t.res (e,⟨sl,rg1⟩))=F lp c z a0 rg):ShOk T P f (un1 F):=by
 intro lp c z args rg x h
 unfold un1 at h
 split at h
 ·exact ⟨t,kt,hT,Yk hl,(hS _ _ _ _ _).trans h⟩
 ·cases h
def un2(F:W1j→W0i→ZT→AV→AV→List Reg→Option (AV×List Reg)):ShF:=fun lp c z args rg=>match args with
 | [a0,a1]=>F lp c z a0 a1 rg
 | _=>none
theorem sh2{T:List (Option (FnT×KT))}{P:Program}{f:Nat}{t:FnT}{kt:KT}{F:W1j→W0i→ZT→AV→AV→List Reg→Option (AV×List Reg)}(hT:T[f]?=some (some (t,kt)))(hl:Nat.ble 2 t.nt=true)
  (hS:∀(lp:W1j) (c:W0i) (z:ZT) (a0 a1:AV) (rg:List Reg),evR P lp c false rg.length t.code kt (W0w 0 [a0,a1]) rg (fun e sl rg1=>endR z rg.length t.res (e,⟨sl,rg1⟩))=F lp c z a0 a1 rg):ShOk T P f (un2 F):=by
 intro lp c z args rg x h
 unfold un2 at h
 split at h
 ·exact ⟨t,kt,hT,Yk hl,(hS _ _ _ _ _ _).trans h⟩
 ·cases h
def un3(F:W1j→W0i→ZT→AV→AV→AV→List Reg→Option (AV×List Reg)):ShF:=fun lp c z args rg=>match args with
 | [a0,a1,a2]=>F lp c z a0 a1 a2 rg
 | _=>none
theorem sh3{T:List (Option (FnT×KT))}{P:Program}{f:Nat}{t:FnT}{kt:KT}{F:W1j→W0i→ZT→AV→AV→AV→List Reg→Option (AV×List Reg)}(hT:T[f]?=some (some (t,kt)))(hl:Nat.ble 3 t.nt=true)
  (hS:∀(lp:W1j) (c:W0i) (z:ZT) (a0 a1 a2:AV) (rg:List Reg),evR P lp c false rg.length t.code kt (W0w 0 [a0,a1,a2]) rg (fun e sl rg1=>endR z rg.length t.res (e,⟨sl,rg1⟩))=F lp c z a0 a1 a2 rg):ShOk T P f (un3 F):=by
 intro lp c z args rg x h
 unfold un3 at h
 split at h
 ·exact ⟨t,kt,hT,Yk hl,(hS _ _ _ _ _ _ _).trans h⟩
 ·cases h
def un4(F:W1j→W0i→ZT→AV→AV→AV→AV→List Reg→Option (AV×List Reg)):ShF:=fun lp c z args rg=>match args with
 | [a0,a1,a2,a3]=>F lp c z a0 a1 a2 a3 rg
 | _=>none
theorem sh4{T:List (Option (FnT×KT))}{P:Program}{f:Nat}{t:FnT}{kt:KT}{F:W1j→W0i→ZT→AV→AV→AV→AV→List Reg→Option (AV×List Reg)}(hT:T[f]?=some (some (t,kt)))(hl:Nat.ble 4 t.nt=true)
  (hS:∀(lp:W1j) (c:W0i) (z:ZT) (a0 a1 a2 a3:AV) (rg:List Reg),evR P lp c false rg.length t.code kt (W0w 0 [a0,a1,a2,a3]) rg (fun e sl rg1=>endR z rg.length t.res (e,⟨sl,rg1⟩))=F lp c z a0 a1 a2 a3 rg):ShOk T P f (un4 F):=by
 intro lp c z args rg x h
 unfold un4 at h
 split at h
 ·exact ⟨t,kt,hT,Yk hl,(hS _ _ _ _ _ _ _ _).trans h⟩
 ·cases h
def un5(F:W1j→W0i→ZT→AV→AV→AV→AV→AV→List Reg→Option (AV×List Reg)):ShF:=fun lp c z args rg=>match args with
 | [a0,a1,a2,a3,a4]=>F lp c z a0 a1 a2 a3 a4 rg
 | _=>none
theorem sh5{T:List (Option (FnT×KT))}{P:Program}{f:Nat}{t:FnT}{kt:KT}{F:W1j→W0i→ZT→AV→AV→AV→AV→AV→List Reg→Option (AV×List Reg)}(hT:T[f]?=some (some (t,kt)))(hl:Nat.ble 5 t.nt=true)
  (hS:∀(lp:W1j) (c:W0i) (z:ZT) (a0 a1 a2 a3 a4:AV) (rg:List Reg),evR P lp c false rg.length t.code kt (W0w 0 [a0,a1,a2,a3,a4]) rg (fun e sl rg1=>endR z rg.length t.res (e,⟨sl,rg1⟩))=F lp c z a0 a1 a2 a3 a4 rg):ShOk T P f (un5 F):=by
 intro lp c z args rg x h
 unfold un5 at h
 split at h
 ·exact ⟨t,kt,hT,Yk hl,(hS _ _ _ _ _ _ _ _ _).trans h⟩
 ·cases h
def un6(F:W1j→W0i→ZT→AV→AV→AV→AV→AV→AV→List Reg→Option (AV×List Reg)):ShF:=fun lp c z args rg=>match args with
 | [a0,a1,a2,a3,a4,a5]=>F lp c z a0 a1 a2 a3 a4 a5 rg
 | _=>none
theorem sh6{T:List (Option (FnT×KT))}{P:Program}{f:Nat}{t:FnT}{kt:KT}{F:W1j→W0i→ZT→AV→AV→AV→AV→AV→AV→List Reg→Option (AV×List Reg)}(hT:T[f]?=some (some (t,kt)))(hl:Nat.ble 6 t.nt=true)
  (hS:∀(lp:W1j) (c:W0i) (z:ZT) (a0 a1 a2 a3 a4 a5:AV) (rg:List Reg),evR P lp c false rg.length t.code kt (W0w 0 [a0,a1,a2,a3,a4,a5]) rg (fun e sl rg1=>endR z rg.length t.res (e,⟨sl,rg1⟩))=F lp c z a0 a1 a2 a3 a4 a5 rg):ShOk T P f (un6 F):=by
 intro lp c z args rg x h
 unfold un6 at h
 split at h
 ·exact ⟨t,kt,hT,Yk hl,(hS _ _ _ _ _ _ _ _ _ _).trans h⟩
 ·cases h
def ShsOk(T:List (Option (FnT×KT)))(P:Program):Nat→List (Option ShF)→Prop
 | _,[]=>True
 | k,some F::r=>ShOk T P k F∧ShsOk T P (k+1) r
 | k,none::r=>ShsOk T P (k+1) r
theorem ShsOk.get{T:List (Option (FnT×KT))}{P:Program}:∀{k:Nat} {l:List (Option ShF)},ShsOk T P k l→∀(f:Nat) (F:ShF),l[f]?=some (some F)→ShOk T P (k+f) F
 | _,[],_,f,F,h=>by simp at h
 | k,some G::r,h,0,F,e=>by cases e; exact h.1
 | k,some G::r,h,f+1,F,e=>by
  have:=ShsOk.get h.2 f F (by simpa using e)
  rw[show k+1+f=k+(f+1)by omega]at this
  exact this
 | k,none::r,h,0,F,e=>by cases e
 | k,none::r,h,f+1,F,e=>by
  have:=ShsOk.get (k:=k+1) h f F (by simpa using e)
  rw[show k+1+f=k+(f+1)by omega]at this
  exact this
def shAt(l:List (Option ShF))(f:Nat):Option ShF:=match l[f]? with
 | some (some F)=>some F
 | _=>none
theorem V7o{T:List (Option (FnT×KT))}{P:Program}{l:List (Option ShF)}(h:ShsOk T P 0 l)(f:Nat)(F:ShF)(e:shAt l f=some F):ShOk T P f F:=by
 unfold shAt at e
 split at e
 ·rename_i G hG
  cases e
  have:=ShsOk.get h f F hG
  rwa[Xn]at this
 ·cases e
def Book.bodyS(B:Book)(sT:Nat→Option ShF)(lp:W1j)(call:W0i):W0i:=fun k args regs=>match B.O k args regs with
 | some r=>some r
 | none=>match k with
  | .fn f=>match sT f with
   | some F=>F lp call (B.Z f) args regs
   | none=>none
  | .yl id=>B.round lp call id args regs regs[id]?
theorem Book.bodyS_ok{B:Book}(hB:B.Ok){sT:Nat→Option ShF}(hs:∀f F,sT f=some F→ShOk B.T B.P f F){lp:W1j}(hlp:LpOk lp)(hx:LpEnd3 lp){call:W0i}(hcall:CallOk B.P call):CallOk B.P (B.bodyS sT lp call):=by
 have hb:=Book.body_ok hB hlp hcall
 have key:∀k args regs x,B.bodyS sT lp call k args regs=some x→B.body lp call k args regs=some x:=by
  intro k args regs x h
  unfold Book.bodyS at h
  unfold Book.body
  cases hO:B.O k args regs with
  | some r=>rw[hO]at h; exact h
  | none=>
   rw[hO]at h
   cases k with
   | yl id=>exact h
   | fn f=>
    simp only at h ⊢
    cases hf:sT f with
    | none=>rw[hf]at h; cases h
    | some F=>
     rw[hf]at h
     obtain ⟨t,kt,h1,h2,h3⟩:=hs f F hf lp call (B.Z f) args regs x h
     rw[W75,W3j hx]at h3
     simp only[h1,if_pos h2]
     exact h3
 exact ⟨fun f args regs r rg h=>hb.fn f args regs r rg (key _ _ _ _ h),fun id args regs r rg h=>hb.yl id args regs r rg (key _ _ _ _ h)⟩
def Book.evalS(B:Book)(sT:Nat→Option ShF)(fuel:Nat):Nat→W0i
 | 0=>fun _ _ _=>none
 | n+1=>B.bodyS sT (fun b s=>loopE b fuel s) (B.evalS sT fuel n)
theorem Book.evalS_ok{B:Book}(hB:B.Ok){sT:Nat→Option ShF}(hs:∀f F,sT f=some F→ShOk B.T B.P f F)(fuel:Nat):∀n,CallOk B.P (B.evalS sT fuel n)
 | 0=>⟨fun _ _ _ _ _ h=>(by cases h),fun _ _ _ _ _ h=>(by cases h)⟩
 | n+1=>Book.bodyS_ok hB hs (LpOk.E fuel) (LpEnd3.E fuel) (Book.evalS_ok hB hs fuel n)
end
end Go.Sim
namespace Go.Sim
open Go.RowKit
def St.g(s:St)(k:Nat):AV:=lkF s.slots k
@[simp] theorem St.g_eq (s:St) (k:Nat):s.g k=lkF s.slots k:=_root_.id rfl
section
variable {β:Type}
def L1(r:List Reg)(v:AV)(K:AV→Option β):Option β:=B1 (W01 r 1 false v) K
def FL(off:Nat)(v:AV)(r:List Reg)(K:AV→Option β):Option β:=B1 (vfad off v) fun p=>B1 (W01 r 1 false p) K
@[simp ↓] theorem Vas (r:List Reg) (v:AV) (K:AV→Option β):L1 r v K=B1 (W01 r 1 false v) K:=_root_.id rfl
@[simp ↓] theorem Vat (off:Nat) (v:AV) (r:List Reg) (K:AV→Option β):FL off v r K=B1 (vfad off v) fun p=>B1 (W01 r 1 false p) K:=_root_.id rfl
end
def lkK:List (Nat×KT)→Nat→Option KT
 | [],_=>none
 | (a,k)::r,i=>bif Nat.beq a i then some k else lkK r i
theorem Wyr{L:List (Nat×KT)}{i:Nat}{k:KT}(h:lkK L i=some k):(i,k)∈L:=by
 induction L with
 | nil=>cases h
 | cons p r ih=>
  unfold lkK at h
  cases hb:Nat.beq p.1 i with
  | true=>rw[hb]at h; have:=Nat.eq_of_beq_eq_true hb; cases h; subst this; exact Xg
  | false=>rw[hb]at h; exact Zo _ (ih h)
noncomputable def tabM (P:Program) (L:List (Nat×KT)):Nat→Nat→List (Option (FnT×KT))
 | _,0=>[]
 | k,n+1=>(lkK L k).map (fun q=>(tOf P k,q))::tabM P L (k+1) n
theorem Wg7{P:Program}{L:List (Nat×KT)}(h:∀p∈L,(trF P p.1).isSome=true):∀n k,TabOk P k (tabM P L k n)
 | 0,_=>trivial
 | n+1,k=>by
  unfold tabM
  cases hk:lkK L k with
  | none=>exact Wg7 h n (k+1)
  | some q=>exact ⟨V2u (h _ (Wyr hk)),Wg7 h n (k+1)⟩
def lkS:List (Nat×ShF)→Nat→Option ShF
 | [],_=>none
 | (a,k)::r,i=>bif Nat.beq a i then some k else lkS r i
def AllS(T:List (Option (FnT×KT)))(P:Program):List (Nat×ShF)→Prop
 | []=>True
 | p::r=>ShOk T P p.1 p.2∧AllS T P r
theorem AllS.get{T:List (Option (FnT×KT))}{P:Program}:∀{L:List (Nat×ShF)},AllS T P L→∀f F,lkS L f=some F→ShOk T P f F
 | [],_,_,_,h=>by cases h
 | p::r,h,f,F,e=>by
  unfold lkS at e
  cases hb:Nat.beq p.1 f with
  | true=>rw[hb]at e; have:=Nat.eq_of_beq_eq_true hb; cases e; subst this; exact h.1
  | false=>rw[hb]at e; exact AllS.get h.2 f F e
end Go.Sim
