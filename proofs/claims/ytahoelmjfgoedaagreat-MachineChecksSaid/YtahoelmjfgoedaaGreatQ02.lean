/- Part 2: what the last part leans on. -/
import Derived.Test.YtahoelmjfgoedaaGreatQ01
import Derived.LoopN
set_option linter.unusedVariables false
set_option linter.unusedSimpArgs false
set_option linter.unusedSectionVars false
namespace Go.Sim
open Go.RowKit Go.Proofs.YtahoelmjfgoedaaGreat.B
section
variable {P:Program}
theorem W6l{w:World}{α:Type}{g:α→PUnit→Sem (ForInStep PUnit)}:∀{l:List α},(∀x∈l,(g x PUnit.unit).run P w= .ok (.yield PUnit.unit) w)→(forIn l PUnit.unit g:Sem PUnit).run P w= .ok PUnit.unit w
 | [],_=>by simp
 | x::l,h=>by
  simp only[List.forIn_cons,Yr,h x (by simp),Yl]
  exact W6l fun y hy=>h y (by simp[hy])
def W83(P:Program)(em:Bool)(dd:Nat)(t:TypeId)(ks:List IntKind):Prop:=
 ∀(w:World) (xs:Array Value) (off:Nat) (us:List Int),us.length=ks.length→(xs.toList.drop off).take ks.length=W0v ks us→∃a,(part t xs off).run P w= .ok a w∧(Instr.checkKey em dd t a).run P w= .ok () w
theorem W6z(em:Bool)(w:World)(dd d:Nat)(IH:∀t ks,shape P d t=some ks→P.cellsOf t=ks.length→W83 P em dd t ks)(xs:Array Value):∀(fs:List Field) (k0 ks:List IntKind),
  fs.foldl (fun o f=>o.bind fun ks=>if f.name≠ "_" ∧f.offset=ks.length then (shape P d f.type).bind fun q=>if P.cellsOf f.type=q.length then some (ks++q)else none else none) (some k0)=some ks→
  ∃k1,ks=k0++k1∧∀us:List Int,us.length=k1.length→xs.toList.drop k0.length=W0v k1 us→∀f∈fs,∃a,(part f.type xs f.offset).run P w= .ok a w∧(Instr.checkKey em dd f.type a).run P w= .ok () w
 | [],k0,ks,h=>by
  simp only[List.foldl_nil,Yp]at h
  subst h
  exact ⟨[],by simp,fun us _ _ f hf=>by simp at hf⟩
 | f::fs,k0,ks,h=>by
  have hnone:∀fs:List Field,fs.foldl (fun o f=>o.bind fun ks=>if f.name≠ "_" ∧f.offset=ks.length then (shape P d f.type).bind fun q=>if P.cellsOf f.type=q.length then some (ks++q)else none else none) (none:Option (List IntKind))=none:=by
   intro fs
   induction fs with
   | nil=>rfl
   | cons _ _ ih=>exact ih
  rw[Xe,Zn]at h
  split at h
  ·rename_i hc
   cases hq:shape P d f.type with
   | none=>rw[hq,Option.bind_none,hnone]at h; cases h
   | some q=>
    rw[hq,Zn]at h
    split at h
    ·rename_i hcell
     obtain ⟨k1,rfl,hk⟩:=W6z em w dd d IH xs fs (k0++q) ks h
     refine ⟨q++k1,by rw[Z6],fun us h1 hx g hg=> ?_⟩
     rw[Z5]at h1
     have hx1:(xs.toList.drop f.offset).take q.length=W0v q (us.take q.length):=by rw[hc.2,hx,W2m]; simp
     have hx2:xs.toList.drop (k0++q).length=W0v k1 (us.drop q.length):=by rw[Z5,←List.drop_drop,hx,W2n]; simp
     rcases Zq.1 hg with rfl | hg
     ·exact IH g.type q hq hcell w xs g.offset (us.take q.length) (by simp; omega) hx1
     ·exact hk (us.drop q.length) (by simp; omega) hx2 g hg
    ·rw[hnone]at h; cases h
  ·rw[hnone]at h; cases h
theorem Wd1(em:Bool)(w:World)(dd d:Nat)(IH:∀t ks,shape P d t=some ks→P.cellsOf t=ks.length→W83 P em dd t ks){t:TypeId}{ks:List IntKind}(h:shape P (d+1) t=some ks)(hk:∀q,P.underlying t≠some (.int q)){us:List Int}(h1:us.length=ks.length)(xs:Array Value)
  (hx:xs.toList=W0v ks us):(Instr.checkKey em (dd+1) t (.agg xs)).run P w= .ok () w:=by
 simp only[shape]at h
 cases hu:P.underlying t with
 | none=>simp[hu]at h
 | some kd=>
  rw[hu]at h
  cases kd with
  | int q=>exact absurd hu (hk q)
  | struct fs=>
   simp only at h
   split at h
   ·cases h
   ·obtain ⟨k1,rfl,hf⟩:=W6z em w dd d IH xs fs.toList [] ks h
    simp only[Instr.checkKey,Yr,Z7 hu,Yl]
    rw[←Array.forIn_toList]
    have hall:=hf us h1 (by simpa using hx)
    rw[W6l (P:=P) (w:=w) (l:=fs.toList) fun f hfm=> ?_]
    ·simp
    ·obtain ⟨a,p1,p2⟩:=hall f hfm
     by_cases hn:f.name≠ "_"
     ·simp[hn,p1,p2]
     ·simp[hn]
  | array n e=>
   simp only at h
   cases hq:shape P d e with
   | none=>simp[hq]at h
   | some q=>
    rw[hq,Zn]at h
    split at h
    ·rename_i hc
     obtain ⟨i,hi⟩:=Xd.1 hc.2
     cases h
     simp only[Instr.checkKey,Yr,Z7 hu,Yl]
     simp only[Std.Legacy.Range.forIn_eq_forIn_range',Std.Legacy.Range.size,Nat.sub_zero,Nat.add_one_sub_one,Nat.div_one]
     rw[W6l (P:=P) (w:=w) (l:=List.range' 0 n) fun j hj=> ?_]
     ·simp
     ·have hjn:j<n:=by simpa using hj
      have hpre:∀(n j:Nat) (us:List Int),j<n→us.length=(List.replicate n q).flatten.length→((W0v (List.replicate n q).flatten us).drop (j*q.length)).take q.length=W0v q ((us.drop (j*q.length)).take q.length):=by
       intro n
       induction n with
       | zero=>intro j us hj; omega
       | succ n ih=>
        intro j us hj hl
        rw[Xt,List.flatten_cons]at hl ⊢
        cases j with
        | zero=>rw[Nat.zero_mul,List.drop_zero,List.drop_zero,W2m]; simp
        | succ j=>
         have e:(j+1)*q.length=q.length+j*q.length:=by rw[Yj,Nat.one_mul]; omega
         rw[Z5]at hl
         have:=ih j (us.drop q.length) (by omega) (by rw[Xh]; omega)
         rw[e,←List.drop_drop,W2n,←List.drop_drop]
         simpa using this
      have hj2:(j+1)*q.length≤n*q.length:=Zb _ hjn
      have hfl:(List.replicate n q).flatten.length=n*q.length:=by simp
      have hul:((us.drop (j*q.length)).take q.length).length=q.length:=by
       rw[List.length_take,Xh,h1,hfl]
       rw[Yj,Nat.one_mul]at hj2
       omega
      obtain ⟨a,p1,p2⟩:=IH e q hq hc.1 w xs (j*P.cellsOf e) ((us.drop (j*q.length)).take q.length) hul (by rw[hc.1,hx]; exact hpre n j us hjn h1)
      simp[run_sizeOf w hi,p1,p2]
    ·cases h
  | _=>simp at h
theorem Wad(em:Bool)(d0:Nat):∀(d:Nat) (t:TypeId) (ks:List IntKind),shape P d t=some ks→P.cellsOf t=ks.length→W83 P em (d0+d) t ks
 | 0,_,_,h,_=>by simp[shape]at h
 | d+1,t,ks,h,hcell=>by
  intro w xs off us h1 hx
  cases hu:P.underlying t with
  | none=>simp[shape,hu]at h
  | some kd=>
   have agg:(∀q,P.underlying t≠some (.int q))→(isAgg t).run P w= .ok true w→∃a,(part t xs off).run P w= .ok a w∧(Instr.checkKey em (d0+(d+1)) t a).run P w= .ok () w:=by
    intro hk ha
    obtain ⟨i,hi⟩:=info_of_underlying hu
    have hl:(xs.extract off (off+P.cellsOf t)).toList=(xs.toList.drop off).take ks.length:=by
     rw[Array.toList_extract,hcell]
     simp[List.extract]
    refine ⟨.agg (xs.extract off (off+P.cellsOf t)),?_,?_⟩
    ·simp[part,ha,run_sizeOf w hi]
    ·exact Wd1 em w (d0+d) d (fun t ks h hc=>Wad em d0 d t ks h hc) h hk h1 _ (by rw[hl,hx])
   cases kd with
   | int q=>
    simp only[shape,hu,Yp]at h
    subst h
    match us,h1 with
    | [u],_=>
     have g:xs[off]?=some (.int q u):=by
      have:(xs.toList.drop off)[0]?=some (.int q u):=by
       have:=congrArg (fun l=>l[0]?) hx
       simpa[Zx,W0v]using this
      simpa using this
     have hp:P.plainKey t=true:=by simp[Program.plainKey,hu]
     refine ⟨_,run_part_plain w hp g,?_⟩
     rw[show d0+(d+1)=(d0+d)+1 from rfl]
     simp[Instr.checkKey,Z7 hu]
   | struct fs=>exact agg (by simp[hu]) (by simp[isAgg,Z7 hu])
   | array n e=>exact agg (by simp[hu]) (by simp[isAgg,Z7 hu])
   | _=>simp[shape,hu]at h
def keyV(kk:Bool×List IntKind)(us:List Int):Value:=match kk,us with
 | (true,ks),us=> .agg (W0v ks us).toArray
 | (false,[k]),[n]=> .int k n
 | _,_=>undef
def W6m(P:Program)(kt:TypeId)(kk:Bool×List IntKind):Prop:=∃u,P.underlying kt=some u∧shape P 8 kt=some kk.2∧aggD u=kk.1
theorem W84{kt:TypeId}{kk:Bool×List IntKind}(h:W6m P kt kk):(kk.1=true∧∀q,P.underlying kt≠some (.int q))∨∃q,kk=(false,[q])∧P.underlying kt=some (.int q):=by
 obtain ⟨u,hu,hs,ha⟩:=h
 obtain ⟨b,ks⟩:=kk
 cases u with
 | int q=>
  right
  simp only[shape,hu,Yp]at hs
  simp only[aggD]at ha
  exact ⟨q,by rw[←ha,hs],hu⟩
 | struct fs=>exact .inl ⟨ha.symm,by simp[hu]⟩
 | array n e=>exact .inl ⟨ha.symm,by simp[hu]⟩
 | _=>simp[shape,hu]at hs
theorem W85{kt:TypeId}{kk:Bool×List IntKind}(h:W6m P kt kk)(em:Bool)(w:World){us:List Int}(hl:us.length=kk.2.length):(Instr.checkKey em 10000 kt (keyV kk us)).run P w= .ok () w:=by
 have hk:=W84 h
 obtain ⟨u,hu,hs,ha⟩:=h
 rcases hk with ⟨h1,h2⟩ | ⟨q,rfl,hq⟩
 ·obtain ⟨b,ks⟩:=kk
  simp only at h1
  subst h1
  exact Wd1 em w 9999 7 (fun t ks h hc=>by
   have:=Wad (P:=P) em (9999-7) 7 t ks h hc
   exact this) hs h2 hl _ rfl
 ·match us,hl with
  | [n],_=>
   have:∀d,(Instr.checkKey em (d+1) kt (.int q n)).run P w= .ok () w:=fun d=>by simp[Instr.checkKey,Z7 hq]
   exact this 9999
theorem Wbl{kt:TypeId}{kk:Bool×List IntKind}(h:W6m P kt kk)(w:World){us:List Int}(hl:us.length=kk.2.length)(es:List MapEntry)(vss:List (List Int))(hes:All2 (fun (vs:List Int) (e:MapEntry)=>e.key=keyV kk vs∧vs.length=kk.2.length) vss es):
  (Instr.findKey kt (keyV kk us) es).run P w= .ok ((vss.findIdx? (fun vs=>decide (us=vs))).bind fun i=>(es[i]?).map fun e=>(i,e.val)) w:=by
 have hk:=W84 h
 obtain ⟨u,hu,hs,ha⟩:=h
 have hask:∀(es:List MapEntry) (vss:List (List Int)) (i:Nat),kk.1=true→(∀q,P.underlying kt≠some (.int q))→All2 (fun (vs:List Int) (e:MapEntry)=>e.key=keyV kk vs∧vs.length=kk.2.length) vss es→
   (Instr.findAsking kt (keyV kk us) es i).run P w= .ok ((vss.findIdx? (fun vs=>decide (us=vs))).bind fun j=>(es[j]?).map fun e=>(i+j,e.val)) w:=by
  intro es
  induction es with
  | nil=>
   intro vss i _ _ hes
   cases vss with
   | nil=>simp[Instr.findAsking]
   | cons _ _=>exact hes.elim
  | cons e es ih=>
   intro vss i hb hq hes
   cases vss with
   | nil=>exact hes.elim
   | cons vs vss=>
    obtain ⟨⟨he,hvl⟩,hes⟩:=hes
    obtain ⟨b,ks⟩:=kk
    simp only at hb
    subst hb
    have heq:(Op.equal kt (keyV (true,ks) us) e.key).run P w= .ok (decide (us=vs)) w:=by
     rw[he]
     exact Wll (P:=P) (m:=7) (by decide) hs hq w us vs hl hvl
    by_cases hc:us=vs
    ·subst hc
     simp[Instr.findAsking,heq,Xm]
    ·simp only[Instr.findAsking,Yr,heq,Yl,hc,decide_false,Y6,if_false,ih vss (i+1) rfl hq hes,Xm]
     cases vss.findIdx? (fun vs=>decide (us=vs))with
     | none=>simp
     | some j=>simp[Nat.add_comm,Nat.add_left_comm,X9]
 rcases hk with ⟨h1,h2⟩ | ⟨q,rfl,hq⟩
 ·have:=hask es vss 0 h1 h2 hes
  simp only[Xn]at this
  obtain ⟨b,ks⟩:=kk
  simp only at h1
  subst h1
  cases es with
  | nil=>
   cases vss with
   | nil=>simp[Instr.findKey,Instr.findNow,Z7 hu]
   | cons _ _=>exact hes.elim
  | cons e es=>
   have hnow:∀kd,kd=u→Instr.findNow kd (keyV (true,ks) us) (e::es) 0=none:=by
    intro kd hkd
    simp only[Instr.findNow]
    have:Instr.sameNow kd (keyV (true,ks) us) e.key=none:=by
     subst hkd
     cases kd<;>simp[Instr.sameNow,keyV]
    rw[this]
   simp only[Instr.findKey,Yr,Z7 hu,Yl,hnow u rfl]
   exact this
 ·match us,hl with
  | [n],_=>
   have hnow:∀(es:List MapEntry) (vss:List (List Int)) (i:Nat),All2 (fun (vs:List Int) (e:MapEntry)=>e.key=keyV (false,[q]) vs∧vs.length=1) vss es→
     Instr.findNow (.int q) (.int q n) es i=some ((vss.findIdx? (fun vs=>decide ([n]=vs))).bind fun j=>(es[j]?).map fun e=>(i+j,e.val)):=by
    intro es
    induction es with
    | nil=>
     intro vss i hes
     cases vss with
     | nil=>simp[Instr.findNow]
     | cons _ _=>exact hes.elim
    | cons e es ih=>
     intro vss i hes
     cases vss with
     | nil=>exact hes.elim
     | cons vs vss=>
      obtain ⟨⟨he,hvl⟩,hes⟩:=hes
      match vs,hvl with
      | [m],_=>
       have he':e.key= .int q m:=he
       simp only[Instr.findNow,he',Instr.sameNow,if_true]
       by_cases hc:n=m
       ·simp[hc,Xm]
       ·have hb:(n==m)=false:=by simpa using hc
        simp only[hb,ih vss (i+1) hes,Xm]
        have hd:decide ([n]=[m])=false:=by simpa using hc
        simp only[hd,Y6,if_false]
        cases vss.findIdx? (fun vs=>decide ([n]=vs))with
        | none=>simp
        | some j=>simp[Nat.add_comm,Nat.add_left_comm,X9]
   have hn:=hnow es vss 0 hes
   simp only[Xn]at hn
   simp only[Instr.findKey,Yr,Z7 hq,Yl,keyV,hn,Sem.run_pure]
end
theorem All2.unmap'{α β γ:Type}{R:β→γ→Prop}{f:α→β}:∀{l:List α} {m:List γ},All2 R (l.map f) m→All2 (fun a c=>R (f a) c) l m
 | [],[],_=>trivial
 | _::_,_::_,k=>⟨k.1,All2.unmap' k.2⟩
 | [],_::_,k=>k.elim
 | _::_,[],k=>k.elim
theorem All2.map'{α β γ:Type}{R:β→γ→Prop}{f:α→β}:∀{l:List α} {m:List γ},All2 (fun a c=>R (f a) c) l m→All2 R (l.map f) m
 | [],[],_=>trivial
 | _::_,_::_,k=>⟨k.1,All2.map' k.2⟩
 | [],_::_,k=>k.elim
 | _::_,[],k=>k.elim
theorem Whf{w:World}{bad:Nat→Prop}:∀{ks:List IntKind} {l:List PV} {vs:List Value} {us:List Int},All2 (PRel w bad) l vs→W2f ks (l.map .p)=some us→vs=W0v ks us∧us.length=ks.length
 | [],[],[],us,_,h=>by cases h; exact ⟨rfl,rfl⟩
 | [],[],_::_,us,h,_=>h.elim
 | k::ks,[],vs,us,_,h=>by cases h
 | [],x::l,vs,us,_,h=>by simp[W2f]at h
 | k::ks,x::l,[],us,h,_=>h.elim
 | k::ks,x::l,v::vs,us,hv,h=>by
  cases x with
  | sl sz r=>simp[W2f]at h
  | v x=>
   cases x<;>simp only[Zh,W2f,reduceCtorEq]at h
   rename_i k' n
   split at h
   ·rename_i hk
    subst hk
    obtain ⟨us',h',rfl⟩:=Z1.1 h
    obtain ⟨e1,e2⟩:=Whf hv.2 h'
    have:v= .int k n:=by cases hv.1; rfl
    exact ⟨by rw[this,e1]; rfl,by simp[e2]⟩
   ·cases h
theorem Wbm{w:World}{bad:Nat→Prop}{kk:Bool×List IntKind}{pk:PW}{u:Value}{us:List Int}(h:WRel w bad pk u)(hk:W27 kk pk=some us):u=keyV kk us∧us.length=kk.2.length:=by
 obtain ⟨b,ks⟩:=kk
 unfold W27 at hk
 split at hk
 ·split at hk
  ·rename_i l hb
   simp only at hb
   subst hb
   obtain ⟨vs,rfl,hv⟩:=h
   obtain ⟨rfl,e⟩:=Whf hv hk
   exact ⟨rfl,e⟩
  ·cases hk
 ·split at hk
  ·rename_i k n hb
   cases hk
   cases hb
   have:u= .int k n:=by cases h; rfl
   exact ⟨this,rfl⟩
  ·cases hk
 ·cases hk
theorem Wmd{w:World}{env:Env}{bad:Nat→Prop}{v:AV}{pk:PW}{u:Value}(h:VRel w env bad v u)(hp:avPW v=some pk):WRel w bad pk u:=by
 cases h with
 | @c x u h=>
  cases x<;>simp only[avPW,reduceCtorEq]at hp
  cases hp
  exact h
 | @agg l vs h hk=>
  simp only[avPW]at hp
  obtain ⟨ps,hps,rfl⟩:=Z1.1 hp
  refine ⟨vs,rfl,?_⟩
  rw[W7d hps]at h
  exact All2.unmap' (R:=CRel w env bad) (f:=AC.p) h
 | tup=>simp[avPW]at hp
theorem V1b{w:World}{env:Env}{bad:Nat→Prop}{p:PW}{u:Value}(h:WRel w bad p u):VRel w env bad (pwAV p) u:=by
 obtain ⟨b,l⟩:=p
 cases b with
 | true=>
  obtain ⟨vs,rfl,hv⟩:=h
  exact .agg (All2.map' (R:=CRel w env bad) (f:=AC.p) hv) (by simp[AC.known])
 | false=>
  match l,h with
  | [x],h=>exact .c h
theorem W5f{kk:Bool×List IntKind}{l l':List (PW×PW)}(h:l.Perm l')(k:Wa8 kk l):Wa8 kk l':=
 ⟨fun p hp=>k.1 p (h.mem_iff.2 hp),(h.pairwise_iff (fun {_ _} hne e=>hne e.symm)).1 k.2⟩
theorem Wjv{kk:Bool×List IntKind}{us:List Int}{l l':List (PW×PW)}(h:l.Perm l')(k:Wa8 kk l):W79 kk us l=W79 kk us l':=by
 induction h with
 | nil=>rfl
 | cons x _ ih=>
  have:=ih ⟨fun p hp=>k.1 p (by simp[hp]),(X8.1 k.2).2⟩
  unfold W79 at this ⊢
  simp only[List.find?_cons]
  split
  ·rfl
  ·exact this
 | swap x y l=>
  unfold W79
  simp only[List.find?_cons]
  cases hx:kEq kk us x<;>cases hy:kEq kk us y<;>simp only[]
  have hne:=(X8.1 k.2).1 x (by simp)
  simp only[kEq,Zf]at hx hy
  exact absurd (hy.trans hx.symm) hne
 | trans h1 _ ih1 ih2=>exact (ih1 k).trans (ih2 (W5f h1 k))
theorem Wjw{kk:Bool×List IntKind}{us:List Int}{a b:PW}{l l':List (PW×PW)}(h:l.Perm l'):(W7a kk us a b l).Perm (W7a kk us a b l'):=by
 unfold W7a
 have:l.any (kEq kk us)=l'.any (kEq kk us):=by
  rw[Bool.eq_iff_iff,Xx,Xx]
  exact ⟨fun ⟨x,hx,e⟩=>⟨x,h.mem_iff.1 hx,e⟩,fun ⟨x,hx,e⟩=>⟨x,h.mem_iff.2 hx,e⟩⟩
 rw[this]
 split
 ·exact h.map _
 ·exact h.append_right _
def Wd2(w:World)(bad:Nat→Prop)(p:PW×PW)(e:MapEntry):Prop:=WRel w bad p.1 e.key∧WRel w bad p.2 e.val
theorem Wbn{w:World}{bad:Nat→Prop}{kk:Bool×List IntKind}{us:List Int}:∀{l:List (PW×PW)} {es:List MapEntry},All2 (Wd2 w bad) l es→(∀p∈l,(W27 kk p.1).isSome=true)→
  ∃vss:List (List Int),All2 (fun (vs:List Int) (e:MapEntry)=>e.key=keyV kk vs∧vs.length=kk.2.length) vss es∧
   ((l.find? (kEq kk us)=none∧vss.findIdx? (fun vs=>decide (us=vs))=none)∨∃(i:Nat) (p:PW×PW) (e:MapEntry),l.find? (kEq kk us)=some p∧vss.findIdx? (fun vs=>decide (us=vs))=some i∧l[i]?=some p∧es[i]?=some e∧Wd2 w bad p e∧kEq kk us p=true∧e.key=keyV kk us)
 | [],[],_,_=>⟨[],trivial,.inl ⟨rfl,rfl⟩⟩
 | [],_::_,h,_=>h.elim
 | _::_,[],h,_=>h.elim
 | p::l,e::es,h,hk=>by
  obtain ⟨vss,h1,h2⟩:=Wbn (us:=us) h.2 fun q hq=>hk q (by simp[hq])
  obtain ⟨vs,hvs⟩:=Xd.1 (hk p (by simp))
  obtain ⟨e1,e2⟩:=Wbm h.1.1 hvs
  refine ⟨vs::vss,⟨⟨e1,e2⟩,h1⟩,?_⟩
  by_cases hc:us=vs
  ·subst hc
   have hkq:kEq kk us p=true:=by simp[kEq,hvs]
   exact .inr ⟨0,p,e,by simp[List.find?_cons,hkq],by simp[Xm],rfl,rfl,h.1,hkq,e1⟩
  ·have hkq:kEq kk us p=false:=by
    simp only[kEq,Xr,hvs,Yp]
    exact fun e=>hc e.symm
   rcases h2 with ⟨a,b⟩ | ⟨i,q,e',a,b,c,d,f,g,k⟩
   ·exact .inl ⟨by simp[List.find?_cons,hkq,a],by simp[Xm,hc,b]⟩
   ·exact .inr ⟨i+1,q,e',by simp[List.find?_cons,hkq,a],by simp[Xm,hc,b],by simpa using c,by simpa using d,f,g,k⟩
section
variable {P:Program} {w0 w w':World} {env0 env:Env} {bad0:Bs} {fps:List Nat} {base:Nat→Prop} {N:Nat} {s:St} {a:Act} {o:Oper}
 {next:Act→World→Prop} {nx:Act→Prop} {Q:Exit→Act→World→Prop} {K:St→Prop}
theorem Wd3(hR:R P w0 env0 bad0 fps base N s a w)(hd:∀n,o.dst=some n→n<N)(hK:∀s' a' w',K s'→R P w0 env0 bad0 fps base N s' a' w'→next a' w')
  {v:AV} {r:Reg} (h:∀env,env.n=s.regs.length→(∀n,VRel w env (W04 base env s.regs) (lk s.slots n) (a.tmps.getD n undef))→RS P w0 w fps base env s.regs→
   ∃u ob c,(execOp a.eval o).run P w= .ok (.value u) (w.alloc ob)∧
    (∀bad',Ev w env (W04 base env s.regs) (w.alloc ob) (env.push (some (w.heap.size,c))) bad'→RRel P (w.alloc ob) (env.push (some (w.heap.size,c))) bad' env.n r)∧
    (∀bad',VRel (w.alloc ob) (env.push (some (w.heap.size,c))) bad' v u))
  (hk:K (s.putr o.dst v (s.regs++[r]))):o.wp P a w next Q:=by
 obtain ⟨⟨env,hrs,hsl,hev⟩,hsz,hdf⟩:=hR
 obtain ⟨u,ob,c,hr,h1,h2⟩:=h env hrs.len hsl hrs
 obtain ⟨hrs',hev'⟩:=hrs.alloc (r:=r) (c:=c) rfl h1
 exact W1p hr (hK _ _ _ hk (R.put' hsz hdf hsl hev hrs' hev' hd (h2 _)))
theorem Wfe{t k e:TypeId}(ho:o.op= .makeMap t none)(ht:P.underlying t=some (.map k e))(hd:∀n,o.dst=some n→n<N)
  (h:opW P (.x o.dst .mkmap []) s K) (hR:R P w0 env0 bad0 fps base N s a w) (hK:∀s' a' w',K s'→R P w0 env0 bad0 fps base N s' a' w'→next a' w'):o.wp P a w next Q:=by
 refine Wd3 hR hd hK (fun env hn hsl hrs=>⟨.map (some w.heap.size),.map #[] 0,0,?_,fun bad' hev=> ?_,fun bad'=> ?_⟩) h
 ·simp[execOp,ho,Instr.makeMap]
 ·exact ⟨w.heap.size,0,Env.push_at _ _,#[],0,[],Xi w _,List.Perm.refl _,trivial⟩
 ·exact .c ⟨by simp[Env.push,hn],_,0,by rw[←hn,Env.push_at],rfl⟩
theorem Wjx{t e:TypeId}{d:ChanDir}{i:TypeInfo}{x:Operand}{ax:AX}(ho:o.op= .makeChan t x)(ht:P.underlying t=some (.chan d e))(hi:P.info? e=some i)(hx:trX x=some ax)(hd:∀n,o.dst=some n→n<N)
  (h:opW P (.x o.dst (.mkch i.bytes) [ax]) s K) (hR:R P w0 env0 bad0 fps base N s a w) (hK:∀s' a' w',K s'→R P w0 env0 bad0 fps base N s' a' w'→next a' w'):o.wp P a w next Q:=by
 simp only[opW,Zh,Y9,xW]at h
 split at h
 ·rename_i k n hn
  obtain ⟨h0,h1,h2,h⟩:=h
  refine Wd3 hR hd hK (fun env hn' hsl hrs=>⟨.chan (some w.heap.size),.chan n.toNat #[] false 0 0 false,0,?_,fun bad' hev=> ?_,fun bad'=> ?_⟩) h
  ·have e:=W39 (W05 hsl hx) hn
   have hmax:IntKind.i64.max=9223372036854775807:=by decide
   have c1:¬n<0:=by omega
   have c2:¬(281474976710544:Int)<i.bytes*n:=by omega
   simp[execOp,ho,Instr.makeChan,e,asInt,asIntOf,Z7 ht,typeInfo,hi,hmax,c1,c2,show ¬(9223372036854775807:Int)<n by omega]
  ·exact ⟨w.heap.size,0,Env.push_at _ _,#[],0,0,Xi w _,trivial⟩
  ·exact .c ⟨by simp[Env.push,hn'],_,0,by rw[←hn',Env.push_at],rfl⟩
 ·exact h.elim
theorem Wme{g cap sn rc:Nat}{buf:Array Value}{cl tm:Bool}(h:w.heap[g]?=some (.chan cap buf cl sn rc tm)):(getObj g).run P w= .ok (.chan cap buf cl sn rc tm) w:=by simp[getObj,Sem.run,h]
theorem W5z{g cl:Nat}{es:Array MapEntry}(h:w.heap[g]?=some (.map es cl)):(getObj g).run P w= .ok (.map es cl) w:=by simp[getObj,Sem.run,h]
theorem W60{bad:Nat→Prop}{k:HK}{id:Nat}{u:Value}(h:VRel w env bad (.c (.hnd k id)) u):∃g c,env.f id=some (g,c)∧u=hndV k g:=(c_of h).2
theorem Wff{x:Operand}{ax:AX}{tt:TypeId}{d:ChanDir}{e:TypeId}(ho:o.op= .call {callee:= .builtin .len,args:= #[x],argTypes:= #[tt]})(ht:P.underlying tt=some (.chan d e))(hx:trX x=some ax)(hd:∀n,o.dst=some n→n<N)
  (h:opW P (.x o.dst .chlen [ax]) s K) (hR:R P w0 env0 bad0 fps base N s a w) (hK:∀s' a',K s'→R P w0 env0 bad0 fps base N s' a' w→nx a'):o.pureWp P a w nx:=by
 simp only[opW,Zh,Y9]at h
 generalize hv:s.ev ax=v at h
 have hev:=fun {env:Env} {bad:Nat→Prop} (hsl:∀n,VRel w env bad (lk s.slots n) (a.tmps.getD n undef))=>hv▸W05 hsl hx
 unfold xW at h
 split at h<;>first
  | exact h.elim
  | (rename_i e1 e2; cases e1; done)
  | skip
 ·rename_i id e1 e2
  cases e2
  split at h
  ·rename_i cap q hr
   refine W0t hR hd hK (fun env hsl hrs=> ?_) h
   obtain ⟨g,c,he,e⟩:=W60 (hev hsl)
   obtain ⟨g',c',he',buf,sn,rc,hg,hq⟩:=hrs.reg id _ hr
   rw[he]at he'
   cases he'
   have hlen:q.length=buf.size:=by simpa using hq.len
   exact ⟨.int .i64 q.length,by simp[execOp,ho,e,hndV,resolve,invoke,builtin,Builtin.len_,Z7 ht,goInt,Wme hg,hlen],W25 rfl⟩
  ·exact h.elim
 ·rename_i e1 e2
  cases e2
  refine W0t hR hd hK (fun env hsl hrs=> ?_) h
  have e:=(W1w (hev hsl) (x:= .chan none) rfl).1
  exact ⟨.int .i64 0,by simp[execOp,ho,e,resolve,invoke,builtin,Builtin.len_,Z7 ht,goInt],W25 rfl⟩
theorem Wjy{t:TypeId}{x:Operand}{lo hi:Option Operand}{ax:AX}{alo ahi:Option AX}(ho:o.op= .slice t x lo hi none)(ht:P.underlying t=some .string)(hx:trX x=some ax)(hlo:trO lo=some alo)(hhi:trO hi=some ahi)(hd:∀n,o.dst=some n→n<N)
  (h:opW P (.x o.dst (.subs alo.isSome ahi.isSome) (ax::(alo.toList++ahi.toList))) s K) (hR:R P w0 env0 bad0 fps base N s a w) (hK:∀s' a',K s'→R P w0 env0 bad0 fps base N s' a' w→nx a'):o.pureWp P a w nx:=by
 have key:Wsa alo.isSome ahi.isSome ((alo.toList++ahi.toList).map s.ev)=some (alo.map s.ev,ahi.map s.ev):=by cases alo<;>cases ahi<;>rfl
 have h':(match W33 (s.ev ax),Wsa alo.isSome ahi.isSome ((alo.toList++ahi.toList).map s.ev)with
  | some (.string b),some (lo,hi)=>match W17 lo 0,W17 hi b.size with
   | some l,some h=>0≤l∧l≤h∧h≤b.size∧K (s.putr o.dst (.c (.p (.v (.string (b.extract l.toNat h.toNat))))) s.regs)
   | _,_=>False
  | _,_=>False):=h
 rw[key]at h'
 clear h
 have hone:∀{env:Env} {bad:Nat→Prop} {q:Int} {n:Nat} {x:Option Operand} {ax:Option AX},(∀n,VRel w env bad (lk s.slots n) (a.tmps.getD n undef))→trO x=some ax→W17 (ax.map s.ev) n=some q→0≤q→
   (x.map a.eval=none∧q.toNat=n)∨∃k,x.map a.eval=some (.int k (q.toNat:Int)):=by
  intro env bad q n x ax hsl h1 h2 h0
  rcases Wm0 hsl h1 h2 with ⟨rfl,e⟩ | ⟨y,k,rfl,e⟩
  ·exact .inl ⟨rfl,by omega⟩
  ·exact .inr ⟨k,by rw[Yi,e,Int.toNat_of_nonneg h0]⟩
 split at h'
 ·rename_i b alo' ahi' e1 e2
  cases e2
  split at h'
  ·rename_i l h e3 e4
   obtain ⟨h0,h1,h2,hk⟩:=h'
   refine W0t hR hd hK (fun env hsl _=> ?_) hk
   have hv:=(W1w (W05 hsl hx) e1).1
   have hbr:=W2g (P:=P) (b:=false) (len:=b.size) (cap:=b.size) (p:=l.toNat) (q:=h.toNat) (by omega) (by omega) (hone hsl hlo e3 h0) (hone hsl hhi e4 (by omega)) w
   exact ⟨.string (b.extract l.toNat h.toNat),by simp[execOp,ho,hv,Instr.sliceAt,Instr.slice,Z7 ht,hbr],W25 rfl⟩
  ·exact h'.elim
 ·exact h'.elim
theorem Wfg{x:Operand}{ax:AX}{tt:TypeId}{d:ChanDir}{e:TypeId}(ho:o.op= .call {callee:= .builtin .cap,args:= #[x],argTypes:= #[tt]})(ht:P.underlying tt=some (.chan d e))(hx:trX x=some ax)(hd:∀n,o.dst=some n→n<N)
  (h:opW P (.x o.dst .chcap [ax]) s K) (hR:R P w0 env0 bad0 fps base N s a w) (hK:∀s' a',K s'→R P w0 env0 bad0 fps base N s' a' w→nx a'):o.pureWp P a w nx:=by
 simp only[opW,Zh,Y9]at h
 generalize hv:s.ev ax=v at h
 have hev:=fun {env:Env} {bad:Nat→Prop} (hsl:∀n,VRel w env bad (lk s.slots n) (a.tmps.getD n undef))=>hv▸W05 hsl hx
 unfold xW at h
 split at h<;>first
  | exact h.elim
  | (rename_i e1 e2; cases e1; done)
  | skip
 ·rename_i id e1 e2
  cases e2
  split at h
  ·rename_i cap q hr
   refine W0t hR hd hK (fun env hsl hrs=> ?_) h
   obtain ⟨g,c,he,e⟩:=W60 (hev hsl)
   obtain ⟨g',c',he',buf,sn,rc,hg,hq⟩:=hrs.reg id _ hr
   rw[he]at he'
   cases he'
   exact ⟨.int .i64 cap,by simp[execOp,ho,e,hndV,resolve,invoke,builtin,Builtin.cap_,Z7 ht,goInt,Wme hg],W25 rfl⟩
  ·exact h.elim
 ·rename_i e1 e2
  cases e2
  refine W0t hR hd hK (fun env hsl hrs=> ?_) h
  have e:=(W1w (hev hsl) (x:= .chan none) rfl).1
  exact ⟨.int .i64 0,by simp[execOp,ho,e,resolve,invoke,builtin,Builtin.cap_,Z7 ht,goInt],W25 rfl⟩
theorem Wjz{x:Operand}{ax:AX}{tt:TypeId}{kt e:TypeId}(ho:o.op= .call {callee:= .builtin .len,args:= #[x],argTypes:= #[tt]})(ht:P.underlying tt=some (.map kt e))(hx:trX x=some ax)(hd:∀n,o.dst=some n→n<N)
  (h:opW P (.x o.dst .mlen [ax]) s K) (hR:R P w0 env0 bad0 fps base N s a w) (hK:∀s' a',K s'→R P w0 env0 bad0 fps base N s' a' w→nx a'):o.pureWp P a w nx:=by
 simp only[opW,Zh,Y9]at h
 generalize hv:s.ev ax=v at h
 have hev:=fun {env:Env} {bad:Nat→Prop} (hsl:∀n,VRel w env bad (lk s.slots n) (a.tmps.getD n undef))=>hv▸W05 hsl hx
 unfold xW at h
 split at h<;>first
  | exact h.elim
  | (rename_i e1 e2; cases e1; done)
  | skip
 ·rename_i id e1 e2
  cases e2
  split at h
  ·rename_i l hr
   refine W0t hR hd hK (fun env hsl hrs=> ?_) h
   obtain ⟨g,c,he,e⟩:=W60 (hev hsl)
   obtain ⟨g',c',he',es,clock,l',hg,hp,hl⟩:=hrs.reg id _ hr
   rw[he]at he'
   cases he'
   have hlen:l.length=es.size:=by rw[←hp.length_eq]; simpa using hl.len
   exact ⟨.int .i64 l.length,by simp[execOp,ho,e,hndV,resolve,invoke,builtin,Builtin.len_,Z7 ht,goInt,W5z hg,hlen],W25 rfl⟩
  ·exact h.elim
 ·rename_i e1 e2
  cases e2
  refine W0t hR hd hK (fun env hsl hrs=> ?_) h
  have e:=(W1w (hev hsl) (x:= .map none) rfl).1
  exact ⟨.int .i64 0,by simp[execOp,ho,e,resolve,invoke,builtin,Builtin.len_,Z7 ht,goInt],W25 rfl⟩
theorem Wk0{x y:Operand}{ax ay:AX}{tt kt e:TypeId}{kk:Bool×List IntKind}{z:PW}{ok:Bool}{i:TypeInfo}{zv:Value}(ho:o.op= .lookup tt x y ok)(ht:P.underlying tt=some (.map kt e))(hkt:W6m P kt kk)(hi:P.info? e=some i)(hzv:i.zero=some zv)
  (hz:∀(w:World) (bad:Nat→Prop),WRel w bad z zv) (hx:trX x=some ax) (hy:trX y=some ay) (hd:∀n,o.dst=some n→n<N)
  (h:opW P (.x o.dst (.look kk z ok) [ax,ay]) s K) (hR:R P w0 env0 bad0 fps base N s a w) (hK:∀s' a',K s'→R P w0 env0 bad0 fps base N s' a' w→nx a'):o.pureWp P a w nx:=by
 simp only[opW,Zh,Y9,xW]at h
 have hpair:∀{env:Env} {bad:Nat→Prop} {p:PW} {v:Value} (b:Bool),WRel w bad p v→VRel w env bad (if ok then .tup [pwAV p,.c (.p (.v (.bool b)))]else pwAV p) (if ok then .tuple #[v,.bool b]else v):=by
  intro env bad p v b hp
  cases ok with
  | false=>exact V1b hp
  | true=>
   refine .tup (vs:=[v,.bool b]) rfl fun j h1 h2=> ?_
   match j,h1 with
   | 0,_=>exact V1b hp
   | 1,_=>exact W25 rfl
 split at h
 ·rename_i us hk hm
  refine W0t hR hd hK (fun env hsl hrs=> ?_) h
  obtain ⟨pk,hpk,hus⟩:=Z0.1 hk
  obtain ⟨e1,e2⟩:=Wbm (Wmd (W05 hsl hy) hpk) hus
  have em:=(W1w (W05 hsl hx) (x:= .map none) (by rw[hm]; rfl)).1
  have hc:=W85 hkt true w e2
  have hf:=Wbl hkt w e2 [] [] trivial
  refine ⟨_,?_,hpair false (hz w _)⟩
  simp[execOp,ho,em,e1,Instr.lookup,Z7 ht,hc,hf,zeroValue,typeInfo,hi,hzv]
 ·rename_i us id hk hm
  split at h
  ·rename_i l hr
   obtain ⟨hko,h⟩:=h
   have hgen:∀(env:Env),(∀n,VRel w env (W04 base env s.regs) (lk s.slots n) (a.tmps.getD n undef))→RS P w0 w fps base env s.regs→
     ∃u,(execOp a.eval o).run P w= .ok (.value u) w∧VRel w env (W04 base env s.regs) (match W79 kk us l with | some v=>if ok then .tup [pwAV v,.c (.p (.v (.bool true)))]else pwAV v | none=>if ok then .tup [pwAV z,.c (.p (.v (.bool false)))]else pwAV z) u:=by
    intro env hsl hrs
    obtain ⟨pk,hpk,hus⟩:=Z0.1 hk
    obtain ⟨e1,e2⟩:=Wbm (Wmd (W05 hsl hy) hpk) hus
    obtain ⟨g,c,he,em⟩:=W60 (hm▸W05 hsl hx)
    obtain ⟨g',c',he',es,clock,l',hg,hp,hl⟩:=hrs.reg id _ hr
    rw[he]at he'
    cases he'
    have hko':=W5f hp.symm hko
    have hget:W79 kk us l=W79 kk us l':=Wjv hp.symm hko
    have hl':All2 (Wd2 w (W04 base env s.regs)) l' es.toList:=hl
    obtain ⟨vss,hv1,hv2⟩:=Wbn (us:=us) hl' hko'.1
    have hc:=W85 hkt es.isEmpty w e2
    have hf:=Wbl hkt w e2 es.toList vss hv1
    rw[hget]
    unfold W79
    rcases hv2 with ⟨a1,a2⟩ | ⟨j,p,en,a1,a2,a3,a4,a5,a6,a7⟩
    ·rw[a1]
     rw[a2]at hf
     refine ⟨_,?_,hpair false (hz w _)⟩
     simp[execOp,ho,em,hndV,e1,Instr.lookup,Z7 ht,W5z hg,hc,hf,zeroValue,typeInfo,hi,hzv]
    ·rw[a1]
     rw[a2]at hf
     simp only[Zn,a4,Yi]at hf
     refine ⟨_,?_,hpair true a5.2⟩
     simp[execOp,ho,em,hndV,e1,Instr.lookup,Z7 ht,W5z hg,hc,hf]
   split at h
   ·rename_i v hmg
    refine W0t hR hd hK (fun env hsl hrs=> ?_) h
    have:=hgen env hsl hrs
    rw[hmg]at this
    exact this
   ·rename_i hmg
    refine W0t hR hd hK (fun env hsl hrs=> ?_) h
    have:=hgen env hsl hrs
    rw[hmg]at this
    exact this
  ·exact h.elim
 ·exact h.elim
theorem Wd4(n:Nat):∀(ks:List IntKind) (us:List Int),((W0v ks us).zip (W0v ks us)).all (fun (x,y)=>Instr.sameBits n x y)=true
 | [],us=>by simp[W0v]
 | k::ks,[]=>by simp[W0v]
 | k::ks,u::us=>by
  have:=Wd4 n ks us
  simp only[W0v,List.zipWith_cons_cons,List.zip_cons_cons,Y2,Z4]at this ⊢
  refine ⟨?_,this⟩
  unfold Instr.sameBits
  simp
theorem Wmf{kk:Bool×List IntKind}{us:List Int}(hl:us.length=kk.2.length)(hk:kk.1=true∨∃q,kk=(false,[q])):(Instr.keyThatStays (keyV kk us) (keyV kk us)).run P w= .ok (keyV kk us) w:=by
 have hb:∀n,Instr.sameBits (n+1) (keyV kk us) (keyV kk us)=true:=by
  intro n
  obtain ⟨b,ks⟩:=kk
  rcases hk with h | ⟨q,h⟩
  ·simp only at h
   subst h
   simp only[keyV]
   unfold Instr.sameBits
   simp only[beq_self_eq_true,Xp]
   exact Wd4 n ks us
  ·cases h
   match us,hl with
   | [m],_=>simp[keyV,Instr.sameBits]
 have:=hb 9999
 simp[Instr.keyThatStays,this]
theorem Wmg{x y z:Operand}{ax ay az:AX}{tt kt e:TypeId}{kk:Bool×List IntKind}(ho:o.op= .mapUpdate tt x y z)(ht:P.underlying tt=some (.map kt e))(hkt:W6m P kt kk)(hx:trX x=some ax)(hy:trX y=some ay)(hz:trX z=some az)(hdn:o.dst=none)
  (h:opW P (.x none (.upd kk) [ax,ay,az]) s K) (hR:R P w0 env0 bad0 fps base N s a w) (hK:∀s' a' w',K s'→R P w0 env0 bad0 fps base N s' a' w'→next a' w'):o.wp P a w next Q:=by
 obtain ⟨⟨env,hrs,hsl,hev⟩,hsz,hdf⟩:=hR
 have hput:∀u,a.put o.dst u=a:=fun u=>by rw[hdn]; rfl
 simp only[opW,Zh,Y9,xW]at h
 split at h
 ·rename_i id pk pv hm hpk hpv
  split at h
  ·rename_i l us hr hus
   obtain ⟨hko,h⟩:=h
   obtain ⟨e1,e2⟩:=Wbm (Wmd (W05 hsl hy) hpk) hus
   have hwk:WRel w (W04 base env s.regs) pk (a.eval y):=Wmd (W05 hsl hy) hpk
   have hwv:WRel w (W04 base env s.regs) pv (a.eval z):=Wmd (W05 hsl hz) hpv
   obtain ⟨g,c,he,em⟩:=W60 (hm▸W05 hsl hx)
   obtain ⟨g',c',he',es,clock,l',hg,hp,hl⟩:=hrs.reg id _ hr
   rw[he]at he'
   cases he'
   have hko':=W5f hp.symm hko
   have hl':All2 (Wd2 w (W04 base env s.regs)) l' es.toList:=hl
   obtain ⟨vss,hv1,hv2⟩:=Wbn (us:=us) hl' hko'.1
   have hc:=W85 hkt false w e2
   have hf:=Wbl hkt w e2 es.toList vss hv1
   have hst:=Wmf (P:=P) (w:=w) e2 (by rcases W84 hkt with h | ⟨q,h,_⟩; exact .inl h.1; exact .inr ⟨q,h⟩)
   have hgl:g<w.heap.size:=by
    rcases Ys g w.heap.size with h | h
    ·exact h
    ·rw[Xj h]at hg; cases hg
   have hfin:∀(es':Array MapEntry) (clock':Nat),(execOp a.eval o).run P w= .ok .skip {w with heap:=w.heap.setIfInBounds g (.map es' clock')}→
     All2 (Wd2 w (W04 base env s.regs)) (W7a kk us pk pv l') es'.toList→o.wp P a w next Q:=by
    intro es' clock' hrun hal
    obtain ⟨hrs',hev'⟩:=hrs.turn (w':={w with heap:=w.heap.setIfInBounds g (.map es' clock')}) (r':= .ob (.mp (W7a kk us pk pv l))) hr rfl he rfl rfl rfl (by simp) (fun b hb=>by simp[X7 (Ne.symm hb)]) rfl (fun hev'=>
     ⟨g,c,he,es',clock',W7a kk us pk pv l',by simp[hgl],Wjw hp,hal.imp fun _ _ h=>⟨WRel.imp (fun _ _ r=>PRel.ev hev' r) h.1,WRel.imp (fun _ _ r=>PRel.ev hev' r) h.2⟩⟩)
    refine W7b hrun ?_
    rw[hput]
    exact hK _ _ _ h ⟨⟨env,hrs',fun n=>(hsl n).ev hev',hev.trans hev'⟩,hsz,hdf⟩
   have hany:∀{b:Bool},l'.any (kEq kk us)=b→W7a kk us pk pv l'=if b=true then l'.map (fun p=>if kEq kk us p=true then (pk,pv)else p)else l'++[(pk,pv)]:=fun h=>by unfold W7a; rw[h]
   rcases hv2 with ⟨a1,a2⟩ | ⟨j,p,en,a1,a2,a3,a4,a5,a6,a7⟩
   ·rw[a2]at hf
    refine hfin (es.push {key:=a.eval y,val:=a.eval z,born:=clock}) (clock+1) ?_ ?_
    ·rw[←e1]at hc hf
     simp[execOp,ho,em,hndV,Instr.mapUpdate,Z7 ht,W5z hg,hc,hf,setObj,Sem.run,hg]
    ·rw[hany (b:=false) (by rw[Bool.eq_false_iff]; intro h; obtain ⟨q,hq,hqe⟩:=Xx.1 h; exact absurd hqe (by rw[List.find?_eq_none]at a1; exact a1 q hq))]
     simp only[Y6,if_false,Array.toList_push]
     exact hl'.append ⟨⟨hwk,hwv⟩,trivial⟩
   ·rw[a2]at hf
    simp only[Zn,a4,Yi]at hf
    have ha4:es[j]?=some en:=by simpa using a4
    refine hfin (es.modify j fun e=>{e with key:=a.eval y,val:=a.eval z}) clock ?_ ?_
    ·rw[←e1]at hc hf hst a7
     simp[execOp,ho,em,hndV,Instr.mapUpdate,Z7 ht,W5z hg,hc,hf,ha4,a7,hst,setObj,Sem.run,hg]
    ·rw[hany (b:=true) (Xx.2 ⟨p,Zi a3,a6⟩)]
     simp only[if_true]
     have hlen:l'.length=es.size:=by simpa using hl'.len
     refine All2.of_get (by simp[hlen]) fun i h1 h2=> ?_
     have hi1:i<l'.length:=by simpa using h1
     have hi2:i<es.size:=by omega
     rw[Zu]
     have hget:(es.modify j fun e=>{e with key:=a.eval y,val:=a.eval z}).toList[i]=if j=i then {es[i]with key:=a.eval y,val:=a.eval z}else es[i]:=by
      rw[Array.getElem_toList,Array.getElem_modify]
     rw[hget]
     obtain ⟨hjl,hpj⟩:=Z3.1 a3
     by_cases hij:j=i
     ·subst hij
      rw[if_pos rfl,hpj,if_pos a6]
      exact ⟨hwk,hwv⟩
     ·rw[if_neg hij]
      have hne:kEq kk us l'[i]=false:=by
       rw[Bool.eq_false_iff]
       intro hk
       simp only[kEq,Zf]at hk a6
       have hpw:=hko'.2
       rw[List.pairwise_iff_getElem]at hpw
       rcases Ys i j with hlt | hge
       ·exact hpw i j hi1 hjl hlt (by rw[hk,hpj,a6])
       ·exact hpw j i hjl hi1 (by omega) (by rw[hk,hpj,a6])
      rw[hne]
      simp only[Y6,if_false]
      have:=hl'.get i hi1 (by simpa using hi2)
      simpa using this
  ·exact h.elim
 ·exact h.elim
def nilV:Nat→Value
 | 0=> .pointer none
 | 1=> .slice none 0 0
 | 2=> .map none
 | 3=> .chan none
 | _=> .nilFunc
def NilK(P:Program)(t:TypeId):Nat→Prop
 | 0=>∃e,P.underlying t=some (.pointer e)
 | 1=>∃e,P.underlying t=some (.slice e)
 | 2=>∃k e,P.underlying t=some (.map k e)
 | 3=>∃d e,P.underlying t=some (.chan d e)
 | 4=>∃a b c,P.underlying t=some (.func a b c)
 | _=>False
theorem Wx0{bad:Nat→Prop}{t:TypeId}{k:Nat}{v:AV}{u:Value}{b:Bool}(hk:NilK P t k)(hb:W4g k v=some b)(h:VRel w env bad v u)(w':World):(Op.equal t u (nilV k)).run P w'= .ok b w':=by
 have hd:∀d,(Op.equalIn (d+1) t u (nilV k)).run P w'= .ok b w':=by
  intro d
  unfold W4g at hb
  split at hb
  ·cases hb
   obtain ⟨e,he⟩:=hk
   obtain ⟨_,g,c,_,rfl⟩:=c_of h
   simp[Op.equalIn,nilV,Z7 he]
  ·cases hb
   obtain ⟨e,he⟩:=hk
   obtain ⟨_,g,c,_,rfl⟩:=c_of h
   simp[Op.equalIn,nilV,Z7 he]
  ·cases hb
   obtain ⟨e,he⟩:=hk
   obtain ⟨ad,rfl,_⟩:=c_of h
   simp[Op.equalIn,nilV,Z7 he]
  ·cases hb
   obtain ⟨e,he⟩:=hk
   have:=(W1w h (x:= .pointer none) rfl).1
   subst this
   simp[Op.equalIn,nilV,Z7 he]
  ·cases hb
   obtain ⟨e,he⟩:=hk
   have hp:PRel w bad _ u:=c_of h
   cases hp with
   | sl U hz hn hc hm hsz hA=>
    obtain ⟨ad,rfl,_⟩:=hA (by rw[hn]; simp)
    simp[Op.equalIn,nilV,Z7 he]
  ·cases hb
   obtain ⟨e,he⟩:=hk
   have hp:PRel w bad _ u:=(c_of h).1
   cases hp with
   | sl U hz hn hc hm hsz hA=>
    obtain ⟨ad,rfl,_⟩:=hA (by rw[hn]; simp)
    simp[Op.equalIn,nilV,Z7 he]
  ·cases hb
   obtain ⟨e,he⟩:=hk
   obtain ⟨_,hc⟩:=c_of h
   rcases hc with ⟨_,_,hl,_⟩ | ⟨g,c,kk,_,rfl,_⟩
   ·cases hl
   ·simp[Op.equalIn,nilV,Z7 he]
  ·cases hb
   obtain ⟨e,he⟩:=hk
   have:=(W1w h (x:= .slice none 0 0) rfl).1
   subst this
   simp[Op.equalIn,nilV,Z7 he]
  ·cases hb
   obtain ⟨k',e,he⟩:=hk
   obtain ⟨g,c,_,rfl⟩:=W60 h
   simp[Op.equalIn,nilV,hndV,Z7 he]
  ·cases hb
   obtain ⟨k',e,he⟩:=hk
   have:=(W1w h (x:= .map none) rfl).1
   subst this
   simp[Op.equalIn,nilV,Z7 he]
  ·cases hb
   obtain ⟨k',e,he⟩:=hk
   obtain ⟨g,c,_,rfl⟩:=W60 h
   simp[Op.equalIn,nilV,hndV,Z7 he]
  ·cases hb
   obtain ⟨k',e,he⟩:=hk
   have:=(W1w h (x:= .chan none) rfl).1
   subst this
   simp[Op.equalIn,nilV,Z7 he]
  ·cases hb
   obtain ⟨k1,k2,k3,he⟩:=hk
   obtain ⟨fs,cs,rfl,_⟩:=c_of h
   simp[Op.equalIn,nilV,Z7 he]
  ·cases hb
   obtain ⟨k1,k2,k3,he⟩:=hk
   have:=(W1w h (x:= .nilFunc) rfl).1
   subst this
   simp[Op.equalIn,nilV,Z7 he]
  ·cases hb
 exact hd 9999
theorem Wx1{bad:Nat→Prop}{t:TypeId}{v:AV}{u:Value}{k:Nat}(hk:NilK P t k)(hn:Wcv k v=true)(h:VRel w env bad v u):∃b,∀w':World,(Op.equal t u (nilV k)).run P w'= .ok b w':=by
 unfold Wcv at hn
 split at hn
 rotate_left
 ·obtain ⟨e,he⟩:=hk
  have hp:OwnV env _ _ _ _ _ u:=c_of h
  rcases hp.2 with ⟨_,_,_,rfl⟩ | ⟨g,c,k,_,rfl,_⟩
  ·refine ⟨true,fun w'=> ?_⟩
   have hd:∀d,(Op.equalIn (d+1) t (.slice none 0 0) (nilV 1)).run P w'= .ok true w':=by
    intro d
    simp[Op.equalIn,nilV,Z7 he]
   exact hd 9999
  ·refine ⟨false,fun w'=> ?_⟩
   have hd:∀d n l,(Op.equalIn (d+1) t (.slice (some ⟨g,n,none⟩) l k) (nilV 1)).run P w'= .ok false w':=by
    intro d n l
    simp[Op.equalIn,nilV,Z7 he]
   exact hd 9999 _ _
 ·cases hn
 obtain ⟨e,he⟩:=hk
 have hp:PRel w bad _ u:=c_of h
 cases hp with
 | @sl sz l A n c U hz hn hc hm hsz hA=>
  refine ⟨A.isNone,fun w'=> ?_⟩
  have hd:∀d,(Op.equalIn (d+1) t (.slice A n c) (nilV 1)).run P w'= .ok A.isNone w':=by
   intro d
   cases A<;>simp[Op.equalIn,nilV,Z7 he]
  exact hd 9999
theorem Wae{neg:Bool}{t u:TypeId}{x:Operand}{ax:AX}{k:Nat}(ho:o.op= .binOp (if neg then .neq else .eql) t x (.const (nilV k)) u)(hk:NilK P t k)(hx:trX x=some ax)(hd:∀n,o.dst=some n→n<N)
  (h:opW P (.x o.dst (.nilq k neg) [ax]) s K) (hR:R P w0 env0 bad0 fps base N s a w) (hK:∀s' a',K s'→R P w0 env0 bad0 fps base N s' a' w→nx a'):o.pureWp P a w nx:=by
 have key:∀b:Bool,(∀env:Env,(∀n,VRel w env (W04 base env s.regs) (lk s.slots n) (a.tmps.getD n undef))→(Op.equal t (a.eval x) (nilV k)).run P w= .ok b w)→K (s.putr o.dst (.c (.p (.v (.bool (if neg then !b else b))))) s.regs)→o.pureWp P a w nx:=by
  intro b hb h
  refine W0t hR hd hK (fun env hsl _=> ?_) h
  have hr:=hb env hsl
  have hg:∀op,(eqGuard op t x (.const (nilV k)) (a.eval x) (nilV k)).run P w= .ok () w:=by
   intro op
   match k,hk with
   | 0,_=>cases op<;>simp[eqGuard,nilV]
   | 1,_=>cases op<;>simp[eqGuard,nilV]
   | 2,_=>cases op<;>simp[eqGuard,nilV]
   | 3,_=>cases op<;>simp[eqGuard,nilV]
   | 4,_=>cases op<;>simp[eqGuard,nilV]
  have hbin:(binOp (if neg then .neq else .eql) t (a.eval x) (nilV k)).run P w= .ok (.bool (if neg then !b else b)) w:=by
   match k,hk,hr with
   | 0,_,hr=>cases neg<;>cases hax:a.eval x<;>simp_all[binOp,nilV]
   | 1,_,hr=>cases neg<;>cases hax:a.eval x<;>simp_all[binOp,nilV]
   | 2,_,hr=>cases neg<;>cases hax:a.eval x<;>simp_all[binOp,nilV]
   | 3,_,hr=>cases neg<;>cases hax:a.eval x<;>simp_all[binOp,nilV]
   | 4,_,hr=>cases neg<;>cases hax:a.eval x<;>simp_all[binOp,nilV]
  refine ⟨_,?_,W25 rfl⟩
  have hev:a.eval (.const (nilV k))=nilV k:=rfl
  simp only[execOp,ho,hev]
  rw[Yr]
  cases neg<;>simp_all
 simp only[opW,Zh,Y9,xW]at h
 split at h
 ·rename_i b hb
  exact key b (fun env hsl=>Wx0 hk hb (W05 hsl hx) w) h
 ·obtain ⟨hn,ht,hf⟩:=h
  obtain ⟨⟨env,hrs,hsl,hev⟩,hsz,hdf⟩:=hR
  obtain ⟨b,hb⟩:=Wx1 hk hn (W05 hsl hx)
  refine key b (fun env' hsl'=>hb w) ?_
  cases neg<;>cases b<;>assumption
theorem Wsd{α:Type}{l:List α}{i:Nat}{x:α}(h:l[i]?=some x):l.set i x=l:=by
 apply Yx
 intro j
 rw[Xc]
 by_cases e:i=j
 ·subst e
  rw[if_pos rfl,h]
  have:=(Z3.1 h).1
  simp[this]
 ·rw[if_neg e]
theorem Wmh{x:Operand}{ax:AX}{tt e:TypeId}{i:TypeInfo}{z:Value}(ho:o.op= .call {callee:= .builtin .clear,args:= #[x],argTypes:= #[tt]})(ht:P.underlying tt=some (.slice e))(hi:P.info? e=some i)(hz:i.zero=some z)(hf:z.cells.toList.all W2d=true)(hzs:z.cells.size=i.size)
  (hx:trX x=some ax) (hd:∀n,o.dst=some n→n<N)
  (h:opW P (.x o.dst (.clr i.size) [ax]) s K) (hR:R P w0 env0 bad0 fps base N s a w) (hK:∀s' a' w',K s'→R P w0 env0 bad0 fps base N s' a' w'→next a' w'):o.wp P a w next Q:=by
 obtain ⟨⟨env,hrs,hsl,hev⟩,hsz,hdf⟩:=hR
 simp only[opW,Zh,Y9,xW]at h
 have hval:=W05 hsl hx
 split at h
 ·rename_i sz' hb
  rw[hb]at hval
  have hp:PRel w _ (.sl sz' []) (a.eval x):=c_of hval
  obtain ⟨A,c,hu⟩:∃A c,a.eval x= .slice A 0 c:=by
   generalize a.eval x=u at hp
   cases hp with
   | @sl _ _ A n c U hz0 hn hc hm hsz2 hA=>
    have hn0:n=0:=by simpa using hn
    subst hn0
    exact ⟨A,c,rfl⟩
  have hrun:(execOp a.eval o).run P w= .ok (.value (.tuple #[])) w:=by
   cases A<;>simp[execOp,ho,hu,resolve,invoke,builtin,Builtin.clear_,Z7 ht]
  exact W1p hrun (hK _ _ _ h (R.put' hsz hdf hsl hev hrs (Ev.refl _ _ _) hd (.tup rfl fun i h1=>by simp at h1)))
 ·rename_i id off sz' len cap hb
  rw[hb]at hval
  split at h
  ·rename_i sz'' ls hr
   obtain ⟨rfl,rfl,hle,h⟩:=h
   obtain ⟨hidn,hown⟩:=c_of hval
   obtain ⟨z1,z2,z3⟩:=hrs.reg id _ hr
   rcases hown with ⟨h1,rfl,rfl,hv⟩ | ⟨g,c,k,h1,hv,hk,_⟩
   ·rcases z3 with ⟨_,rfl⟩ | ⟨g',c',cur,ty,h2,_⟩
    rotate_left
    ·rw[h1]at h2; cases h2
    have hrun:(execOp a.eval o).run P w= .ok (.value (.tuple #[])) w:=by
     simp[execOp,ho,hv,resolve,invoke,builtin,Builtin.clear_,Z7 ht]
    have hset:s.regs.set id (.pc i.size ([].take 0))=s.regs:=by
     rw[List.take_nil]
     exact Wsd hr
    rw[hset]at h
    exact W1p hrun (hK _ _ _ h (R.put' hsz hdf hsl hev hrs (Ev.refl _ _ _) hd (.tup rfl fun i h1=>by simp at h1)))
   ·rcases z3 with ⟨h2,_⟩ | ⟨g',c',cur,ty,h2,hg,q1,q2,q3,q4⟩
    ·rw[h1]at h2; cases h2
    rw[h1]at h2
    cases h2
    have hfit:off*i.size+len*i.size≤cur.size:=by
     rw[q1,←Yj]
     exact Zb _ (by omega)
    have hfin:∀cs:Array Value,cs.size=cur.size→(∀j,j<off*i.size→cs[j]?=cur[j]?)→(execOp a.eval o).run P w= .ok (.value (.tuple #[])) (w.setRow g cs)→o.wp P a w next Q:=by
     intro cs hcs hpre hrun
     obtain ⟨hrs',hev'⟩:=hrs.write (r':= .pc i.size (ls.take off)) hr rfl h1 (cs:=cs) rfl (fun hev'=>
      ⟨z1,fun q hq=>by rw[Zk]; exact z2 _ _,.inr ⟨g,c,cs,ty,h1,setRow_heap w g cur _ ty _ hg,by omega,q2,by simp; omega,fun q hq r hr2=>by
       have hq':q<off∧q<ls.length:=by
        have h:=hq
        rw[List.length_take]at h
        exact Nat.lt_min.1 h
       have e1:(ls.take off)[q]=ls[q]'(hq'.2):=Zk
       have hr3:r<(ls[q]'(hq'.2)).length:=by rw[←e1]; exact hr2
       obtain ⟨u,u1,u2⟩:=q4 q hq'.2 r hr3
       have hsz3:=z2 q hq'.2
       have hlt:q*i.size+r<off*i.size:=by
        have:(q+1)*i.size≤off*i.size:=Zb _ hq'.1
        rw[Zy]at this
        omega
       refine ⟨u,(hpre _ hlt).trans u1,?_⟩
       simp only[e1]
       exact u2.ev hev'⟩⟩)
     exact W1p hrun (hK _ _ _ h (R.put' hsz hdf hsl hev hrs' hev' hd (.tup rfl fun i h1=>by simp at h1)))
    by_cases hl0:len=0
    ·subst hl0
     refine hfin cur rfl (fun _ _=>rfl) ?_
     rw[setRow_self w g cur ty (0,0) hg]
     simp[execOp,ho,hv,resolve,invoke,builtin,Builtin.clear_,Z7 ht]
    ·have hcl:(Builtin.zeroCells z.cells len).toList.length=len*i.size:=by simp[Builtin.zeroCells,hzs]
     have hone:∀v∈(Builtin.zeroCells z.cells len).toList,v.oneCell'=true:=by
      intro v hv2
      simp only[Builtin.zeroCells,Array.toList_map,Y1]at hv2
      obtain ⟨j,hj,rfl⟩:=hv2
      have hjl:j%z.cells.size<z.cells.size:=Nat.mod_lt _ (by omega)
      have:z.cells[j%z.cells.size]!∈z.cells.toList:=by
       rw[getElem!_pos z.cells _ hjl]
       exact Array.getElem_mem_toList hjl
      exact Wh3 (Za.1 hf _ this)
     have hst:=run_storeCells_at (P:=P) g (off*i.size) ty (Builtin.zeroCells z.cells len).toList 0 cur w hg (by rw[hcl]; omega) hone
     simp only[Nat.add_zero]at hst
     refine hfin (cur.toList.take (off*i.size)++(Builtin.zeroCells z.cells len).toList++cur.toList.drop (off*i.size+(Builtin.zeroCells z.cells len).toList.length)).toArray (by simp at hcl ⊢; omega) (fun j hj=> ?_) ?_
     rotate_left
     ·obtain ⟨len',rfl⟩:∃l',len=l'+1:=⟨len-1,by omega⟩
      simp[execOp,ho,hv,resolve,invoke,builtin,Builtin.clear_,Z7 ht,zeroValue,typeInfo,hi,hz,hst]
     ·rw[List.getElem?_toArray,Z6,Zp (by simp; omega),Yf hj]
      simp
  ·exact h.elim
 ·exact h.elim
end
def W61(b:Bool):Option Unit:=if b then some ()else none
theorem guardO_eq{b:Bool}{u:Unit}:W61 b=some u↔b=true:=by cases b<;>simp[W61]
def feq:Value→Value→Bool
 | .bool a,.bool b=>a==b
 | .int k a,.int k' b=>decide (k=k')&&decide (a=b)
 | .string a,.string b=>a.size==0&&b.size==0
 | .nilFunc,.nilFunc | .nilIface,.nilIface=>true
 | .pointer none,.pointer none | .slice none 0 0,.slice none 0 0 | .map none,.map none | .chan none,.chan none=>true
 | _,_=>false
theorem V1c{a b:Value}(h:feq a b=true):a=b:=by
 unfold feq at h
 split at h
 ·simp at h; rw[h]
 ·simp at h; rw[h.1,h.2]
 ·rename_i x y
  simp only[Z4,Xs]at h
  have hx:x.data= #[]:=Array.eq_empty_of_size_eq_zero h.1
  have hy:y.data= #[]:=Array.eq_empty_of_size_eq_zero h.2
  cases x
  cases y
  simp_all
 all_goals first | rfl | cases h
def feqs:List Value→List Value→Bool
 | [],[]=>true
 | a::l,b::m=>feq a b&&feqs l m
 | _,_=>false
theorem Wmi:∀{l m:List Value},feqs l m=true→l=m
 | [],[],_=>rfl
 | a::l,b::m,h=>by
  simp only[feqs,Z4]at h
  rw[V1c h.1,Wmi h.2]
 | [],_::_,h=>by cases h
 | _::_,[],h=>by cases h
def W86(P:Program)(t:TypeId):Option (TypeInfo×Value):=
 (P.info? t).bind fun i=>i.zero.bind fun z=>if z.cells.toList.all W2d=true∧z.cells.size=i.size then some (i,z)else none
theorem W3h{P:Program}{t:TypeId}{i:TypeInfo}{z:Value}(h:W86 P t=some (i,z)):P.info? t=some i∧i.zero=some z∧z.cells.toList.all W2d=true∧z.cells.size=i.size:=by
 simp only[W86,Z0]at h
 obtain ⟨i',h1,z',h2,h3⟩:=h
 by_cases hc:z'.cells.toList.all W2d=true∧z'.cells.size=i'.size
 ·rw[if_pos hc]at h3
  cases h3
  exact ⟨h1,h2,hc⟩
 ·rw[if_neg hc]at h3
  cases h3
def Wfh(P:Program)(t:TypeId):Option (Nat→Option (Nat×Nat)):=
 match P.info? t,P.underlying t with
 | some it,some (.array _ e)=>
  match it.zero,P.info? e with
  | some _,some ie=>some fun i=>some (i*ie.size,ie.size)
  | _,_=>none
 | some it,some (.struct fields)=>
  match it.zero,fields.toList.mapM (fun f=>(P.info? f.type).map fun i=>(f.offset,i.size))with
  | some _,some places=>some (places.toArray[·]?)
  | _,_=>none
 | _,_=>none
theorem Wk1{P:Program}{t:TypeId}{pl:Nat→Option (Nat×Nat)}{i:TypeInfo}{z:Value}(h:Wfh P t=some pl)(hi:P.info? t=some i)(hz:i.zero=some z)(vs:List (Nat×Value)):P.built t vs=Instr.fill pl z.cells vs:=by
 unfold Wfh at h
 unfold Program.built
 rw[hi]at h ⊢
 split at h
 ·rename_i it n e h1 h2
  cases h1
  simp only[h2,hz]at h ⊢
  cases h3:P.info? e with
  | none=>rw[h3]at h; cases h
  | some ie=>rw[h3]at h; cases h; rfl
 ·rename_i it fs h1 h2
  cases h1
  simp only[h2,hz]at h ⊢
  cases h3:fs.toList.mapM (fun f=>(P.info? f.type).map fun i=>(f.offset,i.size))with
  | none=>rw[h3]at h; cases h
  | some ie=>rw[h3]at h; cases h; rfl
 ·cases h
theorem W1e{α β:Type}{f:α→Option β}{R:β→α→Prop}(hf:∀a b,f a=some b→R b a):∀{l:List α} {m:List β},W0h f l=some m→All2 R m l
 | [],_,h=>by cases h; trivial
 | a::l,m,h=>by
  simp only[W0h,Z0,Z1]at h
  obtain ⟨b,h1,m',h2,rfl⟩:=h
  exact ⟨hf _ _ h1,W1e hf h2⟩
def nilK:TypeDesc→Value→Option Nat
 | .pointer _,.pointer none=>some 0
 | .slice _,.slice none 0 0=>some 1
 | .map _ _,.map none=>some 2
 | .chan _ _,.chan none=>some 3
 | .func _ _ _,.nilFunc=>some 4
 | _,_=>none
def Wx2(P:Program)(d:Option Nat)(op:BinOp)(t:TypeId)(x y:Operand):Option AOp:=
 match y with
 | .const v=>(trX x).bind fun ax=>(P.underlying t).bind fun u=>(nilK u v).bind fun k=>match op with
  | .eql=>some (.x d (.nilq k false) [ax])
  | .neq=>some (.x d (.nilq k true) [ax])
  | _=>none
 | _=>none
def Wx3(P:Program)(d:Option Nat)(op:BinOp)(t:TypeId)(x y:Operand):Option AOp:=
 (trX x).bind fun ax=>(trX y).bind fun ay=>(P.underlying t).bind fun u=>
 match u with
 | .bool=>match op with
  | .eql=>some (.beq d false ax ay)
  | .neq=>some (.beq d true ax ay)
  | _=>none
 | .struct _ | .array _ _=>(W86 P t).bind fun z=>(Wlq z.2.cells.toList).bind fun ks=>match op with
  | .eql=>some (.eqs d false t ks ax ay)
  | .neq=>some (.eqs d true t ks ax ay)
  | _=>none
 | _=>some (.bin d op ax ay)
def Wmj(P:Program)(d:Option Nat)(t u:TypeId)(x:Operand):Option AOp:=
 (trX x).bind fun ax=>(P.underlying t).bind fun dt=>(P.underlying u).bind fun du=>
 match dt,du with
 | .slice e,.string=>(P.underlying e).bind fun de=>match de with
  | .int .u8=>some (.b2s d ax)
  | _=>none
 | _,.int k=>some (.cvi d k ax)
 | _,_=>none
def Wfi(P:Program)(d:Option Nat)(t:TypeId):Option AOp:=
 (P.underlying t).bind fun u=>(W86 P t).bind fun z=>
 match u with
 | .array n e=>(W86 P e).bind fun ze=>match P.underlying e with
  | some (.int .u8)=>if 0<ze.1.size∧n≤9223372036854775807∧feqs z.2.cells.toList (List.replicate n ze.2.cells.toList).flatten=true then some (.allocA d ze.1.size n ze.2.cells.toList)else none
  | _=>some (.alloc d z.2.cells.toList)
 | _=>some (.alloc d z.2.cells.toList)
def Wfj(P:Program)(d:Option Nat)(t:TypeId)(parts:List (Nat×Operand)):Option AOp:=
 (W86 P t).bind fun z=>(Wfh P t).bind fun pl=>(W0h (fun (p:Nat×Operand)=>(pl p.1).bind fun q=>(trX p.2).map fun ax=>(q.1,q.2,ax)) parts).map fun ap=> .build d z.2.cells.toList ap
def Wx4(P:Program)(d:Option Nat)(t:TypeId)(n:Nat)(parts:List (Nat×Operand)):Option AOp:=
 (P.underlying t).bind fun u=>match u with
 | .slice e=>(W86 P e).bind fun z=>(W0h (fun (p:Nat×Operand)=>(trX p.2).map fun ax=>(p.1,ax)) parts).bind fun ap=>
  if 0<z.1.size∧n*z.1.size≤16777216 then some (.bsl d z.1.size n z.2.cells.toList ap)else none
 | _=>none
def Wx5(P:Program)(d:Option Nat)(t:TypeId)(x y:Operand):Option AOp:=
 (P.underlying t).bind fun u=>match u with
 | .slice e=>(W86 P e).bind fun z=>(trX x).bind fun ax=>(trX y).bind fun ay=>if 0<z.1.size then some (.mks d z.1.size z.1.bytes z.2.cells.toList ax ay)else none
 | _=>none
def Wfk(P:Program)(d:Option Nat)(t:TypeId)(x:Operand)(lo hi mx:Option Operand):Option AOp:=
 (P.underlying t).bind fun u=>(trX x).bind fun ax=>(trO lo).bind fun alo=>(trO hi).bind fun ahi=>(trO mx).bind fun amx=>match u with
 | .slice e=>(P.info? e).bind fun i=>if mx.isSome=true→hi.isSome=true then some (.sls d i.size ax alo ahi amx)else none
 | .array n e=>(P.info? e).bind fun i=>match mx with
  | none=>some (.sla d n i.size ax alo ahi none)
  | some _=>none
 | .string=>match mx with
  | none=>some (.x d (.subs alo.isSome ahi.isSome) (ax::(alo.toList++ahi.toList)))
  | some _=>none
 | _=>none
def Wx6(P:Program)(d:Option Nat)(t:TypeId)(x y:Operand):Option AOp:=
 (P.underlying t).bind fun u=>(trX x).bind fun ax=>(trX y).bind fun ay=>match u with
 | .slice e=>(P.info? e).bind fun i=>some (.ixs d i.size ax ay)
 | .array n e=>(P.info? e).bind fun i=>some (.ixa d n i.size ax ay)
 | _=>none
def trIx(P:Program)(d:Option Nat)(t:TypeId)(x y:Operand):Option AOp:=
 (P.underlying t).bind fun u=>(trX x).bind fun ax=>(trX y).bind fun ay=>match u with
 | .string=>some (.ixt d ax ay)
 | .array n e=>(P.info? e).bind fun i=>(P.underlying e).bind fun de=>if aggD de=false→i.size=1 then some (.ixv d n i.size (aggD de) ax ay)else none
 | _=>none
def Wx7(P:Program)(d:Option Nat)(t:TypeId)(x:Operand)(k:Nat):Option AOp:=
 (P.underlying t).bind fun u=>(trX x).bind fun ax=>match u with
 | .struct fs=>(fs[k]?).bind fun f=>(P.info? f.type).bind fun i=>if i.size≠0 then some (.fad d f.offset ax)else none
 | _=>none
def Wx8(P:Program)(d:Option Nat)(t:TypeId)(x:Operand)(k:Nat):Option AOp:=
 (P.underlying t).bind fun u=>(trX x).bind fun ax=>match u with
 | .struct fs=>(fs[k]?).bind fun f=>(P.info? f.type).bind fun i=>(P.underlying f.type).bind fun de=>if aggD de=false→i.size=1 then some (.fld d f.offset i.size (aggD de) ax)else none
 | _=>none
def Wx9(P:Program)(d:Option Nat)(x y:Operand)(t t':TypeId):Option AOp:=
 (P.underlying t).bind fun u=>(trX x).bind fun ax=>(trX y).bind fun ay=>match u with
 | .slice e=>(W86 P e).bind fun z=>if 0<z.1.size∧t=t' then some (.app d z.1.size z.1.bytes ax ay)else none
 | _=>none
def Wxa(P:Program)(d:Option Nat)(x:Operand)(t:TypeId):Option AOp:=
 (P.underlying t).bind fun u=>(trX x).bind fun ax=>match u with
 | .slice _=>some (.len d ax)
 | .string=>some (.lens d ax)
 | .map _ _=>some (.x d .mlen [ax])
 | .chan _ _=>some (.x d .chlen [ax])
 | _=>none
def W7f(P:Program)(t:TypeId):Option (Bool×List IntKind):=(P.underlying t).bind fun u=>(shape P 8 t).map fun ks=>(aggD u,ks)
def Wmk(P:Program)(t:TypeId):Option PW:=
 (W86 P t).bind fun z=>match z.2 with
  | .agg vs=>if vs.toList.all W2d=true then some (true,vs.toList.map .v)else none
  | v=>if W2d v=true then some (false,[.v v])else none
def Wml(P:Program)(d:Option Nat)(t:TypeId)(m k:Operand)(ok:Bool):Option AOp:=
 (P.underlying t).bind fun u=>(trX m).bind fun am=>(trX k).bind fun ak=>match u with
 | .map kt e=>(W7f P kt).bind fun ks=>(Wmk P e).map fun z=> .x d (.look ks z ok) [am,ak]
 | _=>none
def Wxb(P:Program)(t:TypeId)(m k v:Operand):Option AOp:=
 (P.underlying t).bind fun u=>(trX m).bind fun am=>(trX k).bind fun ak=>(trX v).bind fun av=>match u with
 | .map kt _=>(W7f P kt).map fun ks=> .x none (.upd ks) [am,ak,av]
 | _=>none
def Wmm(P:Program)(d:Option Nat)(t:TypeId)(n:Operand):Option AOp:=
 (P.underlying t).bind fun u=>(trX n).bind fun an=>match u with
 | .chan _ e=>(P.info? e).map fun i=> .x d (.mkch i.bytes) [an]
 | _=>none
def Wmn(P:Program)(d:Option Nat):Call→Option AOp
 | ⟨.builtin .append,⟨[x,y]⟩,⟨[t,t']⟩⟩=>Wx9 P d x y t t'
 | ⟨.builtin .len,⟨[x]⟩,⟨[t]⟩⟩=>Wxa P d x t
 | ⟨.builtin .cap,⟨[x]⟩,⟨[t]⟩⟩=>(P.underlying t).bind fun u=>(trX x).bind fun ax=>match u with
  | .chan _ _=>some (.x d .chcap [ax])
  | _=>none
 | ⟨.builtin .max,⟨[x,y]⟩,_⟩=>(trX x).bind fun ax=>(trX y).map fun ay=> .mm d true ax ay
 | ⟨.builtin .min,⟨[x,y]⟩,_⟩=>(trX x).bind fun ax=>(trX y).map fun ay=> .mm d false ax ay
 | ⟨.builtin .clear,⟨[x]⟩,⟨[t]⟩⟩=>(P.underlying t).bind fun u=>(trX x).bind fun ax=>match u with
  | .slice e=>(W86 P e).map fun z=> .x d (.clr z.1.size) [ax]
  | _=>none
 | ⟨.value (.func f),as,_⟩=>(W0h trX as.toList).map fun l=> .call d f l
 | ⟨.value (.tmp t),as,_⟩=>(W0h trX as.toList).map fun l=> .callv d (.t t) l
 | _=>none
def trOp(P:Program)(o:Oper):Option AOp:=
 match o.op with
 | .move x | .assign x=>(trX x).map (.mv o.dst)
 | .pick c x y=>(trX c).bind fun ac=>(trX x).bind fun ax=>(trX y).map fun ay=> .pick o.dst ac ax ay
 | .alloc t=>Wfi P o.dst t
 | .box _ x=>(trX x).map (.box o.dst)
 | .build t ⟨parts⟩=>Wfj P o.dst t parts
 | .buildSlice t n ⟨parts⟩=>Wx4 P o.dst t n parts
 | .load t x=>(P.underlying t).bind fun d=>(P.info? t).bind fun i=>(trX x).map fun ax=> .load o.dst i.size (aggD d) ax
 | .store t x y=>(P.info? t).bind fun i=>(trX x).bind fun ax=>(trX y).bind fun ay=>match o.dst with
  | none=>some (.store i.size ax ay)
  | some _=>none
 | .nilCheck x=>(trX x).map (.nilc o.dst)
 | .binOp op t x y _=>match Wx2 P o.dst op t x y with
  | some ao=>some ao
  | none=>Wx3 P o.dst op t x y
 | .unOp op _ x=>(trX x).map (.un o.dst op)
 | .convert t u x=>Wmj P o.dst t u x
 | .makeFunc f ⟨fi⟩ ⟨ca⟩=>(trXs fi).bind fun a=>(trXs ca).map fun b=> .mkf o.dst f a b
 | .makeSlice t x y=>Wx5 P o.dst t x y
 | .slice t x lo hi mx=>Wfk P o.dst t x lo hi mx
 | .fieldAddr t x k=>Wx7 P o.dst t x k
 | .field t x k=>Wx8 P o.dst t x k
 | .indexAddr t x y=>Wx6 P o.dst t x y
 | .index t x y=>trIx P o.dst t x y
 | .extract x k=>(trX x).map fun ax=> .ext o.dst ax k
 | .call c=>Wmn P o.dst c
 | .lookup t m k ok=>Wml P o.dst t m k ok
 | .mapUpdate t m k v=>match o.dst with
  | none=>Wxb P t m k v
  | some _=>none
 | .makeMap t none=>(P.underlying t).bind fun u=>match u with
  | .map _ _=>some (.x o.dst .mkmap [])
  | _=>none
 | .makeChan t n=>Wmm P o.dst t n
 | _=>none
def XOp.pure:XOp→Bool
 | .mkmap | .mkch _ | .upd _ | .clr _=>false
 | _=>true
def AOp.pure:AOp→Bool
 | .x _ k _=>k.pure
 | .alloc .. | .allocA .. | .box .. | .bsl .. | .store .. | .mks .. | .app .. | .call .. | .callv .. | .cally .. =>false
 | _=>true
def AOp.timeless:AOp→Bool
 | .mv .. | .bin .. | .beq .. | .pick .. | .un .. | .cvi .. | .nilc .. | .fad .. | .ext .. | .len .. | .lens .. | .fld .. | .ixs .. | .ixa .. | .mm .. | .ixt .. =>true
 | _=>false
def SndT(P:Program)(o:Oper)(ao:AOp):Prop:=
 ∀{w0 w:World} {env0:Env} {bad0:Bs} {fps:List Nat} {base:Nat→Prop} {N:Nat} {s:St} {a:Act} {nx:Act→Prop} {K:St→Prop},(∀n,o.dst=some n→n<N)→opW P ao s K→R P w0 env0 bad0 fps base N s a w→
  (∀s' a',K s'→R P w0 env0 bad0 fps base N s' a' w→nx a')→o.timeWp P a nx
def SndP(P:Program)(o:Oper)(ao:AOp):Prop:=
 ∀{w0 w:World} {env0:Env} {bad0:Bs} {fps:List Nat} {base:Nat→Prop} {N:Nat} {s:St} {a:Act} {nx:Act→Prop} {K:St→Prop},(∀n,o.dst=some n→n<N)→opW P ao s K→R P w0 env0 bad0 fps base N s a w→
  (∀s' a',K s'→R P w0 env0 bad0 fps base N s' a' w→nx a')→o.pureWp P a w nx
def SndW(P:Program)(o:Oper)(ao:AOp):Prop:=
 ∀{w0 w:World} {env0:Env} {bad0:Bs} {fps:List Nat} {base:Nat→Prop} {N:Nat} {s:St} {a:Act} {next:Act→World→Prop} {Q:Exit→Act→World→Prop} {K:St→Prop},(∀n,o.dst=some n→n<N)→opW P ao s K→R P w0 env0 bad0 fps base N s a w→
  (∀s' a' w',K s'→R P w0 env0 bad0 fps base N s' a' w'→next a' w')→o.wp P a w next Q
def Snd(P:Program)(o:Oper)(ao:AOp):Prop:=cond ao.timeless (SndT P o ao) (cond ao.pure (SndP P o ao) (SndW P o ao))
theorem Snd.time{P:Program}{o:Oper}{ao:AOp}(h:Snd P o ao)(hp:ao.timeless=true):SndT P o ao:=by
 unfold Snd at h
 rw[hp]at h
 exact h
theorem Wbo{ao:AOp}(h:ao.timeless=true):ao.pure=true:=by
 cases ao<;>first | rfl | cases h
theorem Snd.still{P:Program}{o:Oper}{ao:AOp}(h:Snd P o ao)(hp:ao.pure=true):SndP P o ao:=by
 cases ht:ao.timeless
 ·unfold Snd at h
  rw[hp,ht]at h
  exact h
 ·intro w0 w env0 bad0 fps base N s a nx K hd hw hR hK
  exact Wlm (h.time ht hd hw hR hK)
theorem Snd.wp{P:Program}{o:Oper}{ao:AOp}(h:Snd P o ao):SndW P o ao:=by
 cases hp:ao.pure
 ·cases ht:ao.timeless
  ·unfold Snd at h
   rw[hp,ht]at h
   exact h
  ·rw[Wbo ht]at hp
   cases hp
 ·intro w0 w env0 bad0 fps base N s a next Q K hd hw hR hK
  exact Wwv (h.still hp hd hw hR fun s' a' k r=>hK s' a' w k r)
section
variable {P:Program} {o:Oper} {ao:AOp}
theorem Wmo{op:BinOp}{t u:TypeId}{x y:Operand}(ho:o.op= .binOp op t x y u)(h:Wx3 P o.dst op t x y=some ao):Snd P o ao:=by
 simp only[Wx3,Z0]at h
 obtain ⟨ax,hx,ay,hy,d,hd,h⟩:=h
 split at h
 ·split at h
  ·cases h; exact fun hd' h hR hK=>Wcy (neg:=false) ho hd hx hy hd' h hR hK
  ·cases h; exact fun hd' h hR hK=>Wcy (neg:=true) ho hd hx hy hd' h hR hK
  ·cases h
 ·simp only[Z0]at h
  obtain ⟨z,hz,ks,hks,h⟩:=h
  split at h
  ·cases h; exact fun hd' h hR hK=>W5w (b:=false) ho hx hy hd' h hR hK
  ·cases h; exact fun hd' h hR hK=>W5w (b:=true) ho hx hy hd' h hR hK
  ·cases h
 ·simp only[Z0]at h
  obtain ⟨z,hz,ks,hks,h⟩:=h
  split at h
  ·cases h; exact fun hd' h hR hK=>W5w (b:=false) ho hx hy hd' h hR hK
  ·cases h; exact fun hd' h hR hK=>W5w (b:=true) ho hx hy hd' h hR hK
  ·cases h
 ·cases h; exact fun hd' h hR hK=>Wlr ho hx hy hd' h hR hK
theorem Wk2{t u:TypeId}{x:Operand}(ho:o.op= .convert t u x)(h:Wmj P o.dst t u x=some ao):Snd P o ao:=by
 simp only[Wmj,Z0]at h
 obtain ⟨ax,hx,dt,ht,du,hu,h⟩:=h
 split at h
 ·simp only[Z0]at h
  obtain ⟨de,he,h⟩:=h
  split at h
  ·cases h; exact fun hd' h hR hK=>Wm7 ho ht he hu hx hd' h hR hK
  ·cases h
 ·cases h; exact fun hd' h hR hK=>Wls ho hu ht hx hd' h hR hK
 ·cases h
theorem Wfl{t:TypeId}(ho:o.op= .alloc t)(h:Wfi P o.dst t=some ao):Snd P o ao:=by
 simp only[Wfi,Z0]at h
 obtain ⟨d,hd,⟨i,z⟩,hz,h⟩:=h
 obtain ⟨z1,z2,z3,z4⟩:=W3h hz
 split at h
 ·simp only[Z0]at h
  obtain ⟨⟨ie,ze⟩,he,h⟩:=h
  obtain ⟨e1,e2,e3,e4⟩:=W3h he
  split at h
  ·split at h
   ·rename_i hc
    cases h
    exact fun hd' h hR hK=>Wd0 ho hd z1 z2 e1 e2 e3 e4 hc.1 (Wmi hc.2.2) hc.2.1 hd' h hR hK
   ·cases h
  ·cases h; exact fun hd' h hR hK=>W7y ho z1 z2 z3 hd' h hR hK
 ·cases h; exact fun hd' h hR hK=>W7y ho z1 z2 z3 hd' h hR hK
theorem Wfm{t:TypeId}{parts:List (Nat×Operand)}(ho:o.op= .build t parts.toArray)(h:Wfj P o.dst t parts=some ao):Snd P o ao:=by
 simp only[Wfj,Z0,Z1]at h
 obtain ⟨⟨i,z⟩,hz,pl,hpl,ap,hap,rfl⟩:=h
 obtain ⟨z1,z2,z3,z4⟩:=W3h hz
 exact fun hd' h hR hK=>Wfb ho (Wk1 hpl z1 z2) z3 (W1e (fun p q hq=>by
  simp only[Z0,Z1]at hq
  obtain ⟨r,h1,ax,h2,rfl⟩:=hq
  exact ⟨h1,h2⟩) hap) hd' h hR hK
theorem Wmp{t:TypeId}{n:Nat}{parts:List (Nat×Operand)}(ho:o.op= .buildSlice t n parts.toArray)(h:Wx4 P o.dst t n parts=some ao):Snd P o ao:=by
 simp only[Wx4,Z0]at h
 obtain ⟨d,hd,h⟩:=h
 split at h
 ·simp only[Z0]at h
  obtain ⟨⟨i,z⟩,hz,ap,hap,h⟩:=h
  obtain ⟨z1,z2,z3,z4⟩:=W3h hz
  split at h
  ·rename_i hc
   cases h
   exact fun hd' h hR hK=>Wm9 ho hd z1 z2 z3 z4 hc.1 hc.2 (W1e (fun p q hq=>by
    simp only[Z1]at hq
    obtain ⟨ax,h2,rfl⟩:=hq
    exact ⟨rfl,h2⟩) hap) hd' h hR hK
  ·cases h
 ·cases h
theorem Wmq{t:TypeId}{x y:Operand}(ho:o.op= .makeSlice t x y)(h:Wx5 P o.dst t x y=some ao):Snd P o ao:=by
 simp only[Wx5,Z0]at h
 obtain ⟨d,hd,h⟩:=h
 split at h
 ·simp only[Z0]at h
  obtain ⟨⟨i,z⟩,hz,ax,hx,ay,hy,h⟩:=h
  obtain ⟨z1,z2,z3,z4⟩:=W3h hz
  split at h
  ·rename_i hc
   cases h
   exact fun hd' h hR hK=>Wm5 ho hd z1 z2 z3 z4 hc hx hy hd' h hR hK
  ·cases h
 ·cases h
theorem Wfn{t:TypeId}{x:Operand}{lo hi mx:Option Operand}(ho:o.op= .slice t x lo hi mx)(h:Wfk P o.dst t x lo hi mx=some ao):Snd P o ao:=by
 simp only[Wfk,Z0]at h
 obtain ⟨d,hd,ax,hx,alo,hlo,ahi,hhi,amx,hmx,h⟩:=h
 split at h
 ·simp only[Z0]at h
  obtain ⟨i,hi',h⟩:=h
  split at h
  ·rename_i hc
   cases h
   exact fun hd' h hR hK=>Wm1 ho hd hi' hx hlo hhi hmx hc hd' h hR hK
  ·cases h
 ·simp only[Z0]at h
  obtain ⟨i,hi',h⟩:=h
  split at h
  ·cases h
   exact fun hd' h hR hK=>Wm8 ho hd hi' hx hlo hhi hd' h hR hK
  ·cases h
 ·split at h
  ·cases h
   exact fun hd' h hR hK=>Wjy ho hd hx hlo hhi hd' h hR hK
  ·cases h
 ·cases h
theorem Wmr{t:TypeId}{x y:Operand}(ho:o.op= .indexAddr t x y)(h:Wx6 P o.dst t x y=some ao):Snd P o ao:=by
 simp only[Wx6,Z0]at h
 obtain ⟨d,hd,ax,hx,ay,hy,h⟩:=h
 split at h
 ·simp only[Z0]at h
  obtain ⟨i,hi',h⟩:=h
  cases h
  exact fun hd' h hR hK=>Wly ho hd hi' hx hy hd' h hR hK
 ·simp only[Z0]at h
  obtain ⟨i,hi',h⟩:=h
  cases h
  exact fun hd' h hR hK=>Wlz ho hd hi' hx hy hd' h hR hK
 ·cases h
theorem Wse{t:TypeId}{x y:Operand}(ho:o.op= .index t x y)(h:trIx P o.dst t x y=some ao):Snd P o ao:=by
 simp only[trIx,Z0]at h
 obtain ⟨d,hd,ax,hx,ay,hy,h⟩:=h
 split at h
 ·cases h
  exact fun hd' h hR hK=>Wm3 ho hd hx hy hd' h hR hK
 ·simp only[Z0]at h
  obtain ⟨i,hi',de,hde,h⟩:=h
  split at h
  ·rename_i hc
   cases h
   exact fun hd' h hR hK=>Wm4 ho hd hi' hde hc hx hy hd' h hR hK
  ·cases h
 ·cases h
theorem Wms{t:TypeId}{x:Operand}{k:Nat}(ho:o.op= .fieldAddr t x k)(h:Wx7 P o.dst t x k=some ao):Snd P o ao:=by
 simp only[Wx7,Z0]at h
 obtain ⟨d,hd,ax,hx,h⟩:=h
 split at h
 ·simp only[Z0]at h
  obtain ⟨f,hf,i,hi',h⟩:=h
  split at h
  ·rename_i hc
   cases h
   exact fun hd' h hR hK=>Wlt ho hd hf hi' hc hx hd' h hR hK
  ·cases h
 ·cases h
theorem Wmt{t:TypeId}{x:Operand}{k:Nat}(ho:o.op= .field t x k)(h:Wx8 P o.dst t x k=some ao):Snd P o ao:=by
 simp only[Wx8,Z0]at h
 obtain ⟨d,hd,ax,hx,h⟩:=h
 split at h
 ·simp only[Z0]at h
  obtain ⟨f,hf,i,hi',de,hde,h⟩:=h
  split at h
  ·rename_i hc
   cases h
   exact fun hd' h hR hK=>Wlw ho hd hf hi' hde hc hx hd' h hR hK
  ·cases h
 ·cases h
theorem Wmu{x y:Operand}{t t':TypeId}(ho:o.op= .call ⟨.builtin .append,#[x,y],#[t,t']⟩)(h:Wx9 P o.dst x y t t'=some ao):Snd P o ao:=by
 simp only[Wx9,Z0]at h
 obtain ⟨d,hd,ax,hx,ay,hy,h⟩:=h
 split at h
 ·simp only[Z0]at h
  obtain ⟨⟨i,z⟩,hz,h⟩:=h
  obtain ⟨z1,z2,z3,z4⟩:=W3h hz
  split at h
  ·rename_i hc
   cases h
   obtain ⟨hc,rfl⟩:=hc
   exact fun hd' h hR hK=>Wma ho hd z1 z2 z4 hc hx hy hd' h hR hK
  ·cases h
 ·cases h
theorem W87{kt:TypeId}{kk:Bool×List IntKind}(h:W7f P kt=some kk):W6m P kt kk:=by
 simp only[W7f,Z0,Z1]at h
 obtain ⟨u,hu,ks,hks,rfl⟩:=h
 exact ⟨u,hu,hks,rfl⟩
theorem Whg{w:World}{bad:Nat→Prop}:∀{l:List Value},l.all W2d=true→All2 (PRel w bad) (l.map PV.v) l
 | [],_=>trivial
 | x::l,h=>by
  simp only[Y2,Z4]at h
  exact ⟨.v h.1,Whg h.2⟩
theorem Wmv{t:TypeId}{z:PW}(h:Wmk P t=some z):∃i zv,P.info? t=some i∧i.zero=some zv∧∀(w:World) (bad:Nat→Prop),WRel w bad z zv:=by
 simp only[Wmk,Z0]at h
 obtain ⟨⟨i,zv⟩,hz,h⟩:=h
 obtain ⟨z1,z2,z3,z4⟩:=W3h hz
 refine ⟨i,zv,z1,z2,fun w bad=> ?_⟩
 split at h
 ·rename_i vs hv
  split at h
  ·rename_i hf
   cases h
   have hv:zv= .agg vs:=hv
   subst hv
   exact ⟨vs.toList,rfl,Whg hf⟩
  ·cases h
 ·split at h
  ·rename_i hf
   cases h
   exact .v hf
  ·cases h
theorem Wk3{t:TypeId}{x y:Operand}{ok:Bool}(ho:o.op= .lookup t x y ok)(h:Wml P o.dst t x y ok=some ao):Snd P o ao:=by
 simp only[Wml,Z0]at h
 obtain ⟨d,hd,ax,hx,ay,hy,h⟩:=h
 split at h
 ·simp only[Z0,Z1]at h
  obtain ⟨kk,hkk,z,hz,rfl⟩:=h
  obtain ⟨i,zv,h1,h2,h3⟩:=Wmv hz
  exact fun hd' h hR hK=>Wk0 ho hd (W87 hkk) h1 h2 h3 hx hy hd' h hR hK
 ·cases h
theorem Wmw{t:TypeId}{x y z:Operand}(ho:o.op= .mapUpdate t x y z)(hdn:o.dst=none)(h:Wxb P t x y z=some ao):Snd P o ao:=by
 simp only[Wxb,Z0]at h
 obtain ⟨d,hd,ax,hx,ay,hy,az,hz,h⟩:=h
 split at h
 ·simp only[Z1]at h
  obtain ⟨kk,hkk,rfl⟩:=h
  exact fun hd' h hR hK=>Wmg ho hd (W87 hkk) hx hy hz hdn h hR hK
 ·cases h
theorem Wk4{t:TypeId}{x:Operand}(ho:o.op= .makeChan t x)(h:Wmm P o.dst t x=some ao):Snd P o ao:=by
 simp only[Wmm,Z0]at h
 obtain ⟨d,hd,ax,hx,h⟩:=h
 split at h
 ·simp only[Z1]at h
  obtain ⟨i,hi,rfl⟩:=h
  exact fun hd' h hR hK=>Wjx ho hd hi hx hd' h hR hK
 ·cases h
theorem Wxc{u:TypeDesc}{v:Value}{k:Nat}{t:TypeId}(h:nilK u v=some k)(hu:P.underlying t=some u):NilK P t k∧v=nilV k:=by
 unfold nilK at h
 split at h<;>first
  | (cases h; exact ⟨⟨_,hu⟩,rfl⟩)
  | (cases h; exact ⟨⟨_,_,hu⟩,rfl⟩)
  | (cases h; exact ⟨⟨_,_,_,hu⟩,rfl⟩)
  | cases h
theorem Wmx{op:BinOp}{t u:TypeId}{x y:Operand}(ho:o.op= .binOp op t x y u)(h:Wx2 P o.dst op t x y=some ao):Snd P o ao:=by
 unfold Wx2 at h
 split at h
 ·rename_i v
  simp only[Z0]at h
  obtain ⟨ax,hx,d,hd,k,hk,h⟩:=h
  obtain ⟨h1,rfl⟩:=Wxc hk hd
  split at h
  ·cases h
   exact fun hd' h hR hK=>Wae (neg:=false) ho h1 hx hd' h hR hK
  ·cases h
   exact fun hd' h hR hK=>Wae (neg:=true) ho h1 hx hd' h hR hK
  ·cases h
 ·cases h
theorem Wmy{x:Operand}{t:TypeId}(ho:o.op= .call ⟨.builtin .len,#[x],#[t]⟩)(h:Wxa P o.dst x t=some ao):Snd P o ao:=by
 simp only[Wxa,Z0]at h
 obtain ⟨d,hd,ax,hx,h⟩:=h
 split at h
 ·cases h
  exact fun hd' h hR hK=>Wlv ho hd hx hd' h hR hK
 ·cases h
  exact fun hd' h hR hK=>Wjq ho hd hx hd' h hR hK
 ·cases h
  exact fun hd' h hR hK=>Wjz ho hd hx hd' h hR hK
 ·cases h
  exact fun hd' h hR hK=>Wff ho hd hx hd' h hR hK
 ·cases h
theorem Wk5{c:Call}(ho:o.op= .call c)(h:Wmn P o.dst c=some ao):Snd P o ao:=by
 unfold Wmn at h
 split at h
 ·exact Wmu ho h
 ·exact Wmy ho h
 ·simp only[Z0]at h
  obtain ⟨d,hd,ax,hx,h⟩:=h
  split at h
  ·cases h
   exact fun hd' h hR hK=>Wfg ho hd hx hd' h hR hK
  ·cases h
 ·simp only[Z0,Z1]at h
  obtain ⟨ax,hx,ay,hy,rfl⟩:=h
  exact fun hd' h hR hK=>Whb (b:=true) ho hx hy hd' h hR hK
 ·simp only[Z0,Z1]at h
  obtain ⟨ax,hx,ay,hy,rfl⟩:=h
  exact fun hd' h hR hK=>Whb (b:=false) ho hx hy hd' h hR hK
 ·simp only[Z0]at h
  obtain ⟨d,hd,ax,hx,h⟩:=h
  split at h
  ·simp only[Z1]at h
   obtain ⟨⟨i,z⟩,hz,rfl⟩:=h
   obtain ⟨z1,z2,z3,z4⟩:=W3h hz
   exact fun hd' h hR hK=>Wmh ho hd z1 z2 z3 z4 hx hd' h hR hK
  ·cases h
 ·simp only[Z1]at h
  obtain ⟨l,hl,rfl⟩:=h
  exact fun hd' h hR hK=>Wju ho hl hd' h hR hK
 ·simp only[Z1]at h
  obtain ⟨l,hl,rfl⟩:=h
  exact fun hd' h hR hK=>Wfc ho rfl hl hd' h hR hK
 ·cases h
theorem W7g(h:trOp P o=some ao):Snd P o ao:=by
 unfold trOp at h
 split at h
 ·rename_i x ho
  simp only[Z1]at h
  obtain ⟨ax,hx,rfl⟩:=h
  exact fun hd' h hR hK=>Wh8 (.inl ho) hx hd' h hR hK
 ·rename_i x ho
  simp only[Z1]at h
  obtain ⟨ax,hx,rfl⟩:=h
  exact fun hd' h hR hK=>Wh8 (.inr ho) hx hd' h hR hK
 ·rename_i c x y ho
  simp only[Z0,Z1]at h
  obtain ⟨ac,hc,ax,hx,ay,hy,rfl⟩:=h
  exact fun hd' h hR hK=>Wjo ho hc hx hy hd' h hR hK
 ·rename_i t ho
  exact Wfl ho h
 ·rename_i t x ho
  simp only[Z1]at h
  obtain ⟨ax,hx,rfl⟩:=h
  exact fun hd' h hR hK=>Wlx ho hx hd' h hR hK
 ·rename_i t parts ho
  exact Wfm ho h
 ·rename_i t n parts ho
  exact Wmp ho h
 ·rename_i t x ho
  simp only[Z0,Z1]at h
  obtain ⟨d,hd,i,hi,ax,hx,rfl⟩:=h
  exact fun hd' h hR hK=>Wjr ho hd hi hx hd' h hR hK
 ·rename_i t x y ho
  simp only[Z0]at h
  obtain ⟨i,hi,ax,hx,ay,hy,h⟩:=h
  split at h
  ·rename_i hdn
   cases h
   exact fun hd' h hR hK=>Wf9 ho hi hx hy hdn h hR hK
  ·cases h
 ·rename_i x ho
  simp only[Z1]at h
  obtain ⟨ax,hx,rfl⟩:=h
  exact fun hd' h hR hK=>Wjp ho hx hd' h hR hK
 ·rename_i op t x y u ho
  split at h
  ·rename_i ao' hn
   cases h
   exact Wmx ho hn
  ·exact Wmo ho h
 ·rename_i op t x ho
  simp only[Z1]at h
  obtain ⟨ax,hx,rfl⟩:=h
  exact fun hd' h hR hK=>Wsb ho hx hd' h hR hK
 ·rename_i t u x ho
  exact Wk2 ho h
 ·rename_i f fi ca ho
  simp only[Z0,Z1]at h
  obtain ⟨l,hl,m,hm,rfl⟩:=h
  exact fun hd' h hR hK=>Wm2 ho hl hm hd' h hR hK
 ·rename_i t x y ho
  exact Wmq ho h
 ·rename_i t x lo hi mx ho
  exact Wfn ho h
 ·rename_i t x k ho
  exact Wms ho h
 ·rename_i t x k ho
  exact Wmt ho h
 ·rename_i t x y ho
  exact Wmr ho h
 ·rename_i t x y ho
  exact Wse ho h
 ·rename_i x k ho
  simp only[Z1]at h
  obtain ⟨ax,hx,rfl⟩:=h
  exact fun hd' h hR hK=>Wlu ho hx hd' h hR hK
 ·rename_i c ho
  exact Wk5 ho h
 ·rename_i t x y ok ho
  exact Wk3 ho h
 ·rename_i t x y z ho
  split at h
  ·rename_i hdn
   exact Wmw ho hdn h
  ·cases h
 ·rename_i t ho
  simp only[Z0]at h
  obtain ⟨u,hu,h⟩:=h
  split at h
  ·cases h
   exact fun hd' h hR hK=>Wfe ho hu hd' h hR hK
  ·cases h
 ·rename_i t x ho
  exact Wk4 ho h
 ·cases h
end
variable {P:Program}
def AOp.loc:AOp→Option (List AX)
 | .mv _ u | .un _ _ u | .cvi _ _ u | .b2s _ u | .load _ _ _ u | .nilc _ u | .fad _ _ u | .fld _ _ _ _ u | .len _ u | .lens _ u | .ext _ u _=>some [u]
 | .bin _ _ u y | .eqs _ _ _ _ u y | .beq _ _ u y | .ixs _ _ u y | .ixa _ _ _ u y | .ixv _ _ _ _ u y | .ixt _ u y | .mm _ _ u y=>some [u,y]
 | .pick _ c a b=>some [c,a,b]
 | .sls _ _ u lo hi mx=>some (u::(lo.toList++(hi.toList++mx.toList)))
 | .build _ _ parts=>some (parts.map (·.2.2))
 | .call _ _ args=>some args
 | .callv _ u args=>some (u::args)
 | .mkf _ _ a b=>some (a++b)
 | .x _ k args=>if k.pure=true then some args else none
 | _=>none
def AOp.rds:AOp→Option (List AX)
 | .x _ _ args=>some args
 | .alloc _ _ | .allocA _ _ _ _=>some []
 | .box _ u=>some [u]
 | .bsl _ _ _ _ parts=>some (parts.map (·.2))
 | .store _ a u=>some [a,u]
 | .mks _ _ _ _ a b=>some [a,b]
 | .app _ _ _ u y=>some [u,y]
 | .sla _ _ _ u lo hi mx=>some (u::(lo.toList++(hi.toList++mx.toList)))
 | .cally _ u args=>some (u::args)
 | .mv _ u=>some [u] | .un _ _ u=>some [u] | .cvi _ _ u=>some [u] | .b2s _ u=>some [u] | .load _ _ _ u=>some [u] | .nilc _ u=>some [u] | .fad _ _ u=>some [u]
 | .fld _ _ _ _ u=>some [u] | .len _ u=>some [u] | .lens _ u=>some [u] | .ext _ u _=>some [u]
 | .bin _ _ u y=>some [u,y] | .eqs _ _ _ _ u y=>some [u,y] | .beq _ _ u y=>some [u,y] | .ixs _ _ u y=>some [u,y] | .ixa _ _ _ u y=>some [u,y]
 | .ixv _ _ _ _ u y=>some [u,y] | .ixt _ u y=>some [u,y] | .mm _ _ u y=>some [u,y]
 | .pick _ c a b=>some [c,a,b]
 | .sls _ _ u lo hi mx=>some (u::(lo.toList++(hi.toList++mx.toList)))
 | .build _ _ parts=>some (parts.map (·.2.2))
 | .call _ _ args=>some args
 | .callv _ u args=>some (u::args)
 | .mkf _ _ a b=>some (a++b)
theorem Wmz{k:XOp}{args:List AV}{regs:List Reg}{K K':AV→List Reg→Prop}(hk:∀v rg,K v rg→K' v rg)(h:xW k args regs K):xW k args regs K':=by
 unfold xW at h ⊢
 split at h<;>first
  | exact hk _ _ h
  | exact h.elim
  | (split at h<;>first
    | exact hk _ _ h
    | exact h.elim
    | exact ⟨h.1,h.2.1,h.2.2.1,hk _ _ h.2.2.2⟩
    | exact ⟨h.1,hk _ _ h.2.1,hk _ _ h.2.2⟩
    | (split at h<;>first
      | exact hk _ _ h
      | exact h.elim
      | exact ⟨h.1,hk _ _ h.2⟩
      | exact ⟨h.1,h.2.1,h.2.2.1,hk _ _ h.2.2.2⟩
      | (refine ⟨h.1,?_⟩
         have h2:=h.2
         split at h2<;>exact hk _ _ h2)))
theorem W88{op:BinOp}{x y:Value}{K K':Value→Prop}(hk:∀v,K v→K' v)(h:binW op x y K):binW op x y K':=by
 unfold binW at h ⊢
 split at h<;>first
  | exact ⟨h.1,h.2.1,hk _ h.2.2⟩
  | exact ⟨h.1,hk _ h.2⟩
  | exact hk _ h
  | exact h.elim
theorem W89{s s':St}{l:List AX}(h:∀x∈l,s'.ev x=s.ev x):l.map s'.ev=l.map s.ev:=Yg h
theorem W4i{s s':St}{o:Option AX}(h:∀x∈o.toList,s'.ev x=s.ev x):o.map s'.ev=o.map s.ev:=by
 cases o with
 | none=>rfl
 | some x=>simp[h x (by simp)]
theorem W2e{α β:Type}{f g:α→Option β}:∀{l:List α},(∀x∈l,f x=g x)→W0h f l=W0h g l
 | [],_=>rfl
 | a::l,h=>by simp only[W0h,h a (by simp),W2e (l:=l) fun x hx=>h x (by simp[hx])]
theorem W8a{n sz i j:Nat}{xs:List AC}{ls:List (List AC)}{K K':List (List AC)→Prop}(hk:∀l,K l→K' l)(h:Wa7 n sz i j xs ls K):Wa7 n sz i j xs ls K':=by
 obtain ⟨c,h1,h2,h3,h4⟩:=h
 exact ⟨c,h1,h2,h3,hk _ h4⟩
structure Turn(P:Program)(T:List Reg→List Reg)(rg:List Reg):Prop where
 get:∀(id:Nat) (q:Reg),rg[id]?=some q→q≠ .dead→(T rg)[id]?=some q
 len:(T rg).length=rg.length
 set:∀(id:Nat) (q q':Reg) (l:List Reg),rg[id]?=some q→q≠ .dead→T (rg.set id q'++l)=(T rg).set id q'++l
 app:∀l:List Reg,T (rg++l)=T rg++l
 fs:∀(f:Nat) (args:List AV) (K:AV→List Reg→Prop),FS P f args rg K→FS P f args (T rg) fun v r=>∃r0,K v r0∧r=T r0
 ys:∀(id:Nat) (args:List AV) (K:AV→List Reg→Prop),YS P id args rg K→YS P id args (T rg) fun v r=>∃r0,K v r0∧r=T r0
theorem Turn.id(P:Program)(rg:List Reg):Turn P (fun l=>l) rg:=⟨fun _ _ h _=>h,rfl,fun _ _ _ _ _ _=>rfl,fun _=>rfl,fun f args K h=>h.mono fun v r k=>⟨r,k,rfl⟩,fun f args K h=>h.mono fun v r k=>⟨r,k,rfl⟩⟩
section
variable {P:Program} {T:List Reg→List Reg} {rg:List Reg}
theorem Turn.set'(h:Turn P T rg){id:Nat}{q q':Reg}(h1:rg[id]?=some q)(h2:q≠ .dead):T (rg.set id q')=(T rg).set id q':=by
 have:=h.set id q q' [] h1 h2
 simpa using this
theorem Turn.elems(h:Turn P T rg){v:AV}{ls:List (List PV)}(he:W15 rg v=some ls):W15 (T rg) v=some ls:=by
 unfold W15 at he ⊢
 split at he
 ·exact he
 ·exact he
 ·exact he
 ·rename_i id off sz len c
  split at he
  ·rename_i sz' l hg
   try simp only
   rw[h.get id _ hg (fun e=>by cases e)]
   exact he
  ·cases he
 ·cases he
theorem Turn.esOf(h:Turn P T rg){id:Nat}{x:Nat×List (List AC)}(he:(rg[id]?).bind esOf=some x):((T rg)[id]?).bind Go.Sim.esOf=some x∧∃q,rg[id]?=some q∧q≠ .dead:=by
 obtain ⟨q,h1,h2⟩:=Z0.1 he
 have hq:q≠ .dead:=fun e=>by subst e; cases h2
 exact ⟨by rw[h.get id q h1 hq]; exact h2,q,h1,hq⟩
theorem Turn.elemsX(h:Turn P T rg){v:AV}{ls:List (List AC)}(he:elemsX rg v=some ls):elemsX (T rg) v=some ls:=by
 unfold Go.Sim.elemsX at he ⊢
 split at he
 ·rename_i id off sz len c
  try simp only
  cases hb:(rg[id]?).bind Go.Sim.esOf with
  | none=>rw[hb]at he; cases he
  | some y=>
   rw[hb]at he
   rw[(h.esOf hb).1]
   exact he
 ·rename_i hne
  obtain ⟨l,h1,h2⟩:=Z1.1 he
  rw[h.elems h1]
  exact congrArg some h2
theorem Wn0(h:Turn P T rg){vx vy:AV}{sz bytes:Nat}{K K':AV→List Reg→Prop}(hk:∀v r,K v r→K' v (T r))(w:appW rg vx vy sz bytes K):appW (T rg) vx vy sz bytes K':=by
 unfold appW at w ⊢
 split at w
 ·rename_i ls n he hn
  rw[h.elems he,hn]
  try simp only
  refine ⟨w.1,w.2.1,?_⟩
  have w3:=w.2.2
  split at w3
  ·refine ⟨w3.1,w3.2.1,?_⟩
   have:=hk _ _ w3.2.2
   rwa[h.app,←h.len]at this
  ·rename_i id sz' len
   try simp only
   split at w3
   ·rename_i sz'' old hg
    rw[h.get id _ hg (fun e=>by cases e)]
    try simp only
    obtain ⟨a1,a2,a3,a4,a5,a6⟩:=w3
    refine ⟨a1,a2,a3,a4,a5,?_⟩
    have:=hk _ _ a6
    rwa[h.set id _ _ _ hg (fun e=>by cases e),←h.len]at this
   ·exact w3.elim
  ·rename_i id off sz' len k
   try simp only
   split at w3
   ·rename_i sz'' old hg
    rw[h.get id _ hg (fun e=>by cases e)]
    try simp only
    obtain ⟨a1,a2,a3,a4,a5,a6,a7⟩:=w3
    refine ⟨a1,a2,a3,a4,a5,a6,?_⟩
    have:=hk _ _ a7
    rwa[h.app,←h.len]at this
   ·exact w3.elim
  ·obtain ⟨a1,a2⟩:=w3
   refine ⟨a1,a2.imp (fun ⟨a2,a3,a4,a5⟩=>⟨a2,a3,a4,?_⟩) fun ⟨a2,a3⟩=>⟨a2,hk _ _ a3⟩⟩
   have:=hk _ _ a5
   rwa[h.app,←h.len]at this
  ·exact w3.elim
 ·exact w.elim
theorem Wn1(h:Turn P T rg){vx vy:AV}{sz bytes:Nat}{K K':AV→List Reg→Prop}(hk:∀v r,K v r→K' v (T r))(w:appE rg vx vy sz bytes K):appE (T rg) vx vy sz bytes K':=by
 unfold appE at w ⊢
 split at w
 ·rename_i ls n he hn
  rw[h.elemsX he,hn]
  try simp only
  refine ⟨w.1,w.2.1,?_⟩
  have w3:=w.2.2
  split at w3
  ·refine ⟨w3.1,w3.2.1,?_⟩
   have:=hk _ _ w3.2.2
   rwa[h.app,←h.len]at this
  ·rename_i id sz' len
   try simp only
   split at w3
   ·rename_i sz'' old hg
    obtain ⟨e1,q,e2,e3⟩:=h.esOf hg
    rw[e1]
    try simp only
    obtain ⟨a1,a2,a3,a4,a5,a6⟩:=w3
    refine ⟨a1,a2,a3,a4,a5,?_⟩
    have:=hk _ _ a6
    rwa[h.set id _ _ _ e2 e3,←h.len]at this
   ·exact w3.elim
  ·rename_i id off sz' len k
   try simp only
   split at w3
   ·rename_i sz'' old hg
    obtain ⟨e1,q,e2,e3⟩:=h.esOf hg
    rw[e1]
    try simp only
    obtain ⟨a1,a2,a3,a4,a5,a6,a7⟩:=w3
    refine ⟨a1,a2,a3,a4,a5,a6,?_⟩
    have:=hk _ _ a7
    rwa[h.app,←h.len]at this
   ·exact w3.elim
  ·exact w3.elim
 ·exact w.elim
end
theorem Wsf{P:Program}{T:List Reg→List Reg}{op:AOp}{l:List AX}{s s':St}{K K':St→Prop}(ht:Turn P T s.regs)(hT:s'.regs=T s.regs)(hX:op.rds=op.rds→(∃d k a,op= .x d k a)→∀r,T r=r)(hl:op.rds=some l)(hev:∀x∈l,s'.ev x=s.ev x)
  (hK:∀v rg,K (s.putr op.dst v rg)→K' (s'.putr op.dst v (T rg))) (h:opW P op s K):opW P op s' K':=by
 have hK0:∀v,K (s.put op.dst v)→K' (s'.put op.dst v):=fun v h=>by
  have:=hK v s.regs h
  rw[←hT]at this
  exact this
 have hA:∀v l,K (s.putr op.dst v (s.regs++l))→K' (s'.putr op.dst v (s'.regs++l)):=fun v l h=>by
  have:=hK v _ h
  rw[ht.app,←hT]at this
  exact this
 have hln:s'.regs.length=s.regs.length:=by rw[hT,ht.len]
 cases op with
 | mv d x=>
  cases hl
  simp only[opW]at h ⊢
  rw[hev x (by simp)]
  exact hK0 _ h
 | bin d op x y=>
  cases hl
  simp only[opW]at h ⊢
  rw[hev x (by simp),hev y (by simp)]
  split at h
  ·exact W88 (fun v hv=>hK0 _ hv) h
  ·exact h.elim
 | eqs d neg t ks x y=>
  cases hl
  simp only[opW]at h ⊢
  rw[hev x (by simp),hev y (by simp)]
  split at h
  ·split at h
   ·exact ⟨h.1,hK0 _ h.2⟩
   ·exact h.elim
  ·exact h.elim
 | beq d neg x y=>
  cases hl
  simp only[opW]at h ⊢
  rw[hev x (by simp),hev y (by simp)]
  split at h
  ·exact hK0 _ h
  ·exact h.elim
 | pick d c x y=>
  cases hl
  simp only[opW]at h ⊢
  rw[hev c (by simp),hev x (by simp),hev y (by simp)]
  split at h
  ·exact ⟨fun e=>hK0 _ (h.1 e),fun e=>hK0 _ (h.2 e)⟩
  ·exact h.elim
 | un d op x=>
  cases hl
  simp only[opW]at h ⊢
  rw[hev x (by simp)]
  split at h<;>first
   | exact hK0 _ h
   | exact h.elim
 | cvi d k x=>
  cases hl
  simp only[opW]at h ⊢
  rw[hev x (by simp)]
  split at h<;>first
   | exact hK0 _ h
   | exact h.elim
 | nilc d x=>
  cases hl
  simp only[opW]at h ⊢
  rw[hev x (by simp)]
  split at h<;>first
   | exact hK0 _ h
   | exact h.elim
 | fad d off x=>
  cases hl
  simp only[opW]at h ⊢
  rw[hev x (by simp)]
  split at h<;>first
   | exact hK0 _ h
   | exact h.elim
 | fld d off n agg x=>
  cases hl
  simp only[opW]at h ⊢
  rw[hev x (by simp)]
  split at h
  ·obtain ⟨v,h1,h2,h3⟩:=h
   exact ⟨v,h1,h2,hK0 _ h3⟩
  ·exact h.elim
 | ixs d sz x i=>
  cases hl
  simp only[opW]at h ⊢
  rw[hev x (by simp),hev i (by simp)]
  split at h
  ·obtain ⟨h0,h1,c,h2,h3⟩:=h
   exact ⟨h0,h1,c,h2,hK0 _ h3⟩
  ·obtain ⟨h0,h1,h2,h3⟩:=h
   exact ⟨h0,h1,h2,hK0 _ h3⟩
  ·exact h.elim
 | ixa d len sz x i=>
  cases hl
  simp only[opW]at h ⊢
  rw[hev x (by simp),hev i (by simp)]
  split at h
  ·obtain ⟨h0,h1,h2,h3⟩:=h
   exact ⟨h0,h1,h2,hK0 _ h3⟩
  ·obtain ⟨h1,h2,h3⟩:=h
   exact ⟨h1,h2,hK0 _ h3⟩
  ·obtain ⟨h1,h2,h3⟩:=h
   exact ⟨h1,h2,hK0 _ h3⟩
  ·exact h.elim
 | ixv d len sz agg x i=>
  cases hl
  simp only[opW]at h ⊢
  rw[hev x (by simp),hev i (by simp)]
  split at h
  ·obtain ⟨h0,h1,v,h2,h3,h4⟩:=h
   exact ⟨h0,h1,v,h2,h3,hK0 _ h4⟩
  ·exact h.elim
 | ixt d x i=>
  cases hl
  simp only[opW]at h ⊢
  rw[hev x (by simp),hev i (by simp)]
  split at h
  ·obtain ⟨h0,h1,h2⟩:=h
   exact ⟨h0,h1,hK0 _ h2⟩
  ·exact h.elim
 | len d x=>
  cases hl
  simp only[opW]at h ⊢
  rw[hev x (by simp)]
  split at h<;>first
   | exact hK0 _ h
   | exact h.elim
 | lens d x=>
  cases hl
  simp only[opW]at h ⊢
  rw[hev x (by simp)]
  split at h<;>first
   | exact hK0 _ h
   | exact h.elim
 | mm d mx x y=>
  cases hl
  simp only[opW]at h ⊢
  rw[hev x (by simp),hev y (by simp)]
  split at h<;>first
   | exact hK0 _ h
   | exact h.elim
 | ext d x i=>
  cases hl
  simp only[opW]at h ⊢
  rw[hev x (by simp)]
  split at h
  ·obtain ⟨v,h1,h2⟩:=h
   exact ⟨v,h1,hK0 _ h2⟩
  ·exact h.elim
 | sls d sz x lo hi mx=>
  cases hl
  simp only[opW]at h ⊢
  have e1:=W4i (s:=s) (s':=s') (o:=lo) fun x hx=>hev x (by simp[hx])
  have e2:=W4i (s:=s) (s':=s') (o:=hi) fun x hx=>hev x (by simp[hx])
  have e3:=W4i (s:=s) (s':=s') (o:=mx) fun x hx=>hev x (by simp[hx])
  rw[hev x (by simp),e1,e2,e3]
  split at h
  ·split at h
   ·obtain ⟨h0,h1,h2,h3,h4⟩:=h
    exact ⟨h0,h1,h2,h3,hK0 _ h4⟩
   ·obtain ⟨h0,h1,h2,h3,h4,h5⟩:=h
    exact ⟨h0,h1,h2,h3,h4,hK0 _ h5⟩
   ·exact h.elim
  ·split at h
   ·obtain ⟨h0,h1,h2,h3,h4,h5⟩:=h
    exact ⟨h0,h1,h2,h3,h4,hK0 _ h5⟩
   ·obtain ⟨h0,h1,h2,h3,h4,h5,h6⟩:=h
    exact ⟨h0,h1,h2,h3,h4,h5,hK0 _ h6⟩
   ·exact h.elim
  ·split at h
   ·exact ⟨h.1,h.2.1,hK0 _ h.2.2⟩
   ·exact ⟨h.1,h.2.1,h.2.2.1,hK0 _ h.2.2.2⟩
   ·exact h.elim
  ·exact h.elim
 | build d zs parts=>
  cases hl
  simp only[opW]at h ⊢
  have e:(parts.map fun (off,sz,x)=>(off,sz,s'.ev x))=parts.map fun (off,sz,x)=>(off,sz,s.ev x):=
   Yg fun p hp=>by
    obtain ⟨off,sz,x⟩:=p
    simp only
    rw[hev x (Y1.2 ⟨_,hp,rfl⟩)]
  split at h
  ·rename_i l' hl'
   have hl2:W7w (zs.map fun z=> .p (.v z)) (parts.map fun (off,sz,x)=>(off,sz,s'.ev x))=some l':=by rw[e]; exact hl'
   simp only[hl2]
   exact hK0 _ h
  ·exact h.elim
 | mkf d f a b=>
  cases hl
  simp only[opW]at h ⊢
  rw[W2e (l:=a) (f:=fun x=>faOf (s'.ev x)) (g:=fun x=>faOf (s.ev x)) fun y hy=>by rw[hev y (by simp[hy])],
   W2e (l:=b) (f:=fun x=>faOf (s'.ev x)) (g:=fun x=>faOf (s.ev x)) fun y hy=>by rw[hev y (by simp[hy])]]
  split at h<;>first
   | exact hK0 _ h
   | exact h.elim
 | x d k args=>
  cases hl
  have hid:=hX rfl ⟨_,_,_,rfl⟩
  simp only[opW]at h ⊢
  rw[W89 hev,hT,hid]
  exact Wmz (fun v rg hk=>by have:=hK v rg hk; rwa[hid]at this) h
 | b2s d x=>
  cases hl
  simp only[opW]at h ⊢
  rw[hev x (by simp),hT]
  split at h
  ·rename_i ls n he hn
   rw[ht.elems he,hn]
   obtain ⟨h1,h2,bs,h3,h4⟩:=h
   exact ⟨h1,h2,bs,h3,hK0 _ h4⟩
  ·exact h.elim
 | load d n agg x=>
  cases hl
  simp only[opW]at h ⊢
  rw[hev x (by simp),hT]
  split at h
  ·try simp only
   split at h
   ·rename_i hg
    rw[ht.get _ _ hg (fun e=>by cases e)]
    obtain ⟨v,h1,h2,h3⟩:=h
    exact ⟨v,h1,h2,hK0 _ h3⟩
   ·exact h.elim
  ·try simp only
   split at h
   ·rename_i hg
    rw[ht.get _ _ hg (fun e=>by cases e)]
    obtain ⟨h0,c,v,h1,h2,h3,h4⟩:=h
    exact ⟨h0,c,v,h1,h2,h3,hK0 _ h4⟩
   ·rename_i hg
    rw[ht.get _ _ hg (fun e=>by cases e)]
    obtain ⟨h0,c,v,h1,h2,h3,h4⟩:=h
    exact ⟨h0,c,v,h1,h2,h3,hK0 _ h4⟩
   ·exact h.elim
  ·obtain ⟨v,h1,h2,h3⟩:=h
   exact ⟨v,h1,h2,hK0 _ h3⟩
  ·exact h.elim
 | call d f args=>
  cases hl
  simp only[opW]at h ⊢
  rw[W89 hev,hT]
  exact (ht.fs _ _ _ h).mono fun r rg ⟨r0,hk,e⟩=>by rw[e]; exact hK _ _ hk
 | callv d x args=>
  cases hl
  simp only[opW]at h ⊢
  rw[hev x (by simp),W89 (l:=args) fun y hy=>hev y (by simp[hy]),hT]
  split at h
  ·exact (ht.fs _ _ _ h).mono fun r rg ⟨r0,hk,e⟩=>by rw[e]; exact hK _ _ hk
  ·exact h.elim
 | alloc d zs=>
  cases hl
  simp only[opW]at h ⊢
  rw[hln]
  exact hA _ _ h
 | allocA d sz n z=>
  cases hl
  simp only[opW]at h ⊢
  rw[hln]
  exact hA _ _ h
 | box d x=>
  cases hl
  simp only[opW]at h ⊢
  rw[hev x (by simp),hln]
  split at h
  ·exact hA _ _ h
  ·exact h.elim
 | bsl d sz len z parts=>
  cases hl
  simp only[opW]at h ⊢
  have e:(parts.map fun (i,x)=>(i,s'.ev x))=parts.map fun (i,x)=>(i,s.ev x):=Yg fun p hp=>by
   obtain ⟨i,x⟩:=p
   try simp only
   rw[hev x (Y1.2 ⟨_,hp,rfl⟩)]
  simp only[e,hln]
  split at h
  ·exact hA _ _ h
  ·split at h
   ·exact hA _ _ h
   ·exact h.elim
 | mks d sz bytes z a b=>
  cases hl
  simp only[opW]at h ⊢
  rw[hev a (by simp),hev b (by simp),hln]
  split at h
  ·obtain ⟨h1,h2,h3,h4,h5⟩:=h
   exact ⟨h1,h2,h3,h4,hA _ _ h5⟩
  ·exact h.elim
 | app d sz bytes x y=>
  cases hl
  simp only[opW]at h ⊢
  rw[hev x (by simp),hev y (by simp),hT]
  exact h.imp (Wn0 ht fun v r k=>hK v r k) (Wn1 ht fun v r k=>hK v r k)
 | store n a x=>
  cases hl
  have hS:∀id q q',s.regs[id]?=some q→q≠ .dead→K ⟨s.slots,s.regs.set id q'⟩→K' ⟨s'.slots,(T s.regs).set id q'⟩:=fun id q q' h1 h2 k=>by
   have:=hK (.tup []) (s.regs.set id q') k
   rw[ht.set' h1 h2]at this
   exact this
  simp only[opW]at h ⊢
  rw[hev a (by simp),hev x (by simp),hT]
  split at h
  ·try simp only
   split at h
   ·rename_i hg
    rw[ht.get _ _ hg (fun e=>by cases e)]
    exact ⟨h.1,h.2.1,hS _ _ _ hg (fun e=>by cases e) h.2.2⟩
   ·exact h.elim
  ·try simp only
   split at h
   ·rename_i hg
    rw[ht.get _ _ hg (fun e=>by cases e)]
    refine ⟨h.1,h.2.imp (fun ⟨c,ps,h1,h2,h3,h4,h5⟩=>⟨c,ps,h1,h2,h3,h4,hS _ _ _ hg (fun e=>by cases e) h5⟩) fun h=>W8a (fun l k=>hS _ _ _ hg (fun e=>by cases e) k) h⟩
   ·rename_i hg
    rw[ht.get _ _ hg (fun e=>by cases e)]
    exact ⟨h.1,W8a (fun l k=>hS _ _ _ hg (fun e=>by cases e) k) h.2⟩
   ·exact h.elim
  ·exact h.elim
 | sla d n sz x lo hi mx=>
  cases hl
  simp only[opW]at h ⊢
  have e1:=W4i (s:=s) (s':=s') (o:=lo) fun x hx=>hev x (by simp[hx])
  have e2:=W4i (s:=s) (s':=s') (o:=hi) fun x hx=>hev x (by simp[hx])
  rw[hev x (by simp),e1,e2]
  split at h
  ·split at h
   ·obtain ⟨h1,h2,h3,h4,h5,h6⟩:=h
    exact ⟨h1,h2,h3,h4,h5,hK0 _ h6⟩
   ·exact h.elim
  ·split at h
   ·obtain ⟨h1,h2,h3,h4,h5,h6,h7⟩:=h
    exact ⟨h1,h2,h3,h4,h5,h6,hK0 _ h7⟩
   ·exact h.elim
  ·exact h.elim
 | cally d x args=>
  cases hl
  simp only[opW]at h ⊢
  rw[hev x (by simp),W89 (l:=args) fun y hy=>hev y (by simp[hy]),hT]
  split at h
  ·exact (ht.fs _ _ _ h).mono fun r rg ⟨r0,hk,e⟩=>by rw[e]; exact hK _ _ hk
  ·exact (ht.ys _ _ _ h).mono fun r rg ⟨r0,hk,e⟩=>by rw[e]; exact hK _ _ hk
  ·exact h.elim
def AOp.blind:AOp→Bool
 | .x _ _ _ | .b2s _ _ | .load _ _ _ _ | .call _ _ _ | .callv _ _ _ | .cally _ _ _ | .alloc _ _ | .allocA _ _ _ _ | .box _ _ | .bsl _ _ _ _ _ | .store _ _ _ | .mks _ _ _ _ _ _ | .app _ _ _ _ _ | .sla _ _ _ _ _ _ _=>false
 | _=>true
theorem Wn2{P:Program}{op:AOp}{l:List AX}{s s':St}{K K':St→Prop}(hb:op.blind=true)(hl:op.rds=some l)(hev:∀x∈l,s'.ev x=s.ev x)
  (hK0:∀v,K (s.put op.dst v)→K' (s'.put op.dst v)) (h:opW P op s K):opW P op s' K':=by
 cases op with
 | mv d x=>
  cases hl
  simp only[opW]at h ⊢
  rw[hev x (by simp)]
  exact hK0 _ h
 | bin d op x y=>
  cases hl
  simp only[opW]at h ⊢
  rw[hev x (by simp),hev y (by simp)]
  split at h
  ·exact W88 (fun v hv=>hK0 _ hv) h
  ·exact h.elim
 | eqs d neg t ks x y=>
  cases hl
  simp only[opW]at h ⊢
  rw[hev x (by simp),hev y (by simp)]
  split at h
  ·split at h
   ·exact ⟨h.1,hK0 _ h.2⟩
   ·exact h.elim
  ·exact h.elim
 | beq d neg x y=>
  cases hl
  simp only[opW]at h ⊢
  rw[hev x (by simp),hev y (by simp)]
  split at h
  ·exact hK0 _ h
  ·exact h.elim
 | pick d c x y=>
  cases hl
  simp only[opW]at h ⊢
  rw[hev c (by simp),hev x (by simp),hev y (by simp)]
  split at h
  ·exact ⟨fun e=>hK0 _ (h.1 e),fun e=>hK0 _ (h.2 e)⟩
  ·exact h.elim
 | un d op x=>
  cases hl
  simp only[opW]at h ⊢
  rw[hev x (by simp)]
  split at h<;>first
   | exact hK0 _ h
   | exact h.elim
 | cvi d k x=>
  cases hl
  simp only[opW]at h ⊢
  rw[hev x (by simp)]
  split at h<;>first
   | exact hK0 _ h
   | exact h.elim
 | nilc d x=>
  cases hl
  simp only[opW]at h ⊢
  rw[hev x (by simp)]
  split at h<;>first
   | exact hK0 _ h
   | exact h.elim
 | fad d off x=>
  cases hl
  simp only[opW]at h ⊢
  rw[hev x (by simp)]
  split at h<;>first
   | exact hK0 _ h
   | exact h.elim
 | fld d off n agg x=>
  cases hl
  simp only[opW]at h ⊢
  rw[hev x (by simp)]
  split at h
  ·obtain ⟨v,h1,h2,h3⟩:=h
   exact ⟨v,h1,h2,hK0 _ h3⟩
  ·exact h.elim
 | ixs d sz x i=>
  cases hl
  simp only[opW]at h ⊢
  rw[hev x (by simp),hev i (by simp)]
  split at h
  ·obtain ⟨h0,h1,c,h2,h3⟩:=h
   exact ⟨h0,h1,c,h2,hK0 _ h3⟩
  ·obtain ⟨h0,h1,h2,h3⟩:=h
   exact ⟨h0,h1,h2,hK0 _ h3⟩
  ·exact h.elim
 | ixa d len sz x i=>
  cases hl
  simp only[opW]at h ⊢
  rw[hev x (by simp),hev i (by simp)]
  split at h
  ·obtain ⟨h0,h1,h2,h3⟩:=h
   exact ⟨h0,h1,h2,hK0 _ h3⟩
  ·obtain ⟨h1,h2,h3⟩:=h
   exact ⟨h1,h2,hK0 _ h3⟩
  ·obtain ⟨h1,h2,h3⟩:=h
   exact ⟨h1,h2,hK0 _ h3⟩
  ·exact h.elim
 | ixv d len sz agg x i=>
  cases hl
  simp only[opW]at h ⊢
  rw[hev x (by simp),hev i (by simp)]
  split at h
  ·obtain ⟨h0,h1,v,h2,h3,h4⟩:=h
   exact ⟨h0,h1,v,h2,h3,hK0 _ h4⟩
  ·exact h.elim
 | ixt d x i=>
  cases hl
  simp only[opW]at h ⊢
  rw[hev x (by simp),hev i (by simp)]
  split at h
  ·obtain ⟨h0,h1,h2⟩:=h
   exact ⟨h0,h1,hK0 _ h2⟩
  ·exact h.elim
 | len d x=>
  cases hl
  simp only[opW]at h ⊢
  rw[hev x (by simp)]
  split at h<;>first
   | exact hK0 _ h
   | exact h.elim
 | lens d x=>
  cases hl
  simp only[opW]at h ⊢
  rw[hev x (by simp)]
  split at h<;>first
   | exact hK0 _ h
   | exact h.elim
 | mm d mx x y=>
  cases hl
  simp only[opW]at h ⊢
  rw[hev x (by simp),hev y (by simp)]
  split at h<;>first
   | exact hK0 _ h
   | exact h.elim
 | ext d x i=>
  cases hl
  simp only[opW]at h ⊢
  rw[hev x (by simp)]
  split at h
  ·obtain ⟨v,h1,h2⟩:=h
   exact ⟨v,h1,hK0 _ h2⟩
  ·exact h.elim
 | sls d sz x lo hi mx=>
  cases hl
  simp only[opW]at h ⊢
  have e1:=W4i (s:=s) (s':=s') (o:=lo) fun x hx=>hev x (by simp[hx])
  have e2:=W4i (s:=s) (s':=s') (o:=hi) fun x hx=>hev x (by simp[hx])
  have e3:=W4i (s:=s) (s':=s') (o:=mx) fun x hx=>hev x (by simp[hx])
  rw[hev x (by simp),e1,e2,e3]
  split at h
  ·split at h
   ·obtain ⟨h0,h1,h2,h3,h4⟩:=h
    exact ⟨h0,h1,h2,h3,hK0 _ h4⟩
   ·obtain ⟨h0,h1,h2,h3,h4,h5⟩:=h
    exact ⟨h0,h1,h2,h3,h4,hK0 _ h5⟩
   ·exact h.elim
  ·split at h
   ·obtain ⟨h0,h1,h2,h3,h4,h5⟩:=h
    exact ⟨h0,h1,h2,h3,h4,hK0 _ h5⟩
   ·obtain ⟨h0,h1,h2,h3,h4,h5,h6⟩:=h
    exact ⟨h0,h1,h2,h3,h4,h5,hK0 _ h6⟩
   ·exact h.elim
  ·split at h
   ·exact ⟨h.1,h.2.1,hK0 _ h.2.2⟩
   ·exact ⟨h.1,h.2.1,h.2.2.1,hK0 _ h.2.2.2⟩
   ·exact h.elim
  ·exact h.elim
 | build d zs parts=>
  cases hl
  simp only[opW]at h ⊢
  have e:(parts.map fun (off,sz,x)=>(off,sz,s'.ev x))=parts.map fun (off,sz,x)=>(off,sz,s.ev x):=
   Yg fun p hp=>by
    obtain ⟨off,sz,x⟩:=p
    simp only
    rw[hev x (Y1.2 ⟨_,hp,rfl⟩)]
  split at h
  ·rename_i l' hl'
   have hl2:W7w (zs.map fun z=> .p (.v z)) (parts.map fun (off,sz,x)=>(off,sz,s'.ev x))=some l':=by rw[e]; exact hl'
   simp only[hl2]
   exact hK0 _ h
  ·exact h.elim
 | mkf d f a b=>
  cases hl
  simp only[opW]at h ⊢
  rw[W2e (l:=a) (f:=fun x=>faOf (s'.ev x)) (g:=fun x=>faOf (s.ev x)) fun y hy=>by rw[hev y (by simp[hy])],
   W2e (l:=b) (f:=fun x=>faOf (s'.ev x)) (g:=fun x=>faOf (s.ev x)) fun y hy=>by rw[hev y (by simp[hy])]]
  split at h<;>first
   | exact hK0 _ h
   | exact h.elim
 | _=>cases hb
structure AIt where
 guard:Option (Nat×Bool)
 d:Option Nat
 op:AOp
def itW(P:Program)(it:AIt)(s:St)(K:St→Prop):Prop:=
 match it.guard with
 | none=>opW P it.op s K
 | some (t,want)=>match lk s.slots t with
  | .c (.p (.v (.bool b)))=>(b=want→opW P it.op s K)∧(b≠want→K (s.put it.d (.tup [])))
  | .tup []=>K (s.put it.d (.tup []))
  | _=>False
def opsW(P:Program)(K:St→Prop):List AIt→St→Prop
 | [],s=>K s
 | it::r,s=>itW P it s (opsW P K r)
def Wxd(P:Program)(o:Oper):Option AOp:=match o.op with
 | .call ⟨.value (.tmp t),as,_⟩=>(W0h trX as.toList).map fun l=> .cally o.dst (.t t) l
 | _=>trOp P o
def Wa2(o:Oper):Bool:=match o.op with
 | .defer _=>false
 | _=>true
theorem Wsg{o:Oper}(h:Wa2 o=true):∀c,o.op≠ .defer c:=by
 intro c e
 unfold Wa2 at h
 rw[e]at h
 cases h
theorem Wk6{P:Program}{o:Oper}{ao:AOp}(h:trOp P o=some ao):∀c,o.op≠ .defer c:=by
 intro c e
 unfold trOp at h
 rw[e]at h
 cases h
def Wn3(N:Nat):Option Nat→Bool
 | none=>true
 | some d=>decide (d<N)
def trIt(P:Program)(N:Nat)(ops:Array Oper)(o:Oper):Option AIt:=
 (W61 (Wn3 N o.dst)).bind fun _=>(trOp P o).bind fun ao=>match o.guard with
 | none=>some ⟨none,o.dst,ao⟩
 | some (j,want)=>((ops[j]?).bind (·.dst)).map fun t=>⟨some (t,want),o.dst,ao⟩
def W41(P:Program)(N:Nat)(ops:Array Oper)(o:Oper):Option AIt:=
 (W61 (Wn3 N o.dst)).bind fun _=>(Wxd P o).bind fun ao=>match o.guard with
 | none=>some ⟨none,o.dst,ao⟩
 | some (j,want)=>((ops[j]?).bind (·.dst)).map fun t=>⟨some (t,want),o.dst,ao⟩
section
variable {P:Program} {w0 w w':World} {env0 env:Env} {bad0:Bs} {fps:List Nat} {base:Nat→Prop} {N:Nat} {s:St} {a:Act} {o:Oper} {ops:Array Oper} {rest:List Oper}
 {Q:Exit→Act→World→Prop} {K:St→Prop}
theorem Wbp{d:Option Nat}(h:Wn3 N d=true):∀n,d=some n→n<N:=by
 intro n e
 subst e
 simpa[Wn3]using h
theorem Wn4{bad:Nat→Prop}:VRel w env bad (.tup []) undef:= .tup (vs:=[]) rfl (fun i h=>by simp at h)
theorem Wxe{bad:Nat→Prop}{v:AV}{u:Value}(h:VRel w env bad v u)(hv:v= .tup []):u=undef:=by
 subst hv
 cases h with
 | @tup _ vs hn _=>
  have:vs=[]:=Z9 (by simpa using hn.symm)
  rw[this]
  rfl
theorem R.skip(hR:R P w0 env0 bad0 fps base N s a w){d:Option Nat}(hd:∀n,d=some n→n<N):R P w0 env0 bad0 fps base N (s.put d (.tup [])) (a.put d undef) w:=by
 obtain ⟨⟨env,hrs,hsl,hev⟩,hsz,hdf⟩:=hR
 exact R.put' (regs':=s.regs) hsz hdf hsl hev hrs (Ev.refl _ _ _) hd Wn4
theorem W5g{j t:Nat}{b:Bool}(hj:(ops[j]?).bind (·.dst)=some t)(hR:R P w0 env0 bad0 fps base N s a w)(h:lk s.slots t= .c (.p (.v (.bool b)))):yielded ops a.tmps j=some b:=by
 obtain ⟨⟨env,hrs,hsl,hev⟩,hsz,hdf⟩:=hR
 have hv:=(W1w (hsl t) (x:= .bool b) (by rw[h]; rfl)).1
 have hx:a.tmps[t]?=some (.bool b):=by
  rw[Zd]at hv
  cases hg:a.tmps[t]? with
  | none=>rw[hg]at hv; cases hv
  | some x=>rw[hg]at hv; exact congrArg some hv
 simp only[yielded,hj,Zn,hx]
theorem W5h{j t:Nat}(hj:(ops[j]?).bind (·.dst)=some t)(hR:R P w0 env0 bad0 fps base N s a w)(h:lk s.slots t= .tup []):yielded ops a.tmps j=none:=by
 obtain ⟨⟨env,hrs,hsl,hev⟩,hsz,hdf⟩:=hR
 have hv:a.tmps.getD t undef=undef:=Wxe (hsl t) h
 rw[Zd]at hv
 cases hg:a.tmps[t]? with
 | none=>simp only[yielded,hj,Zn,hg]
 | some x=>
  rw[hg]at hv
  have:x=undef:=hv
  subst this
  simp only[yielded,hj,Zn,hg,undef]
theorem V1d{next:Act→World→Prop}{it:AIt}(htr:trIt P N ops o=some it)(h:itW P it s K)(hR:R P w0 env0 bad0 fps base N s a w)
  (hK:∀s' a' w',K s'→R P w0 env0 bad0 fps base N s' a' w'→next a' w'):if Region.wanted o (yielded ops a.tmps)then o.wp P a w next Q else next (a.put o.dst undef) w:=by
 simp only[trIt,Z0]at htr
 obtain ⟨u,hu,ao,hao,htr⟩:=htr
 have hd:=Wbp (guardO_eq.1 hu)
 have hs:SndW P o ao:=(W7g hao).wp
 cases hg:o.guard with
 | none=>
  rw[hg]at htr
  cases htr
  simp only[Region.wanted,hg,if_true]
  exact hs hd h hR fun s' a' w' k r=>hK s' a' w' k r
 | some q=>
  obtain ⟨j,want⟩:=q
  rw[hg]at htr
  obtain ⟨t,ht,e⟩:=Z1.1 htr
  subst e
  simp only[itW]at h
  split at h
  ·rename_i b hb
   have hy:=W5g ht hR hb
   simp only[Region.wanted,hg,hy]
   by_cases hbw:b=want
   ·subst hbw
    rw[if_pos (by simp)]
    exact hs hd (h.1 rfl) hR fun s' a' w' k r=>hK s' a' w' k r
   ·rw[if_neg (by simpa using hbw)]
    exact hK _ _ _ (h.2 hbw) (hR.skip hd)
  ·rename_i hb
   have hy:=W5h ht hR hb
   simp only[Region.wanted,hg,hy]
   rw[if_neg (by simp)]
   exact hK _ _ _ h (hR.skip hd)
  ·exact h.elim
theorem Wd5{ao:AOp}(h:Wxd P o=some ao){ro:Option Nat}{n:Nat}{next:Act→World→Prop}{K:St→Prop}(hd:∀n,o.dst=some n→n<N)(hw:opW P ao s K)(hR:R P w0 env0 bad0 fps base N s a w)
  (hK:∀s' a' w',K s'→R P w0 env0 bad0 fps base N s' a' w'→next a' w'):o.wpIn (Fw ro) n P a w next Q:=by
 unfold Wxd at h
 split at h
 ·rename_i t as ts he
  obtain ⟨l,hl,rfl⟩:=Z1.1 h
  exact Wfd he rfl hl hd hw hR hK
 ·exact Wwy (Wk6 h) ((W7g h).wp hd hw hR hK)
theorem Wvv{ro:Option Nat}{n:Nat}{next:Act→World→Prop}{it:AIt}(htr:W41 P N ops o=some it)(h:itW P it s K)(hR:R P w0 env0 bad0 fps base N s a w)
  (hK:∀s' a' w',K s'→R P w0 env0 bad0 fps base N s' a' w'→next a' w'):if Region.wanted o (yielded ops a.tmps)then o.wpIn (Fw ro) n P a w next Q else (∀f,o.about P w a.eval=some f→(Fw ro).fn f)∧next (a.put o.dst undef) w:=by
 simp only[W41,Z0]at htr
 obtain ⟨u,hu,ao,hao,htr⟩:=htr
 have hd:=Wbp (guardO_eq.1 hu)
 cases hg:o.guard with
 | none=>
  rw[hg]at htr
  cases htr
  simp only[Region.wanted,hg,if_true]
  exact Wd5 hao hd h hR fun s' a' w' k r=>hK s' a' w' k r
 | some q=>
  obtain ⟨j,want⟩:=q
  rw[hg]at htr
  obtain ⟨t,ht,e⟩:=Z1.1 htr
  subst e
  simp only[itW]at h
  split at h
  ·rename_i b hb
   have hy:=W5g ht hR hb
   simp only[Region.wanted,hg,hy]
   by_cases hbw:b=want
   ·subst hbw
    rw[if_pos (by simp)]
    exact Wd5 hao hd (h.1 rfl) hR fun s' a' w' k r=>hK s' a' w' k r
   ·rw[if_neg (by simpa using hbw)]
    exact ⟨fun _ _=>trivial,hK _ _ _ (h.2 hbw) (hR.skip hd)⟩
  ·rename_i hb
   have hy:=W5h ht hR hb
   simp only[Region.wanted,hg,hy]
   rw[if_neg (by simp)]
   exact ⟨fun _ _=>trivial,hK _ _ _ h (hR.skip hd)⟩
  ·exact h.elim
theorem Wsh{it:AIt}(htr:trIt P N ops o=some it)(h:itW P it s K)(hR:R P w0 env0 bad0 fps base N s a w)
  (hK:∀s' a' w',K s'→R P w0 env0 bad0 fps base N s' a' w'→wpList P ops Q rest a' w'):wpList P ops Q (o::rest) a w:=
 wpList_step fun _ hK'=>V1d htr h hR fun s' a' w' k r=>hK' _ _ (hK s' a' w' k r)
theorem V1e{next:Act→World→Prop}{it:AIt}{i:Nat}(hi:ops[i]?=some o)(htr:trIt P N ops o=some it)(h:itW P it s K)(hR:R P w0 env0 bad0 fps base N s a w)
  (hK:∀s' a' w',K s'→R P w0 env0 bad0 fps base N s' a' w'→next a' w'):wpOp P ops Q i next a w:=by
 have:=V1d (Q:=Q) htr h hR hK
 unfold wpOp
 simp only[hi]
 split
 ·rename_i hw; rw[if_pos hw]at this; exact .inl this
 ·rename_i hw; rw[if_neg hw]at this; exact this
theorem Wsi{it:AIt}{nx:Act→Prop}(hp:it.op.pure=true)(htr:trIt P N ops o=some it)(h:itW P it s K)(hR:R P w0 env0 bad0 fps base N s a w)
  (hK:∀s' a',K s'→R P w0 env0 bad0 fps base N s' a' w→wpStill P ops w nx rest a'):wpStill P ops w nx (o::rest) a:=by
 simp only[trIt,Z0]at htr
 obtain ⟨u,hu,ao,hao,htr⟩:=htr
 have hd:=Wbp (guardO_eq.1 hu)
 refine wpStill_step fun K' hK'=> ?_
 cases hg:o.guard with
 | none=>
  rw[hg]at htr
  cases htr
  simp only[Region.wanted,hg,if_true]
  exact Wa9 ((W7g hao).still hp hd h hR fun s' a' k r=>hK' _ (hK s' a' k r))
 | some q=>
  obtain ⟨j,want⟩:=q
  rw[hg]at htr
  obtain ⟨t,ht,e⟩:=Z1.1 htr
  subst e
  simp only[itW]at h
  split at h
  ·rename_i b hb
   have hy:=W5g ht hR hb
   simp only[Region.wanted,hg,hy]
   by_cases hbw:b=want
   ·subst hbw
    rw[if_pos (by simp)]
    exact Wa9 ((W7g hao).still hp hd (h.1 rfl) hR fun s' a' k r=>hK' _ (hK s' a' k r))
   ·rw[if_neg (by simpa using hbw)]
    exact hK' _ (hK _ _ (h.2 hbw) (hR.skip hd))
  ·rename_i hb
   have hy:=W5h ht hR hb
   simp only[Region.wanted,hg,hy]
   rw[if_neg (by simp)]
   exact hK' _ (hK _ _ h (hR.skip hd))
  ·exact h.elim
theorem Wd6(hK:∀s' a' w',K s'→R P w0 env0 bad0 fps base N s' a' w'→Q .normal a' w'):∀{l:List Oper} {its:List AIt} {s:St} {a:Act} {w:World},W0h (trIt P N ops) l=some its→opsW P K its s→R P w0 env0 bad0 fps base N s a w→wpList P ops Q l a w
 | [],its,s,a,w,htr,h,hR=>by cases htr; exact wpList_nil (hK _ _ _ h hR)
 | o::l,its,s,a,w,htr,h,hR=>by
  simp only[W0h,Z0,Z1]at htr
  obtain ⟨it,h1,its',h2,rfl⟩:=htr
  exact Wsh h1 h hR fun s' a' w' k r=>Wd6 hK h2 k r
theorem Waf{ro:Option Nat}{n:Nat}(hK:∀s' a' w',K s'→R P w0 env0 bad0 fps base N s' a' w'→Q .normal a' w'):∀{l:List Oper} {its:List AIt} {s:St} {a:Act} {w:World},W0h (W41 P N ops) l=some its→opsW P K its s→R P w0 env0 bad0 fps base N s a w→wpListIn (Fw ro) n P ops Q l a w
 | [],its,s,a,w,htr,h,hR=>by cases htr; exact wpListIn_nil (hK _ _ _ h hR)
 | o::l,its,s,a,w,htr,h,hR=>by
  simp only[W0h,Z0,Z1]at htr
  obtain ⟨it,h1,its',h2,rfl⟩:=htr
  exact wpListIn_step fun _ hK'=>Wvv h1 h hR fun s' a' w' k r=>hK' _ _ (Waf hK h2 k r)
theorem W8b{nx:Act→Prop}(hK:∀s' a',K s'→R P w0 env0 bad0 fps base N s' a' w→nx a'):∀{l:List Oper} {its:List AIt} {s:St} {a:Act},its.all (·.op.pure)=true→W0h (trIt P N ops) l=some its→opsW P K its s→R P w0 env0 bad0 fps base N s a w→wpStill P ops w nx l a
 | [],its,s,a,_,htr,h,hR=>by cases htr; exact wpStill_nil (hK _ _ h hR)
 | o::l,its,s,a,hp,htr,h,hR=>by
  simp only[W0h,Z0,Z1]at htr
  obtain ⟨it,h1,its',h2,rfl⟩:=htr
  rw[Y2,Z4]at hp
  exact Wsi hp.1 h1 h hR fun s' a' k r=>W8b hK hp.2 h2 k r
theorem W8c:∀{l m:List AIt} {s:St},opsW P K (l++m) s↔opsW P (opsW P K m) l s
 | [],_,_=>Iff.rfl
 | it::l,m,s=>by
  have:opsW P K (l++m)=opsW P (opsW P K m) l:=funext fun s'=>propext W8c
  simp only[List.cons_append,opsW,this]
theorem W8d{α β:Type}{f:α→Option β}:∀{l:List α} {m:List β} (n:Nat),W0h f l=some m→W0h f (l.take n)=some (m.take n)∧W0h f (l.drop n)=some (m.drop n)
 | l,m,0,h=>⟨by simp[W0h],by simpa using h⟩
 | [],m,n+1,h=>by cases h; exact ⟨rfl,rfl⟩
 | x::l,m,n+1,h=>by
  simp only[W0h,Z0,Z1]at h
  obtain ⟨b,h1,m',h2,rfl⟩:=h
  obtain ⟨k1,k2⟩:=W8d n h2
  exact ⟨by simp[W0h,h1,k1],by simpa using k2⟩
theorem R.draw(hR:R P w0 env0 bad0 fps base N s a w):R P w0 env0 bad0 fps base N s a {w with drawn:=w.drawn+1}:=by
 obtain ⟨⟨env,hrs,hsl,hev⟩,hsz,hdf⟩:=hR
 have he:Ev w env (W04 base env s.regs) {w with drawn:=w.drawn+1} env (W04 base env s.regs):=⟨⟨Z8 _,fun _ _ _=>rfl⟩,fun _ _ h=>h,Env.le_refl _⟩
 exact ⟨⟨env,hrs.draw rfl rfl rfl rfl,fun n=>(hsl n).ev he,hev.trans he⟩,hsz,hdf⟩
def noCv(it:AIt):Bool:=match it.op with
 | .callv _ (.t _) _=>false
 | _=>true
def Wn5(P:Program)(ops:Array Oper)(its:List AIt):Bool:=
 P.follows .mixedOrders&&(ops.toList.all Wa2&&((Region.lexB .any ops&&its.all (·.op.pure))||(List.range ops.size).any fun n=>Region.lexTailB .any ops n&&(its.take n).all (·.op.pure)))
def Wn6(P:Program)(N:Nat)(ops:Array Oper)(draw:Bool):Option (List AIt):=
 if draw=true then (W0h (trIt P N ops) ops.toList).bind fun its=>(W61 (Wn5 P ops its&&its.all noCv)).map fun _=>its else W0h (W41 P N ops) ops.toList
theorem Wn7{l:List Oper}(hB:Region.lexB .any l.toArray=true)(h:wpStill P l.toArray w (fun a'=>Q .normal a' w) l a):wpAny P .any l.toArray Q l.toArray.size (Array.replicate l.toArray.size false) a w:=by
 simp only[Region.lexB,Z4]at hB
 refine wpAny_of_still (Q:=fun a'=>Q .normal a' w) (fun _ h=>h) _ _ _ ?_
 have:=wpAnyS_lex (md:= .any) hB.1 l 0 (Array.replicate l.toArray.size false) a (by simp) (by simpa using hB.2) h
 simpa using this
theorem Wsj{l:List Oper}(n:Nat)(hB:Region.lexTailB .any l.toArray n=true)(h:wpStill P l.toArray w (fun a'=>wpList P l.toArray Q (l.drop n) a' w) (l.take n) a):wpAny P .any l.toArray Q l.toArray.size (Array.replicate l.toArray.size false) a w:=by
 simp only[Region.lexTailB,Z4,Zf]at hB
 obtain ⟨⟨⟨⟨hsel,hn⟩,hs⟩,hc⟩,hlex⟩:=hB
 have hn':n<l.length:=by simpa using hn
 have htl:(l.take n).length=n:=by simp; omega
 have hdl:(l.drop n).length=l.toArray.size-n:=by simp
 have inv0:HeadInv .any l.toArray n (Array.replicate l.toArray.size false):=⟨by simp,fun j oj _ hl=>(by rw[getD_replicate_false]at hl; cases hl),fun t _ ht=>getD_in (by simpa using ht) (getD_replicate_false _ _)⟩
 have H:=wpAnyL_lex (md:= .any) (g:=l.toArray.size-n) hsel hs hc hn (l.take n) 0 _ a (fun j hj=>by
  have hj':j<n:=by rw[htl]at hj; exact hj
  simp[hj']) (by simpa using htl) inv0 (by rw[htl]; exact hlex) h
 have:=wpAny_of_head (Q':=Q) (g:=l.toArray.size-n) (fun listed a' hL=>by
  have:=wpAny_of_seq (md:= .any) (Q':=Q) (l.drop n) n listed a' w (fun j=>by simp[Yb]) (by rw[hdl]; exact hL.1) hL.2
  rwa[hdl]at this) _ _ _ H
 rw[htl,show n+(l.toArray.size-n)=l.toArray.size by omega]at this
 exact this
theorem Wn8{ops:Array Oper}(h:ops.toList.all Wa2=true):∀(i:Nat) (o:Oper),ops[i]?=some o→∀c,o.op≠ .defer c:=fun i o hi=>Wsg (by
 rw[Za]at h
 exact h o (Zi (i:=i) (by simpa using hi)))
theorem Wfo{ro:Option Nat}{n id:Nat}(hm:P.follows .mixedOrders=true)(hd:ops.toList.all Wa2=true)(h:wpAny P .any ops (Wmc Q) ops.size (Array.replicate ops.size false) a {w with drawn:=w.drawn+1}):(Code.region id ops true).wpIn (Fw ro) n P Q a w:=
 wpIn_mono (Q:=Wmc Q) (wpIn_region_any hm (V1a (Wn8 hd) Wjt _ _ _ _ h)) fun e a w q=>by cases e<;>first | exact q | exact q.elim
theorem Wn9{ro:Option Nat}{n id:Nat}{draw:Bool}{its:List AIt}(htr:Wn6 P N ops draw=some its)(h:opsW P K its s)(hR:R P w0 env0 bad0 fps base N s a w)
  (hK:∀s' a' w',K s'→R P w0 env0 bad0 fps base N s' a' w'→Q .normal a' w'):(Code.region id ops draw).wpIn (Fw ro) n P Q a w:=by
 cases draw with
 | false=>
  simp only[Wn6,Y6,if_false]at htr
  exact wpIn_region_list (Waf hK htr h hR)
 | true=>
  simp only[Wn6,if_true,Z0,Z1]at htr
  obtain ⟨its',h1,u,hu,e⟩:=htr
  subst e
  have hok:Wn5 P ops its'=true:=((Z4 _ _).mp (guardO_eq.1 hu)).1
  simp only[Wn5,Z4,Bool.or_eq_true,Xx]at hok
  obtain ⟨hm,hnd,⟨hl,hp⟩ | ⟨k,hk,hl,hp⟩⟩:=hok
  ·refine Wfo hm hnd ?_
   cases ops with
   | mk l=>exact Wn7 hl (W8b (fun s' a' k r=>hK s' a' _ k r) hp h1 h hR.draw)
  ·obtain ⟨k1,k2⟩:=W8d k h1
   refine Wfo hm hnd ?_
   cases ops with
   | mk l=>
    refine Wsj k hl ?_
    rw[←X5 k its',W8c]at h
    exact W8b (fun s' a' k r=>Wd6 (Q:=Wmc Q) hK k2 k r) hp k1 h hR.draw
end
def Wna(Q:Exit→Act→World→Prop):Exit→Act→World→Prop
 | .panic _,_,_=>False
 | e,a,w=>Q e a w
theorem Wxf{P:Program}{op:AOp}{l:List AX}{s s':St}{K K':St→Prop}(hl:op.loc=some l)(hr:s'.regs=s.regs)(hev:∀x∈l,s'.ev x=s.ev x)
  (hK:∀v rg,K (s.putr op.dst v rg)→K' (s'.putr op.dst v rg)) (h:opW P op s K):opW P op s' K':=by
 have hK0:∀v,K (s.put op.dst v)→K' (s'.put op.dst v):=fun v h=>by
  have:=hK v s.regs h
  rw[←hr]at this
  exact this
 cases op with
 | x d k args=>
  simp only[AOp.loc]at hl
  split at hl
  ·cases hl
   simp only[opW]at h ⊢
   rw[W89 hev,hr]
   exact Wmz (fun v rg hk=>hK v rg hk) h
  ·cases hl
 | mv d x=>
  cases hl
  simp only[opW]at h ⊢
  rw[hev x (by simp)]
  exact hK0 _ h
 | bin d op x y=>
  cases hl
  simp only[opW]at h ⊢
  rw[hev x (by simp),hev y (by simp)]
  split at h
  ·exact W88 (fun v hv=>hK0 _ hv) h
  ·exact h.elim
 | eqs d neg t ks x y=>
  cases hl
  simp only[opW]at h ⊢
  rw[hev x (by simp),hev y (by simp)]
  split at h
  ·split at h
   ·exact ⟨h.1,hK0 _ h.2⟩
   ·exact h.elim
  ·exact h.elim
 | beq d neg x y=>
  cases hl
  simp only[opW]at h ⊢
  rw[hev x (by simp),hev y (by simp)]
  split at h
  ·exact hK0 _ h
  ·exact h.elim
 | pick d c x y=>
  cases hl
  simp only[opW]at h ⊢
  rw[hev c (by simp),hev x (by simp),hev y (by simp)]
  split at h
  ·exact ⟨fun e=>hK0 _ (h.1 e),fun e=>hK0 _ (h.2 e)⟩
  ·exact h.elim
 | un d op x=>
  cases hl
  simp only[opW]at h ⊢
  rw[hev x (by simp)]
  split at h<;>first
   | exact hK0 _ h
   | exact h.elim
 | cvi d k x=>
  cases hl
  simp only[opW]at h ⊢
  rw[hev x (by simp)]
  split at h<;>first
   | exact hK0 _ h
   | exact h.elim
 | b2s d x=>
  cases hl
  simp only[opW]at h ⊢
  rw[hev x (by simp),hr]
  split at h
  ·obtain ⟨h1,h2,bs,h3,h4⟩:=h
   exact ⟨h1,h2,bs,h3,hK0 _ h4⟩
  ·exact h.elim
 | load d n agg x=>
  cases hl
  simp only[opW]at h ⊢
  rw[hev x (by simp),hr]
  split at h
  ·split at h
   ·obtain ⟨v,h1,h2,h3⟩:=h
    exact ⟨v,h1,h2,hK0 _ h3⟩
   ·exact h.elim
  ·split at h
   ·obtain ⟨h0,c,v,h1,h2,h3,h4⟩:=h
    exact ⟨h0,c,v,h1,h2,h3,hK0 _ h4⟩
   ·obtain ⟨h0,c,v,h1,h2,h3,h4⟩:=h
    exact ⟨h0,c,v,h1,h2,h3,hK0 _ h4⟩
   ·exact h.elim
  ·obtain ⟨v,h1,h2,h3⟩:=h
   exact ⟨v,h1,h2,hK0 _ h3⟩
  ·exact h.elim
 | nilc d x=>
  cases hl
  simp only[opW]at h ⊢
  rw[hev x (by simp)]
  split at h<;>first
   | exact hK0 _ h
   | exact h.elim
 | fad d off x=>
  cases hl
  simp only[opW]at h ⊢
  rw[hev x (by simp)]
  split at h<;>first
   | exact hK0 _ h
   | exact h.elim
 | fld d off n agg x=>
  cases hl
  simp only[opW]at h ⊢
  rw[hev x (by simp)]
  split at h
  ·obtain ⟨v,h1,h2,h3⟩:=h
   exact ⟨v,h1,h2,hK0 _ h3⟩
  ·exact h.elim
 | ixs d sz x i=>
  cases hl
  simp only[opW]at h ⊢
  rw[hev x (by simp),hev i (by simp)]
  split at h
  ·obtain ⟨h0,h1,c,h2,h3⟩:=h
   exact ⟨h0,h1,c,h2,hK0 _ h3⟩
  ·obtain ⟨h0,h1,h2,h3⟩:=h
   exact ⟨h0,h1,h2,hK0 _ h3⟩
  ·exact h.elim
 | ixa d len sz x i=>
  cases hl
  simp only[opW]at h ⊢
  rw[hev x (by simp),hev i (by simp)]
  split at h
  ·obtain ⟨h0,h1,h2,h3⟩:=h
   exact ⟨h0,h1,h2,hK0 _ h3⟩
  ·obtain ⟨h1,h2,h3⟩:=h
   exact ⟨h1,h2,hK0 _ h3⟩
  ·obtain ⟨h1,h2,h3⟩:=h
   exact ⟨h1,h2,hK0 _ h3⟩
  ·exact h.elim
 | ixv d len sz agg x i=>
  cases hl
  simp only[opW]at h ⊢
  rw[hev x (by simp),hev i (by simp)]
  split at h
  ·obtain ⟨h0,h1,v,h2,h3,h4⟩:=h
   exact ⟨h0,h1,v,h2,h3,hK0 _ h4⟩
  ·exact h.elim
 | ixt d x i=>
  cases hl
  simp only[opW]at h ⊢
  rw[hev x (by simp),hev i (by simp)]
  split at h
  ·obtain ⟨h0,h1,h2⟩:=h
   exact ⟨h0,h1,hK0 _ h2⟩
  ·exact h.elim
 | len d x=>
  cases hl
  simp only[opW]at h ⊢
  rw[hev x (by simp)]
  split at h<;>first
   | exact hK0 _ h
   | exact h.elim
 | lens d x=>
  cases hl
  simp only[opW]at h ⊢
  rw[hev x (by simp)]
  split at h<;>first
   | exact hK0 _ h
   | exact h.elim
 | mm d mx x y=>
  cases hl
  simp only[opW]at h ⊢
  rw[hev x (by simp),hev y (by simp)]
  split at h<;>first
   | exact hK0 _ h
   | exact h.elim
 | ext d x i=>
  cases hl
  simp only[opW]at h ⊢
  rw[hev x (by simp)]
  split at h
  ·obtain ⟨v,h1,h2⟩:=h
   exact ⟨v,h1,hK0 _ h2⟩
  ·exact h.elim
 | sls d sz x lo hi mx=>
  cases hl
  simp only[opW]at h ⊢
  have e1:=W4i (s:=s) (s':=s') (o:=lo) fun x hx=>hev x (by simp[hx])
  have e2:=W4i (s:=s) (s':=s') (o:=hi) fun x hx=>hev x (by simp[hx])
  have e3:=W4i (s:=s) (s':=s') (o:=mx) fun x hx=>hev x (by simp[hx])
  rw[hev x (by simp),e1,e2,e3]
  split at h
  ·split at h
   ·obtain ⟨h0,h1,h2,h3,h4⟩:=h
    exact ⟨h0,h1,h2,h3,hK0 _ h4⟩
   ·obtain ⟨h0,h1,h2,h3,h4,h5⟩:=h
    exact ⟨h0,h1,h2,h3,h4,hK0 _ h5⟩
   ·exact h.elim
  ·split at h
   ·obtain ⟨h0,h1,h2,h3,h4,h5⟩:=h
    exact ⟨h0,h1,h2,h3,h4,hK0 _ h5⟩
   ·obtain ⟨h0,h1,h2,h3,h4,h5,h6⟩:=h
    exact ⟨h0,h1,h2,h3,h4,h5,hK0 _ h6⟩
   ·exact h.elim
  ·split at h
   ·exact ⟨h.1,h.2.1,hK0 _ h.2.2⟩
   ·exact ⟨h.1,h.2.1,h.2.2.1,hK0 _ h.2.2.2⟩
   ·exact h.elim
  ·exact h.elim
 | build d zs parts=>
  cases hl
  simp only[opW]at h ⊢
  have e:(parts.map fun (off,sz,x)=>(off,sz,s'.ev x))=parts.map fun (off,sz,x)=>(off,sz,s.ev x):=
   Yg fun p hp=>by
    obtain ⟨off,sz,x⟩:=p
    simp only
    rw[hev x (Y1.2 ⟨_,hp,rfl⟩)]
  split at h
  ·rename_i l' hl'
   have hl2:W7w (zs.map fun z=> .p (.v z)) (parts.map fun (off,sz,x)=>(off,sz,s'.ev x))=some l':=by rw[e]; exact hl'
   simp only[hl2]
   exact hK0 _ h
  ·exact h.elim
 | call d f args=>
  cases hl
  simp only[opW]at h ⊢
  rw[W89 hev,hr]
  exact h.mono fun r rg hk=>hK _ _ hk
 | callv d x args=>
  cases hl
  simp only[opW]at h ⊢
  rw[hev x (by simp),W89 (l:=args) fun y hy=>hev y (by simp[hy]),hr]
  split at h
  ·exact h.mono fun r rg hk=>hK _ _ hk
  ·exact h.elim
 | mkf d f a b=>
  cases hl
  simp only[opW]at h ⊢
  rw[W2e (l:=a) (f:=fun x=>faOf (s'.ev x)) (g:=fun x=>faOf (s.ev x)) fun y hy=>by rw[hev y (by simp[hy])],
   W2e (l:=b) (f:=fun x=>faOf (s'.ev x)) (g:=fun x=>faOf (s.ev x)) fun y hy=>by rw[hev y (by simp[hy])]]
  split at h<;>first
   | exact hK0 _ h
   | exact h.elim
 | _=>cases hl
def AIt.reads(it:AIt):List AX:=(match it.guard with | some (t,_)=>[.t t] | none=>[])++(it.op.loc.getD [])
theorem Wxg{P:Program}{it:AIt}{s s':St}{K K':St→Prop}(hl:it.op.loc.isSome=true)(hd:it.op.dst=it.d)(hr:s'.regs=s.regs)(hev:∀x∈it.reads,s'.ev x=s.ev x)
  (hK:∀v rg,K (s.putr it.d v rg)→K' (s'.putr it.d v rg)) (h:itW P it s K):itW P it s' K':=by
 obtain ⟨l,hl⟩:=Xd.1 hl
 have hev2:∀x∈l,s'.ev x=s.ev x:=fun x hx=>hev x (by simp[AIt.reads,hl,hx])
 have ho:opW P it.op s K→opW P it.op s' K':=fun h=>Wxf hl hr hev2 (by rw[hd]; exact hK) h
 have hK0:∀v,K (s.put it.d v)→K' (s'.put it.d v):=fun v h=>by
  have:=hK v s.regs h
  rw[←hr]at this
  exact this
 unfold itW at h ⊢
 cases hg:it.guard with
 | none=>
  simp only[hg]at h ⊢
  exact ho h
 | some tw=>
  obtain ⟨t,w⟩:=tw
  simp only[hg]at h ⊢
  have e:lk s'.slots t=lk s.slots t:=hev (.t t) (by simp[AIt.reads,hg])
  rw[e]
  split at h
  ·exact ⟨fun e=>ho (h.1 e),fun e=>hK0 _ (h.2 e)⟩
  ·exact hK0 _ h
  ·exact h.elim
def parW(P:Program):List AIt→St→(St→Prop)→Prop
 | [],s,C=>C s
 | it::r,s,C=>∃d v,it.d=some d∧(∀K:St→Prop,K ⟨(d,v)::s.slots,s.regs⟩→itW P it s K)∧parW P r ⟨(d,v)::s.slots,s.regs⟩ C
def dsts(its:List AIt):List Nat:=its.filterMap (·.d)
def Wsk:List AIt→Bool
 | []=>true
 | it::r=>it.op.loc.isSome&&(it.op.dst==it.d)&&(match it.d with
  | some d=> !(dsts r).contains d
  | none=>false)&&it.reads.all (fun x=>match x with
  | .t n=> !(dsts (it::r)).contains n
  | _=>true)&&Wsk r
theorem W8e{s s':St}{x:AX}(h:∀n,x= .t n→lk s'.slots n=lk s.slots n):s'.ev x=s.ev x:=by
 cases x with
 | t n=>exact h n rfl
 | k v=>rfl
 | f i=>rfl
theorem Wd7{P:Program}{C:St→Prop}:∀(its:List AIt) (s:St),Wsk its=true→parW P its s C→∃sF,C sF∧sF.regs=s.regs∧(∀t,t∉dsts its→lk sF.slots t=lk s.slots t)∧
  ∀(k:Nat) (it:AIt),its[k]?=some it→∃d,it.d=some d∧∀s':St,s'.regs=s.regs→(∀x∈it.reads,s'.ev x=sF.ev x)→itW P it s' fun s1=>s1=⟨(d,lk sF.slots d)::s'.slots,s'.regs⟩
 | [],s,_,h=>⟨s,h,rfl,fun _ _=>rfl,fun k it e=>by simp at e⟩
 | it::r,s,hok,⟨d,v,hd,h1,h2⟩=>by
  simp only[Wsk,hd,Z4,X0,Za]at hok
  obtain ⟨⟨⟨⟨hl,hdst⟩,hnd⟩,hrd⟩,hr⟩:=hok
  obtain ⟨sF,hC,hregs,hlk,hall⟩:=Wd7 r _ hr h2
  have hdd:dsts (it::r)=d::dsts r:=by simp[dsts,hd]
  have hnd':d∉dsts r:=by simpa using hnd
  have hv:lk sF.slots d=v:=by
   rw[hlk d hnd']
   simp[lk]
  refine ⟨sF,hC,hregs,fun t ht=> ?_,fun k it' e=> ?_⟩
  ·rw[hdd]at ht
   simp only[Zq,not_or]at ht
   rw[hlk t ht.2]
   simp[lk,Ne.symm ht.1]
  ·cases k with
   | zero=>
    simp only[List.getElem?_cons_zero,Yp]at e
    subst e
    refine ⟨d,hd,fun s' hs' hev=> ?_⟩
    have hev2:∀x∈it.reads,s'.ev x=s.ev x:=fun x hx=>by
     rw[hev x hx]
     refine W8e fun n e=> ?_
     subst e
     have:=hrd _ hx
     simp only[hdd,X0,List.contains_eq_mem,Xr,Zq,not_or]at this
     rw[hlk n this.2]
     simp[lk,Ne.symm this.1]
    refine Wxg (s:=s) (K:=fun s1=>s1=⟨(d,v)::s.slots,s.regs⟩) hl (by rw[hd]; simpa using hdst) hs' hev2 (fun v' rg e=> ?_) (h1 _ rfl)
    rw[hd]at e ⊢
    simp only[St.putr,St.put,St.mk.injEq,List.cons.injEq,Prod.mk.injEq,true_and,and_true]at e ⊢
    exact ⟨by rw[hv]; exact e.1,by rw[hs']; exact e.2⟩
   | succ k=>
    exact hall k it' (by simpa using e)
def bnd(ops:Array Oper)(k:Nat):List Nat:=match ops[k]? with
 | some o=>(o.after.toList.filter (Region.binds .any)).map (·.on)
 | none=>[]
def clo(ops:Array Oper)(k:Nat):List Nat:=(List.range k).reverse.foldl (fun m i=>if m.contains i then m++bnd ops i else m) (bnd ops k)
def Wxh(ops:Array Oper)(its:List AIt)(n:Nat):Bool:=
 Wsk (its.take n)&&(List.range ops.size).all (fun k=>(bnd ops k).all fun i=>decide (i<k))&&
 (List.range n).all (fun k=>((its[k]?).map fun it=>it.reads.all fun x=>match x with
  | .t t=>(List.range n).all fun i=> !(((its[i]?).bind (·.d))==some t)||(bnd ops k).contains i
  | _=>true).getD false)&&
 (List.range ops.size).all (fun k=>decide (k<n)||(List.range k).all fun i=>(clo ops k).contains i)
theorem W8f{α:Type}{p q:α→Bool}:∀{l:List α} {a:α},a∈l→(∀x∈l,q x=true→p x=true)→p a=true→q a=false→l.countP q<l.countP p
 | b::l,a,hm,hi,hp,hq=>by
  rcases Zq.1 hm with rfl | hm'
  ·have:l.countP q≤l.countP p:=List.countP_mono_left fun x hx h=>hi x (by simp[hx]) h
   rw[List.countP_cons,List.countP_cons,hp,hq]
   simp; omega
  ·have h:=W8f (l:=l) hm' (fun x hx=>hi x (by simp[hx])) hp hq
   have hb:=hi b (by simp)
   rw[List.countP_cons,List.countP_cons]
   cases hqb:q b
   ·simp; omega
   ·rw[hb hqb]; simp; omega
theorem Wnb{ops:Array Oper}{L:Nat→Prop}(hc:∀i,L i→∀j∈bnd ops i,L j){k:Nat}(hk:∀j∈bnd ops k,L j):∀j∈clo ops k,L j:=by
 unfold clo
 generalize (List.range k).reverse=l
 have:∀(l:List Nat) (m:List Nat),(∀j∈m,L j)→∀j∈l.foldl (fun m i=>if m.contains i then m++bnd ops i else m) m,L j:=by
  intro l
  induction l with
  | nil=>intro m hm; exact hm
  | cons i l ih=>
   intro m hm
   rw[Xe]
   refine ih _ ?_
   split
   ·rename_i hi
    intro j hj
    rcases Zg.1 hj with h | h
    ·exact hm j h
    ·exact hc i (hm i (by simpa using hi)) j h
   ·exact hm
 exact this l _ hk
section
variable {P:Program} {w0:World} {env0:Env} {bad0:Bs} {fps:List Nat} {base:Nat→Prop} {N:Nat} {ops:Array Oper} {Q:Exit→Act→World→Prop} {K:St→Prop}
def isL(listed:Array Bool)(i:Nat):Prop:=listed[i]?=some true
theorem W29{listed:Array Bool}(hsz:listed.size=ops.size){i:Nat}:i∈Region.ready .any ops listed↔i<ops.size∧¬isL listed i∧∀j∈bnd ops i,isL listed j:=by
 unfold Region.ready
 rw[Zj,Y4]
 constructor
 ·rintro ⟨h1,h2⟩
  simp only[Z4,X0]at h2
  obtain ⟨h2,h3⟩:=h2
  have ho:ops[i]?=some ops[i]:=Y0 h1
  refine ⟨h1,fun hl=> ?_,fun j hj=> ?_⟩
  ·unfold isL at hl
   rw[Zd,hl]at h2
   simp at h2
  ·rw[ho]at h3
   simp only[Yi,Option.getD_some,Array.all_eq_true_iff_forall_mem]at h3
   unfold bnd at hj
   rw[ho]at hj
   simp only[Y1,Zj]at hj
   obtain ⟨e,⟨he,hb⟩,rfl⟩:=hj
   have:=h3 e (Array.mem_toList_iff.1 he)
   simp only[hb,Bool.not_true,Bool.false_or]at this
   unfold isL
   rw[Zd]at this
   cases hx:listed[e.on]? with
   | none=>rw[hx]at this; simp at this
   | some b=>rw[hx]at this; simp at this; rw[this]
 ·rintro ⟨h1,h2,h3⟩
  have ho:ops[i]?=some ops[i]:=Y0 h1
  refine ⟨h1,?_⟩
  simp only[Z4,X0]
  refine ⟨?_,?_⟩
  ·unfold isL at h2
   rw[Zd]
   have hlt:i<listed.size:=by omega
   rw[Y0 hlt]at h2 ⊢
   cases hx:listed[i]
   ·rfl
   ·rw[hx]at h2; exact absurd rfl h2
  ·rw[ho]
   simp only[Yi,Option.getD_some,Array.all_eq_true_iff_forall_mem]
   intro e he
   cases hb:Region.binds .any e
   ·rfl
   ·have:=h3 e.on (by unfold bnd; rw[ho]; exact Y1.2 ⟨e,Zj.2 ⟨Array.mem_toList_iff.2 he,hb⟩,rfl⟩)
    unfold isL at this
    rw[Zd,this]
    rfl
theorem W0l{listed:Array Bool}{i j:Nat}(hi:i<listed.size):isL (listed.setIfInBounds i true) j↔j=i∨isL listed j:=by
 unfold isL
 rw[Array.getElem?_setIfInBounds]
 by_cases e:i=j
 ·subst e; simp[hi]
 ·simp[e,Ne.symm e]
theorem R.congr{s s':St}{a:Act}{w:World}(hr:s'.regs=s.regs)(hl:∀t,lk s'.slots t=lk s.slots t)(h:R P w0 env0 bad0 fps base N s a w):R P w0 env0 bad0 fps base N s' a w:=by
 obtain ⟨⟨env,h1,h2,h3⟩,h4,h5⟩:=h
 exact ⟨⟨env,by rw[hr]; exact h1,fun n=>by rw[hl,hr]; exact h2 n,by rw[hr]; exact h3⟩,h4,h5⟩
variable {its:List AIt} {n:Nat}
theorem Whh(hits:W0h (trIt P N ops) ops.toList=some its)(hdn:∀k i,i∈bnd ops k→i<k)(htl:∀k,n≤k→k<ops.size→∀i,i<k→i∈clo ops k)(hK:∀s' a' w',K s'→R P w0 env0 bad0 fps base N s' a' w'→Q .normal a' w'):
  ∀(fuel m:Nat) (listed:Array Bool) (s:St) (a:Act) (w:World),n≤m→m≤ops.size→listed.size=ops.size→(∀i,isL listed i↔i<m)→ops.size-m≤fuel→opsW P K (its.drop m) s→R P w0 env0 bad0 fps base N s a w→wpAny P .any ops Q fuel listed a w:=by
 have hlen:its.length=ops.size:=by have:=(W1e (R:=fun _ _=>True) (fun _ _ _=>trivial) hits).len; simpa using this
 intro fuel
 induction fuel with
 | zero=>
  intro m listed s a w hn hm hsz hL hf hw hR
  have e:m=ops.size:=by omega
  subst e
  rw[List.drop_of_length_le (by omega)]at hw
  refine wpAny_done ?_ (hK _ _ _ hw hR) 0
  refine Xb.2 fun i hi=> ?_
  obtain ⟨h1,h2,_⟩:=(W29 hsz).1 hi
  exact h2 ((hL i).2 h1)
 | succ fuel ih=>
  intro m listed s a w hn hm hsz hL hf hw hR
  by_cases e:m=ops.size
  ·subst e
   rw[List.drop_of_length_le (by omega)]at hw
   refine wpAny_done ?_ (hK _ _ _ hw hR) _
   refine Xb.2 fun i hi=> ?_
   obtain ⟨h1,h2,_⟩:=(W29 hsz).1 hi
   exact h2 ((hL i).2 h1)
  ·have hlt:m<ops.size:=by omega
   have hmr:m∈Region.ready .any ops listed:=(W29 hsz).2 ⟨hlt,fun h=>by have:=(hL m).1 h; omega,fun j hj=>(hL j).2 (hdn m j hj)⟩
   refine ⟨fun h0=>by rw[h0]at hmr; simp at hmr,fun i hi=> ?_⟩
   obtain ⟨h1,h2,h3⟩:=(W29 hsz).1 hi
   have hge:m≤i:=by
    rcases Ys i m with h | h
    ·exact absurd ((hL i).2 h) h2
    ·exact h
   have hle:i≤m:=by
    rcases Ys m i with h | h
    ·have hc:=Wnb (L:=isL listed) (fun i hi j hj=>(hL j).2 (Nat.lt_trans (hdn i j hj) ((hL i).1 hi))) h3 m (htl i (by omega) h1 m h)
     have:=(hL m).1 hc
     omega
    ·exact h
   obtain rfl:i=m:=by omega
   have hd:its.drop i=its[i]'(by omega)::its.drop (i+1):=(List.drop_eq_getElem_cons (by omega))
   rw[hd]at hw
   have hti:trIt P N ops ops[i]=some (its[i]'(by omega)):=by
    have h:=(W1e (R:=fun it o=>trIt P N ops o=some it) (fun _ _ h=>h) hits).get i (by omega) (by simpa using h1)
    simpa using h
   refine V1e (Y0 h1) hti hw hR fun s' a' w' k r=> ?_
   refine ih (i+1) _ s' a' w' (by omega) (by omega) (by simpa using hsz) (fun j=> ?_) (by omega) k r
   rw[W0l (by omega),hL]
   omega
theorem Wsl{s0 sF:St}(hits:W0h (trIt P N ops) ops.toList=some its)(hn:n≤ops.size)(hdn:∀k i,i∈bnd ops k→i<k)(htl:∀k,n≤k→k<ops.size→∀i,i<k→i∈clo ops k)
  (hrd:∀k it t,k<n→its[k]?=some it→AX.t t∈it.reads→∀i d,i<n→(its[i]?).bind (·.d)=some d→d=t→i∈bnd ops k)
  (hK:∀s' a' w',K s'→R P w0 env0 bad0 fps base N s' a' w'→Q .normal a' w') (hC:opsW P K (its.drop n) sF) (hregs:sF.regs=s0.regs) (hlk:∀t,t∉dsts (its.take n)→lk sF.slots t=lk s0.slots t)
  (hall:∀(k:Nat) (it:AIt),(its.take n)[k]?=some it→∃d,it.d=some d∧∀s':St,s'.regs=s0.regs→(∀x∈it.reads,s'.ev x=sF.ev x)→itW P it s' fun s1=>s1=⟨(d,lk sF.slots d)::s'.slots,s'.regs⟩):
  ∀(fuel:Nat) (listed:Array Bool) (s:St) (a:Act) (w:World),listed.size=ops.size→(∀i,isL listed i→i<n)→(∀i,isL listed i→∀j∈bnd ops i,isL listed j)→(List.range ops.size).countP (fun i=> !listed.getD i true)≤fuel→
   s.regs=s0.regs→(∀t,(∃i,isL listed i∧(its[i]?).bind (·.d)=some t)→lk s.slots t=lk sF.slots t)→(∀t,(¬ ∃i,isL listed i∧(its[i]?).bind (·.d)=some t)→lk s.slots t=lk s0.slots t)→R P w0 env0 bad0 fps base N s a w→wpAny P .any ops Q fuel listed a w:=by
 have hlen:its.length=ops.size:=by have:=(W1e (R:=fun _ _=>True) (fun _ _ _=>trivial) hits).len; simpa using this
 have hmemd:∀t,t∈dsts (its.take n)→∃i,i<n∧(its[i]?).bind (·.d)=some t:=by
  intro t ht
  obtain ⟨it,h1,h2⟩:=List.mem_filterMap.1 ht
  obtain ⟨i,hi,e⟩:=List.getElem_of_mem h1
  have hi':i<n:=by simp at hi; omega
  refine ⟨i,hi',?_⟩
  rw[Zk]at e
  rw[Z2 (by omega),e]
  exact h2
 have hnl:∀(listed:Array Bool),listed.size=ops.size→∀i,i<ops.size→((!listed.getD i true)=true↔¬isL listed i):=by
  intro listed hsz i hi
  unfold isL
  rw[Zd,Y0 (by omega)]
  cases listed[i]'(by omega)<;>simp
 intro fuel
 induction fuel with
 | zero=>
  intro listed s a w hsz hLn hcl hcnt hsr hs1 hs2 hR
  have hallL:∀i,i<ops.size→isL listed i:=fun i hi=>by
   have:(List.range ops.size).countP (fun i=> !listed.getD i true)=0:=by omega
   have:=(List.countP_eq_zero.1 this) i (Y4.2 hi)
   rw[hnl listed hsz i hi]at this
   exact Classical.not_not.1 this
  refine Whh (n:=n) hits hdn htl hK 0 n listed sF a w (Z8 _) hn hsz (fun i=>⟨hLn i,fun h=>hallL i (by omega)⟩) ?_ hC (R.congr (by rw[hregs,hsr]) (fun t=> ?_) hR)
  ·rcases Ys n ops.size with h | h
   ·have:=hLn n (hallL n h)
    omega
   ·omega
  ·by_cases ht:∃i,isL listed i∧(its[i]?).bind (·.d)=some t
   ·rw[hs1 t ht]
   ·rw[hs2 t ht,hlk t fun hm=>ht ?_]
    obtain ⟨i,hi,e⟩:=hmemd t hm
    exact ⟨i,hallL i (by omega),e⟩
 | succ fuel ih=>
  intro listed s a w hsz hLn hcl hcnt hsr hs1 hs2 hR
  by_cases hfull:∀i,i<n→isL listed i
  ·have hcnt2:ops.size-n≤fuel+1:=by
    have:ops.size-n≤(List.range ops.size).countP (fun i=> !listed.getD i true):=by
     have h1:(List.range ops.size)=List.range n++(List.range (ops.size-n)).map (n+ ·):=by
      rw[←List.range_add]
      congr 1
      omega
     rw[h1,List.countP_append]
     have h2:((List.range (ops.size-n)).map (n+ ·)).countP (fun i=> !listed.getD i true)=((List.range (ops.size-n)).map (n+ ·)).length:=by
      rw[List.countP_eq_length]
      intro i hi
      obtain ⟨j,hj,rfl⟩:=Y1.1 hi
      rw[Y4]at hj
      rw[hnl listed hsz _ (by omega)]
      intro h
      have:=hLn _ h
      omega
     rw[h2]
     simp
    omega
   refine Whh (n:=n) hits hdn htl hK (fuel+1) n listed sF a w (Z8 _) hn hsz (fun i=>⟨hLn i,hfull i⟩) hcnt2 hC (R.congr (by rw[hregs,hsr]) (fun t=> ?_) hR)
   by_cases ht:∃i,isL listed i∧(its[i]?).bind (·.d)=some t
   ·rw[hs1 t ht]
   ·rw[hs2 t ht,hlk t fun hm=>ht ?_]
    obtain ⟨i,hi,e⟩:=hmemd t hm
    exact ⟨i,hfull i hi,e⟩
  ·have hne:Region.ready .any ops listed≠[]:=by
    have hex:∃i,i<n∧¬isL listed i:=by
     refine Classical.byContradiction fun h=>hfull fun i hi=>Classical.byContradiction fun hl=>h ⟨i,hi,hl⟩
    obtain ⟨i,⟨hi,hl⟩,hmin⟩:∃i,(i<n∧¬isL listed i)∧∀j,j<i→isL listed j:=by
     obtain ⟨i,hi⟩:=hex
     have:∀m i,i≤m→(i<n∧¬isL listed i)→∃i,(i<n∧¬isL listed i)∧∀j,j<i→isL listed j:=by
      intro m
      induction m with
      | zero=>
       intro i hm hi
       exact ⟨i,hi,fun j hj=>by omega⟩
      | succ m ihm=>
       intro i hm hi
       by_cases h:∀j,j<i→isL listed j
       ·exact ⟨i,hi,h⟩
       ·obtain ⟨j,hj⟩:=Classical.not_forall.1 h
        obtain ⟨h1,h2⟩:=Classical.not_imp.1 hj
        exact ihm j (by omega) ⟨by omega,h2⟩
     exact this i i (Z8 _) hi
    intro h0
    have:i∈Region.ready .any ops listed:=(W29 hsz).2 ⟨by omega,hl,fun j hj=>hmin j (hdn i j hj)⟩
    rw[h0]at this
    simp at this
   refine ⟨fun h0=>absurd h0 hne,fun i hi=> ?_⟩
   obtain ⟨h1,h2,h3⟩:=(W29 hsz).1 hi
   have hin:i<n:=by
    rcases Ys i n with h | h
    ·exact h
    ·refine absurd (fun j (hj:j<n)=> ?_) hfull
     exact Wnb (L:=isL listed) hcl h3 j (htl i h h1 j (by omega))
   have hit:its[i]?=some (its[i]'(by omega)):=Z2 (by omega)
   have hti:trIt P N ops ops[i]=some (its[i]'(by omega)):=by
    have h:=(W1e (R:=fun it o=>trIt P N ops o=some it) (fun _ _ h=>h) hits).get i (by omega) (by simpa using h1)
    simpa using h
   obtain ⟨d,hd,hs⟩:=hall i (its[i]'(by omega)) (by rw[Zx,if_pos hin]; exact hit)
   refine V1e (Y0 h1) hti (hs s hsr fun x hx=>W8e fun t e=> ?_) hR fun s' a' w' k r=> ?_
   ·subst e
    by_cases ht:∃j,j<n∧(its[j]?).bind (·.d)=some t
    ·obtain ⟨j,hj,e⟩:=ht
     exact hs1 t ⟨j,h3 j (hrd i _ t hin hit hx j t hj e rfl),e⟩
    ·rw[hs2 t fun ⟨j,hj,e⟩=>ht ⟨j,hLn j hj,e⟩,hlk t fun hm=>ht (hmemd t hm)]
   ·subst k
    have hbd:(its[i]?).bind (·.d)=some d:=by rw[hit]; exact hd
    refine ih _ ⟨(d,lk sF.slots d)::s.slots,s.regs⟩ a' w' (by simpa using hsz) (fun j hj=> ?_) (fun j hj q hq=> ?_) ?_ hsr (fun t ht=> ?_) (fun t ht=> ?_) r
    ·rcases (W0l (by omega)).1 hj with rfl | h
     ·exact hin
     ·exact hLn j h
    ·rw[W0l (by omega)]
     rcases (W0l (by omega)).1 hj with rfl | h
     ·exact .inr (h3 q hq)
     ·exact .inr (hcl j h q hq)
    ·have hlt:=W8f (l:=List.range ops.size) (p:=fun i=> !listed.getD i true) (q:=fun j=> !(listed.setIfInBounds i true).getD j true) (a:=i) (Y4.2 h1) (fun x hx hq=> ?_) ?_ ?_
     ·omega
     ·have hx':=Y4.1 hx
      have:=(hnl (listed.setIfInBounds i true) (by simpa using hsz) x hx').1 hq
      rw[W0l (by omega)]at this
      exact (hnl listed hsz x hx').2 fun h=>this (.inr h)
     ·exact (hnl listed hsz i h1).2 h2
     ·cases hc:(!(listed.setIfInBounds i true).getD i true)with
      | false=>rfl
      | true=>
       have:=(hnl (listed.setIfInBounds i true) (by simpa using hsz) i h1).1 hc
       rw[W0l (by omega)]at this
       exact absurd (.inl rfl) this
    ·by_cases e:d=t
     ·subst e; simp[lk]
     ·obtain ⟨j,hj,e'⟩:=ht
      simp only[lk,e,if_false]
      refine hs1 t ⟨j,?_,e'⟩
      rcases (W0l (by omega)).1 hj with rfl | h
      ·rw[hbd]at e'
       exact absurd (Y7 e') e
      ·exact h
    ·have e:d≠t:=fun e=>ht ⟨i,(W0l (by omega)).2 (.inl rfl),by rw[hbd,e]⟩
     simp only[lk,e,if_false]
     exact hs2 t fun ⟨j,hj,e'⟩=>ht ⟨j,(W0l (by omega)).2 (.inr hj),e'⟩
theorem Wnc{ro:Option Nat}{n' id:Nat}{s:St}{a:Act}{w:World}(hm:P.follows .mixedOrders=true)(hnd:ops.toList.all Wa2=true)(hits:W0h (trIt P N ops) ops.toList=some its)(hok:Wxh ops its n=true)(hn:n≤ops.size)(h:parW P (its.take n) s (opsW P K (its.drop n)))
  (hR:R P w0 env0 bad0 fps base N s a w) (hK:∀s' a' w',K s'→R P w0 env0 bad0 fps base N s' a' w'→Q .normal a' w'):(Code.region id ops true).wpIn (Fw ro) n' P Q a w:=by
 simp only[Wxh,Z4,Za,Y4,Zf,Bool.or_eq_true]at hok
 obtain ⟨⟨⟨h1,h2⟩,h3⟩,h4⟩:=hok
 obtain ⟨sF,hC,hregs,hlk,hall⟩:=Wd7 _ s h1 h
 have hdn:∀k i,i∈bnd ops k→i<k:=fun k i hi=>by
  rcases Ys k ops.size with hk | hk
  ·exact h2 k hk i hi
  ·unfold bnd at hi
   rw[Xj hk]at hi
   simp at hi
 refine wpIn_mono (Q:=Wna Q) (Wfo hm hnd ?_) fun e a w q=> ?_
 rotate_left
 ·cases e<;>first | exact q | exact q.elim
 ·have hg:∀i,¬isL (Array.replicate ops.size false) i:=fun i hi=>by
   unfold isL at hi
   rw[Array.getElem?_replicate]at hi
   split at hi<;>simp at hi
  exact Wsl (Q:=Wmc (Wna Q)) hits hn hdn (fun k hk hks i hi=>by
    rcases h4 k hks with h | h
    ·omega
    ·exact by simpa using h i hi)
   (fun k it t hk hit ht i d hi hd e=>by
    have:=h3 k hk
    rw[hit]at this
    simp only[Yi,Option.getD_some,Za]at this
    have:=this _ ht
    simp only[Za,Y4]at this
    have:=this i hi
    subst e
    rw[hd]at this
    simpa using this)
   (fun s' a' w' k r=>hK s' a' w' k r) hC hregs hlk hall _ _ s _ _ (by simp) (fun i hi=>absurd hi (hg i)) (fun i hi=>absurd hi (hg i)) (by
    exact Y5 List.countP_le_length (by simp)) rfl (fun t ⟨i,hi,_⟩=>absurd hi (hg i)) (fun _ _=>rfl) hR.draw
end
section
variable {P:Program} {w0 w:World} {env0:Env} {bad0:Bs} {fps:List Nat} {base:Nat→Prop} {N:Nat} {s:St} {a:Act} {o:Oper} {ops:Array Oper} {Q:Exit→Act→World→Prop} {K:St→Prop} {ro:Option Nat} {n:Nat}
theorem Wbq{next:Act→World→Prop}{it:AIt}{i:Nat}(hi:ops[i]?=some o)(htr:W41 P N ops o=some it)(h:itW P it s K)(hR:R P w0 env0 bad0 fps base N s a w)
  (hK:∀s' a' w',K s'→R P w0 env0 bad0 fps base N s' a' w'→next a' w'):wpOpIn (Fw ro) n P ops Q i next a w:=by
 have:=Wvv (Q:=Q) (ro:=ro) (n:=n) htr h hR hK
 unfold wpOpIn
 simp only[hi]
 exact this
theorem Wk7{o:Oper}{a:Act}{next:Act→World→Prop}{Q:Exit→Act→World→Prop}{r:Result Next}(h:o.uponIn (Fw ro) n P a next Q r):o.uponIn (Fw ro) n P a (fun a' w'=>next a' w'∧∃v,a'.tmps=(a.put o.dst v).tmps) Q r:=by
 unfold Oper.uponIn at h ⊢
 split at h
 ·exact ⟨h,_,rfl⟩
 ·exact ⟨h,_,rfl⟩
 ·exact ⟨h,undef,by cases o.dst<;>rfl⟩
 ·refine ⟨h.1,CallsIn.mono h.2 fun e w' k=> ?_⟩
  cases e with
  | returned v=>exact ⟨k,_,rfl⟩
  | panicked c=>exact k
  | outgrown=>exact k
 ·exact ⟨h.1,RowsIn.mono h.2 fun v w' k=>⟨k,_,rfl⟩⟩
 ·refine ⟨h.1,RoundIn.mono h.2 fun e w' k=> ?_⟩
  cases e with
  | returned v=>exact ⟨k,_,rfl⟩
  | panicked c=>exact k
  | outgrown=>exact k
 ·exact h
 ·exact h.elim
theorem W8g{next:Act→World→Prop}{i:Nat}(hi:ops[i]?=some o)(h:wpOpIn (Fw ro) n P ops Q i next a w):wpOpIn (Fw ro) n P ops Q i (fun a' w'=>next a' w'∧∃v,a'.tmps=(a.put o.dst v).tmps) a w:=by
 unfold wpOpIn at h ⊢
 simp only[hi]at h ⊢
 split
 ·rename_i hw
  rw[if_pos hw]at h
  exact ⟨h.1,Wk7 h.2⟩
 ·rename_i hw
  rw[if_neg hw]at h
  exact ⟨h.1,h.2,_,rfl⟩
theorem W70{listed:Array Bool}(h:Region.ready .any ops listed=[])(hq:Q .normal a w):∀fw,wpAnyIn (Fw ro) n P .any ops Q fw listed a w
 | 0=>⟨h,hq⟩
 | _+1=>⟨fun _=>hq,fun i hi=>by rw[h]at hi; simp at hi⟩
end
inductive ATree where
 | done
 | tell (it:AIt) (t:ATree)
 | again (it:AIt) (t:ATree)
 | turn (it:AIt) (t:ATree)
 | both (t u:ATree)
def AOp.isC:AOp→Bool
 | .call .. | .callv .. | .cally .. =>true
 | _=>false
def W71(it:AIt):Prop:=it.op.loc.isSome=true∧it.op.dst=it.d∧it.d.isSome=true∧it.op.isC=false
def W2a:ATree→Prop
 | .done=>True
 | .tell it t=>W71 it∧W2a t
 | .again it t=>W71 it∧W2a t
 | .turn _ t=>W2a t
 | .both t u=>W2a t∧W2a u
def Wxi(P:Program)(it:AIt)(d:Nat)(v:AV)(s:St):Prop:=∀K:St→Prop,K ⟨(d,v)::s.slots,s.regs⟩→itW P it s K
def W3a(P:Program)(K:St→Prop):ATree→St→Prop
 | .done,s=>K s
 | .tell it t,s=>∃d v,it.d=some d∧Wxi P it d v s∧W3a P K t ⟨(d,v)::s.slots,s.regs⟩
 | .again it t,s=>(∃d,it.d=some d∧Wxi P it d (lk s.slots d) s)∧W3a P K t s
 | .turn it t,s=>∃s1,(∀K':St→Prop,K' s1→itW P it s K')∧W3a P K t s1
 | .both t u,s=>W3a P K t s∧W3a P K u s
def AIt.rdsG(it:AIt):List AX:=(match it.guard with | some (t,_)=>[.t t] | none=>[])++it.op.rds.getD []
def Whi(it:AIt)(t:Nat):Bool:=it.rdsG.any fun x=>match x with
 | .t n=>n==t
 | _=>false
theorem Wk8{it:AIt}{t:Nat}(h:AX.t t∈it.rdsG):Whi it t=true:=Xx.2 ⟨_,h,by simp⟩
def dOf(its:List AIt)(i:Nat):Option Nat:=(its[i]?).bind (·.d)
def Wsm(ops:Array Oper)(its:List AIt)(i:Nat):Bool:=match its[i]? with
 | none=>true
 | some it=>it.op.loc.isNone||(it.op.isC||(match it.d with
  | some t=>(List.range its.length).any fun k=>match its[k]? with
   | some kt=>Whi kt t&& !(bnd ops k).contains i
   | none=>false
  | none=>true))
def W2j(ops:Array Oper)(its:List AIt):List Nat:=(List.range its.length).filter (Wsm ops its)
def addN(l:List Nat)(x:Nat):List Nat:=if l.contains x then l else x::l
def Wbr(ops:Array Oper)(A:List (List Nat))(k:Nat):List Nat:=(bnd ops k).foldl (fun m i=>(i::A.getD i []).foldl addN m) []
def ancs(ops:Array Oper):Nat→List (List Nat)
 | 0=>[]
 | k+1=>ancs ops k++[Wbr ops (ancs ops k) k]
def ltOk(ops:Array Oper)(its:List AIt)(A:List (List Nat))(T:List Nat):Bool:=
 (List.range ops.size).all (fun k=>(bnd ops k).all fun i=>decide (i<k))&&
 (List.range its.length).all (fun k=>match its[k]? with
  | none=>true
  | some it=>it.op.rds.isSome&&((it.op.dst==it.d)&&((T.contains k||(it.d.isSome&&it.op.loc.isSome))&&
   (List.range its.length).all fun i=>match dOf its i with
    | none=>true
    | some t=>(i==k|| !(it.d==some t))&&(!Whi it t||((bnd ops k).contains i||(T.contains i&&(A.getD i []).contains k))))))
def subB(A:List (List Nat))(T U:List Nat)(i:Nat):Bool:=(A.getD i []).all fun j=> !T.contains j||U.contains j
def W1b(m:Nat)(A:List (List Nat))(T U C:List Nat):List Nat:=(List.range m).filter fun i=> !T.contains i&&(!C.contains i&&subB A T U i)
def W26(m:Nat)(A:List (List Nat))(T U:List Nat):List Nat:=(List.range m).filter fun i=>T.contains i&&(!U.contains i&&subB A T U i)
def Wag(its:List AIt)(j:Nat):Bool:=match its[j]? with
 | some it=> !it.op.blind
 | none=>true
def agOf(its:List AIt)(A:List (List Nat))(U C:List Nat):List Nat:=C.filter fun j=>Wag its j&& !(U.any fun i=>(A.getD i []).contains j)
def alts(f:Nat→Option ATree):List Nat→Option ATree
 | []=>none
 | [i]=>f i
 | i::r=>(f i).bind fun t=>(alts f r).map fun u=> .both t u
def W8h(its:List AIt):List Nat→Option ATree→Option ATree
 | [],t=>t
 | i::r,t=>(its[i]?).bind fun it=>(W8h its r t).map (.tell it)
def W32(its:List AIt):List Nat→Option ATree→Option ATree
 | [],t=>t
 | i::r,t=>(its[i]?).bind fun it=>(W32 its r t).map (.again it)
def W3i(its:List AIt)(A:List (List Nat))(T:List Nat):Nat→List Nat→List Nat→Option ATree
 | 0,U,C=>W8h its (W1b its.length A T U C) (match W26 its.length A T U with
  | []=>some .done
  | _=>none)
 | fuel+1,U,C=>W8h its (W1b its.length A T U C) (match W26 its.length A T U with
  | []=>some .done
  | l=>alts (fun i=>(its[i]?).bind fun it=>(W32 its (agOf its A (i::U) (C++W1b its.length A T U C)) (W3i its A T fuel (i::U) (C++W1b its.length A T U C))).map (.turn it)) l)
def Wnd(P:Program)(N:Nat)(ops:Array Oper):Option ATree:=(W0h (W41 P N ops) ops.toList).bind fun its=>
 (W61 (ltOk ops its (ancs ops its.length) (W2j ops its))).bind fun _=>W3i its (ancs ops its.length) (W2j ops its) its.length [] []
theorem Wfp{P:Program}{K:St→Prop}{s:St}{f:Nat→Option ATree}:∀{l:List Nat} {t:ATree},alts f l=some t→W3a P K t s→∀i∈l,∃u,f i=some u∧W3a P K u s
 | [i],t,h,hw,j,hj=>by
  rw[X1]at hj
  subst hj
  exact ⟨t,h,hw⟩
 | i::k::r,t,h,hw,j,hj=>by
  simp only[alts,Z0,Z1]at h
  obtain ⟨t1,h1,u,h2,rfl⟩:=h
  rcases Zq.1 hj with rfl | hj
  ·exact ⟨t1,h1,hw.1⟩
  ·exact Wfp (l:=k::r) h2 hw.2 j hj
theorem W7h{P:Program}{T:List Reg→List Reg}{it:AIt}{s s':St}{K K':St→Prop}(ht:Turn P T s.regs)(hT:s'.regs=T s.regs)(hX:(∃d k a,it.op= .x d k a)→∀r,T r=r)(hl:it.op.rds.isSome=true)(hd:it.op.dst=it.d)(hev:∀x∈it.rdsG,s'.ev x=s.ev x)
  (hK:∀v rg,K (s.putr it.d v rg)→K' (s'.putr it.d v (T rg))) (h:itW P it s K):itW P it s' K':=by
 obtain ⟨l,hl⟩:=Xd.1 hl
 have hev2:∀x∈l,s'.ev x=s.ev x:=fun x hx=>hev x (by simp[AIt.rdsG,hl,hx])
 have ho:opW P it.op s K→opW P it.op s' K':=fun h=>Wsf ht hT (fun _=>hX) hl hev2 (by rw[hd]; exact hK) h
 have hK0:∀v,K (s.put it.d v)→K' (s'.put it.d v):=fun v h=>by
  have:=hK v s.regs h
  rw[←hT]at this
  exact this
 unfold itW at h ⊢
 cases hg:it.guard with
 | none=>
  simp only[hg]at h ⊢
  exact ho h
 | some tw=>
  obtain ⟨t,w⟩:=tw
  simp only[hg]at h ⊢
  have e:lk s'.slots t=lk s.slots t:=hev (.t t) (by simp[AIt.rdsG,hg])
  rw[e]
  split at h
  ·exact ⟨fun e=>ho (h.1 e),fun e=>hK0 _ (h.2 e)⟩
  ·exact hK0 _ h
  ·exact h.elim
theorem Wne{P:Program}{it:AIt}{s s':St}{K K':St→Prop}(hb:it.op.blind=true)(hl:it.op.rds.isSome=true)(hd:it.op.dst=it.d)(hev:∀x∈it.rdsG,s'.ev x=s.ev x)
  (hK0:∀v,K (s.put it.d v)→K' (s'.put it.d v)) (h:itW P it s K):itW P it s' K':=by
 obtain ⟨l,hl⟩:=Xd.1 hl
 have hev2:∀x∈l,s'.ev x=s.ev x:=fun x hx=>hev x (by simp[AIt.rdsG,hl,hx])
 have ho:opW P it.op s K→opW P it.op s' K':=fun h=>Wn2 hb hl hev2 (by rw[hd]; exact hK0) h
 unfold itW at h ⊢
 cases hg:it.guard with
 | none=>
  simp only[hg]at h ⊢
  exact ho h
 | some tw=>
  obtain ⟨t,w⟩:=tw
  simp only[hg]at h ⊢
  have e:lk s'.slots t=lk s.slots t:=hev (.t t) (by simp[AIt.rdsG,hg])
  rw[e]
  split at h
  ·exact ⟨fun e=>ho (h.1 e),fun e=>hK0 _ (h.2 e)⟩
  ·exact hK0 _ h
  ·exact h.elim
theorem Wsn{l:List Nat}{x y:Nat}:y∈addN l x↔y=x∨y∈l:=by
 unfold addN
 split
 ·rename_i h
  have:x∈l:=by simpa using h
  constructor
  ·exact .inr
  ·rintro (rfl | h)
   ·exact this
   ·exact h
 ·simp
theorem W8i:∀{r l:List Nat} {y:Nat},y∈r.foldl addN l↔y∈r∨y∈l
 | [],l,y=>by simp
 | a::r,l,y=>by
  rw[Xe,W8i,Wsn,Zq]
  constructor
  ·rintro (h | h | h)<;>simp[h]
  ·rintro ((h | h) | h)<;>simp[h]
theorem ancFold_mem{A:List (List Nat)}:∀{b m:List Nat} {y:Nat},y∈b.foldl (fun m i=>(i::A.getD i []).foldl addN m) m↔(∃i∈b,y=i∨y∈A.getD i [])∨y∈m
 | [],m,y=>by simp
 | a::r,m,y=>by
  rw[Xe,ancFold_mem,W8i]
  simp only[Zq]
  constructor
  ·rintro (⟨i,h,k⟩ | h | h)
   ·exact .inl ⟨i,.inr h,k⟩
   ·exact .inl ⟨a,.inl rfl,h⟩
   ·exact .inr h
  ·rintro (⟨i,rfl | h,k⟩ | h)
   ·exact .inr (.inl k)
   ·exact .inl ⟨i,h,k⟩
   ·exact .inr (.inr h)
theorem W62{ops:Array Oper}:∀n,(ancs ops n).length=n
 | 0=>rfl
 | n+1=>by simp[ancs,W62 n]
theorem Whj{ops:Array Oper}:∀{n k:Nat},k<n→(ancs ops n)[k]?=some (Wbr ops (ancs ops k) k)
 | n+1,k,h=>by
  rw[ancs]
  by_cases e:k<n
  ·rw[Zp (by rw[W62]; exact e)]
   exact Whj e
  ·obtain rfl:k=n:=by omega
   rw[Y3 (by rw[W62]; exact Z8 _),W62,Nat.sub_self]
   rfl
theorem W2v{ops:Array Oper}{n k:Nat}(h:k<n):(ancs ops n).getD k []=Wbr ops (ancs ops k) k:=by
 rw[Zc,Whj h]
 rfl
theorem Whk{ops:Array Oper}{n k i:Nat}(h:k<n)(hi:i∈bnd ops k):i∈(ancs ops n).getD k []:=by
 rw[W2v h]
 exact ancFold_mem.2 (.inl ⟨i,hi,.inl rfl⟩)
theorem W8j{ops:Array Oper}{n:Nat}{L:Nat→Prop}(hc:∀i,L i→∀j∈bnd ops i,L j):∀(k:Nat),k<n→(∀j∈bnd ops k,L j)→∀j∈(ancs ops n).getD k [],L j:=by
 intro k
 induction k using Nat.strongRecOn with
 | ind k ih=>
  intro hk hb j hj
  rw[W2v hk]at hj
  rcases ancFold_mem.1 hj with ⟨i,hi,rfl | h⟩ | h
  ·exact hb _ hi
  ·by_cases hik:i<k
   ·have e:(ancs ops k).getD i []=(ancs ops n).getD i []:=by rw[W2v hik,W2v (Nat.lt_trans hik hk)]
    rw[e]at h
    exact ih i hik (Nat.lt_trans hik hk) (hc i (hb i hi)) j h
   ·rw[Zc,Yt (by rw[W62]; omega)]at h
    simp at h
  ·simp at h
section
variable {P:Program} {w0:World} {env0:Env} {bad0:Bs} {fps:List Nat} {base:Nat→Prop} {N:Nat} {ops:Array Oper} {Q:Exit→Act→World→Prop} {K:St→Prop} {its:List AIt} {A:List (List Nat)} {T:List Nat}
structure LtH(ops:Array Oper)(its:List AIt)(A:List (List Nat))(T:List Nat):Prop where
 dn:∀k i,i∈bnd ops k→i<k
 op:∀(k:Nat) (it:AIt),its[k]?=some it→it.op.rds.isSome=true∧it.op.dst=it.d∧(k∉T→it.d.isSome=true)
 one:∀(i k t:Nat),dOf its i=some t→dOf its k=some t→i=k
 rd:∀(k:Nat) (it:AIt) (t i:Nat),its[k]?=some it→AX.t t∈it.rdsG→dOf its i=some t→i∈bnd ops k∨(i∈T∧k∈A.getD i [])
theorem Wd8{i t:Nat}(h:dOf its i=some t):i<its.length:=by
 unfold dOf at h
 obtain ⟨it,h1,_⟩:=Z0.1 h
 exact (Z3.1 h1).1
theorem Wnf(h:ltOk ops its A T=true):LtH ops its A T:=by
 simp only[ltOk,Z4,Za,Y4,Zf]at h
 obtain ⟨h1,h2⟩:=h
 have hk:∀(k:Nat) (it:AIt),its[k]?=some it→it.op.rds.isSome=true∧it.op.dst=it.d∧(k∉T→it.d.isSome=true)∧∀i t,dOf its i=some t→(i=k∨it.d≠some t)∧(Whi it t=false∨i∈bnd ops k∨(i∈T∧k∈A.getD i [])):=by
  intro k it e
  have:=h2 k (Z3.1 e).1
  rw[e]at this
  simp only[Z4,Za,Y4,Bool.or_eq_true,List.contains_eq_mem,Zf,Xs]at this
  obtain ⟨a,b,c,d⟩:=this
  refine ⟨a,b,fun hk=>(c.resolve_left hk).1,fun i t hi=> ?_⟩
  have:=d i (Wd8 hi)
  rw[hi]at this
  simp only[Z4,Bool.or_eq_true,Xs,X0,beq_eq_false_iff_ne,Zf]at this
  exact this
 refine ⟨fun k i hi=> ?_,fun k it e=>⟨(hk k it e).1,(hk k it e).2.1,(hk k it e).2.2.1⟩,fun i k t hi hk'=> ?_,fun k it t i e ht hi=> ?_⟩
 ·rcases Ys k ops.size with hks | hks
  ·exact h1 k hks i hi
  ·unfold bnd at hi
   rw[Xj hks]at hi
   simp at hi
 ·unfold dOf at hk'
  obtain ⟨it,e1,e2⟩:=Z0.1 hk'
  exact (((hk k it e1).2.2.2 i t hi).1).resolve_right fun h=>h e2
 ·rcases ((hk k it e).2.2.2 i t hi).2 with h | h
  ·rw[Wk8 ht]at h
   cases h
  ·exact h
def Told(P:Program)(its:List AIt)(s:St)(i:Nat):Prop:=∃it d,its[i]?=some it∧it.d=some d∧∀s':St,s'.regs=s.regs→(∀x∈it.rdsG,s'.ev x=s.ev x)→itW P it s' fun s1=>s1=⟨(d,lk s.slots d)::s'.slots,s'.regs⟩
theorem Told.of{it:AIt}{d i:Nat}{s:St}(hH:LtH ops its A T)(hi:its[i]?=some it)(hd:it.d=some d)(h:Wxi P it d (lk s.slots d) s):Told P its s i:=by
 refine ⟨it,d,hi,hd,fun s' hr hev=> ?_⟩
 obtain ⟨h1,h2,_⟩:=hH.op i it hi
 refine W7h (K:=fun s1=>s1=⟨(d,lk s.slots d)::s.slots,s.regs⟩) (Turn.id P s.regs) hr (fun _ _=>rfl) h1 h2 hev (fun v rg e=> ?_) (h _ rfl)
 rw[hd]at e ⊢
 simp only[St.putr,St.put,St.mk.injEq,List.cons.injEq,Prod.mk.injEq,true_and,and_true]at e ⊢
 exact ⟨e.1,by rw[hr]; exact e.2⟩
theorem Told.slots{i:Nat}{s s1:St}(h:Told P its s i)(hr:s1.regs=s.regs)(hs:∀it d,its[i]?=some it→it.d=some d→lk s1.slots d=lk s.slots d∧∀x∈it.rdsG,s1.ev x=s.ev x):Told P its s1 i:=by
 obtain ⟨it,d,h1,h2,h3⟩:=h
 obtain ⟨k1,k2⟩:=hs it d h1 h2
 exact ⟨it,d,h1,h2,fun s' hr' hev=>by rw[k1]; exact h3 s' (hr'.trans hr) fun x hx=>(hev x hx).trans (k2 x hx)⟩
theorem Told.blind{i:Nat}{s s1:St}(hH:LtH ops its A T)(h:Told P its s i)(hb:Wag its i=false)(hs:∀it d,its[i]?=some it→it.d=some d→lk s1.slots d=lk s.slots d∧∀x∈it.rdsG,s1.ev x=s.ev x):Told P its s1 i:=by
 obtain ⟨it,d,h1,h2,h3⟩:=h
 obtain ⟨k1,k2⟩:=hs it d h1 h2
 obtain ⟨q1,q2,_⟩:=hH.op i it h1
 refine ⟨it,d,h1,h2,fun s' hr' hev=> ?_⟩
 have hb':it.op.blind=true:=by
  unfold Wag at hb
  rw[h1]at hb
  simpa using hb
 refine Wne hb' q1 q2 (fun x hx=>(hev x hx).trans (k2 x hx)) (fun v e=> ?_) (h3 s rfl fun _ _=>rfl)
 rw[h2]at e ⊢
 simp only[St.put,St.mk.injEq,List.cons.injEq,Prod.mk.injEq,true_and,and_true]at e ⊢
 rw[k1]
 exact e
theorem Wfq(hH:LtH ops its A T):∀{l:List Nat} {ot:Option ATree} {t:ATree} {s:St},(∀i∈l,i∉T)→l.Pairwise (· < ·)→W8h its l ot=some t→W3a P K t s→
  ∃t' s',ot=some t'∧W3a P K t' s'∧s'.regs=s.regs∧(∀t,(∀i∈l,dOf its i≠some t)→lk s'.slots t=lk s.slots t)∧∀i∈l,Told P its s' i
 | [],ot,t,s,_,_,h,hw=>⟨t,s,h,hw,rfl,fun _ _=>rfl,fun i hi=>by simp at hi⟩
 | i::r,ot,t,s,hT,hp,h,hw=>by
  simp only[W8h,Z0,Z1]at h
  obtain ⟨it,hi,t1,h1,rfl⟩:=h
  obtain ⟨d,v,hd,ht,hw⟩:=hw
  rw[X8]at hp
  have hdi:dOf its i=some d:=by unfold dOf; rw[hi]; exact hd
  obtain ⟨t',s',h2,h3,h4,h5,h6⟩:=Wfq hH (fun j hj=>hT j (Zo _ hj)) hp.2 h1 hw
  have hnd:∀j∈r,dOf its j≠some d:=fun j hj e=>by
   have:=hH.one i j d hdi e
   have:=hp.1 j hj
   omega
  refine ⟨t',s',h2,h3,h4,fun t hn=> ?_,fun j hj=> ?_⟩
  ·rw[h5 t fun j hj=>hn j (Zo _ hj)]
   have:d≠t:=fun e=>hn i (by simp) (by rw[hdi,e])
   simp[lk,this]
  ·rcases Zq.1 hj with rfl | hj
   ·have hv:lk s'.slots d=v:=by
     rw[h5 d hnd]
     simp[lk]
    have h0:Told P its ⟨(d,v)::s.slots,s.regs⟩ j:=by
     refine Told.of hH hi hd ?_
     have e:lk ((d,v)::s.slots) d=v:=by simp[lk]
     intro K hK
     simp only[e]at hK
     obtain ⟨q1,q2,_⟩:=hH.op j it hi
     refine W7h (s:=s) (K:=fun s1=>s1=⟨(d,v)::s.slots,s.regs⟩) (Turn.id P s.regs) rfl (fun _ _=>rfl) q1 q2 (fun x hx=> ?_) (fun v' rg e'=> ?_) (ht _ rfl)
     ·refine W8e fun n hn=> ?_
      subst hn
      have:d≠n:=fun e=>by
       subst e
       rcases hH.rd j it d j hi hx hdi with h | h
       ·exact absurd (hH.dn j j h) (Nat.lt_irrefl _)
       ·exact hT j (by simp) h.1
      simp[lk,this]
     ·rw[hd]at e' ⊢
      simp only[St.putr,St.put,St.mk.injEq,List.cons.injEq,Prod.mk.injEq,true_and,and_true]at e' ⊢
      obtain ⟨rfl,rfl⟩:=e'
      exact hK
    refine h0.slots h4 fun it' d' e1 e2=> ?_
    rw[hi]at e1
    cases e1
    rw[hd]at e2
    cases e2
    refine ⟨h5 d hnd,fun x hx=>W8e fun n hn=>h5 n fun k hk e=> ?_⟩
    subst hn
    rcases hH.rd j it n k hi hx e with h | h
    ·have:=hH.dn j k h
     have:=hp.1 k hk
     omega
    ·exact hT k (Zo _ hk) h.1
   ·exact h6 j hj
theorem W7i(hH:LtH ops its A T):∀{l:List Nat} {ot:Option ATree} {t:ATree} {s:St},W32 its l ot=some t→W3a P K t s→∃t',ot=some t'∧W3a P K t' s∧∀i∈l,Told P its s i
 | [],ot,t,s,h,hw=>⟨t,h,hw,fun i hi=>by simp at hi⟩
 | i::r,ot,t,s,h,hw=>by
  simp only[W32,Z0,Z1]at h
  obtain ⟨it,hi,t1,h1,rfl⟩:=h
  obtain ⟨⟨d,hd,ht⟩,hw⟩:=hw
  obtain ⟨t',h2,h3,h4⟩:=W7i hH h1 hw
  refine ⟨t',h2,h3,fun j hj=> ?_⟩
  rcases Zq.1 hj with rfl | hj
  ·exact Told.of hH hi hd ht
  ·exact h4 j hj
end
theorem W4y{s:St}{d:Option Nat}{v:AV}{rg:List Reg}:(s.putr d v rg).regs=rg:=by cases d<;>rfl
theorem W1f{s:St}{d:Option Nat}{v:AV}{rg:List Reg}{t:Nat}(h:d≠some t):lk (s.putr d v rg).slots t=lk s.slots t:=by
 cases d with
 | none=>rfl
 | some n=>simp only[St.putr,St.put,lk]; rw[if_neg fun e=>h (by rw[e])]
theorem W4z{s:St}{d:Option Nat}{v:AV}{rg:List Reg}{t:Nat}(h:d=some t):lk (s.putr d v rg).slots t=v:=by
 subst h
 simp[St.putr,St.put,lk]
def W72(its:List AIt)(A:List (List Nat))(T:List Nat)(fuel:Nat)(U C:List Nat):Option ATree:=match W26 its.length A T U,fuel with
 | [],_=>some .done
 | _,0=>none
 | l,fuel+1=>alts (fun i=>(its[i]?).bind fun it=>(W32 its (agOf its A (i::U) (C++W1b its.length A T U C)) (W3i its A T fuel (i::U) (C++W1b its.length A T U C))).map (.turn it)) l
theorem W8k{its:List AIt}{A:List (List Nat)}{T:List Nat}(fuel:Nat)(U C:List Nat):W3i its A T fuel U C=W8h its (W1b its.length A T U C) (W72 its A T fuel U C):=by
 cases fuel<;>(unfold W3i W72; congr 1; generalize W26 its.length A T U=l; cases l<;>rfl)
theorem subB_iff{A:List (List Nat)}{T U:List Nat}{i:Nat}:subB A T U i=true↔∀j∈A.getD i [],j∈T→j∈U:=by
 unfold subB
 simp only[Za,Bool.or_eq_true,X0,List.contains_eq_mem,Zf,Xr]
 exact ⟨fun h j hj ht=>(h j hj).resolve_left fun k=>k ht,fun h j hj=>by
  by_cases ht:j∈T
  ·exact .inr (h j hj ht)
  ·exact .inl ht⟩
section
variable {P:Program} {w0:World} {env0:Env} {bad0:Bs} {fps:List Nat} {base:Nat→Prop} {N:Nat} {ops:Array Oper} {Q:Exit→Act→World→Prop} {K:St→Prop} {ro:Option Nat} {n:Nat} {its:List AIt} {T:List Nat}
theorem W6n{listed:Array Bool}(hsz:listed.size=ops.size){i:Nat}(hi:i<ops.size):(!listed.getD i true)=true↔¬isL listed i:=by
 unfold isL
 rw[Zd,Y0 (by omega)]
 cases listed[i]'(by omega)<;>simp
theorem Whl{listed:Array Bool}(hsz:listed.size=ops.size){i:Nat}(hi:i<ops.size)(hn:¬isL listed i):(List.range ops.size).countP (fun j=> !(listed.setIfInBounds i true).getD j true)<(List.range ops.size).countP (fun j=> !listed.getD j true):=by
 refine W8f (a:=i) (Y4.2 hi) (fun x hx hq=> ?_) ((W6n hsz hi).2 hn) ?_
 ·have hx':=Y4.1 hx
  have:=(W6n (listed:=listed.setIfInBounds i true) (by simpa using hsz) hx').1 hq
  rw[W0l (by omega)]at this
  exact (W6n hsz hx').2 fun h=>this (.inr h)
 ·cases hc:(!(listed.setIfInBounds i true).getD i true)with
  | false=>rfl
  | true=>
   have:=(W6n (listed:=listed.setIfInBounds i true) (by simpa using hsz) hi).1 hc
   rw[W0l (by omega)]at this
   exact absurd (.inl rfl) this
theorem Wd9{listed:Array Bool}(hsz:listed.size=ops.size)(hdn:∀k i,i∈bnd ops k→i<k)(h:Region.ready .any ops listed=[]):∀i,i<ops.size→isL listed i:=by
 intro i
 induction i using Nat.strongRecOn with
 | ind i ih=>
  intro hi
  refine Classical.byContradiction fun hn=> ?_
  have:i∈Region.ready .any ops listed:=(W29 hsz).2 ⟨hi,hn,fun j hj=>ih j (hdn i j hj) (Nat.lt_trans (hdn i j hj) hi)⟩
  rw[h]at this
  simp at this
theorem Wda{n i k j:Nat}(hi:i<n)(hki:k<i)(h:k∈bnd ops i)(hj:j∈(ancs ops n).getD k []):j∈(ancs ops n).getD i []:=by
 rw[W2v hi]
 refine ancFold_mem.2 (.inl ⟨k,h,.inr ?_⟩)
 rwa[W2v hki,←W2v (Nat.lt_trans hki hi)]
theorem W8l{A:List (List Nat)}{fuel:Nat}{U C:List Nat}{t:ATree}(h:W72 its A T fuel U C=some t)(hc:W26 its.length A T U=[]):t= .done:=by
 unfold W72 at h
 rw[hc]at h
 cases h
 rfl
theorem Wfr{A:List (List Nat)}{fuel i:Nat}{U C:List Nat}{t:ATree}{s:St}(h:W72 its A T fuel U C=some t)(hw:W3a P K t s)(hi:i∈W26 its.length A T U):
  ∃f it u,fuel=f+1∧its[i]?=some it∧W32 its (agOf its A (i::U) (C++W1b its.length A T U C)) (W3i its A T f (i::U) (C++W1b its.length A T U C))=some u∧∃s1,(∀K':St→Prop,K' s1→itW P it s K')∧W3a P K u s1:=by
 unfold W72 at h
 cases hl:W26 its.length A T U with
 | nil=>rw[hl]at hi; simp at hi
 | cons a l=>
  rw[hl]at h
  cases fuel with
  | zero=>cases h
  | succ f=>
   obtain ⟨u,h1,h2⟩:=Wfp h hw i (by rw[←hl]; exact hi)
   simp only[Z0,Z1]at h1
   obtain ⟨it,e1,u',e2,rfl⟩:=h1
   obtain ⟨s1,h3,h4⟩:=h2
   exact ⟨f,it,u',rfl,e1,e2,s1,h3,h4⟩
theorem Wah{s0:St}(hits:W0h (W41 P N ops) ops.toList=some its)(hH:LtH ops its (ancs ops its.length) T)(hK:∀s' a' w',K s'→R P w0 env0 bad0 fps base N s' a' w'→Q .normal a' w'):
  ∀(fuel:Nat) (U C:List Nat) (t:ATree) (sc:St),W3i its (ancs ops its.length) T fuel U C=some t→W3a P K t sc→(∀i∈U,i∈T)→(∀i∈C,i<its.length∧i∉T∧subB (ancs ops its.length) T U i=true)→(∀i∈C,∀k∈bnd ops i,k∉T→k∈C)→
  (∀t,(∀i,i∈U∨i∈C→dOf its i≠some t)→lk sc.slots t=lk s0.slots t)→
  ∀(fw:Nat) (listed:Array Bool) (s:St) (a:Act) (w:World),listed.size=ops.size→(∀i,isL listed i→∀j∈bnd ops i,isL listed j)→(∀i∈T,isL listed i↔i∈U)→(∀i,isL listed i→i∈U∨i∈C)→(List.range ops.size).countP (fun i=> !listed.getD i true)≤fw→
   (∀i∈C,¬isL listed i→Told P its sc i)→s.regs=sc.regs→(∀t,(∃i,isL listed i∧dOf its i=some t)→lk s.slots t=lk sc.slots t)→(∀t,(¬ ∃i,isL listed i∧dOf its i=some t)→lk s.slots t=lk s0.slots t)→R P w0 env0 bad0 fps base N s a w→wpAnyIn (Fw ro) n P .any ops Q fw listed a w:=by
 have hlen:its.length=ops.size:=by have:=(W1e (R:=fun _ _=>True) (fun _ _ _=>trivial) hits).len; simpa using this
 intro fuel
 induction fuel using Nat.strongRecOn with
 | ind fuel ihf=>
 intro U C t sc hmk hw hU hC hCc hsc
 rw[W8k]at hmk
 have hnew:∀i,i∈W1b its.length (ancs ops its.length) T U C↔i<its.length∧i∉T∧i∉C∧subB (ancs ops its.length) T U i=true:=fun i=>by
  unfold W1b
  rw[Zj,Y4]
  simp
 have hcand:∀i,i∈W26 its.length (ancs ops its.length) T U↔i<its.length∧i∈T∧i∉U∧subB (ancs ops its.length) T U i=true:=fun i=>by
  unfold W26
  rw[Zj,Y4]
  simp
 obtain ⟨t',sc',hnx,hw',hregs',hlk',htold'⟩:=Wfq hH (fun i hi=>((hnew i).1 hi).2.1) (List.Pairwise.filter _ List.pairwise_lt_range) hmk hw
 have hC':∀i∈C++W1b its.length (ancs ops its.length) T U C,i<its.length∧i∉T∧subB (ancs ops its.length) T U i=true:=fun i hi=>by
  rcases Zg.1 hi with h | h
  ·exact hC i h
  ·obtain ⟨a,b,_,c⟩:=(hnew i).1 h
   exact ⟨a,b,c⟩
 have hsc':∀t,(∀i,i∈U∨i∈C++W1b its.length (ancs ops its.length) T U C→dOf its i≠some t)→lk sc'.slots t=lk s0.slots t:=fun t ht=>by
  rw[hlk' t fun i hi=>ht i (.inr (Zg.2 (.inr hi)))]
  exact hsc t fun i hi=>ht i (hi.imp (fun h=>h) fun h=>Zg.2 (.inl h))
 have hold:∀(listed:Array Bool),(∀i,isL listed i→i∈U∨i∈C)→∀t,(∃i,isL listed i∧dOf its i=some t)→lk sc'.slots t=lk sc.slots t:=fun listed hl t ⟨i,h1,h2⟩=>hlk' t fun k hk e=>by
  obtain ⟨k1,k2,k3,_⟩:=(hnew k).1 hk
  have:=hH.one i k t h2 e
  subst this
  rcases hl i h1 with h | h
  ·exact k2 (hU i h)
  ·exact k3 h
 have htoldC:∀i∈C,Told P its sc i→Told P its sc' i:=fun i hi ht=>ht.slots hregs' fun it d e1 e2=>by
  have hne:∀n,(∀k∈W1b its.length (ancs ops its.length) T U C,dOf its k≠some n)→lk sc'.slots n=lk sc.slots n:=hlk'
  have hdi:dOf its i=some d:=by unfold dOf; rw[e1]; exact e2
  refine ⟨hne d fun k hk e=> ?_,fun x hx=>W8e fun n hn=>hne n fun k hk e=> ?_⟩
  ·have:=hH.one i k d hdi e
   subst this
   exact ((hnew i).1 hk).2.2.1 hi
  ·subst hn
   obtain ⟨k1,k2,k3,k4⟩:=(hnew k).1 hk
   rcases hH.rd i it n k e1 hx e with h | h
   ·--k lies below i:it was told before
    exact k3 (hCc i hi k h k2)
   ·exact k2 h.1
 have hCc':∀i∈C++W1b its.length (ancs ops its.length) T U C,∀k∈bnd ops i,k∉T→k∈C++W1b its.length (ancs ops its.length) T U C:=fun i hi k hk hkT=>by
  by_cases hkC:k∈C
  ·exact Zg.2 (.inl hkC)
  ·obtain ⟨a,b,c⟩:=hC' i hi
   have hki:=hH.dn i k hk
   refine Zg.2 (.inr ((hnew k).2 ⟨Nat.lt_trans hki a,hkT,hkC,subB_iff.2 fun j hj hjT=>subB_iff.1 c j (Wda a hki hk hj) hjT⟩))
 generalize hCe:C++W1b its.length (ancs ops its.length) T U C=C' at hC' hsc' hCc'
 have inner:∀(fw:Nat) (listed:Array Bool) (s:St) (a:Act) (w:World),listed.size=ops.size→(∀i,isL listed i→∀j∈bnd ops i,isL listed j)→(∀i∈T,isL listed i↔i∈U)→(∀i,isL listed i→i∈U∨i∈C')→(List.range ops.size).countP (fun i=> !listed.getD i true)≤fw→
   (∀i∈C',¬isL listed i→Told P its sc' i)→s.regs=sc'.regs→(∀t,(∃i,isL listed i∧dOf its i=some t)→lk s.slots t=lk sc'.slots t)→(∀t,(¬ ∃i,isL listed i∧dOf its i=some t)→lk s.slots t=lk s0.slots t)→R P w0 env0 bad0 fps base N s a w→wpAnyIn (Fw ro) n P .any ops Q fw listed a w:=by
  intro fw
  induction fw with
  | zero=>
   intro listed s a w hsz hcl hTl hLC hcnt htold hregs hs1 hs2 hR
   have hall:∀i,i<ops.size→isL listed i:=fun i hi=>by
    have:(List.range ops.size).countP (fun i=> !listed.getD i true)=0:=by omega
    have:=(List.countP_eq_zero.1 this) i (Y4.2 hi)
    rw[W6n hsz hi]at this
    exact Classical.not_not.1 this
   have hready:Region.ready .any ops listed=[]:=Xb.2 fun i hi=>by
    obtain ⟨h1,h2,_⟩:=(W29 hsz).1 hi
    exact h2 (hall i h1)
   have hcn:W26 its.length (ancs ops its.length) T U=[]:=Xb.2 fun i hi=>by
    obtain ⟨h1,h2,h3,_⟩:=(hcand i).1 hi
    exact h3 ((hTl i h2).1 (hall i (by omega)))
   have:=W8l hnx hcn
   subst this
   refine W70 hready (hK sc' a w hw' (R.congr hregs.symm (fun t=> ?_) hR)) 0
   by_cases ht:∃i,isL listed i∧dOf its i=some t
   ·exact (hs1 t ht).symm
   ·rw[hs2 t ht]
    exact hsc' t fun i hi e=>ht ⟨i,hall i (by have:=Wd8 e; omega),e⟩
  | succ fw ihw=>
   intro listed s a w hsz hcl hTl hLC hcnt htold hregs hs1 hs2 hR
   by_cases hready:Region.ready .any ops listed=[]
   ·have hall:=Wd9 hsz hH.dn hready
    have hcn:W26 its.length (ancs ops its.length) T U=[]:=Xb.2 fun i hi=>by
     obtain ⟨h1,h2,h3,_⟩:=(hcand i).1 hi
     exact h3 ((hTl i h2).1 (hall i (by omega)))
    have:=W8l hnx hcn
    subst this
    refine W70 hready (hK sc' a w hw' (R.congr hregs.symm (fun t=> ?_) hR)) _
    by_cases ht:∃i,isL listed i∧dOf its i=some t
    ·exact (hs1 t ht).symm
    ·rw[hs2 t ht]
     exact hsc' t fun i hi e=>ht ⟨i,hall i (by have:=Wd8 e; omega),e⟩
   ·refine ⟨fun h0=>absurd h0 hready,fun i hi=> ?_⟩
    obtain ⟨h1,h2,h3⟩:=(W29 hsz).1 hi
    have him:i<its.length:=by omega
    have hit:its[i]?=some (its[i]'him):=Z2 him
    have hti:W41 P N ops ops[i]=some (its[i]'him):=by
     have h:=(W1e (R:=fun it o=>W41 P N ops o=some it) (fun _ _ h=>h) hits).get i him (by simpa using h1)
     simpa using h
    have hanc:∀j∈(ancs ops its.length).getD i [],isL listed j:=W8j hcl i him h3
    have hsub:subB (ancs ops its.length) T U i=true:=subB_iff.2 fun j hj hjT=>(hTl j hjT).1 (hanc j hj)
    have hrd:∀x∈(its[i]'him).rdsG,s.ev x=sc'.ev x:=fun x hx=>W8e fun n hn=>by
     subst hn
     by_cases ht:∃k,isL listed k∧dOf its k=some n
     ·exact hs1 n ht
     ·rw[hs2 n ht]
      refine (hsc' n fun k hk e=> ?_).symm
      rcases hH.rd i _ n k hit hx e with h | h
      ·exact ht ⟨k,h3 k h,e⟩
      ·rcases hk with hk | hk
       ·exact ht ⟨k,(hTl k h.1).2 hk,e⟩
       ·exact (hC' k hk).2.1 h.1
    have hcnt':(List.range ops.size).countP (fun j=> !(listed.setIfInBounds i true).getD j true)≤fw:=by
     have:=Whl hsz h1 h2
     omega
    have hcl':∀j,isL (listed.setIfInBounds i true) j→∀q∈bnd ops j,isL (listed.setIfInBounds i true) q:=fun j hj q hq=>by
     rw[W0l (by omega)]
     rcases (W0l (by omega)).1 hj with rfl | h
     ·exact .inr (h3 q hq)
     ·exact .inr (hcl j h q hq)
    obtain ⟨hop1,hop2,hop3⟩:=hH.op i _ hit
    by_cases hiT:i∈T
    ·have hiU:i∉U:=fun h=>h2 ((hTl i hiT).2 h)
     obtain ⟨f,it,u,rfl,e1,e2,sn,e3,e4⟩:=Wfr hnx hw' ((hcand i).2 ⟨him,hiT,hiU,hsub⟩)
     rw[hit]at e1
     cases e1
     rw[hCe]at e2
     obtain ⟨t2,g1,g2,g3⟩:=W7i hH e2 e4
     have hWs:itW P (its[i]'him) s fun s1=>∃v rg,sn=sc'.putr (its[i]'him).d v rg∧s1=s.putr (its[i]'him).d v rg:=
      W7h (K:=fun s1=>s1=sn) (Turn.id P sc'.regs) hregs (fun _ _=>rfl) hop1 hop2 hrd (fun v' rg' e=>⟨v',rg',e.symm,rfl⟩) (e3 _ rfl)
     refine Wbq (Y0 h1) hti hWs hR fun s' a' w' k r=> ?_
     obtain ⟨v,rg,rfl,rfl⟩:=k
     have hmono:∀j,subB (ancs ops its.length) T U j=true→subB (ancs ops its.length) T (i::U) j=true:=fun j hj=>subB_iff.2 fun q hq hqT=>Zo _ (subB_iff.1 hj q hq hqT)
     have hdn:∀t,dOf its i≠some t→(its[i]'him).d≠some t:=fun t h e=>h (by unfold dOf; rw[hit]; exact e)
     refine ihf f (Nat.lt_succ_self f) (i::U) C' t2 _ g1 g2 (fun j hj=> ?_) (fun j hj=>⟨(hC' j hj).1,(hC' j hj).2.1,hmono j (hC' j hj).2.2⟩) hCc' (fun t ht=> ?_) fw (listed.setIfInBounds i true) _ a' w' (by simpa using hsz) hcl' (fun j hj=> ?_) (fun j hj=> ?_) hcnt' (fun j hj hjl=> ?_) ?_ (fun t ht=> ?_) (fun t ht=> ?_) r
     ·rcases Zq.1 hj with rfl | hj
      ·exact hiT
      ·exact hU j hj
     ·rw[W1f (hdn t (ht i (.inl (by simp))))]
      exact hsc' t fun k hk=>ht k (hk.imp (Zo _) fun h=>h)
     ·rw[W0l (by omega),Zq]
      constructor
      ·rintro (rfl | h)
       ·exact .inl rfl
       ·exact .inr ((hTl j hj).1 h)
      ·rintro (rfl | h)
       ·exact .inl rfl
       ·exact .inr ((hTl j hj).2 h)
     ·rcases (W0l (by omega)).1 hj with rfl | h
      ·exact .inl (by simp)
      ·exact (hLC j h).imp (Zo _) fun h=>h
     ·have hjl':¬isL listed j:=fun h=>hjl ((W0l (by omega)).2 (.inr h))
      have hnanc:∀k,isL listed k∨k=i→j∉(ancs ops its.length).getD k []:=fun k hk hj'=>by
       rcases hk with hk | rfl
       ·exact hjl' (W8j hcl k (by
         have:=hk
         unfold isL at this
         have:=(Array.getElem?_eq_some_iff.1 this).1
         omega) (hcl k hk) j hj')
       ·exact hjl' (hanc j hj')
      cases hlb:Wag its j with
      | true=>
       refine g3 j ?_
       unfold agOf
       rw[Zj]
       refine ⟨hj,?_⟩
       rw[hlb,Xp,X0,List.any_eq_false]
       intro k hk
       have:j∉(ancs ops its.length).getD k []:=hnanc k (by
        rcases Zq.1 hk with rfl | hk
        ·exact .inr rfl
        ·exact .inl ((hTl k (hU k hk)).2 hk))
       simpa using this
      | false=>
       refine Told.blind hH (htold j hj hjl') hlb fun itj dj q1 q2=> ?_
       have hdj:dOf its j=some dj:=by unfold dOf; rw[q1]; exact q2
       refine ⟨W1f fun e=> ?_,fun x hx=>W8e fun n hn=>W1f fun e=> ?_⟩
       ·have:=hH.one i j dj (by unfold dOf; rw[hit]; exact e) hdj
        subst this
        exact (hC' i hj).2.1 hiT
       ·subst hn
        rcases hH.rd j itj n i q1 hx (by unfold dOf; rw[hit]; exact e)with h | h
        ·exact hiU (subB_iff.1 (hC' j hj).2.2 i (Whk (hC' j hj).1 h) hiT)
        ·exact hnanc i (.inr rfl) h.2
     ·rw[W4y,W4y]
     ·obtain ⟨j,hj,e⟩:=ht
      by_cases hd:(its[i]'him).d=some t
      ·rw[W4z hd,W4z hd]
      ·rw[W1f hd,W1f hd]
       refine hs1 t ⟨j,?_,e⟩
       rcases (W0l (by omega)).1 hj with rfl | h
       ·unfold dOf at e
        rw[hit]at e
        exact absurd e hd
       ·exact h
     ·rw[W1f fun e=>ht ⟨i,(W0l (by omega)).2 (.inl rfl),by unfold dOf; rw[hit]; exact e⟩]
      exact hs2 t fun ⟨j,hj,e⟩=>ht ⟨j,(W0l (by omega)).2 (.inr hj),e⟩
    ·have hiC:i∈C':=by
      rw[←hCe,Zg]
      by_cases hic:i∈C
      ·exact .inl hic
      ·exact .inr ((hnew i).2 ⟨him,hiT,hic,hsub⟩)
     obtain ⟨it,d,e1,e2,e3⟩:=htold i hiC h2
     rw[hit]at e1
     cases e1
     have hdi:dOf its i=some d:=by unfold dOf; rw[hit]; exact e2
     refine Wbq (Y0 h1) hti (e3 s hregs hrd) hR fun s' a' w' k r=> ?_
     subst k
     refine ihw (listed.setIfInBounds i true) ⟨(d,lk sc'.slots d)::s.slots,s.regs⟩ a' w' (by simpa using hsz) hcl' (fun j hj=> ?_) (fun j hj=> ?_) hcnt' (fun j hj hjl=>htold j hj fun h=>hjl ((W0l (by omega)).2 (.inr h))) hregs (fun t ht=> ?_) (fun t ht=> ?_) r
     ·rw[W0l (by omega),←hTl j hj]
      exact ⟨fun h=>h.resolve_left fun e=>hiT (e▸hj),.inr⟩
     ·rcases (W0l (by omega)).1 hj with rfl | h
      ·exact .inr hiC
      ·exact hLC j h
     ·by_cases e:d=t
      ·subst e; simp[lk]
      ·obtain ⟨j,hj,e'⟩:=ht
       simp only[lk,e,if_false]
       refine hs1 t ⟨j,?_,e'⟩
       rcases (W0l (by omega)).1 hj with rfl | h
       ·rw[hdi]at e'
        exact absurd (Y7 e') e
       ·exact h
     ·have e:d≠t:=fun e=>ht ⟨i,(W0l (by omega)).2 (.inl rfl),by rw[hdi,e]⟩
      simp only[lk,e,if_false]
      exact hs2 t fun ⟨j,hj,e'⟩=>ht ⟨j,(W0l (by omega)).2 (.inr hj),e'⟩
 intro fw listed s a w hsz hcl hTl hLC hcnt htold hregs hs1 hs2 hR
 refine inner fw listed s a w hsz hcl hTl (fun i hi=>(hLC i hi).imp (fun h=>h) fun h=>by rw[←hCe]; exact Zg.2 (.inl h)) hcnt (fun i hi hl=> ?_) (hregs.trans hregs'.symm) (fun t ht=> ?_) hs2 hR
 ·rw[←hCe]at hi
  rcases Zg.1 hi with h | h
  ·exact htoldC i h (htold i h hl)
  ·exact htold' i h
 ·rw[hs1 t ht,hold listed hLC t ht]
theorem W7j{its:List AIt}:∀{l:List Nat} {ot:Option ATree} {t:ATree},(∀i∈l,∀it,its[i]?=some it→W71 it)→(∀u,ot=some u→W2a u)→W8h its l ot=some t→W2a t
 | [],ot,t,_,h,e=>h t e
 | i::r,ot,t,hl,h,e=>by
  simp only[W8h,Z0,Z1]at e
  obtain ⟨it,e1,u,e2,rfl⟩:=e
  exact ⟨hl i (by simp) it e1,W7j (fun j hj=>hl j (Zo _ hj)) h e2⟩
theorem W63{its:List AIt}:∀{l:List Nat} {ot:Option ATree} {t:ATree},(∀i∈l,∀it,its[i]?=some it→W71 it)→(∀u,ot=some u→W2a u)→W32 its l ot=some t→W2a t
 | [],ot,t,_,h,e=>h t e
 | i::r,ot,t,hl,h,e=>by
  simp only[W32,Z0,Z1]at e
  obtain ⟨it,e1,u,e2,rfl⟩:=e
  exact ⟨hl i (by simp) it e1,W63 (fun j hj=>hl j (Zo _ hj)) h e2⟩
theorem Wfs{f:Nat→Option ATree}(hf:∀i t,f i=some t→W2a t):∀{l:List Nat} {t:ATree},alts f l=some t→W2a t
 | [],t,h=>by cases h
 | [i],t,h=>hf i t h
 | i::k::r,t,h=>by
  simp only[alts,Z0,Z1]at h
  obtain ⟨t1,h1,u,h2,rfl⟩:=h
  exact ⟨hf i t1 h1,Wfs hf (l:=k::r) h2⟩
theorem Wdb{its:List AIt}{A:List (List Nat)}{T:List Nat}(hT:∀i,i∉T→∀it,its[i]?=some it→W71 it):∀(fuel:Nat) (U C:List Nat) (t:ATree),(∀i∈C,i∉T)→W3i its A T fuel U C=some t→W2a t:=by
 intro fuel
 induction fuel with
 | zero=>
  intro U C t hC h
  rw[W8k]at h
  refine W7j (fun i hi=>hT i (by unfold W1b at hi; simp at hi; exact hi.2.1)) (fun u hu=> ?_) h
  unfold W72 at hu
  split at hu
  ·cases hu; trivial
  ·cases hu
  ·rename_i h0 h1; cases h0
 | succ fuel ih=>
  intro U C t hC h
  rw[W8k]at h
  have hn:∀i∈W1b its.length A T U C,i∉T:=fun i hi=>by unfold W1b at hi; simp at hi; exact hi.2.1
  have hC':∀i∈C++W1b its.length A T U C,i∉T:=fun i hi=>(Zg.1 hi).elim (hC i) (hn i)
  refine W7j (fun i hi=>hT i (hn i hi)) (fun u hu=> ?_) h
  unfold W72 at hu
  split at hu
  ·cases hu; trivial
  ·cases hu
  ·rename_i f h0 h1
   cases h0
   refine Wfs (fun i t ht=> ?_) hu
   simp only[Z0,Z1]at ht
   obtain ⟨it,e1,u',e2,rfl⟩:=ht
   show W2a u'
   exact W63 (fun j hj=>hT j (hC' j (Zj.1 hj).1)) (fun q hq=>ih _ _ _ hC' hq) e2
theorem Wng{id:Nat}{t:ATree}{s:St}{a:Act}{w:World}(hm:P.follows .mixedOrders=true)(ht:Wnd P N ops=some t)(h:W3a P K t s)
  (hR:R P w0 env0 bad0 fps base N s a w) (hK:∀s' a' w',K s'→R P w0 env0 bad0 fps base N s' a' w'→Q .normal a' w'):(Code.region id ops true).wpIn (Fw ro) n P Q a w:=by
 simp only[Wnd,Z0]at ht
 obtain ⟨its,hits,u,hu,ht⟩:=ht
 have hH:=Wnf (guardO_eq.1 hu)
 have hg:∀i,¬isL (Array.replicate ops.size false) i:=fun i hi=>by
  unfold isL at hi
  rw[Array.getElem?_replicate]at hi
  split at hi<;>simp at hi
 exact wpIn_region_any hm (Wah (s0:=s) hits hH hK _ [] [] t s ht h (fun i hi=>by simp at hi) (fun i hi=>by simp at hi) (fun i hi=>by simp at hi) (fun _ _=>rfl) _ _ s a _ (by simp) (fun i hi=>absurd hi (hg i)) (fun i _=>⟨fun h=>absurd h (hg i),fun h=>by simp at h⟩) (fun i hi=>absurd hi (hg i)) (by
   exact Y5 List.countP_le_length (by simp)) (fun i hi=>by simp at hi) rfl (fun t ⟨i,hi,_⟩=>absurd hi (hg i)) (fun _ _=>rfl) hR.draw)
end
variable {P:Program} {w0 w:World} {env0:Env} {bad0:Bs} {fps:List Nat} {base:Nat→Prop} {N:Nat} {s:St} {a:Act}
def Wnh(env:Env)(regs:List Reg)(g:Nat):Prop:=∃id r c,regs[id]?=some r∧r.live=true∧env.f id=some (g,c)
theorem R.blank(h:R P w0 env0 bad0 fps base N s a w):∃env,RS P w0 w fps base env s.regs∧(∀n,VRel w env (W04 base env s.regs) (lk s.slots n) (a.tmps.getD n undef))∧Ev bad0.w env0 bad0.bad w env (W04 base env s.regs)∧
  R P w env ⟨w,W04 base env s.regs,bad0.ds,bad0.lo⟩ [] (fun b=>b<w.heap.size∧W04 base env s.regs b) N ⟨[],List.replicate s.regs.length .dead⟩ a w:=by
 obtain ⟨⟨env,hrs,hsl,hev⟩,hsz,hds,hnd,hmk,hlo⟩:=h
 have hdead:∀{id:Nat} {r:Reg},(List.replicate s.regs.length Reg.dead)[id]?=some r→r= .dead:=fun h=>by
  rw[List.getElem?_replicate]at h
  split at h<;>simp_all
 have hb:∀b,W04 (fun b=>b<w.heap.size∧W04 base env s.regs b) env (List.replicate s.regs.length .dead) b→W04 base env s.regs b:=by
  rintro b (h | ⟨id,r,c,h1,h2,_⟩)
  ·exact h.2
  ·rw[hdead h1]at h2
   cases h2
 refine ⟨env,hrs,hsl,hev,⟨env,⟨Keep.refl _ _,fun b hb=>⟨hb.1,by simp⟩,by rw[hrs.len]; simp,fun id r h=> ?_,fun id r g c h1 h2 h3=> ?_,fun i j r1 r2 g c1 c2 h1 h2 l1 l2 e1 e2=> ?_⟩,fun n=> .c trivial,⟨⟨Z8 _,fun _ _ _=>rfl⟩,fun b _ h=>hb b h,Env.le_refl _⟩⟩,hsz,hds,hnd,fun d hd=> ?_,Y5 hlo hrs.keep.size⟩
 ·rw[hdead h]; trivial
 ·rw[hdead h1]at h2; cases h2
 ·rw[hdead h1]at l1; cases l1
 ·obtain ⟨D,rfl,q1,q2,q3,q4⟩:=hmk d hd
  exact ⟨D,rfl,q1,Zt q2 hev.same.size,fun hb=>q3 (hev.sub _ q2 hb),(hev.same.block _ q2 q3).trans q4⟩
theorem Wdc{P:Program}{N:Nat}{ops:Array Oper}{o:Oper}{it:AIt}(h:W41 P N ops o=some it):it.d=o.dst∧Wn3 N o.dst=true:=by
 simp only[W41,Z0]at h
 obtain ⟨u,hu,ao,hao,h⟩:=h
 refine ⟨?_,guardO_eq.1 hu⟩
 split at h
 ·cases h; rfl
 ·obtain ⟨t,_,rfl⟩:=Z1.1 h
  rfl
def Wxj(w:World)(g:Nat)(zs:List Value):Prop:=∃cur t,w.heap[g]?=some (.cells cur t (0,0))∧zs.length=cur.size∧∀j (h:j<zs.length),cur[j]?=some zs[j]∧W2d zs[j]=true
structure HE where
 d:Nat
 g:Nat
 zs:List Value
def Hid(P:Program)(w0:World)(env0:Env)(bad0:Bs)(fps:List Nat)(base:Nat→Prop)(N:Nat)(E:List HE)(s:St)(a:Act)(w:World):Prop:=
 ∃(w1:World) (env1:Env) (bad1:Bs) (fps1:List Nat) (base1:Nat→Prop),R P w1 env1 bad1 fps1 base1 N s a w∧
  (∀e∈E,base1 e.g∧w0.heap.size≤e.g∧Wxj w1 e.g e.zs∧a.tmps.getD e.d undef= .pointer (some ⟨e.g,0,none⟩))∧(E.map (·.g)).Nodup∧
  (∀b,base b→base1 b)∧(∀b,base1 b→base b∨∃e∈E,b=e.g)∧Keep fps w0 w1∧(∀b∈fps1,b∈fps∨w0.heap.size≤b)∧(∀b,base b→b<w0.heap.size∧b∉fps)∧
  Ev bad0.w env0 bad0.bad bad1.w env1 bad1.bad∧bad1.ds=bad0.ds∧DsOk bad0 w0 bad0.ds
theorem Hid.of(h:R P w0 env0 bad0 fps base N s a w):Hid P w0 env0 bad0 fps base N [] s a w:=by
 have hd:=h.defers
 rw[show a.defers=bad0.ds from hd.1]at hd
 obtain ⟨env,hrs,_,_⟩:=h.ex
 exact ⟨w0,env0,bad0,fps,base,h,fun e he=>by simp at he,by simp,fun _ h=>h,fun _ h=> .inl h,Keep.refl _ _,fun _ h=> .inl h,hrs.base_lt,Ev.refl _ _ _,rfl,hd⟩
theorem Hid.perm{E X:List HE}(h:Hid P w0 env0 bad0 fps base N E s a w)(hp:E.Perm X):Hid P w0 env0 bad0 fps base N X s a w:=by
 obtain ⟨w1,env1,bad1,fps1,base1,h1,h2,h3,h4,h5,h6⟩:=h
 exact ⟨w1,env1,bad1,fps1,base1,h1,fun e he=>h2 e (hp.mem_iff.2 he),(hp.map _).nodup_iff.1 h3,h4,fun b hb=>(h5 b hb).imp (fun h=>h) fun ⟨e,he,k⟩=>⟨e,hp.mem_iff.1 he,k⟩,h6⟩
theorem Hid.bare(h:Hid P w0 env0 bad0 fps base N [] s a w):R P w0 env0 bad0 fps base N s a w:=by
 obtain ⟨w1,env1,bad1,fps1,base1,⟨⟨env,hrs,hsl,hev⟩,hsz,hds⟩,_,_,hb1,hb2,hk,hf,hbl,hev0,hdd,hd0⟩:=h
 have hb2':∀b,base1 b→base b:=fun b hb=>(hb2 b hb).resolve_right fun ⟨e,he,_⟩=>by simp at he
 have hsub:∀b,W04 base env s.regs b→W04 base1 env s.regs b:=fun b hb=>hb.imp (hb1 b) fun h=>h
 have hevb:Ev w env (W04 base1 env s.regs) w env (W04 base env s.regs):=⟨⟨Z8 _,fun _ _ _=>rfl⟩,fun b _ h=>hsub b h,Env.le_refl _⟩
 refine ⟨⟨env,⟨hk.trans' hrs.keep hf,hbl,hrs.len,fun id r h=>RRel.ev hevb (hrs.live_lt h) (fun _ _ _ _=>rfl) (hrs.reg id r h),fun id r g c h1 h2 h3=> ?_,hrs.inj⟩,fun n=>(hsl n).ev hevb,(hev0.trans hev).trans hevb⟩,hsz,?_⟩
 ·obtain ⟨o1,o2⟩:=hrs.own id r g c h1 h2 h3
  exact ⟨o1.elim (hf g) fun h=> .inr (Y5 hk.size h),o2⟩
 ·rw[show a.defers=bad0.ds from hds.1.trans hdd]
  exact hd0
theorem Hid.back{e:HE}{E:List HE}(h:Hid P w0 env0 bad0 fps base N (e::E) s a w):Hid P w0 env0 bad0 fps base N E ⟨(e.d,.c (.ptr s.regs.length 0))::s.slots,s.regs++[.ac (e.zs.map fun z=> .p (.v z))]⟩ a w:=by
 obtain ⟨w1,env1,bad1,fps1,base1,⟨⟨env2,hrs2,hsl2,hev2⟩,hsz2,hds2⟩,hE,hnd,hb1,hb2,hk,hf,hbl,hev0,hdd,hd0⟩:=h
 obtain ⟨he1,he2,⟨cur,t,hg,hlen,hcells⟩,he4⟩:=hE e (by simp)
 simp only[Zh,List.nodup_cons]at hnd
 have hbg:=hrs2.base_lt e.g he1
 have hpf:∀id,id<s.regs.length→(env2.push (some (e.g,1))).f id=env2.f id:=fun id h=>by
  rw[←hrs2.len]at h
  exact (Env.le_push env2 _).2 id h
 have hpn:(env2.push (some (e.g,1))).f s.regs.length=some (e.g,1):=by rw[←hrs2.len]; exact Env.push_at _ _
 have hget:∀(id:Nat) (r:Reg),(s.regs++[Reg.ac (e.zs.map fun z=> .p (.v z))])[id]?=some r→(id<s.regs.length∧s.regs[id]?=some r)∨(id=s.regs.length∧r= .ac (e.zs.map fun z=> .p (.v z))):=by
  intro id r h
  by_cases hlt:id<s.regs.length
  ·rw[Zp hlt]at h
   exact .inl ⟨hlt,h⟩
  ·rw[Y3 (by omega)]at h
   have:=(Z3.1 h).1
   simp only[List.length_singleton]at this
   have e:id=s.regs.length:=by omega
   subst e
   simp at h
   exact .inr ⟨rfl,h.symm⟩
 have hsub3:∀b,W04 (fun b=>base1 b∧b≠e.g) (env2.push (some (e.g,1))) (s.regs++[Reg.ac (e.zs.map fun z=> .p (.v z))]) b→W04 base1 env2 s.regs b:=by
  rintro b (h | ⟨id,r,c',h1,h2,h3⟩)
  ·exact .inl h.1
  ·rcases hget id r h1 with ⟨k1,k2⟩ | ⟨rfl,rfl⟩
   ·rw[hpf id k1]at h3
    exact .inr ⟨id,r,c',k2,h2,h3⟩
   ·rw[hpn]at h3
    cases h3
    exact .inl he1
 have hev3:Ev w env2 (W04 base1 env2 s.regs) w (env2.push (some (e.g,1))) (W04 (fun b=>base1 b∧b≠e.g) (env2.push (some (e.g,1))) (s.regs++[Reg.ac (e.zs.map fun z=> .p (.v z))])):=⟨⟨Z8 _,fun _ _ _=>rfl⟩,fun b _ h=>hsub3 b h,Env.le_push _ _⟩
 have hclash:∀id r c',s.regs[id]?=some r→r.live=true→env2.f id=some (e.g,c')→False:=fun id r c' h1 h2 h3=>by
  rcases (hrs2.own id r e.g c' h1 h2 h3).1 with h | h
  ·exact hbg.2 h
  ·omega
 refine ⟨w1,env1,bad1,e.g::fps1,fun b=>base1 b∧b≠e.g,⟨⟨env2.push (some (e.g,1)),⟨hrs2.keep.more fun b hb=>Zo _ hb,fun b hb=>⟨(hrs2.base_lt b hb.1).1,fun hx=> ?_⟩,by rw[show (env2.push (some (e.g,1))).n=env2.n+1 from rfl,hrs2.len]; simp,fun id r h=> ?_,fun id r g' c' h1 h2 h3=> ?_,fun i j r1 r2 g' c1 c2 h1 h2 l1 l2 e1 e2=> ?_⟩,fun n=> ?_,hev2.trans hev3⟩,hsz2,hds2⟩,fun x hx=> ?_,hnd.2,fun b hb=>⟨hb1 b hb,fun e'=> ?_⟩,fun b hb=> ?_,hk,fun b hb=> ?_,hbl,hev0,hdd,hd0⟩
 ·rcases Zq.1 hx with rfl | hx
  ·exact hb.2 rfl
  ·exact (hrs2.base_lt b hb.1).2 hx
 ·rcases hget id r h with ⟨k1,k2⟩ | ⟨rfl,rfl⟩
  ·exact RRel.ev hev3 (hrs2.live_lt k2) (fun _ _ _ _=>rfl) (hrs2.reg id r k2)
  ·refine ⟨e.g,1,cur,t,hpn,(hrs2.keep.block e.g hbg.1 hbg.2).trans hg,by simpa using hlen,fun j hj=> ?_⟩
   obtain ⟨v1,v2⟩:=hcells j (by simpa using hj)
   refine ⟨_,v1,?_,by rw[Zu]; rfl⟩
   rw[Zu]
   exact PRel.v v2
 ·rcases hget id r h1 with ⟨k1,k2⟩ | ⟨rfl,rfl⟩
  ·rw[hpf id k1]at h3
   obtain ⟨o1,o2⟩:=hrs2.own id r g' c' k2 h2 h3
   exact ⟨o1.imp (Zo _) fun h=>h,o2⟩
  ·rw[hpn]at h3
   cases h3
   exact ⟨.inl (by simp),Zt hbg.1 hrs2.keep.size⟩
 ·rcases hget i r1 h1 with ⟨k1,k2⟩ | ⟨rfl,rfl⟩<;>rcases hget j r2 h2 with ⟨m1,m2⟩ | ⟨rfl,rfl⟩
  ·rw[hpf i k1]at e1
   rw[hpf j m1]at e2
   exact hrs2.inj i j r1 r2 g' c1 c2 k2 m2 l1 l2 e1 e2
  ·rw[hpf i k1]at e1
   rw[hpn]at e2
   cases e2
   exact (hclash i r1 c1 k2 l1 e1).elim
  ·rw[hpf j m1]at e2
   rw[hpn]at e1
   cases e1
   exact (hclash j r2 c2 m2 l2 e2).elim
  ·rfl
 ·by_cases en:e.d=n
  ·rw[←en,show lk ((e.d,AV.c (.ptr s.regs.length 0))::s.slots) e.d= .c (.ptr s.regs.length 0)by simp[lk],he4]
   exact .c ⟨by rw[←hrs2.len]; exact Nat.lt_succ_self _,e.g,1,hpn,rfl⟩
  ·rw[show lk ((e.d,AV.c (.ptr s.regs.length 0))::s.slots) n=lk s.slots n by simp[lk,en]]
   exact (hsl2 n).ev hev3
 ·obtain ⟨k1,k2,k3,k4⟩:=hE x (Zo _ hx)
  exact ⟨⟨k1,fun e'=>hnd.1 (Y1.2 ⟨x,hx,e'⟩)⟩,k2,k3,k4⟩
 ·have:=(hbl b hb).1
  omega
 ·rcases hb2 b hb.1 with h | ⟨x,hx,k⟩
  ·exact .inl h
  ·rcases Zq.1 hx with rfl | hx
   ·exact absurd k hb.2
   ·exact .inr ⟨x,hx,k⟩
 ·rcases Zq.1 hb with rfl | hb
  ·exact .inr he2
  ·exact hf b hb
section
variable {P:Program} {w0:World} {env0:Env} {bad0:Bs} {fps:List Nat} {base:Nat→Prop} {N:Nat} {s:St} {a:Act} {w:World} {ops:Array Oper} {Q:Exit→Act→World→Prop} {ro:Option Nat} {n:Nat}
theorem Wft{a:Act}{d:Option Nat}{u:Value}{n:Nat}(h:d≠some n):(a.put d u).tmps.getD n undef=a.tmps.getD n undef:=by
 cases d with
 | none=>rfl
 | some k=>
  have:k≠n:=fun e=>h (by rw[e])
  show (a.tmps.setIfInBounds k u).getD n undef=_
  rw[Zd,X7 this,←Zd]
theorem Hid.op{E:List HE}{o:Oper}{i:Nat}{it:AIt}{K:St→Prop}{next:Act→World→Prop}(hi:ops[i]?=some o)(htr:W41 P N ops o=some it)(h:itW P it s K)(hH:Hid P w0 env0 bad0 fps base N E s a w)(hd:∀e∈E,it.d≠some e.d)
  (hK:∀s' a' w',K s'→Hid P w0 env0 bad0 fps base N E s' a' w'→next a' w'):wpOpIn (Fw ro) n P ops Q i next a w:=by
 obtain ⟨hdst,_⟩:=Wdc htr
 obtain ⟨w1,env1,bad1,fps1,base1,hR,hE,hr⟩:=hH
 refine wpOpIn_mono (K:=fun a' w'=>(∃s',K s'∧R P w1 env1 bad1 fps1 base1 N s' a' w')∧∃v,a'.tmps=(a.put o.dst v).tmps) (fun a' w' hx=> ?_) (W8g hi (Wbq hi htr h hR fun s' a' w' k r=>⟨s',k,r⟩))
 obtain ⟨⟨s',k,r⟩,v,hv⟩:=hx
 refine hK s' a' w' k ⟨w1,env1,bad1,fps1,base1,r,fun e he=> ?_,hr⟩
 obtain ⟨e1,e2,e3,e4⟩:=hE e he
 refine ⟨e1,e2,e3,?_⟩
 rw[hv,Wft (by rw[←hdst]; exact hd e he)]
 exact e4
open Classical in
theorem Hid.hide{E:List HE}{o:Oper}{i d:Nat}{zs:List Value}{next:Act→World→Prop}(hi:ops[i]?=some o)(htr:W41 P N ops o=some ⟨none,some d,.alloc (some d) zs⟩)(hany:lk s.slots d= .c .any)(hH:Hid P w0 env0 bad0 fps base N E s a w)(hd:∀e∈E,e.d≠d)
  (hK:∀a' w' g,Hid P w0 env0 bad0 fps base N (⟨d,g,zs⟩::E) s a' w'→next a' w'):wpOpIn (Fw ro) n P ops Q i next a w:=by
 obtain ⟨hdst,hok⟩:=Wdc htr
 obtain ⟨w1,env1,bad1,fps1,base1,hR,hE,hnd,hb1,hb2,hk,hf,hbl,hev0,hdd,hd0⟩:=hH
 obtain ⟨env,hrs,hsl,hev,hRb⟩:=hR.blank
 have hit:itW P ⟨none,some d,.alloc (some d) zs⟩ ⟨[],List.replicate s.regs.length .dead⟩ fun s1=>s1=⟨[(d,.c (.ptr s.regs.length 0))],List.replicate s.regs.length .dead++[.ac (zs.map fun z=> .p (.v z))]⟩:=by
  show _=_
  simp[St.putr,St.put]
 refine wpOpIn_mono (K:=fun a' w'=>R P w env ⟨w,W04 base1 env s.regs,bad1.ds,bad1.lo⟩ [] (fun b=>b<w.heap.size∧W04 base1 env s.regs b) N ⟨[(d,.c (.ptr s.regs.length 0))],List.replicate s.regs.length .dead++[.ac (zs.map fun z=> .p (.v z))]⟩ a' w'∧∃v,a'.tmps=(a.put o.dst v).tmps)
  (fun a' w' h=> ?_) (W8g hi (Wbq hi htr hit hRb fun s' a' w' k r=>by subst k; exact r))
 obtain ⟨⟨⟨env',hrsB,hslB,hevB⟩,hszB,hdsB⟩,u,hu⟩:=h
 rw[←hdst]at hu
 have hlast:(List.replicate s.regs.length Reg.dead++[Reg.ac (zs.map fun z=> .p (.v z))])[s.regs.length]?=some (.ac (zs.map fun z=> .p (.v z))):=by
  rw[Y3 (by simp)]; simp
 obtain ⟨g,c,cur,t,eg,hg,hlen,hcells⟩:=hrsB.reg _ _ hlast
 obtain ⟨hg1,hg2⟩:=hrsB.own _ _ g c hlast rfl eg
 have hgw:w.heap.size≤g:=hg1.resolve_left (by simp)
 have hdv:a'.tmps.getD d undef= .pointer (some ⟨g,0,none⟩):=by
  have:=hslB d
  rw[show lk [(d,AV.c (.ptr s.regs.length 0))] d= .c (.ptr s.regs.length 0)by simp[lk]]at this
  cases this with
  | c h=>
   obtain ⟨_,g',c',e,hv⟩:=h
   rw[eg]at e
   cases e
   exact hv
 have hkeep:Keep [] w w':=hrsB.keep
 have hown:∀b,Wnh env s.regs b→(b∈fps1∨w1.heap.size≤b)∧b<w.heap.size:=fun b ⟨id,r,c,h1,h2,h3⟩=>hrs.own id r b c h1 h2 h3
 have hfl:∀b,b∈((List.range w.heap.size).filter fun b=>decide (Wnh env s.regs b))↔b<w.heap.size∧Wnh env s.regs b:=fun b=>by
  rw[Zj,Y4,decide_eq_true_iff]
 have hsub1:∀b,W04 (fun b=>base1 b∨b=g) env s.regs b→W04 base1 env s.regs b∨b=g:=by
  rintro b ((h | h) | h)
  ·exact .inl (.inl h)
  ·exact .inr h
  ·exact .inl (.inr h)
 have hev1:Ev w env (W04 base1 env s.regs) w' env (W04 (fun b=>base1 b∨b=g) env s.regs):=⟨⟨hkeep.size,fun b hb _=>hkeep.block b hb (by simp)⟩,fun b hb hx=>(hsub1 b hx).resolve_right fun e=>by omega,Env.le_refl _⟩
 have hR1:R P w' env ⟨w',W04 (fun b=>base1 b∨b=g) env s.regs,bad1.ds,bad1.lo⟩ ((List.range w.heap.size).filter fun b=>decide (Wnh env s.regs b)) (fun b=>base1 b∨b=g) N s a' w':=by
  refine ⟨⟨env,⟨Keep.refl _ _,fun b hb=> ?_,hrs.len,fun id r h=>RRel.ev hev1 (hrs.live_lt h) (fun hl g' c' he=>hkeep.block g' (hrs.own id r g' c' h hl he).2 (by simp)) (hrs.reg id r h),fun id r g' c' h1 h2 h3=> ?_,hrs.inj⟩,fun n=> ?_,Ev.refl _ _ _⟩,hszB,hdsB.1,hdsB.2.1,fun q hq=> ?_,Y5 hdsB.2.2.2 hkeep.size⟩
  ·rcases hb with hb | rfl
   ·obtain ⟨p1,p2⟩:=hrs.base_lt b hb
    refine ⟨Zt p1 (Y5 hrs.keep.size hkeep.size),fun hx=> ?_⟩
    rcases (hown b ((hfl b).1 hx).2).1 with h | h
    ·exact p2 h
    ·omega
   ·exact ⟨hg2,fun hx=>by have:=((hfl _).1 hx).1; omega⟩
  ·have hlt:=(hrs.own id r g' c' h1 h2 h3).2
   exact ⟨.inl ((hfl g').2 ⟨hlt,id,r,c',h1,h2,h3⟩),Zt hlt hkeep.size⟩
  ·by_cases e:d=n
   ·subst e
    rw[hany]
    exact .c trivial
   ·rw[hu,Wft fun h=>e (Y7 h)]
    exact (hsl n).ev hev1
  ·obtain ⟨D,rfl,q1,q2,q3,q4⟩:=hdsB.2.2.1 q hq
   refine ⟨D,rfl,q1,Zt q2 hkeep.size,fun hb=> ?_,(hkeep.block D q2 (by simp)).trans q4⟩
   rcases hsub1 D hb with h | h
   ·exact q3 h
   ·have:D<w.heap.size:=q2
    omega
 have hkw:w0.heap.size≤w.heap.size:=Y5 hk.size hrs.keep.size
 refine hK a' w' g ⟨w',env,⟨w',W04 (fun b=>base1 b∨b=g) env s.regs,bad1.ds,bad1.lo⟩,(List.range w.heap.size).filter fun b=>decide (Wnh env s.regs b),fun b=>base1 b∨b=g,hR1,fun e he=> ?_,?_,fun b hb=> .inl (hb1 b hb),fun b hb=> ?_,(hk.trans' hrs.keep hf).trans' hkeep (by simp),fun b hb=> ?_,hbl,(hev0.trans hev).trans hev1,hdd,hd0⟩
 ·rcases Zq.1 he with rfl | he
  ·refine ⟨.inr rfl,Y5 hkw hgw,⟨cur,t,hg,by simpa using hlen,fun j hj=> ?_⟩,hdv⟩
   obtain ⟨v,v1,v2,v3⟩:=hcells j (by simpa using hj)
   rw[Zu]at v2
   cases (v2:PRel w' _ (.v _) v)with
   | v hflat=>exact ⟨v1,hflat⟩
  ·obtain ⟨k1,k2,⟨cur',t',k3,k4⟩,k5⟩:=hE e he
   obtain ⟨p1,p2⟩:=hrs.base_lt e.g k1
   refine ⟨.inl k1,k2,⟨cur',t',?_,k4⟩,?_⟩
   ·rw[hkeep.block e.g (Zt p1 hrs.keep.size) (by simp),hrs.keep.block e.g p1 p2]
    exact k3
   ·rw[hu,Wft fun h=>hd e he (Y7 h).symm]
    exact k5
 ·simp only[Zh,List.nodup_cons]
  refine ⟨fun hx=> ?_,hnd⟩
  obtain ⟨e,he,k⟩:=Y1.1 hx
  have:=(hrs.base_lt e.g (hE e he).1).1
  have:=hrs.keep.size
  have k':e.g=g:=k
  omega
 ·rcases hb with hb | rfl
  ·exact (hb2 b hb).imp (fun h=>h) fun ⟨e,he,k⟩=>⟨e,Zo _ he,k⟩
  ·exact .inr ⟨_,Xg,rfl⟩
 ·rcases (hown b ((hfl b).1 hb).2).1 with h | h
  ·exact hf b h
  ·exact .inr (Y5 hk.size h)
def W5i:List (Nat×List Value)→St→St
 | [],s=>s
 | (d,zs)::r,s=>W5i r ⟨(d,.c (.ptr s.regs.length 0))::s.slots,s.regs++[.ac (zs.map fun z=> .p (.v z))]⟩
theorem Hid.backs:∀{E:List HE} {s:St},Hid P w0 env0 bad0 fps base N E s a w→R P w0 env0 bad0 fps base N (W5i (E.map fun e=>(e.d,e.zs)) s) a w
 | [],_,h=>h.bare
 | e::E,s,h=>by
  have:=Hid.backs (E:=E) h.back
  exact this
theorem Wai:∀{l:List (Nat×List Value)} {s s':St},s.regs=s'.regs→(W5i l s).regs=(W5i l s').regs
 | [],_,_,h=>h
 | (d,zs)::r,s,s',h=>Wai (l:=r) (by simp only[h])
theorem W35{t:Nat}:∀{l:List (Nat×List Value)} {s:St},(∀q∈l,q.1≠t)→lk (W5i l s).slots t=lk s.slots t
 | [],_,_=>rfl
 | (d,zs)::r,s,h=>by
  have h1:d≠t:=h _ Xg
  rw[W5i,W35 fun q hq=>h q (Zo _ hq)]
  simp[lk,h1]
theorem Whm{t:Nat}:∀{l:List (Nat×List Value)} {s s':St},s.regs=s'.regs→(∃q∈l,q.1=t)→lk (W5i l s).slots t=lk (W5i l s').slots t
 | [],_,_,_,⟨q,hq,_⟩=>by simp at hq
 | (d,zs)::r,s,s',h,⟨q,hq,e⟩=>by
  rw[W5i,W5i]
  by_cases hr:∃q∈r,q.1=t
  ·exact Whm (by simp only[h]) hr
  ·have hn:∀q∈r,q.1≠t:=fun q hq e=>hr ⟨q,hq,e⟩
   rw[W35 hn,W35 hn]
   rcases Zq.1 hq with rfl | hq
   ·subst e
    simp[lk,h]
   ·exact absurd e (hn q hq)
theorem Waj{p q:Nat→Bool}{i:Nat}(hq:∀j,j≠i→q j=p j)(hi1:p i=false)(hi2:q i=true):∀{l:List Nat},l.Nodup→i∈l→(i::l.filter p).Perm (l.filter q)
 | [],_,h=>by simp at h
 | b::l,hn,h=>by
  rw[List.nodup_cons]at hn
  by_cases e:b=i
  ·subst e
   rw[List.filter_cons_of_pos hi2,List.filter_cons_of_neg (by rw[hi1]; simp),List.filter_congr (p:=q) (q:=p) fun j hj=>hq j fun e=>hn.1 (e▸hj)]
  ·have hil:i∈l:=(Zq.1 h).resolve_left fun h=>e h.symm
   have ih:=Waj hq hi1 hi2 hn.2 hil
   cases hp:p b with
   | true=>
    rw[List.filter_cons_of_pos hp,List.filter_cons_of_pos (by rw[hq b e]; exact hp)]
    exact (List.Perm.swap _ _ _).trans (List.Perm.cons _ ih)
   | false=>
    rw[List.filter_cons_of_neg (by rw[hp]; simp),List.filter_cons_of_neg (by rw[hq b e,hp]; simp)]
    exact ih
end
def alB(ops:Array Oper)(its:List AIt)(i:Nat):Bool:=match its[i]? with
 | some ⟨none,some d,.alloc (some d') _⟩=>d==d'&&(bnd ops i).isEmpty
 | _=>false
def Wbs(ops:Array Oper)(its:List AIt)(T:List Nat):List Nat:=T.filter (alB ops its)
def Wni(m:Nat)(A:List (List Nat))(T al:List Nat):Bool:=(List.range m).all fun k=>(al.all fun i=> !(A.getD k []).contains i)||((al.all fun i=>(A.getD k []).contains i)&&T.all fun j=>al.contains j||((al.any fun i=>(A.getD j []).contains i)||(A.getD k []).contains j))
def alT(its:List AIt):List Nat→Option ATree→Option ATree
 | [],t=>t
 | i::r,t=>(its[i]?).bind fun it=>(alT its r t).map (.turn it)
def W4j(its:List AIt)(A:List (List Nat))(T al:List Nat):Nat→List Nat→List Nat→Option ATree
 | 0,U,C=>W8h its (W1b its.length A T U C) (match (W26 its.length A T U).filter fun i=> !al.contains i with
  | []=>alT its al (W32 its (agOf its A (al++U) (C++W1b its.length A T U C)) (W3i its A T its.length (al++U) (C++W1b its.length A T U C)))
  | _=>none)
 | fuel+1,U,C=>W8h its (W1b its.length A T U C) (match (W26 its.length A T U).filter fun i=> !al.contains i with
  | []=>alT its al (W32 its (agOf its A (al++U) (C++W1b its.length A T U C)) (W3i its A T its.length (al++U) (C++W1b its.length A T U C)))
  | l=>alts (fun i=>(its[i]?).bind fun it=>(W32 its (agOf its A (i::U) (C++W1b its.length A T U C)) (W4j its A T al fuel (i::U) (C++W1b its.length A T U C))).map (.turn it)) l)
def W5j(its:List AIt)(A:List (List Nat))(T al:List Nat)(fuel:Nat)(U C:List Nat):Option ATree:=match (W26 its.length A T U).filter fun i=> !al.contains i,fuel with
 | [],_=>alT its al (W32 its (agOf its A (al++U) (C++W1b its.length A T U C)) (W3i its A T its.length (al++U) (C++W1b its.length A T U C)))
 | _,0=>none
 | l,fuel+1=>alts (fun i=>(its[i]?).bind fun it=>(W32 its (agOf its A (i::U) (C++W1b its.length A T U C)) (W4j its A T al fuel (i::U) (C++W1b its.length A T U C))).map (.turn it)) l
theorem Wak{its:List AIt}{A:List (List Nat)}{T al:List Nat}(fuel:Nat)(U C:List Nat):W4j its A T al fuel U C=W8h its (W1b its.length A T U C) (W5j its A T al fuel U C):=by
 cases fuel<;>(unfold W4j W5j; congr 1; generalize (W26 its.length A T U).filter (fun i=> !al.contains i)=l; cases l<;>rfl)
def W5k(P:Program)(N:Nat)(ops:Array Oper):Option ATree:=(W0h (W41 P N ops) ops.toList).bind fun its=>
 (W61 (ltOk ops its (ancs ops its.length) (W2j ops its))).bind fun _=>
  if (!(Wbs ops its (W2j ops its)).isEmpty&&Wni its.length (ancs ops its.length) (W2j ops its) (Wbs ops its (W2j ops its)))=true then W4j its (ancs ops its.length) (W2j ops its) (Wbs ops its (W2j ops its)) its.length [] []
  else W3i its (ancs ops its.length) (W2j ops its) its.length [] []
structure AlH(ops:Array Oper)(its:List AIt)(A:List (List Nat))(T al:List Nat):Prop where
 it:∀i∈al,∃d zs,its[i]?=some ⟨none,some d,.alloc (some d) zs⟩
 top:∀i∈al,bnd ops i=[]
 inT:∀i∈al,i∈T
 late:∀k,k<its.length→(∃i∈al,i∈A.getD k [])→(∀i∈al,i∈A.getD k [])∧∀j∈T,j∉al→(∀i∈al,i∉A.getD j [])→j∈A.getD k []
 nd:al.Nodup
theorem AlH.of{ops:Array Oper}{its:List AIt}{A:List (List Nat)}{T:List Nat}(hT:T.Nodup)(h:Wni its.length A T (Wbs ops its T)=true):AlH ops its A T (Wbs ops its T):=by
 have hm:∀i,i∈Wbs ops its T↔i∈T∧alB ops its i=true:=fun i=>by unfold Wbs; rw[Zj]
 have hb:∀i,alB ops its i=true→(∃d zs,its[i]?=some ⟨none,some d,.alloc (some d) zs⟩)∧bnd ops i=[]:=fun i hi=>by
  unfold alB at hi
  split at hi
  ·rename_i d d' zs e
   simp only[Z4,Xs,List.isEmpty_iff]at hi
   obtain ⟨rfl,h2⟩:=hi
   exact ⟨⟨d,zs,e⟩,h2⟩
  ·cases hi
 refine ⟨fun i hi=>(hb i ((hm i).1 hi).2).1,fun i hi=>(hb i ((hm i).1 hi).2).2,fun i hi=>((hm i).1 hi).1,fun k hk ⟨i0,hi0,hx⟩=> ?_,hT.sublist List.filter_sublist⟩
 simp only[Wni,Za,Y4,Bool.or_eq_true,Z4,X0,Xx,List.contains_eq_mem,Zf,Xr]at h
 rcases h k hk with h | ⟨h1,h2⟩
 ·exact absurd hx (h i0 hi0)
 ·refine ⟨h1,fun j hj hja hn=> ?_⟩
  rcases h2 j hj with h | ⟨i,hi,h⟩ | h
  ·exact absurd h hja
  ·exact absurd h (hn i hi)
  ·exact h
def infD(its:List AIt)(i:Nat):Nat:=(dOf its i).getD 0
def infZ(its:List AIt)(i:Nat):List Value:=match its[i]? with
 | some it=>(match it.op with
  | .alloc _ zs=>zs
  | _=>[])
 | none=>[]
def alHE(its:List AIt)(G:Nat→Nat)(i:Nat):HE:=⟨infD its i,G i,infZ its i⟩
def inf(its:List AIt)(al:List Nat):List (Nat×List Value):=al.map fun i=>(infD its i,infZ its i)
section
variable {P:Program} {w0:World} {env0:Env} {bad0:Bs} {fps:List Nat} {base:Nat→Prop} {N:Nat} {ops:Array Oper} {Q:Exit→Act→World→Prop} {K:St→Prop} {ro:Option Nat} {n:Nat} {its:List AIt} {A:List (List Nat)} {T al:List Nat}
theorem Wnj{i d:Nat}{zs:List Value}(h:its[i]?=some ⟨none,some d,.alloc (some d) zs⟩):dOf its i=some d∧infD its i=d∧infZ its i=zs:=by
 have h1:dOf its i=some d:=by unfold dOf; rw[h]; rfl
 refine ⟨h1,by unfold infD; rw[h1]; rfl,by unfold infZ; rw[h]⟩
theorem AlH.d(hA:AlH ops its A T al){i:Nat}(hi:i∈al):dOf its i=some (infD its i):=by
 obtain ⟨d,zs,h⟩:=hA.it i hi
 obtain ⟨h1,h2,_⟩:=Wnj h
 rw[h1,h2]
theorem V1f{ot:Option ATree}:∀{l:List Nat} {t:ATree} {s:St},(∀i∈l,∃d zs,its[i]?=some ⟨none,some d,.alloc (some d) zs⟩)→alT its l ot=some t→W3a P K t s→∃t',ot=some t'∧W3a P K t' (W5i (inf its l) s)
 | [],t,s,_,h,hw=>⟨t,h,hw⟩
 | i::r,t,s,hl,h,hw=>by
  simp only[alT,Z0,Z1]at h
  obtain ⟨it,hi,t1,h1,rfl⟩:=h
  obtain ⟨s1,h2,h3⟩:=hw
  obtain ⟨d,zs,h4⟩:=hl i Xg
  obtain ⟨_,h5,h6⟩:=Wnj h4
  rw[hi]at h4
  cases h4
  have e:(⟨(d,.c (.ptr s.regs.length 0))::s.slots,s.regs++[.ac (zs.map fun z=> .p (.v z))]⟩:St)=s1:=by
   have:=h2 (fun x=>x=s1) rfl
   exact this
  obtain ⟨t',k1,k2⟩:=V1f (l:=r) (fun j hj=>hl j (Zo _ hj)) h1 h3
  refine ⟨t',k1,?_⟩
  rw[inf,Zh,h5,h6,W5i,e]
  exact k2
def HidL(P:Program)(w0:World)(env0:Env)(bad0:Bs)(fps:List Nat)(base:Nat→Prop)(N:Nat)(its:List AIt)(al:List Nat)(listed:Array Bool)(s:St)(a:Act)(w:World):Prop:=
 ∃G:Nat→Nat,Hid P w0 env0 bad0 fps base N ((al.filter fun i=>listed.getD i false).map (alHE its G)) s a w
theorem isL_getD{listed:Array Bool}{i:Nat}:listed.getD i false=true↔isL listed i:=by
 unfold isL
 rw[Zd]
 cases listed[i]?<;>simp
theorem Whn{listed:Array Bool}{i j:Nat}(h:j≠i):(listed.setIfInBounds i true).getD j false=listed.getD j false:=by
 rw[Zd,X7 (fun e=>h e.symm),←Zd]
theorem HidL.op{listed:Array Bool}{o:Oper}{i:Nat}{it:AIt}{s:St}{a:Act}{w:World}{next:Act→World→Prop}(hH:LtH ops its A T)(hA:AlH ops its A T al)(hi:ops[i]?=some o)(hit:its[i]?=some it)(htr:W41 P N ops o=some it)(hal:i∉al)(h:itW P it s K)(hL:HidL P w0 env0 bad0 fps base N its al listed s a w)
  (hK:∀s' a' w',K s'→HidL P w0 env0 bad0 fps base N its al (listed.setIfInBounds i true) s' a' w'→next a' w'):wpOpIn (Fw ro) n P ops Q i next a w:=by
 obtain ⟨G,hG⟩:=hL
 have e:(al.filter fun j=>(listed.setIfInBounds i true).getD j false)=al.filter fun j=>listed.getD j false:=List.filter_congr fun j hj=>Whn fun e=>hal (e▸hj)
 refine hG.op hi htr h (fun x hx hd=> ?_) fun s' a' w' k r=>hK s' a' w' k ⟨G,by rw[e]; exact r⟩
 obtain ⟨j,hj,rfl⟩:=Y1.1 hx
 have hj':=(Zj.1 hj).1
 have:=hH.one i j (infD its j) (by unfold dOf; rw[hit]; exact hd) (hA.d hj')
 exact hal (this▸hj')
theorem HidL.hide{listed:Array Bool}{o:Oper}{i:Nat}{s:St}{a:Act}{w:World}{next:Act→World→Prop}(hH:LtH ops its A T)(hA:AlH ops its A T al)(hi:ops[i]?=some o)(htr:∀it,its[i]?=some it→W41 P N ops o=some it)(hal:i∈al)(hlt:i<listed.size)(hnl:¬isL listed i)(hany:lk s.slots (infD its i)= .c .any)(hL:HidL P w0 env0 bad0 fps base N its al listed s a w)
  (hK:∀a' w',HidL P w0 env0 bad0 fps base N its al (listed.setIfInBounds i true) s a' w'→next a' w'):wpOpIn (Fw ro) n P ops Q i next a w:=by
 obtain ⟨G,hG⟩:=hL
 obtain ⟨d,zs,hit⟩:=hA.it i hal
 obtain ⟨_,e2,e3⟩:=Wnj hit
 refine Hid.hide hi (htr _ hit) (by rw[←e2]; exact hany) hG (fun x hx hd=> ?_) fun a' w' g r=>hK a' w' ⟨fun j=>if j=i then g else G j,Hid.perm r ?_⟩
 ·obtain ⟨j,hj,rfl⟩:=Y1.1 hx
  have hj':=Zj.1 hj
  have:=hH.one i j d (by rw[←e2]; exact hA.d hal) (by rw[←hd]; exact hA.d hj'.1)
  subst this
  exact hnl (isL_getD.1 hj'.2)
 ·have hp:=Waj (i:=i) (p:=fun j=>listed.getD j false) (q:=fun j=>(listed.setIfInBounds i true).getD j false) (fun j hj=>Whn hj) (by
   cases hc:listed.getD i false with
   | false=>rfl
   | true=>exact absurd (isL_getD.1 hc) hnl) (isL_getD.2 ((W0l hlt).2 (.inl rfl))) hA.nd hal
  have hp2:=hp.map (alHE its fun j=>if j=i then g else G j)
  refine List.Perm.trans (List.Perm.of_eq ?_) hp2
  rw[Zh]
  congr 1
  ·simp only[alHE,e2,e3,if_true]
  ·refine Yg fun j hj=> ?_
   have hne:j≠i:=fun e=>by
    subst e
    exact hnl (isL_getD.1 (Zj.1 hj).2)
   simp only[alHE,if_neg hne]
theorem HidL.back{listed:Array Bool}{s:St}{a:Act}{w:World}(hal:∀i∈al,isL listed i)(hL:HidL P w0 env0 bad0 fps base N its al listed s a w):R P w0 env0 bad0 fps base N (W5i (inf its al) s) a w:=by
 obtain ⟨G,hG⟩:=hL
 rw[List.filter_eq_self.2 fun i hi=>isL_getD.2 (hal i hi)]at hG
 have:=hG.backs
 rwa[X2]at this
end
section
variable {P:Program} {w0:World} {env0:Env} {bad0:Bs} {fps:List Nat} {base:Nat→Prop} {N:Nat} {ops:Array Oper} {Q:Exit→Act→World→Prop} {K:St→Prop} {ro:Option Nat} {n:Nat} {its:List AIt} {T al:List Nat}
theorem Wdd{A:List (List Nat)}{fuel i:Nat}{U C:List Nat}{t:ATree}{s:St}(h:W5j its A T al fuel U C=some t)(hw:W3a P K t s)(hi:i∈(W26 its.length A T U).filter fun i=> !al.contains i):
  ∃f it u,fuel=f+1∧its[i]?=some it∧W32 its (agOf its A (i::U) (C++W1b its.length A T U C)) (W4j its A T al f (i::U) (C++W1b its.length A T U C))=some u∧∃s1,(∀K':St→Prop,K' s1→itW P it s K')∧W3a P K u s1:=by
 unfold W5j at h
 cases hl:(W26 its.length A T U).filter fun i=> !al.contains i with
 | nil=>rw[hl]at hi; simp at hi
 | cons a l=>
  rw[hl]at h
  cases fuel with
  | zero=>cases h
  | succ f=>
   obtain ⟨u,h1,h2⟩:=Wfp h hw i (by rw[←hl]; exact hi)
   simp only[Z0,Z1]at h1
   obtain ⟨it,e1,u',e2,rfl⟩:=h1
   obtain ⟨s1,h3,h4⟩:=h2
   exact ⟨f,it,u',rfl,e1,e2,s1,h3,h4⟩
theorem Wde{A:List (List Nat)}{fuel:Nat}{U C:List Nat}(h:((W26 its.length A T U).filter fun i=> !al.contains i)=[]):
  W5j its A T al fuel U C=alT its al (W32 its (agOf its A (al++U) (C++W1b its.length A T U C)) (W3i its A T its.length (al++U) (C++W1b its.length A T U C))):=by
 unfold W5j
 rw[h]
theorem V6r{s0:St}(hits:W0h (W41 P N ops) ops.toList=some its)(hH:LtH ops its (ancs ops its.length) T)(hA:AlH ops its (ancs ops its.length) T al)(hTlt:∀j∈T,j<ops.size)(hK:∀s' a' w',K s'→R P w0 env0 bad0 fps base N s' a' w'→Q .normal a' w'):
  ∀(fuel:Nat) (U C:List Nat) (t:ATree) (sc:St),W4j its (ancs ops its.length) T al fuel U C=some t→W3a P K t sc→(∀i∈U,i∈T∧i∉al)→(∀i∈C,i<its.length∧i∉T∧subB (ancs ops its.length) T U i=true)→(∀i∈C,∀k∈bnd ops i,k∉T→k∈C)→
  (∀t,(∀i,i∈U∨i∈C→dOf its i≠some t)→lk sc.slots t=lk s0.slots t)→
  ∀(fw:Nat) (listed:Array Bool) (s:St) (a:Act) (w:World),listed.size=ops.size→(∀i,isL listed i→∀j∈bnd ops i,isL listed j)→(∀i∈T,i∉al→(isL listed i↔i∈U))→(∀i,isL listed i→i∈U∨i∈C∨i∈al)→(List.range ops.size).countP (fun i=> !listed.getD i true)≤fw→
   (∀i∈C,¬isL listed i→Told P its sc i)→s.regs=sc.regs→(∀t,(∃i,i∉al∧isL listed i∧dOf its i=some t)→lk s.slots t=lk sc.slots t)→(∀t,(∀i,isL listed i∨i∈al→dOf its i≠some t)→lk s.slots t=lk s0.slots t)→
   (∀i∈al,lk s.slots (infD its i)= .c .any)→HidL P w0 env0 bad0 fps base N its al listed s a w→wpAnyIn (Fw ro) n P .any ops Q fw listed a w:=by
 have hlen:its.length=ops.size:=by have:=(W1e (R:=fun _ _=>True) (fun _ _ _=>trivial) hits).len; simpa using this
 have halanc:∀i∈al,(ancs ops its.length).getD i []=[]:=fun i hi=>by
  obtain ⟨d,zs,e⟩:=hA.it i hi
  rw[W2v (Z3.1 e).1]
  unfold Wbr
  rw[hA.top i hi]
  rfl
 intro fuel
 induction fuel using Nat.strongRecOn with
 | ind fuel ihf=>
 intro U C t sc hmk hw hU hC hCc hsc
 rw[Wak]at hmk
 have hnew:∀i,i∈W1b its.length (ancs ops its.length) T U C↔i<its.length∧i∉T∧i∉C∧subB (ancs ops its.length) T U i=true:=fun i=>by
  unfold W1b
  rw[Zj,Y4]
  simp
 have hcand:∀i,i∈((W26 its.length (ancs ops its.length) T U).filter fun i=> !al.contains i)↔i<its.length∧i∈T∧i∉U∧i∉al∧subB (ancs ops its.length) T U i=true:=fun i=>by
  unfold W26
  rw[Zj,Zj,Y4]
  simp only[Z4,List.contains_eq_mem,Zf,X0,Xr]
  constructor
  ·rintro ⟨⟨a,b,c,d⟩,e⟩
   exact ⟨a,b,c,e,d⟩
  ·rintro ⟨a,b,c,e,d⟩
   exact ⟨⟨a,b,c,d⟩,e⟩
 have hfree:∀i,subB (ancs ops its.length) T U i=true→∀j∈al,j∉(ancs ops its.length).getD i []:=fun i hi j hj hx=>(hU j (subB_iff.1 hi j hx (hA.inT j hj))).2 hj
 obtain ⟨t',sc',hnx,hw',hregs',hlk',htold'⟩:=Wfq hH (fun i hi=>((hnew i).1 hi).2.1) (List.Pairwise.filter _ List.pairwise_lt_range) hmk hw
 have hC':∀i∈C++W1b its.length (ancs ops its.length) T U C,i<its.length∧i∉T∧subB (ancs ops its.length) T U i=true:=fun i hi=>by
  rcases Zg.1 hi with h | h
  ·exact hC i h
  ·obtain ⟨a,b,_,c⟩:=(hnew i).1 h
   exact ⟨a,b,c⟩
 have hsc':∀t,(∀i,i∈U∨i∈C++W1b its.length (ancs ops its.length) T U C→dOf its i≠some t)→lk sc'.slots t=lk s0.slots t:=fun t ht=>by
  rw[hlk' t fun i hi=>ht i (.inr (Zg.2 (.inr hi)))]
  exact hsc t fun i hi=>ht i (hi.imp (fun h=>h) fun h=>Zg.2 (.inl h))
 have hold:∀(listed:Array Bool),(∀i,isL listed i→i∈U∨i∈C∨i∈al)→∀t,(∃i,i∉al∧isL listed i∧dOf its i=some t)→lk sc'.slots t=lk sc.slots t:=fun listed hl t ⟨i,h0,h1,h2⟩=>hlk' t fun k hk e=>by
  obtain ⟨k1,k2,k3,_⟩:=(hnew k).1 hk
  have:=hH.one i k t h2 e
  subst this
  rcases hl i h1 with h | h | h
  ·exact k2 (hU i h).1
  ·exact k3 h
  ·exact h0 h
 have htoldC:∀i∈C,Told P its sc i→Told P its sc' i:=fun i hi ht=>ht.slots hregs' fun it d e1 e2=>by
  have hne:∀n,(∀k∈W1b its.length (ancs ops its.length) T U C,dOf its k≠some n)→lk sc'.slots n=lk sc.slots n:=hlk'
  have hdi:dOf its i=some d:=by unfold dOf; rw[e1]; exact e2
  refine ⟨hne d fun k hk e=> ?_,fun x hx=>W8e fun n hn=>hne n fun k hk e=> ?_⟩
  ·have:=hH.one i k d hdi e
   subst this
   exact ((hnew i).1 hk).2.2.1 hi
  ·subst hn
   obtain ⟨k1,k2,k3,k4⟩:=(hnew k).1 hk
   rcases hH.rd i it n k e1 hx e with h | h
   ·exact k3 (hCc i hi k h k2)
   ·exact k2 h.1
 have hCc':∀i∈C++W1b its.length (ancs ops its.length) T U C,∀k∈bnd ops i,k∉T→k∈C++W1b its.length (ancs ops its.length) T U C:=fun i hi k hk hkT=>by
  by_cases hkC:k∈C
  ·exact Zg.2 (.inl hkC)
  ·obtain ⟨a,b,c⟩:=hC' i hi
   have hki:=hH.dn i k hk
   refine Zg.2 (.inr ((hnew k).2 ⟨Nat.lt_trans hki a,hkT,hkC,subB_iff.2 fun j hj hjT=>subB_iff.1 c j (Wda a hki hk hj) hjT⟩))
 have hleaf:((W26 its.length (ancs ops its.length) T U).filter fun i=> !al.contains i)=[]→alT its al (W32 its (agOf its (ancs ops its.length) (al++U) (C++W1b its.length (ancs ops its.length) T U C)) (W3i its (ancs ops its.length) T its.length (al++U) (C++W1b its.length (ancs ops its.length) T U C)))=some t':=fun h=>by rw[←Wde h]; exact hnx
 generalize hCe:C++W1b its.length (ancs ops its.length) T U C=C' at hC' hsc' hCc' hleaf
 have hfin:∀(fw:Nat) (listed:Array Bool) (s:St) (a:Act) (w:World),listed.size=ops.size→(∀i,isL listed i→∀j∈bnd ops i,isL listed j)→(∀i∈T,i∉al→(isL listed i↔i∈U))→(∀i,isL listed i→i∈U∨i∈C'∨i∈al)→(List.range ops.size).countP (fun i=> !listed.getD i true)≤fw→
   (∀i∈C',¬isL listed i→Told P its sc' i)→s.regs=sc'.regs→(∀t,(∃i,i∉al∧isL listed i∧dOf its i=some t)→lk s.slots t=lk sc'.slots t)→(∀t,(∀i,isL listed i∨i∈al→dOf its i≠some t)→lk s.slots t=lk s0.slots t)→
   HidL P w0 env0 bad0 fps base N its al listed s a w→(∀i∈al,isL listed i)→(∀j∈T,j∉al→(∀i∈al,i∉(ancs ops its.length).getD j [])→isL listed j)→wpAnyIn (Fw ro) n P .any ops Q fw listed a w:=by
  intro fw listed s a w hsz hcl hTl hLC hcnt htold hregs hs1 hs2 hHid hall hearly
  have hcn:((W26 its.length (ancs ops its.length) T U).filter fun i=> !al.contains i)=[]:=Xb.2 fun i hi=>by
   obtain ⟨h1,h2,h3,h4,h5⟩:=(hcand i).1 hi
   exact h3 ((hTl i h2 h4).1 (hearly i h2 h4 (hfree i h5)))
  obtain ⟨t1,k1,k2⟩:=V1f hA.it (hleaf hcn) hw'
  obtain ⟨t2,g1,g2,g3⟩:=W7i hH k1 k2
  have hinf:∀q∈inf its al,∃i∈al,q.1=infD its i:=fun q hq=>by
   obtain ⟨i,hi,rfl⟩:=Y1.1 hq
   exact ⟨i,hi,rfl⟩
  have hne:∀t,(∀i∈al,dOf its i≠some t)→∀q∈inf its al,q.1≠t:=fun t ht q hq e=>by
   obtain ⟨i,hi,k⟩:=hinf q hq
   exact ht i hi (by rw[hA.d hi,←k,e])
  refine Wah (s0:=s0) hits hH hK its.length (al++U) C' t2 (W5i (inf its al) sc') g1 g2 (fun i hi=> ?_) (fun i hi=> ?_) hCc' (fun t ht=> ?_) fw listed (W5i (inf its al) s) a w hsz hcl (fun i hi=> ?_) (fun i hi=> ?_) hcnt (fun j hj hjl=> ?_) (Wai hregs) (fun t ht=> ?_) (fun t ht=> ?_) (hHid.back hall)
  ·exact (Zg.1 hi).elim (hA.inT i) fun h=>(hU i h).1
  ·obtain ⟨x,y,z⟩:=hC' i hi
   exact ⟨x,y,subB_iff.2 fun j hj hjT=>Zg.2 (.inr (subB_iff.1 z j hj hjT))⟩
  ·rw[W35 (hne t fun i hi=>ht i (.inl (Zg.2 (.inl hi))))]
   exact hsc' t fun i hi=>ht i (hi.imp (fun h=>Zg.2 (.inr h)) fun h=>h)
  ·by_cases hia:i∈al
   ·exact ⟨fun _=>Zg.2 (.inl hia),fun _=>hall i hia⟩
   ·rw[hTl i hi hia,Zg]
    exact ⟨.inr,fun h=>h.resolve_left hia⟩
  ·rcases hLC i hi with h | h | h
   ·exact .inl (Zg.2 (.inr h))
   ·exact .inr h
   ·exact .inl (Zg.2 (.inl h))
  ·cases hlb:Wag its j with
   | true=>
    refine g3 j ?_
    unfold agOf
    rw[Zj]
    refine ⟨hj,?_⟩
    rw[hlb,Xp,X0,List.any_eq_false]
    intro k hk
    have:j∉(ancs ops its.length).getD k []:=by
     rcases Zg.1 hk with hk | hk
     ·rw[halanc k hk]
      simp
     ·intro hx
      have hkl:=(hTl k (hU k hk).1 (hU k hk).2).2 hk
      exact hjl (W8j hcl k (by
       have:=hkl
       unfold isL at this
       have:=(Array.getElem?_eq_some_iff.1 this).1
       omega) (hcl k hkl) j hx)
    simpa using this
   | false=>
    refine Told.blind hH (htold j hj hjl) hlb fun itj dj q1 q2=> ?_
    have hdj:dOf its j=some dj:=by unfold dOf; rw[q1]; exact q2
    have hja:j∉al:=fun h=>(hC' j hj).2.1 (hA.inT j h)
    refine ⟨W35 (hne dj fun i hi e=>hja (hH.one j i dj hdj e▸hi)),fun x hx=>W8e fun n hn=>W35 (hne n fun i hi e=> ?_)⟩
    subst hn
    rcases hH.rd j itj n i q1 hx e with h | h
    ·exact hfree j (hC' j hj).2.2 i hi (Whk (hC' j hj).1 h)
    ·rw[halanc i hi]at h
     simp at h
  ·by_cases hta:∃i∈al,dOf its i=some t
   ·obtain ⟨i,hi,e⟩:=hta
    refine Whm hregs ⟨(infD its i,infZ its i),Y1.2 ⟨i,hi,rfl⟩,?_⟩
    rw[hA.d hi]at e
    exact Y7 e
   ·have hn:∀i∈al,dOf its i≠some t:=fun i hi e=>hta ⟨i,hi,e⟩
    rw[W35 (hne t hn),W35 (hne t hn)]
    obtain ⟨i,h1,h2⟩:=ht
    exact hs1 t ⟨i,fun h=>hn i h h2,h1,h2⟩
  ·have hn:∀i∈al,dOf its i≠some t:=fun i hi e=>ht ⟨i,hall i hi,e⟩
   rw[W35 (hne t hn)]
   exact hs2 t fun i hi e=>hi.elim (fun h=>ht ⟨i,h,e⟩) fun h=>hn i h e
 have inner:∀(fw:Nat) (listed:Array Bool) (s:St) (a:Act) (w:World),listed.size=ops.size→(∀i,isL listed i→∀j∈bnd ops i,isL listed j)→(∀i∈T,i∉al→(isL listed i↔i∈U))→(∀i,isL listed i→i∈U∨i∈C'∨i∈al)→(List.range ops.size).countP (fun i=> !listed.getD i true)≤fw→
   (∀i∈C',¬isL listed i→Told P its sc' i)→s.regs=sc'.regs→(∀t,(∃i,i∉al∧isL listed i∧dOf its i=some t)→lk s.slots t=lk sc'.slots t)→(∀t,(∀i,isL listed i∨i∈al→dOf its i≠some t)→lk s.slots t=lk s0.slots t)→
   (∀i∈al,lk s.slots (infD its i)= .c .any)→HidL P w0 env0 bad0 fps base N its al listed s a w→wpAnyIn (Fw ro) n P .any ops Q fw listed a w:=by
  intro fw
  induction fw with
  | zero=>
   intro listed s a w hsz hcl hTl hLC hcnt htold hregs hs1 hs2 hany hR
   have hall:∀i,i<ops.size→isL listed i:=fun i hi=>by
    have:(List.range ops.size).countP (fun i=> !listed.getD i true)=0:=by omega
    have:=(List.countP_eq_zero.1 this) i (Y4.2 hi)
    rw[W6n hsz hi]at this
    exact Classical.not_not.1 this
   refine hfin 0 listed s a w hsz hcl hTl hLC hcnt htold hregs hs1 hs2 hR (fun i hi=>hall i ?_) fun j hj hja _=> ?_
   ·have:=Wd8 (hA.d hi)
    omega
   ·exact hall j (hTlt j hj)
  | succ fw ihw=>
   intro listed s a w hsz hcl hTl hLC hcnt htold hregs hs1 hs2 hany hR
   by_cases hL:(∀i∈al,isL listed i)∧(∀j∈T,j∉al→(∀i∈al,i∉(ancs ops its.length).getD j [])→isL listed j)
   ·exact hfin _ listed s a w hsz hcl hTl hLC hcnt htold hregs hs1 hs2 hR hL.1 hL.2
   have hready:Region.ready .any ops listed≠[]:=fun h=>by
    have hall:=Wd9 hsz hH.dn h
    refine hL ⟨fun i hi=>hall i ?_,fun j hj _ _=>hall j (hTlt j hj)⟩
    have:=Wd8 (hA.d hi)
    omega
   refine ⟨fun h0=>absurd h0 hready,fun i hi=> ?_⟩
   obtain ⟨h1,h2,h3⟩:=(W29 hsz).1 hi
   have him:i<its.length:=by omega
   have hit:its[i]?=some (its[i]'him):=Z2 him
   have hti:W41 P N ops ops[i]=some (its[i]'him):=by
    have h:=(W1e (R:=fun it o=>W41 P N ops o=some it) (fun _ _ h=>h) hits).get i him (by simpa using h1)
    simpa using h
   have hcnt':(List.range ops.size).countP (fun j=> !(listed.setIfInBounds i true).getD j true)≤fw:=by
    have:=Whl hsz h1 h2
    omega
   have hcl':∀j,isL (listed.setIfInBounds i true) j→∀q∈bnd ops j,isL (listed.setIfInBounds i true) q:=fun j hj q hq=>by
    rw[W0l (by omega)]
    rcases (W0l (by omega)).1 hj with rfl | h
    ·exact .inr (h3 q hq)
    ·exact .inr (hcl j h q hq)
   by_cases hia:i∈al
   ·refine HidL.hide hH hA (Y0 h1) (fun it e=>by rw[hit]at e; cases e; exact hti) hia (by omega) h2 (hany i hia) hR fun a' w' r=> ?_
    refine ihw (listed.setIfInBounds i true) s a' w' (by simpa using hsz) hcl' (fun j hj hja=> ?_) (fun j hj=> ?_) hcnt' (fun j hj hjl=>htold j hj fun h=>hjl ((W0l (by omega)).2 (.inr h))) hregs (fun t ht=> ?_) (fun t ht=> ?_) hany r
    ·rw[W0l (by omega),←hTl j hj hja]
     exact ⟨fun h=>h.resolve_left fun e=>hja (e▸hia),.inr⟩
    ·rcases (W0l (by omega)).1 hj with rfl | h
     ·exact .inr (.inr hia)
     ·exact hLC j h
    ·obtain ⟨j,hja,hj,e⟩:=ht
     refine hs1 t ⟨j,hja,?_,e⟩
     rcases (W0l (by omega)).1 hj with rfl | h
     ·exact absurd hia hja
     ·exact h
    ·exact hs2 t fun j hj=>ht j (hj.imp (fun h=>(W0l (by omega)).2 (.inr h)) fun h=>h)
   have hanc:∀j∈(ancs ops its.length).getD i [],isL listed j:=W8j hcl i him h3
   have hnoal:∀j∈al,j∉(ancs ops its.length).getD i []:=fun j hj hx=>by
    obtain ⟨q1,q2⟩:=hA.late i him ⟨j,hj,hx⟩
    exact hL ⟨fun k hk=>hanc k (q1 k hk),fun k hk hka hn=>hanc k (q2 k hk hka hn)⟩
   have hsub:subB (ancs ops its.length) T U i=true:=subB_iff.2 fun j hj hjT=>(hTl j hjT fun h=>hnoal j h hj).1 (hanc j hj)
   have hrd:∀x∈(its[i]'him).rdsG,s.ev x=sc'.ev x:=fun x hx=>W8e fun n hn=>by
    subst hn
    have hrdi:=fun k e=>hH.rd i _ n k hit hx e
    have hrda:∀k∈al,dOf its k≠some n:=fun k hk e=>by
     rcases hrdi k e with h | h
     ·exact hnoal k hk (Whk him h)
     ·rw[halanc k hk]at h
      simp at h
    by_cases ht:∃k,isL listed k∧dOf its k=some n
    ·obtain ⟨k,h1,h2⟩:=ht
     exact hs1 n ⟨k,fun h=>hrda k h h2,h1,h2⟩
    ·rw[hs2 n fun k hk e=>hk.elim (fun h=>ht ⟨k,h,e⟩) fun h=>hrda k h e]
     refine (hsc' n fun k hk e=> ?_).symm
     rcases hrdi k e with h | h
     ·exact ht ⟨k,h3 k h,e⟩
     ·rcases hk with hk | hk
      ·exact ht ⟨k,(hTl k h.1 fun h=>hrda k h e).2 hk,e⟩
      ·exact (hC' k hk).2.1 h.1
   obtain ⟨hop1,hop2,hop3⟩:=hH.op i _ hit
   have halne:∀k∈al,(its[i]'him).d≠some (infD its k):=fun k hk e=>by
    have:=hH.one i k _ (by unfold dOf; rw[hit]; exact e) (hA.d hk)
    exact hia (this▸hk)
   by_cases hiT:i∈T
   ·have hiU:i∉U:=fun h=>h2 ((hTl i hiT hia).2 h)
    obtain ⟨f,it,u,rfl,e1,e2,sn,e3,e4⟩:=Wdd hnx hw' ((hcand i).2 ⟨him,hiT,hiU,hia,hsub⟩)
    rw[hit]at e1
    cases e1
    rw[hCe]at e2
    obtain ⟨t2,g1,g2,g3⟩:=W7i hH e2 e4
    have hWs:itW P (its[i]'him) s fun s1=>∃v rg,sn=sc'.putr (its[i]'him).d v rg∧s1=s.putr (its[i]'him).d v rg:=
     W7h (K:=fun s1=>s1=sn) (Turn.id P sc'.regs) hregs (fun _ _=>rfl) hop1 hop2 hrd (fun v' rg' e=>⟨v',rg',e.symm,rfl⟩) (e3 _ rfl)
    refine HidL.op hH hA (Y0 h1) hit hti hia hWs hR fun s' a' w' k r=> ?_
    obtain ⟨v,rg,rfl,rfl⟩:=k
    have hmono:∀j,subB (ancs ops its.length) T U j=true→subB (ancs ops its.length) T (i::U) j=true:=fun j hj=>subB_iff.2 fun q hq hqT=>Zo _ (subB_iff.1 hj q hq hqT)
    have hdn:∀t,dOf its i≠some t→(its[i]'him).d≠some t:=fun t h e=>h (by unfold dOf; rw[hit]; exact e)
    refine ihf f (Nat.lt_succ_self f) (i::U) C' t2 _ g1 g2 (fun j hj=> ?_) (fun j hj=>⟨(hC' j hj).1,(hC' j hj).2.1,hmono j (hC' j hj).2.2⟩) hCc' (fun t ht=> ?_) fw (listed.setIfInBounds i true) _ a' w' (by simpa using hsz) hcl' (fun j hj hja=> ?_) (fun j hj=> ?_) hcnt' (fun j hj hjl=> ?_) ?_ (fun t ht=> ?_) (fun t ht=> ?_) (fun k hk=> ?_) r
    ·rcases Zq.1 hj with rfl | hj
     ·exact ⟨hiT,hia⟩
     ·exact hU j hj
    ·rw[W1f (hdn t (ht i (.inl (by simp))))]
     exact hsc' t fun k hk=>ht k (hk.imp (Zo _) fun h=>h)
    ·rw[W0l (by omega),Zq]
     constructor
     ·rintro (rfl | h)
      ·exact .inl rfl
      ·exact .inr ((hTl j hj hja).1 h)
     ·rintro (rfl | h)
      ·exact .inl rfl
      ·exact .inr ((hTl j hj hja).2 h)
    ·rcases (W0l (by omega)).1 hj with rfl | h
     ·exact .inl (by simp)
     ·exact (hLC j h).imp (Zo _) fun h=>h
    ·have hjl':¬isL listed j:=fun h=>hjl ((W0l (by omega)).2 (.inr h))
     have hnanc:∀k,isL listed k∨k=i→j∉(ancs ops its.length).getD k []:=fun k hk hj'=>by
      rcases hk with hk | rfl
      ·exact hjl' (W8j hcl k (by
        have:=hk
        unfold isL at this
        have:=(Array.getElem?_eq_some_iff.1 this).1
        omega) (hcl k hk) j hj')
      ·exact hjl' (hanc j hj')
     cases hlb:Wag its j with
     | true=>
      refine g3 j ?_
      unfold agOf
      rw[Zj]
      refine ⟨hj,?_⟩
      rw[hlb,Xp,X0,List.any_eq_false]
      intro k hk
      have:j∉(ancs ops its.length).getD k []:=hnanc k (by
       rcases Zq.1 hk with rfl | hk
       ·exact .inr rfl
       ·exact .inl ((hTl k (hU k hk).1 (hU k hk).2).2 hk))
      simpa using this
     | false=>
      refine Told.blind hH (htold j hj hjl') hlb fun itj dj q1 q2=> ?_
      have hdj:dOf its j=some dj:=by unfold dOf; rw[q1]; exact q2
      refine ⟨W1f fun e=> ?_,fun x hx=>W8e fun n hn=>W1f fun e=> ?_⟩
      ·have:=hH.one i j dj (by unfold dOf; rw[hit]; exact e) hdj
       subst this
       exact (hC' i hj).2.1 hiT
      ·subst hn
       rcases hH.rd j itj n i q1 hx (by unfold dOf; rw[hit]; exact e)with h | h
       ·exact hiU (subB_iff.1 (hC' j hj).2.2 i (Whk (hC' j hj).1 h) hiT)
       ·exact hnanc i (.inr rfl) h.2
    ·rw[W4y,W4y]
    ·obtain ⟨j,hja,hj,e⟩:=ht
     by_cases hd:(its[i]'him).d=some t
     ·rw[W4z hd,W4z hd]
     ·rw[W1f hd,W1f hd]
      refine hs1 t ⟨j,hja,?_,e⟩
      rcases (W0l (by omega)).1 hj with rfl | h
      ·unfold dOf at e
       rw[hit]at e
       exact absurd e hd
      ·exact h
    ·rw[W1f fun e=>ht i (.inl ((W0l (by omega)).2 (.inl rfl))) (by unfold dOf; rw[hit]; exact e)]
     exact hs2 t fun j hj=>ht j (hj.imp (fun h=>(W0l (by omega)).2 (.inr h)) fun h=>h)
    ·rw[W1f (halne k hk)]
     exact hany k hk
   ·have hiC:i∈C':=by
     rw[←hCe,Zg]
     by_cases hic:i∈C
     ·exact .inl hic
     ·exact .inr ((hnew i).2 ⟨him,hiT,hic,hsub⟩)
    obtain ⟨it,d,e1,e2,e3⟩:=htold i hiC h2
    rw[hit]at e1
    cases e1
    have hdi:dOf its i=some d:=by unfold dOf; rw[hit]; exact e2
    refine HidL.op hH hA (Y0 h1) hit hti hia (e3 s hregs hrd) hR fun s' a' w' k r=> ?_
    subst k
    refine ihw (listed.setIfInBounds i true) ⟨(d,lk sc'.slots d)::s.slots,s.regs⟩ a' w' (by simpa using hsz) hcl' (fun j hj hja=> ?_) (fun j hj=> ?_) hcnt' (fun j hj hjl=>htold j hj fun h=>hjl ((W0l (by omega)).2 (.inr h))) hregs (fun t ht=> ?_) (fun t ht=> ?_) (fun k hk=> ?_) r
    ·rw[W0l (by omega),←hTl j hj hja]
     exact ⟨fun h=>h.resolve_left fun e=>hiT (e▸hj),.inr⟩
    ·rcases (W0l (by omega)).1 hj with rfl | h
     ·exact .inr (.inl hiC)
     ·exact hLC j h
    ·by_cases e:d=t
     ·subst e; simp[lk]
     ·obtain ⟨j,hja,hj,e'⟩:=ht
      simp only[lk,e,if_false]
      refine hs1 t ⟨j,hja,?_,e'⟩
      rcases (W0l (by omega)).1 hj with rfl | h
      ·rw[hdi]at e'
       exact absurd (Y7 e') e
      ·exact h
    ·have e:d≠t:=fun e=>ht i (.inl ((W0l (by omega)).2 (.inl rfl))) (by rw[hdi,e])
     simp only[lk,e,if_false]
     exact hs2 t fun j hj=>ht j (hj.imp (fun h=>(W0l (by omega)).2 (.inr h)) fun h=>h)
    ·have e:d≠infD its k:=fun e=>halne k hk (by rw[e2,e])
     simp only[lk,e,if_false]
     exact hany k hk
 intro fw listed s a w hsz hcl hTl hLC hcnt htold hregs hs1 hs2 hany hR
 refine inner fw listed s a w hsz hcl hTl (fun i hi=>(hLC i hi).imp (fun h=>h) fun h=>h.imp (fun h=>by rw[←hCe]; exact Zg.2 (.inl h)) fun h=>h) hcnt (fun i hi hl=> ?_) (hregs.trans hregs'.symm) (fun t ht=> ?_) hs2 hany hR
 ·rw[←hCe]at hi
  rcases Zg.1 hi with h | h
  ·exact htoldC i h (htold i h hl)
  ·exact htold' i h
 ·rw[hs1 t ht,hold listed hLC t ht]
theorem Wvw:∀{l:List Nat} {ot:Option ATree} {t:ATree},(∀u,ot=some u→W2a u)→alT its l ot=some t→W2a t
 | [],ot,t,h,e=>h t e
 | i::r,ot,t,h,e=>by
  simp only[alT,Z0,Z1]at e
  obtain ⟨it,e1,u,e2,rfl⟩:=e
  show W2a u
  exact Wvw h e2
theorem Wk9{A:List (List Nat)}(hT:∀i,i∉T→∀it,its[i]?=some it→W71 it):∀(fuel:Nat) (U C:List Nat) (t:ATree),(∀i∈C,i∉T)→W4j its A T al fuel U C=some t→W2a t:=by
 intro fuel
 induction fuel using Nat.strongRecOn with
 | ind fuel ih=>
  intro U C t hC h
  rw[Wak]at h
  have hn:∀i∈W1b its.length A T U C,i∉T:=fun i hi=>by unfold W1b at hi; simp at hi; exact hi.2.1
  have hC':∀i∈C++W1b its.length A T U C,i∉T:=fun i hi=>(Zg.1 hi).elim (hC i) (hn i)
  refine W7j (fun i hi=>hT i (hn i hi)) (fun u hu=> ?_) h
  unfold W5j at hu
  split at hu
  ·refine Wvw (fun u hu=> ?_) hu
   exact W63 (fun j hj=>hT j (hC' j (Zj.1 hj).1)) (fun q hq=>Wdb hT _ _ _ _ hC' hq) hu
  ·cases hu
  ·rename_i f h0 h1
   refine Wfs (fun i t ht=> ?_) hu
   simp only[Z0,Z1]at ht
   obtain ⟨it,e1,u',e2,rfl⟩:=ht
   show W2a u'
   exact W63 (fun j hj=>hT j (hC' j (Zj.1 hj).1)) (fun q hq=>ih _ (Nat.lt_succ_self _) _ _ _ hC' hq) e2
theorem Wal{A0:List (List Nat)}(hH:LtH ops its A0 (W2j ops its)):∀i,i∉W2j ops its→∀it,its[i]?=some it→W71 it:=fun i hi it hit=>by
 obtain ⟨h1,h2,h3⟩:=hH.op i it hit
 have hlt:=(Z3.1 hit).1
 have hb:Wsm ops its i=false:=by
  cases hb:Wsm ops its i with
  | false=>rfl
  | true=>exact absurd (Zj.2 ⟨Y4.2 hlt,hb⟩) hi
 unfold Wsm at hb
 rw[hit]at hb
 simp only[Bool.or_eq_false_iff]at hb
 refine ⟨?_,h2,h3 hi,hb.2.1⟩
 cases hl:it.op.loc with
 | some _=>rfl
 | none=>rw[hl]at hb; simp at hb
theorem Wka{t:ATree}(h:W5k P N ops=some t):W2a t:=by
 simp only[W5k,Z0]at h
 obtain ⟨its,hits,u,hu,ht⟩:=h
 have hH:=Wnf (guardO_eq.1 hu)
 split at ht
 ·exact Wk9 (Wal hH) _ _ _ _ (fun i hi=>by simp at hi) ht
 ·exact Wdb (Wal hH) _ _ _ _ (fun i hi=>by simp at hi) ht
def anyS:List Nat→List (Nat×AV)→List (Nat×AV)
 | [],l=>l
 | d::r,l=>(d,.c .any)::anyS r l
theorem Wfu{t:Nat}:∀{ds:List Nat} {l:List (Nat×AV)},t∉ds→lk (anyS ds l) t=lk l t
 | [],_,_=>rfl
 | d::r,l,h=>by
  simp only[Zq,not_or]at h
  have h1:d≠t:=fun e=>h.1 e.symm
  rw[anyS,show lk ((d,AV.c .any)::anyS r l) t=lk (anyS r l) t by simp[lk,h1],Wfu h.2]
theorem Wfv{t:Nat}:∀{ds:List Nat} {l:List (Nat×AV)},t∈ds→lk (anyS ds l) t= .c .any
 | d::r,l,h=>by
  by_cases e:d=t
  ·simp[anyS,lk,e]
  ·have:=(Zq.1 h).resolve_left fun h=>e h.symm
   rw[anyS,show lk ((d,AV.c .any)::anyS r l) t=lk (anyS r l) t by simp[lk,e],Wfv this]
theorem R.anyS{s:St}{a:Act}{w:World}(ds:List Nat)(h:R P w0 env0 bad0 fps base N s a w):R P w0 env0 bad0 fps base N ⟨anyS ds s.slots,s.regs⟩ a w:=by
 obtain ⟨⟨env,hrs,hsl,hev⟩,hr,hr2⟩:=h
 refine ⟨⟨env,hrs,fun n=> ?_,hev⟩,hr,hr2⟩
 by_cases hn:n∈ds
 ·rw[Wfv hn]; exact .c trivial
 ·rw[Wfu hn]; exact hsl n
theorem Wkb{id:Nat}{t:ATree}{s:St}{a:Act}{w:World}(hm:P.follows .mixedOrders=true)(ht:W5k P N ops=some t)(h:W3a P K t s)
  (hR:R P w0 env0 bad0 fps base N s a w) (hK:∀s' a' w',K s'→R P w0 env0 bad0 fps base N s' a' w'→Q .normal a' w'):(Code.region id ops true).wpIn (Fw ro) n P Q a w:=by
 have ht':=ht
 simp only[W5k,Z0]at ht
 obtain ⟨its,hits,u,hu,ht⟩:=ht
 have hH:=Wnf (guardO_eq.1 hu)
 have hlen:its.length=ops.size:=by have:=(W1e (R:=fun _ _=>True) (fun _ _ _=>trivial) hits).len; simpa using this
 have hg:∀i,¬isL (Array.replicate ops.size false) i:=fun i hi=>by
  unfold isL at hi
  rw[Array.getElem?_replicate]at hi
  split at hi<;>simp at hi
 split at ht
 rotate_left
 ·exact Wng hm (by simp only[Wnd,hits,hu,Zn]; exact ht) h hR hK
 rename_i hc
 simp only[Z4]at hc
 have hA:=AlH.of (ops:=ops) (T:=W2j ops its) (List.nodup_range.sublist List.filter_sublist) hc.2
 refine wpIn_region_any hm ?_
 ·refine V6r (s0:=s) hits hH hA (fun j hj=> ?_) hK _ [] [] t s ht h (fun i hi=>by simp at hi) (fun i hi=>by simp at hi) (fun i hi=>by simp at hi) (fun _ _=>rfl) _ _ ⟨anyS ((Wbs ops its (W2j ops its)).map (infD its)) s.slots,s.regs⟩ a _ (by simp) (fun i hi=>absurd hi (hg i)) (fun i _ _=>⟨fun h=>absurd h (hg i),fun h=>by simp at h⟩) (fun i hi=>absurd hi (hg i)) (by
    exact Y5 List.countP_le_length (by simp)) (fun i hi=>by simp at hi) rfl (fun t ⟨i,_,hi,_⟩=>absurd hi (hg i)) (fun t ht=> ?_) (fun i hi=>Wfv (Y1.2 ⟨i,hi,rfl⟩)) ⟨fun _=>0,?_⟩
  ·have:=Y4.1 (Zj.1 hj).1
   omega
  ·refine Wfu fun hx=> ?_
   obtain ⟨i,hi,e⟩:=Y1.1 hx
   exact ht i (.inr hi) (by rw[hA.d hi,e])
  ·have e:((Wbs ops its (W2j ops its)).filter fun i=>(Array.replicate ops.size false).getD i false)=[]:=List.filter_eq_nil_iff.2 fun i _ h=>hg i (isL_getD.1 h)
   rw[e]
   exact Hid.of ((hR.anyS _).draw)
end
def W8m(P:Program)(N:Nat)(ops:Array Oper):Option (List AIt×List AIt):=(W0h (trIt P N ops) ops.toList).bind fun its=>
 if (Wxh ops its (its.takeWhile fun it=>it.op.loc.isSome).length&&its.all noCv)=true then some (its.take (its.takeWhile fun it=>it.op.loc.isSome).length,its.drop (its.takeWhile fun it=>it.op.loc.isSome).length)else none
def ATree.one:ATree→Bool
 | .done=>true
 | .tell _ t | .again _ t | .turn _ t=>t.one
 | .both _ _=>false
def Wkc(P:Program)(N:Nat)(ops:Array Oper):Option (ATree ⊕ (List AIt×List AIt)):=match W5k P N ops with
 | some t=>if t.one=true then some (.inl t)else (match W8m P N ops with
  | some p=>some (.inr p)
  | none=>some (.inl t))
 | none=>(W8m P N ops).map .inr
theorem Wnk{P:Program}{N:Nat}{ops:Array Oper}{t:ATree}(h:Wkc P N ops=some (.inl t)):W5k P N ops=some t:=by
 unfold Wkc at h
 split at h
 ·rename_i t' e
  split at h
  ·cases h; exact e
  ·split at h
   ·cases h
   ·cases h; exact e
 ·cases hp:W8m P N ops with
  | none=>rw[hp]at h; cases h
  | some p=>rw[hp]at h; cases h
theorem Wnl{P:Program}{N:Nat}{ops:Array Oper}{p:List AIt×List AIt}(h:Wkc P N ops=some (.inr p)):W8m P N ops=some p:=by
 unfold Wkc at h
 split at h
 ·split at h
  ·cases h
  ·split at h
   ·rename_i e; cases h; exact e
   ·cases h
 ·cases hp:W8m P N ops with
  | none=>rw[hp]at h; cases h
  | some p=>rw[hp]at h; cases h; rfl
inductive ACode where
 | skip
 | reg (l:List AIt)
 | any (t:ATree)
 | par (a b:List AIt)
 | seq (a b:ACode)
 | cond (c:AX) (a b:ACode)
 | block (id:Nat) (c:ACode)
 | loop (c:ACode)
 | rfun (g:AX) (f j:Nat)
 | exit (id:Nat)
 | ret
 | stuck
def W1x(P:Program)(N f:Nat):Nat→Code→Option ACode
 | _,.skip=>some .skip
 | _,.region _ ops draw=>match Wn6 P N ops draw with
  | some l=>some (.reg l)
  | none=>some (((W61 (draw&&(P.follows .mixedOrders&&(Region.noSelect ops&&ops.toList.all Wa2)))).bind fun _=>(Wkc P N ops).map fun x=>match x with
   | .inl t=> .any t
   | .inr p=> .par p.1 p.2).getD .stuck)
 | j,.seq a b=>(W1x P N f j a).bind fun x=>(W1x P N f (j+(W14 a).length) b).map fun y=> .seq x y
 | j,.cond c a b=>(trX c).bind fun z=>(W1x P N f j a).bind fun x=>(W1x P N f (j+(W14 a).length) b).map fun y=> .cond z x y
 | j,.block id c=>(W1x P N f j c).map (.block id)
 | j,.loop c=>(W1x P N f j c).map .loop
 | j,.rangeFunc g _ _ _=>(trX g).map fun z=> .rfun z f j
 | _,.exit id=>some (.exit id)
 | _,.ret=>some .ret
 | _,_=>none
def Seg(P:Program)(N f j:Nat)(c:Code):Prop:=∀i L,(W14 c)[i]?=some L→lpOf P f (j+i)=some (L,N)
theorem Seg.left{P:Program}{N f j:Nat}{a b:List LoopT}(h:∀i L,(a++b)[i]?=some L→lpOf P f (j+i)=some (L,N)):∀i L,a[i]?=some L→lpOf P f (j+i)=some (L,N):=fun i L hi=>
 h i L (by rw[Zp (Z3.1 hi).1]; exact hi)
theorem Seg.right{P:Program}{N f j:Nat}{a b:List LoopT}(h:∀i L,(a++b)[i]?=some L→lpOf P f (j+i)=some (L,N)):∀i L,b[i]?=some L→lpOf P f (j+a.length+i)=some (L,N):=fun i L hi=>by
 have:=h (a.length+i) L (by rw[Y3 (X4 _ _),Nat.add_sub_cancel_left]; exact hi)
 rwa[←X9]at this
def Inv(P:Program)(N f j:Nat)(c:Code):ACode→Prop
 | .skip=>c= .skip
 | .reg l=>∃id ops d,c= .region id ops d∧Wn6 P N ops d=some l
 | .any t=>∃id ops,c= .region id ops true∧P.follows .mixedOrders=true∧ops.toList.all Wa2=true∧W5k P N ops=some t
 | .par x y=>∃id ops,c= .region id ops true∧P.follows .mixedOrders=true∧ops.toList.all Wa2=true∧W8m P N ops=some (x,y)
 | .seq x y=>∃a b,c= .seq a b∧W1x P N f j a=some x∧Seg P N f j a∧W1x P N f (j+(W14 a).length) b=some y∧Seg P N f (j+(W14 a).length) b
 | .cond z x y=>∃o a b,c= .cond o a b∧trX o=some z∧W1x P N f j a=some x∧Seg P N f j a∧W1x P N f (j+(W14 a).length) b=some y∧Seg P N f (j+(W14 a).length) b
 | .block id x=>∃a,c= .block id a∧W1x P N f j a=some x∧Seg P N f j a
 | .loop x=>∃a,c= .loop a∧W1x P N f j a=some x∧Seg P N f j a
 | .rfun z f' j'=>∃g ps a b,c= .rangeFunc g ps a b∧trX g=some z∧f'=f∧j'=j∧lpOf P f j=some (⟨ps,a,b⟩,N)
 | .exit id=>c= .exit id
 | .ret=>c= .ret
 | .stuck=>True
theorem W1l{P:Program}{N f j:Nat}{c:Code}{ac:ACode}(h:W1x P N f j c=some ac)(hs:Seg P N f j c):Inv P N f j c ac:=by
 cases c with
 | skip=>cases h; rfl
 | region id ops d=>
  simp only[W1x]at h
  split at h
  ·rename_i l hl
   cases h
   exact ⟨id,ops,d,rfl,hl⟩
  ·injection h with h
   cases hx:((W61 (d&&(P.follows .mixedOrders&&(Region.noSelect ops&&ops.toList.all Wa2)))).bind fun _=>(Wkc P N ops).map fun x=>match x with
    | .inl t=> .any t
    | .inr p=> .par p.1 p.2:Option ACode)with
   | none=>rw[hx]at h; subst h; trivial
   | some z=>
    rw[hx]at h
    simp only[Option.getD_some]at h
    subst h
    rw[Z0]at hx
    obtain ⟨u,hu,h⟩:=hx
    have:=guardO_eq.1 hu
    simp only[Z4]at this
    obtain ⟨rfl,h2,h3,h4⟩:=this
    obtain ⟨q,hq,e⟩:=Z1.1 h
    cases q with
    | inl t=>cases e; exact ⟨id,ops,rfl,h2,h4,Wnk hq⟩
    | inr p=>cases e; exact ⟨id,ops,rfl,h2,h4,Wnl hq⟩
 | seq a b=>
  simp only[W1x,Z0,Z1]at h
  obtain ⟨x,hx,y,hy,rfl⟩:=h
  exact ⟨a,b,rfl,hx,Seg.left hs,hy,Seg.right hs⟩
 | cond o a b=>
  simp only[W1x,Z0,Z1]at h
  obtain ⟨z,hz,x,hx,y,hy,rfl⟩:=h
  exact ⟨o,a,b,rfl,hz,hx,Seg.left hs,hy,Seg.right hs⟩
 | block id a=>
  obtain ⟨l,hl,rfl⟩:=Z1.1 h
  exact ⟨a,rfl,hl,hs⟩
 | loop a=>
  obtain ⟨l,hl,rfl⟩:=Z1.1 h
  exact ⟨a,rfl,hl,hs⟩
 | exit id=>cases h; rfl
 | ret=>cases h; rfl
 | rangeFunc g ps a b=>
  obtain ⟨z,hz,rfl⟩:=Z1.1 h
  exact ⟨g,ps,a,b,rfl,hz,rfl,rfl,hs 0 _ rfl⟩
 | scope=>cases h
 | label=>cases h
 | goto=>cases h
 | refuse=>cases h
def Later(env0:Env)(bad0:Bs)(env1:Env)(bad1:Bs):Prop:=Ev bad0.w env0 bad0.bad bad1.w env1 bad1.bad∧env1.n=env0.n∧bad1.lo=bad0.lo
theorem Later.refl(env0:Env)(bad0:Bs):Later env0 bad0 env0 bad0:=⟨Ev.refl _ _ _,rfl,rfl⟩
theorem Later.trans{e0 e1 e2:Env}{b0 b1 b2:Bs}(h:Later e0 b0 e1 b1)(k:Later e1 b1 e2 b2):Later e0 b0 e2 b2:=⟨h.1.trans k.1,k.2.1.trans h.2.1,k.2.2.trans h.2.2⟩
def W2p(P:Program)(n0:Nat)(ro:Option Nat)(ac:ACode)(Q:Exit→St→Prop)(s:St):Prop:=
 ∀(c:Code) (N f j:Nat),W1x P N f j c=some ac→Seg P N f j c→∀(n:Nat) (w0:World) (env0:Env) (bad0:Bs) (fps:List Nat) (base:Nat→Prop) (a:Act) (w:World) (Q':Exit→Act→World→Prop),env0.n=n0→R P w0 env0 bad0 fps base N s a w→
  (∀e s' env1 bad1 a' w',Later env0 bad0 env1 bad1→Q e s'→R P w0 env1 bad1 fps base N s' a' w'→Q' e a' w')→c.wpIn (Fw ro) n P Q' a w
def Weak(P:Program)(n0:Nat)(s s':St):Prop:=
 ∀(N:Nat) (w0:World) (env0:Env) (bad0:Bs) (fps:List Nat) (base:Nat→Prop) (a:Act) (w:World),env0.n=n0→R P w0 env0 bad0 fps base N s a w→R P w0 env0 bad0 fps base N s' a w
theorem Weak.refl{P:Program}(n0:Nat)(s:St):Weak P n0 s s:=fun _ _ _ _ _ _ _ _ _ h=>h
theorem Weak.trans{P:Program}{n0:Nat}{s s' s'':St}(h:Weak P n0 s s')(k:Weak P n0 s' s''):Weak P n0 s s'':=fun N w0 env0 bad0 fps base a w e r=>k N w0 env0 bad0 fps base a w e (h N w0 env0 bad0 fps base a w e r)
def Wkd(K:St→Prop)(Q:Exit→St→Prop):Exit→St→Prop
 | .normal,s=>K s
 | e,s=>Q e s
def AIn(id:Nat)(Q:Exit→St→Prop):Exit→St→Prop
 | .exit id',s=>if id'=id then Q .normal s else Q (.exit id') s
 | e,s=>Q e s
section
variable {P:Program} {n0:Nat} {ro:Option Nat} {x y:ACode} {Q:Exit→St→Prop} {s s':St}
theorem Wke(h:Weak P n0 s s')(k:W2p P n0 ro x Q s'):W2p P n0 ro x Q s:=
 fun c N f j htr hs n w0 env0 bad0 fps base a w Q' e r hQ=>k c N f j htr hs n w0 env0 bad0 fps base a w Q' e (h N w0 env0 bad0 fps base a w e r) hQ
theorem W3o(h:Q .normal s):W2p P n0 ro .skip Q s:=by
 intro c N f j htr hs n w0 env0 bad0 fps base a w Q' e r hQ
 obtain rfl:=W1l htr hs
 exact wpIn_skip (hQ _ _ _ _ _ _ (Later.refl _ _) h r)
theorem W8n(h:Q .ret s):W2p P n0 ro .ret Q s:=by
 intro c N f j htr hs n w0 env0 bad0 fps base a w Q' e r hQ
 obtain rfl:=W1l htr hs
 exact wpIn_ret (hQ _ _ _ _ _ _ (Later.refl _ _) h r)
theorem Wkf{id:Nat}(h:Q (.exit id) s):W2p P n0 ro (.exit id) Q s:=by
 intro c N f j htr hs n w0 env0 bad0 fps base a w Q' e r hQ
 obtain rfl:=W1l htr hs
 exact wpIn_exit (hQ _ _ _ _ _ _ (Later.refl _ _) h r)
theorem W3b{l:List AIt}(h:opsW P (Q .normal) l s):W2p P n0 ro (.reg l) Q s:=by
 intro c N f j htr hs n w0 env0 bad0 fps base a w Q' e r hQ
 obtain ⟨id,ops,d,rfl,hi⟩:=W1l htr hs
 exact Wn9 hi h r fun s' a' w' k r'=>hQ _ _ _ _ _ _ (Later.refl _ _) k r'
theorem Wnm{t:ATree}(h:W2a t→W3a P (Q .normal) t s):W2p P n0 ro (.any t) Q s:=by
 intro c N f j htr hs n w0 env0 bad0 fps base a w Q' e r hQ
 obtain ⟨id,ops,rfl,hm,hnd,ht⟩:=W1l htr hs
 exact Wkb hm ht (h (Wka ht)) r fun s' a' w' k r'=>hQ _ _ _ _ _ _ (Later.refl _ _) k r'
theorem Wnn{l m:List AIt}(h:parW P l s (opsW P (Q .normal) m)):W2p P n0 ro (.par l m) Q s:=by
 intro c N f j htr hs n w0 env0 bad0 fps base a w Q' e r hQ
 obtain ⟨id,ops,rfl,hm,hnd,hp⟩:=W1l htr hs
 unfold W8m at hp
 rw[Z0]at hp
 obtain ⟨its,hits,hp⟩:=hp
 split at hp
 ·rename_i hok'
  have hok:=((Z4 _ _).mp hok').1
  cases hp
  have hlen:its.length=ops.size:=by have:=(W1e (R:=fun _ _=>True) (fun _ _ _=>trivial) hits).len; simpa using this
  exact Wnc hm hnd hits hok (by rw[←hlen]; exact (List.takeWhile_sublist _).length_le) h r fun s' a' w' k r'=>hQ _ _ _ _ _ _ (Later.refl _ _) k r'
 ·cases hp
theorem W2k(h:∀K:St→Prop,(∀s,W2p P n0 ro y Q s→K s)→W2p P n0 ro x (Wkd K Q) s):W2p P n0 ro (.seq x y) Q s:=by
 intro c N f j htr hs n w0 env0 bad0 fps base a w Q' e r hQ
 obtain ⟨ca,cb,rfl,h1,s1,h2,s2⟩:=W1l htr hs
 refine wpIn_seq (h _ (fun _ k=>k) ca N f j h1 s1 n w0 env0 bad0 fps base a w _ e r fun ex s' env1 bad1 a' w' hl q r'=> ?_)
 cases ex with
 | normal=>exact q cb N f _ h2 s2 n w0 env1 bad1 fps base a' w' Q' (hl.2.1.trans e) r' fun e2 s2 env2 bad2 a2 w2 hl2 q2 r2=>hQ _ _ _ _ _ _ (hl.trans hl2) q2 r2
 | _=>exact hQ _ _ _ _ _ _ hl q r'
theorem W2h{c:AX}{t:Bool}(hc:W00 (s.ev c)=some t)(ht:t=true→W2p P n0 ro x Q s)(hf:t=false→W2p P n0 ro y Q s):W2p P n0 ro (.cond c x y) Q s:=by
 intro c N f j htr hs n w0 env0 bad0 fps base a w Q' e r hQ
 obtain ⟨cx,ca,cb,rfl,hx,h1,z1,h2,z2⟩:=W1l htr hs
 obtain ⟨env,hrs,hsl,hev⟩:=r.ex
 exact wpIn_cond_split (W7x (W05 hsl hx) hc) (fun ht'=>ht ht' ca N f j h1 z1 n w0 env0 bad0 fps base a w Q' e r hQ) (fun ht'=>hf ht' cb N f _ h2 z2 n w0 env0 bad0 fps base a w Q' e r hQ)
theorem Wfw{id:Nat}(h:W2p P n0 ro x (AIn id Q) s):W2p P n0 ro (.block id x) Q s:=by
 intro c N f j htr hs n w0 env0 bad0 fps base a w Q' e r hQ
 obtain ⟨ca,rfl,h1,z1⟩:=W1l htr hs
 refine wpIn_block (h ca N f j h1 z1 n w0 env0 bad0 fps base a w _ e r fun ex s' env1 bad1 a' w' hl q r'=> ?_)
 cases ex with
 | exit i=>
  simp only[AIn]at q
  simp only[Exit.inBlock]
  split
  ·rename_i hi; rw[if_pos hi]at q; exact hQ _ _ _ _ _ _ hl q r'
  ·rename_i hi; rw[if_neg hi]at q; exact hQ _ _ _ _ _ _ hl q r'
 | _=>exact hQ _ _ _ _ _ _ hl q r'
theorem Wkg(I:Nat→St→Prop)(n:Nat)(h0:I n s)(h:∀n s,I n s→∀K:St→Prop,(∀s',(∃m s'',m<n∧Weak P n0 s' s''∧I m s'')→K s')→W2p P n0 ro x (Wkd K Q) s):W2p P n0 ro (.loop x) Q s:=by
 intro c N f j htr hs n' w0 env0 bad0 fps base a w Q' e r hQ
 obtain ⟨ca,rfl,hi,z1⟩:=W1l htr hs
 have key:∀k n s env1 bad1 a w,n≤k→I n s→Later env0 bad0 env1 bad1→R P w0 env1 bad1 fps base N s a w→Code.roundsIn (Fw ro) n' P ca Q' (k+1) a w:=by
  intro k
  induction k with
  | zero=>
   intro n s env1 bad1 a w hn hI hl r
   refine h n s hI _ (fun _ h=>h) ca N f j hi z1 n' w0 env1 bad1 fps base a w _ (hl.2.1.trans e) r fun ex s' env2 bad2 a' w' hl2 q r'=> ?_
   cases ex with
   | normal=>obtain ⟨m,s'',hm,_⟩:=q; omega
   | _=>exact hQ _ _ _ _ _ _ (hl.trans hl2) q r'
  | succ k ih=>
   intro n s env1 bad1 a w hn hI hl r
   refine h n s hI _ (fun _ h=>h) ca N f j hi z1 n' w0 env1 bad1 fps base a w _ (hl.2.1.trans e) r fun ex s' env2 bad2 a' w' hl2 q r'=> ?_
   cases ex with
   | normal=>
    obtain ⟨m,s'',hm,hw,hI'⟩:=q
    exact ih m s'' env2 bad2 a' w' (by omega) hI' (hl.trans hl2) (hw _ _ _ _ _ _ _ _ ((hl.trans hl2).2.1.trans e) r')
   | _=>exact hQ _ _ _ _ _ _ (hl.trans hl2) q r'
 exact wpIn_loop_rounds (n+1) (key n n s env0 bad0 a w (Z8 _) h0 (Later.refl _ _) r)
end
def W0w:Nat→List AV→List (Nat×AV)
 | _,[]=>[]
 | i,v::r=>(i,v)::W0w (i+1) r
theorem W73{w:World}{env:Env}{bad:Nat→Prop}:∀{args:List AV} {vs:List Value} (i n:Nat) (m:Nat),All2 (VRel w env bad) args vs→i≤n→
  VRel w env bad (lk (W0w i args) n) ((vs++List.replicate m undef).getD (n-i) undef)
 | [],[],i,n,m,_,_=> .c trivial
 | v::args,u::vs,i,n,m,h,hi=>by
  unfold W0w lk
  by_cases e:i=n
  ·subst e
   rw[if_pos rfl,Nat.sub_self]
   exact h.1
  ·rw[if_neg e,show n-i=(n-(i+1))+1 by omega]
   exact W73 (i+1) n m h.2 (by omega)
 | [],_::_,_,_,_,h,_=>h.elim
 | _::_,[],_,_,_,h,_=>h.elim
section
variable (ρ:Nat→Nat)
def W58:FA→FA
 | .ptr id off=> .ptr (ρ id) off
 | x=>x
def W12:AC→AC
 | .own id off sz len cap=> .own (ρ id) off sz len cap
 | .ptr id off=> .ptr (ρ id) off
 | .ept id sz i j=> .ept (ρ id) sz i j
 | .fn f a b=> .fn f (a.map (W58 ρ)) (b.map (W58 ρ))
 | .hnd k id=> .hnd k (ρ id)
 | x=>x
end
mutual
def W0u(ρ:Nat→Nat):AV→AV
 | .c x=> .c (W12 ρ x)
 | .agg l=> .agg (l.map (W12 ρ))
 | .tup l=> .tup (W1y ρ l)
def W1y(ρ:Nat→Nat):List AV→List AV
 | []=>[]
 | v::r=>W0u ρ v::W1y ρ r
end
def W4d(ρ:Nat→Nat):List (Nat×AV)→List (Nat×AV)
 | []=>[]
 | (k,v)::r=>(k,W0u ρ v)::W4d ρ r
theorem Wno(ρ:Nat→Nat):∀(l:List (Nat×AV)) (n:Nat),lk (W4d ρ l) n=W0u ρ (lk l n)
 | [],n=>by simp[W4d,lk,W0u,W12]
 | (k,v)::r,n=>by
  simp only[W4d,lk,Wno ρ r n]
  split<;>rfl
def W0p(ρ:Nat→Nat):Reg→Reg
 | .ac l=> .ac (l.map (W12 ρ))
 | .es sz ls=> .es sz (ls.map fun l=>l.map (W12 ρ))
 | .lp f j sl st pe=> .lp f j (W4d ρ sl) st pe
 | r=>r
theorem W8o(ρ:Nat→Nat):∀l:List AV,W1y ρ l=l.map (W0u ρ)
 | []=>by simp[W1y]
 | v::r=>by simp[W1y,W8o ρ r]
theorem W11(ρ:Nat→Nat)(r:Reg):(W0p ρ r).live=r.live:=by cases r<;>rfl
theorem W2q(ρ:Nat→Nat)(x:AC):(W12 ρ x).known=x.known:=by cases x<;>rfl
structure Ren(ρ:Nat→Nat)(env env2:Env):Prop where
 lt:∀i,ρ i<env.n→i<env2.n
 eq:∀i,i<env2.n→env2.f i=env.f (ρ i)
section
variable {ρ:Nat→Nat} {w:World} {env env2:Env} {bad bad2:Nat→Prop}
theorem FRel.ren(hr:Ren ρ env env2)(hb:∀b,bad2 b→bad b){x:FA}{v:Value}(h:FRel w env bad (W58 ρ x) v):FRel w env2 bad2 x v:=by
 cases x with
 | p x=>exact PRel.step (Same.mk (Z8 _) fun _ _ _=>rfl) (fun b _=>hb b) h
 | ptr id off=>
  obtain ⟨hi,g,c,e,rfl⟩:=h
  exact ⟨hr.lt _ hi,g,c,(hr.eq _ (hr.lt _ hi)).trans e,rfl⟩
theorem All2.unmap{α β γ:Type}{R:β→γ→Prop}{S:α→γ→Prop}{f:α→β}(h:∀a c,R (f a) c→S a c):∀{l:List α} {m:List γ},All2 R (l.map f) m→All2 S l m
 | [],[],_=>trivial
 | _::_,_::_,k=>⟨h _ _ k.1,All2.unmap h k.2⟩
 | [],_::_,k=>k.elim
 | _::_,[],k=>k.elim
theorem CRel.ren(hr:Ren ρ env env2)(hb:∀b,bad2 b→bad b){x:AC}{v:Value}(h:CRel w env bad (W12 ρ x) v):CRel w env2 bad2 x v:=by
 have hsame:Same bad w w:=⟨Z8 _,fun _ _ _=>rfl⟩
 cases x with
 | p x=>exact PRel.step hsame (fun b _=>hb b) h
 | tight sz l=>exact ⟨PRel.step hsame (fun b _=>hb b) h.1,h.2⟩
 | own id off sz len cap=>
  obtain ⟨hi,h⟩:=h
  exact ⟨hr.lt _ hi,by rw[hr.eq _ (hr.lt _ hi)]; exact h⟩
 | ptr id off=>
  obtain ⟨hi,g,c,e,rfl⟩:=h
  exact ⟨hr.lt _ hi,g,c,(hr.eq _ (hr.lt _ hi)).trans e,rfl⟩
 | ept id sz i j=>
  obtain ⟨hi,g,c,e,rfl⟩:=h
  exact ⟨hr.lt _ hi,g,c,(hr.eq _ (hr.lt _ hi)).trans e,rfl⟩
 | rp cells=>exact CRel.step (env:=env) hsame (fun b _=>hb b) (Env.le_refl _) (x:= .rp cells) h
 | fn f a b=>
  obtain ⟨fs,cs,e,h1,h2⟩:=h
  exact ⟨fs,cs,e,All2.unmap (S:=FRel w env2 bad2) (fun _ _ h=>FRel.ren hr hb h) h1,All2.unmap (S:=FRel w env2 bad2) (fun _ _ h=>FRel.ren hr hb h) h2⟩
 | hnd k id=>
  obtain ⟨hi,g,c,e,rfl⟩:=h
  exact ⟨hr.lt _ hi,g,c,(hr.eq _ (hr.lt _ hi)).trans e,rfl⟩
 | any=>trivial
theorem VRel.ren(hr:Ren ρ env env2)(hb:∀b,bad2 b→bad b):∀{x:AV} {v:Value},VRel w env bad (W0u ρ x) v→VRel w env2 bad2 x v:=by
 suffices ∀{y:AV} {v:Value},VRel w env bad y v→∀x,y=W0u ρ x→VRel w env2 bad2 x v by
  intro x v h
  exact this h x rfl
 intro y v h
 induction h with
 | c h=>
  intro x e
  cases x with
  | c x=>simp only[W0u]at e; cases e; exact .c (CRel.ren hr hb h)
  | agg l=>simp only[W0u]at e; cases e
  | tup l=>simp only[W0u]at e; cases e
 | agg h hk=>
  intro x e
  cases x with
  | c x=>simp only[W0u]at e; cases e
  | agg l=>
   simp only[W0u]at e
   cases e
   refine .agg (All2.unmap (S:=CRel w env2 bad2) (fun _ _ h=>CRel.ren hr hb h) h) ?_
   rw[List.all_map]at hk
   rw[←hk]
   congr 1
   funext x
   exact (W2q ρ x).symm
  | tup l=>simp only[W0u]at e; cases e
 | tup hn h ih=>
  intro x e
  cases x with
  | c x=>simp only[W0u]at e; cases e
  | agg l=>simp only[W0u]at e; cases e
  | tup l=>
   simp only[W0u,W8o]at e
   cases e
   refine .tup (by simpa using hn) fun i h1 h2=>ih i (by simpa using h1) h2 _ (by simp)
theorem RRel.ren{P:Program}(hr:Ren ρ env env2)(hb:∀b,bad2 b→bad b){id id2:Nat}(hid:env2.f id2=env.f id){r:Reg}(h:RRel P w env bad id (W0p ρ r)):RRel P w env2 bad2 id2 r:=by
 have hsame:Same bad w w:=⟨Z8 _,fun _ _ _=>rfl⟩
 cases r with
 | pc sz ls=>
  obtain ⟨hz,hs,h⟩:=h
  refine ⟨hz,hs,?_⟩
  rw[hid]
  rcases h with h | ⟨g,c,cur,t,e,hg,h1,h2,h3,h4⟩
  ·exact .inl h
  ·exact .inr ⟨g,c,cur,t,e,hg,h1,h2,h3,fun i hi j hj=>let ⟨u,hu,hp⟩:=h4 i hi j hj; ⟨u,hu,PRel.step hsame (fun b _=>hb b) hp⟩⟩
 | ac l=>
  obtain ⟨g,c,cur,t,e,hg,hl,h⟩:=h
  refine ⟨g,c,cur,t,by rw[hid]; exact e,hg,by simpa using hl,fun j hj=> ?_⟩
  obtain ⟨u,hu,hc,hk⟩:=h j (by simpa using hj)
  rw[Zu]at hc hk
  exact ⟨u,hu,CRel.ren hr hb hc,by rw[←W2q ρ]; exact hk⟩
 | es sz ls=>
  obtain ⟨hz,hs,h⟩:=h
  have hs2:∀i (hi:i<ls.length),ls[i].length=sz:=fun i hi=>by
   have:=hs i (by rw[Ym]; exact hi)
   rw[Zu,Ym]at this
   exact this
  refine ⟨hz,hs2,?_⟩
  rw[hid]
  rcases h with ⟨h1,h2⟩ | ⟨g,c,cur,t,e,hg,h1,h2,h3,h4⟩
  ·exact .inl ⟨h1,by simpa using h2⟩
  ·refine .inr ⟨g,c,cur,t,e,hg,h1,h2,by simpa using h3,fun i hi j hj=> ?_⟩
   obtain ⟨u,hu,hc,hk⟩:=h4 i (by simpa using hi) j (by simpa using hj)
   simp only[Zu]at hc hk
   exact ⟨u,hu,CRel.ren hr hb hc,by rw[←W2q ρ]; exact hk⟩
 | ob o=>
  obtain ⟨g,c,e,h⟩:=h
  exact ⟨g,c,by rw[hid]; exact e,ObRel.carry h rfl fun _ _ r=>PRel.step hsame (fun b _=>hb b) r⟩
 | lp f j sl st pe=>
  obtain ⟨g,c,L,N,fn,tmps,D,e,hL,hg,hs,h⟩:=h
  refine ⟨g,c,L,N,fn,tmps,D,by rw[hid]; exact e,hL,hg,hs,fun n=> ?_⟩
  have:=h n
  rw[Wno]at this
  exact VRel.ren hr hb this
 | dead=>trivial
end
def SlotsOk(s:St)(ρ:Nat→Nat):List (Nat×AV)→Prop
 | []=>True
 | (k,v)::r=>lk s.slots k=W0u ρ v∧SlotsOk s ρ r
def RegsOk(s:St)(ρ:Nat→Nat):List Nat→List Reg→Prop
 | [],[]=>True
 | i::l,r::m=>(r= .dead∨s.regs[i]?=some (W0p ρ r))∧RegsOk s ρ l m
 | _,_=>False
def rhoF(l:List Nat)(n:Nat)(i:Nat):Nat:=l.getD i n
theorem RegsOk.get{s:St}{ρ:Nat→Nat}:∀{l:List Nat} {m:List Reg},RegsOk s ρ l m→l.length=m.length∧∀(i:Nat) (r:Reg),m[i]?=some r→r= .dead∨∃j,l[i]?=some j∧s.regs[j]?=some (W0p ρ r)
 | [],[],_=>⟨rfl,fun i r h=>by simp at h⟩
 | j::l,q::m,h=>by
  obtain ⟨h1,h2⟩:=RegsOk.get h.2
  refine ⟨by simp[h1],fun i r hr=> ?_⟩
  cases i with
  | zero=>
   cases hr
   rcases h.1 with e | e
   ·exact .inl e
   ·exact .inr ⟨j,rfl,e⟩
  | succ i=>exact h2 i r (by simpa using hr)
 | [],_::_,h=>h.elim
 | _::_,[],h=>h.elim
theorem SlotsOk.get{s:St}{ρ:Nat→Nat}:∀{l:List (Nat×AV)},SlotsOk s ρ l→∀n,lk l n= .c .any∨lk s.slots n=W0u ρ (lk l n)
 | [],_,_=> .inl rfl
 | (k,v)::r,h,n=>by
  rw[show lk ((k,v)::r) n=if k=n then v else lk r n from rfl]
  by_cases e:k=n
  ·subst e
   rw[if_pos rfl]
   exact .inr h.1
  ·rw[if_neg e]
   exact SlotsOk.get h.2 n
theorem Weak.ren{P:Program}{n0:Nat}{s s':St}(l:List Nat)(h0:l.take n0=List.range n0)(hnd:l.Nodup)(hregs:RegsOk s (rhoF l s.regs.length) l s'.regs)(hslots:SlotsOk s (rhoF l s.regs.length) s'.slots):Weak P n0 s s':=by
 intro N w0 env0 bad0 fps base a w hn hR
 obtain ⟨⟨env,hrs,hsl,hev⟩,hsz,hdf⟩:=hR
 obtain ⟨hl,hget⟩:=hregs.get
 have hn0:n0≤l.length:=by
  have:=congrArg List.length h0
  simp at this
  omega
 let env2:Env:=⟨l.length,fun i=>env.f (rhoF l s.regs.length i)⟩
 have hrho:∀i j,l[i]?=some j→rhoF l s.regs.length i=j:=fun i j h=>by simp[rhoF,Zc,h]
 have hren:Ren (rhoF l s.regs.length) env env2:=⟨fun i hi=>by
  rcases Ys i l.length with h | h
  ·exact h
  ·exfalso
   have:rhoF l s.regs.length i=s.regs.length:=by simp[rhoF,Zc,Yt h]
   rw[this,hrs.len]at hi
   omega,fun i _=>rfl⟩
 have hlive:∀(i:Nat) (r:Reg),s'.regs[i]?=some r→r.live=true→∃j,l[i]?=some j∧s.regs[j]?=some (W0p (rhoF l s.regs.length) r)∧env2.f i=env.f j:=by
  intro i r hi hl'
  rcases hget i r hi with rfl | ⟨j,h1,h2⟩
  ·cases hl'
  ·exact ⟨j,h1,h2,congrArg env.f (hrho i j h1)⟩
 have hbad:∀b,W04 base env2 s'.regs b→W04 base env s.regs b:=by
  intro b hb
  rcases hb with hb | ⟨i,r,c,h1,h2,h3⟩
  ·exact .inl hb
  ·obtain ⟨j,k1,k2,k3⟩:=hlive i r h1 h2
   exact .inr ⟨j,_,c,k2,by rw[W11]; exact h2,by rw[←k3]; exact h3⟩
 have hle:env0.le env2:=by
  refine ⟨by rw[hn]; exact hn0,fun i hi=> ?_⟩
  rw[hn]at hi
  have:l[i]?=some i:=by
   have h1:(l.take n0)[i]?=(List.range n0)[i]?:=by rw[h0]
   rw[Yf hi,Yy hi]at h1
   exact h1
  rw[show env2.f i=env.f i from congrArg env.f (hrho i i this)]
  exact hev.le.2 i (by rw[hn]; exact hi)
 refine ⟨⟨env2,⟨hrs.keep,hrs.base_lt,hl,fun id r hr=> ?_,fun id r g c hr hl' he=> ?_,fun i j r1 r2 g c1 c2 h1 h2 l1 l2 e1 e2=> ?_⟩,fun n=> ?_,⟨hev.same,fun b hb k=>hev.sub b hb (hbad b k),hle⟩⟩,hsz,hdf⟩
 ·rcases hget id r hr with rfl | ⟨j,k1,k2⟩
  ·trivial
  ·exact RRel.ren hren hbad (congrArg env.f (hrho id j k1)) (hrs.reg j _ k2)
 ·obtain ⟨j,k1,k2,k3⟩:=hlive id r hr hl'
  exact hrs.own j _ g c k2 (by rw[W11]; exact hl') (by rw[←k3]; exact he)
 ·obtain ⟨j1,p1,p2,p3⟩:=hlive i r1 h1 l1
  obtain ⟨j2,q1,q2,q3⟩:=hlive j r2 h2 l2
  have:=hrs.inj j1 j2 _ _ g c1 c2 p2 q2 (by rw[W11]; exact l1) (by rw[W11]; exact l2) (by rw[←p3]; exact e1) (by rw[←q3]; exact e2)
  subst this
  obtain ⟨i1,x1⟩:=Z3.1 p1
  obtain ⟨i2,x2⟩:=Z3.1 q1
  exact (List.getElem_inj hnd).1 (x1.trans x2.symm)
 ·rcases hslots.get n with h | h
  ·rw[h]; exact .c trivial
  ·have:=hsl n
   rw[h]at this
   exact this.ren hren hbad
variable {P:Program}
def Wdf(id sz:Nat)(ls:List (List PV))(x y:AC):Prop:=
 y=x∨∃off len cap,x= .own id off sz len cap∧off+len≤ls.length∧y= .p (.sl sz ((ls.drop off).take len))
def Who(id sz:Nat)(ls:List (List PV)):AV→AV→Prop
 | .c x,.c y=>Wdf id sz ls x y
 | .agg l,.agg m=>All2 (Wdf id sz ls) l m
 | x,y=>y=x
def Wso(id sz:Nat)(ls:List (List PV)):AV→AV→Prop
 | .tup l,.tup m=>All2 (Who id sz ls) l m
 | x,y=>Who id sz ls x y
def FrzSlots(id sz:Nat)(ls:List (List PV))(s:St):List (Nat×AV)→Prop
 | []=>True
 | (k,v)::r=>Wso id sz ls (lk s.slots k) v∧FrzSlots id sz ls s r
def Wam(id sz:Nat)(ls:List (List PV)):Reg→Reg→Prop
 | .ac l,.ac m=>All2 (Wdf id sz ls) l m
 | .es n l,.es k m=>n=k∧All2 (All2 (Wdf id sz ls)) l m
 | r,r'=>r'=r
def FrzRegs(id sz:Nat)(ls:List (List PV)):Nat→List Reg→List Reg→Prop
 | _,[],[]=>True
 | i,r::l,r'::m=>(if i=id then r'= .dead else Wam id sz ls r r')∧FrzRegs id sz ls (i+1) l m
 | _,_,_=>False
theorem Wdg{id sz:Nat}{ls:List (List PV)}:∀{l m:List AC},All2 (Wdf id sz ls) l m→l.all AC.known=true→m.all AC.known=true
 | [],[],_,_=>rfl
 | x::l,y::m,h,hk=>by
  rw[Y2,Z4]at hk ⊢
  refine ⟨?_,Wdg h.2 hk.2⟩
  rcases h.1 with e | ⟨_,_,_,_,_,e⟩
  ·rw[e]; exact hk.1
  ·rw[e]; rfl
 | [],_::_,h,_=>h.elim
 | _::_,[],h,_=>h.elim
theorem All2.comp{α β γ:Type}{R:α→γ→Prop}{T:α→β→Prop}{S:β→γ→Prop}(hs:∀a b c,T a b→R a c→S b c):∀{l:List α} {m:List β} {n:List γ},All2 T l m→All2 R l n→All2 S m n
 | [],[],[],_,_=>trivial
 | _::_,_::_,_::_,h,k=>⟨hs _ _ _ h.1 k.1,All2.comp hs h.2 k.2⟩
 | [],_::_,_,h,_=>h.elim
 | _::_,[],_,h,_=>h.elim
 | [],[],_::_,_,k=>k.elim
 | _::_,_::_,[],_,k=>k.elim
theorem FrzRegs.get{id sz:Nat}{ls:List (List PV)}:∀{k:Nat} {l m:List Reg},FrzRegs id sz ls k l m→l.length=m.length∧∀i r',m[i]?=some r'→(k+i=id∧r'= .dead)∨(k+i≠id∧∃r,l[i]?=some r∧Wam id sz ls r r')
 | _,[],[],_=>⟨rfl,fun i r' h=>by simp at h⟩
 | k,r::l,r'::m,h=>by
  obtain ⟨h1,h2⟩:=FrzRegs.get h.2
  refine ⟨by simp[h1],fun i q hq=> ?_⟩
  cases i with
  | zero=>
   cases hq
   have h3:=h.1
   by_cases e:k=id
   ·rw[if_pos e]at h3; exact .inl ⟨by simpa using e,h3⟩
   ·rw[if_neg e]at h3; exact .inr ⟨by simpa using e,r,rfl,h3⟩
  | succ i=>
   have:=h2 i q (by simpa using hq)
   rw[show k+1+i=k+(i+1)by omega]at this
   simpa using this
 | _,[],_::_,h=>h.elim
 | _,_::_,[],h=>h.elim
theorem Wfx{id sz:Nat}{ls:List (List PV)}{r r':Reg}(h:Wam id sz ls r r'):r'.live=r.live:=by
 cases r<;>cases r'<;>simp_all[Wam,Reg.live]
theorem FrzSlots.get{id sz:Nat}{ls:List (List PV)}{s:St}:∀{l:List (Nat×AV)},FrzSlots id sz ls s l→∀n,lk l n= .c .any∨Wso id sz ls (lk s.slots n) (lk l n)
 | [],_,_=> .inl rfl
 | (k,v)::r,h,n=>by
  rw[show lk ((k,v)::r) n=if k=n then v else lk r n from rfl]
  by_cases e:k=n
  ·subst e
   rw[if_pos rfl]
   exact .inr h.1
  ·rw[if_neg e]
   exact FrzSlots.get h.2 n
theorem Weak.freeze{n0:Nat}{s s':St}(id sz:Nat)(ls:List (List PV))(hr:s.regs[id]?=some (.pc sz ls))(hm:ls.length≤9223372036854775807)(hslots:FrzSlots id sz ls s s'.slots)(hregs:FrzRegs id sz ls 0 s.regs s'.regs):Weak P n0 s s':=by
 intro N w0 env0 bad0 fps base a w hn hR
 obtain ⟨⟨env,hrs,hsl,hev⟩,hsz,hdf⟩:=hR
 obtain ⟨hl,hget⟩:=hregs.get
 simp only[Xn]at hget
 have hlive:∀(i:Nat) (r':Reg),s'.regs[i]?=some r'→r'.live=true→i≠id∧∃r,s.regs[i]?=some r∧Wam id sz ls r r'∧r.live=true:=by
  intro i r' hi hl'
  rcases hget i r' hi with ⟨_,rfl⟩ | ⟨h1,r,h2,h3⟩
  ·cases hl'
  ·exact ⟨h1,r,h2,h3,by rw[←Wfx h3]; exact hl'⟩
 have hbad:∀b,W04 base env s'.regs b→W04 base env s.regs b:=by
  intro b hb
  rcases hb with hb | ⟨i,r',c,h1,h2,h3⟩
  ·exact .inl hb
  ·obtain ⟨_,r,k1,_,k2⟩:=hlive i r' h1 h2
   exact .inr ⟨i,r,c,k1,k2,h3⟩
 have hsame:Same (W04 base env s.regs) w w:=⟨Z8 _,fun _ _ _=>rfl⟩
 have hP:∀{x:PV} {v:Value},PRel w (W04 base env s.regs) x v→PRel w (W04 base env s'.regs) x v:=fun h=>PRel.step hsame (fun b _=>hbad b) h
 have hC0:∀{x:AC} {v:Value},CRel w env (W04 base env s.regs) x v→CRel w env (W04 base env s'.regs) x v:=fun h=>CRel.step hsame (fun b _=>hbad b) (Env.le_refl _) h
 obtain ⟨hz,hs,hrow⟩:=hrs.reg id _ hr
 have hC:∀{x y:AC} {v:Value},Wdf id sz ls x y→CRel w env (W04 base env s.regs) x v→CRel w env (W04 base env s'.regs) y v:=by
  intro x y v hf h
  rcases hf with rfl | ⟨off,len,cap,rfl,hle,rfl⟩
  ·exact hC0 h
  ·obtain ⟨hidn,h⟩:=h
   have hlen:((ls.drop off).take len).length=len:=by simp; omega
   rcases h with ⟨h1,rfl,rfl,rfl⟩ | ⟨g,c,k,h1,rfl,hk,_⟩
   ·exact PRel.sl (fun _ _=>undef) hz (by simp) (Z8 _) (by omega) (fun i h=>by simp at h) (fun h=>by omega) (fun ad e=>by cases e) (fun i h=>by simp at h)
   ·rcases hrow with ⟨h2,_⟩ | ⟨g',c',cur,t,h2,hg,q1,q2,q3,q4⟩
    ·rw[h1]at h2; cases h2
    rw[h1]at h2
    cases h2
    have hnb:¬W04 base env s'.regs g:=by
     rintro (hb | ⟨i,r',c',k1,k2,k3⟩)
     ·have hown:=(hrs.own id _ g c hr rfl h1).1
      have hbl:=hrs.base_lt g hb
      rcases hown with h | h
      ·exact hbl.2 h
      ·omega
     ·obtain ⟨hne,r,p1,_,p2⟩:=hlive i r' k1 k2
      exact hne (hrs.inj i id r _ g c' c p1 hr p2 rfl k3 h1)
    have hcells:∀i (hi:i<((ls.drop off).take len).length),∀j (hj:j<((ls.drop off).take len)[i].length),∃u,cur[(off+i)*sz+j]?=some u∧PRel w (W04 base env s'.regs) ((ls.drop off).take len)[i][j] u:=by
     intro i hi j hj
     have e:((ls.drop off).take len)[i]=ls[off+i]'(by simp at hi; omega):=by rw[Zk,Zw]
     simp only[e]at hj ⊢
     obtain ⟨u,hu,hp⟩:=q4 (off+i) (by simp at hi; omega) j hj
     exact ⟨u,hu,hP hp⟩
    refine PRel.sl (fun i j=>cur.getD ((off+i)*sz+j) undef) hz hlen.symm hk (by omega) (fun i hi=>by rw[Zk,Zw]; exact hs _ _) (fun _=>⟨_,rfl,hnb⟩) (fun ad e i hi j hj=> ?_) (fun i hi j hj=> ?_)
    ·cases e
     obtain ⟨u,hu,_⟩:=hcells i hi j hj
     rw[Addr.add_lit,cell_of_row w g _ cur t (0,0) hg,Zd,show off*sz+(i*sz+j)=(off+i)*sz+j by rw[Yj]; omega,hu]
     rfl
    ·obtain ⟨u,hu,hp⟩:=hcells i hi j hj
     rw[Zd,hu]
     exact hp
 have hV1:∀{x y:AV} {v:Value},Who id sz ls x y→VRel w env (W04 base env s.regs) x v→VRel w env (W04 base env s'.regs) y v:=by
  intro x y v hf h
  cases x with
  | c x=>cases y with
   | c y=>exact .c (hC hf (c_of h))
   | agg m=>cases hf
   | tup m=>cases hf
  | agg l=>cases y with
   | c y=>cases hf
   | agg m=>
    cases h with
    | agg h hk=>exact .agg (All2.comp (R:=CRel w env (W04 base env s.regs)) (T:=Wdf id sz ls) (S:=CRel w env (W04 base env s'.regs)) (fun _ _ _ t r=>hC t r) hf h) (Wdg hf hk)
   | tup m=>cases hf
  | tup l=>
   have:y= .tup l:=by cases y<;>exact hf
   subst this
   exact VRel.step hsame (fun b _=>hbad b) (Env.le_refl _) h
 have hV:∀{x y:AV} {v:Value},Wso id sz ls x y→VRel w env (W04 base env s.regs) x v→VRel w env (W04 base env s'.regs) y v:=by
  intro x y v hf h
  cases x with
  | c x=>cases y<;>exact hV1 (x:= .c x) hf h
  | agg l=>cases y<;>exact hV1 (x:= .agg l) hf h
  | tup l=>cases y with
   | c y=>exact hV1 (x:= .tup l) (y:= .c y) hf h
   | agg m=>exact hV1 (x:= .tup l) (y:= .agg m) hf h
   | tup m=>
    cases h with
    | tup hn h=>
     have hl:=All2.len hf
     exact .tup (hl.symm.trans hn) fun i h1 h2=>hV1 (All2.get hf i (by omega) h1) (h i (by omega) h2)
 refine ⟨⟨env,⟨hrs.keep,hrs.base_lt,hrs.len.trans hl,fun i r' hi=> ?_,fun i r' g c hi hl' he=> ?_,fun i j r1 r2 g c1 c2 h1 h2 l1 l2 e1 e2=> ?_⟩,fun n=> ?_,⟨hev.same,fun b hb k=>hev.sub b hb (hbad b k),hev.le⟩⟩,hsz,hdf⟩
 ·rcases hget i r' hi with ⟨_,rfl⟩ | ⟨hne,r,h1,h2⟩
  ·trivial
  ·have hrr:=hrs.reg i r h1
   cases r with
   | ac l=>cases r' with
    | ac m=>
     obtain ⟨g,c,cur,t,e,hg,hll,h⟩:=hrr
     have hlm:l.length=m.length:=All2.len h2
     refine ⟨g,c,cur,t,e,hg,by omega,fun j hj=> ?_⟩
     obtain ⟨u,hu,hc,hk⟩:=h j (by omega)
     have hf:=All2.get h2 j (by omega) hj
     refine ⟨u,hu,hC hf hc,?_⟩
     rcases hf with e | ⟨_,_,_,_,_,e⟩
     ·rw[e]; exact hk
     ·rw[e]; rfl
    | _=>cases h2
   | es sz2 l=>cases r' with
    | es sz3 m=>
     obtain ⟨rfl,h2⟩:=h2
     obtain ⟨z1,z2,z3⟩:=hrr
     have hlm:l.length=m.length:=All2.len h2
     refine ⟨z1,fun i hi=> ?_,?_⟩
     ·rw[←All2.len (All2.get h2 i (by omega) hi)]
      exact z2 i (by omega)
     ·rcases z3 with ⟨e,hl0⟩ | ⟨g,c,cur,t,e,hg,p1,p2,p3,p4⟩
      ·exact .inl ⟨e,Z9 (by rw[←hlm,hl0]; rfl)⟩
      ·refine .inr ⟨g,c,cur,t,e,hg,p1,p2,by omega,fun i hi j hj=> ?_⟩
       have hrow:=All2.get h2 i (by omega) hi
       have hrl:=All2.len hrow
       obtain ⟨u,hu,hc,hk'⟩:=p4 i (by omega) j (by omega)
       have hf:=All2.get hrow j (by omega) hj
       exact ⟨u,hu,hC hf hc,(by rcases hf with e | ⟨_,_,_,_,_,e⟩<;>rw[e]<;>first | exact hk' | rfl)⟩
    | _=>cases h2
   | ob o=>
    have:r'= .ob o:=by cases r'<;>exact h2
    subst this
    obtain ⟨g,c,e,h⟩:=hrr
    exact ⟨g,c,e,ObRel.carry h rfl fun _ _ r=>hP r⟩
   | lp f q sl st pe=>
    have:r'= .lp f q sl st pe:=by cases r'<;>exact h2
    subst this
    obtain ⟨g,c,L,N',fn,tmps,D,e,hL,hg,hs,h⟩:=hrr
    exact ⟨g,c,L,N',fn,tmps,D,e,hL,hg,hs,fun n=>VRel.step hsame (fun b _=>hbad b) (Env.le_refl _) (h n)⟩
   | pc sz' ls'=>
    have:r'= .pc sz' ls':=by cases r'<;>exact h2
    subst this
    obtain ⟨z1,z2,z3⟩:=hrr
    refine ⟨z1,z2,?_⟩
    rcases z3 with h | ⟨g,c,cur,t,e,hg,p1,p2,p3,p4⟩
    ·exact .inl h
    ·exact .inr ⟨g,c,cur,t,e,hg,p1,p2,p3,fun i hi j hj=>let ⟨u,hu,hp⟩:=p4 i hi j hj; ⟨u,hu,hP hp⟩⟩
   | dead=>
    have:r'= .dead:=by cases r'<;>exact h2
    subst this
    trivial
 ·obtain ⟨_,r,p1,_,p2⟩:=hlive i r' hi hl'
  exact hrs.own i r g c p1 p2 he
 ·obtain ⟨_,r,p1,_,p2⟩:=hlive i r1 h1 l1
  obtain ⟨_,q,q1,_,q2⟩:=hlive j r2 h2 l2
  exact hrs.inj i j r q g c1 c2 p1 q1 p2 q2 e1 e2
 ·rcases hslots.get n with h | h
  ·rw[h]; exact .c trivial
  ·exact hV h (hsl n)
theorem Weak.norm{n0:Nat}{s:St}(id sz:Nat)(ps:List (List PV))(hr:s.regs[id]?=some (.es sz (upL ps))):Weak P n0 s ⟨s.slots,s.regs.set id (.pc sz ps)⟩:=by
 intro N w0 env0 bad0 fps base a w hn hR
 obtain ⟨⟨env,hrs,hsl,hev⟩,hsz,hdf⟩:=hR
 have hlt:id<s.regs.length:=(Z3.1 hr).1
 have hget:∀(i:Nat) (r':Reg),(s.regs.set id (.pc sz ps))[i]?=some r'→(i=id∧r'= .pc sz ps)∨(i≠id∧s.regs[i]?=some r'):=by
  intro i r' h
  rw[Xc]at h
  by_cases e:id=i
  ·subst e
   simp only[if_true,hlt]at h
   exact .inl ⟨rfl,(Y7 h).symm⟩
  ·rw[if_neg e]at h
   exact .inr ⟨fun h=>e h.symm,h⟩
 have hget2:∀(i:Nat) (r':Reg),(s.regs.set id (.pc sz ps))[i]?=some r'→∃r,s.regs[i]?=some r∧r.live=r'.live:=by
  intro i r' h
  rcases hget i r' h with ⟨rfl,rfl⟩ | ⟨_,h⟩
  ·exact ⟨_,hr,rfl⟩
  ·exact ⟨r',h,rfl⟩
 have hbad:W04 base env (s.regs.set id (.pc sz ps))=W04 base env s.regs:=by
  funext b
  apply propext
  constructor
  ·rintro (hb | ⟨i,r',c,h1,h2,h3⟩)
   ·exact .inl hb
   ·obtain ⟨r,k1,k2⟩:=hget2 i r' h1
    exact .inr ⟨i,r,c,k1,k2.trans h2,h3⟩
  ·rintro (hb | ⟨i,r,c,h1,h2,h3⟩)
   ·exact .inl hb
   ·by_cases e:i=id
    ·subst e
     exact .inr ⟨i,.pc sz ps,c,by rw[List.getElem?_set_self hlt],rfl,h3⟩
    ·exact .inr ⟨i,r,c,by rw[Zv (fun h=>e h.symm)]; exact h1,h2,h3⟩
 refine ⟨⟨env,⟨hrs.keep,hrs.base_lt,hrs.len.trans (by simp),fun i r' hi=> ?_,fun i r' g c hi hl' he=> ?_,fun i j r1 r2 g c1 c2 h1 h2 l1 l2 e1 e2=> ?_⟩,by rw[hbad]; exact hsl,by rw[hbad]; exact hev⟩,hsz,hdf⟩
 ·rw[hbad]
  rcases hget i r' hi with ⟨rfl,rfl⟩ | ⟨_,h⟩
  ·obtain ⟨z1,z2,z3⟩:=hrs.reg i _ hr
   have hup:∀k (h:k<ps.length),(upL ps)[k]'(by simpa[upL]using h)=ps[k].map AC.p:=fun k h=>by simp[upL]
   have hul:(upL ps).length=ps.length:=by simp[upL]
   refine ⟨z1,fun k h=> ?_,?_⟩
   ·have:=z2 k (by omega)
    rw[hup k h,Ym]at this
    exact this
   ·rcases z3 with ⟨e,h0⟩ | ⟨g,c,cur,t,e,hg,p1,p2,p3,p4⟩
    ·exact .inl ⟨e,Z9 (by rw[←hul,h0]; rfl)⟩
    ·refine .inr ⟨g,c,cur,t,e,hg,p1,p2,by omega,fun k hk j hj=> ?_⟩
     have hk':k<(upL ps).length:=by omega
     have hj':j<((upL ps)[k]'hk').length:=by rw[hup k hk,Ym]; exact hj
     obtain ⟨u,hu,hc,_⟩:=p4 k hk' j hj'
     have e2:((upL ps)[k]'hk')[j]'hj'=AC.p ps[k][j]:=by simp[upL]
     rw[e2]at hc
     exact ⟨u,hu,hc⟩
  ·exact hrs.reg i r' h
 ·obtain ⟨r,k1,k2⟩:=hget2 i r' hi
  exact hrs.own i r g c k1 (k2.trans hl') he
 ·obtain ⟨r,k1,k2⟩:=hget2 i r1 h1
  obtain ⟨q,q1,q2⟩:=hget2 j r2 h2
  exact hrs.inj i j r q g c1 c2 k1 q1 (k2.trans l1) (q2.trans l2) e1 e2
end Go.Sim
