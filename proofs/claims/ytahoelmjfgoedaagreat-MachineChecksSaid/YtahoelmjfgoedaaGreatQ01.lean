/- Part 1: what the last part leans on. -/
import Derived.Below
import Derived.Laws.OwnMore
import Derived.Deep.AppendLies
import Derived.Deep.Draws
import Derived.Laws.Rows
import Derived.Maps.AppendAt
import Derived.RegionTactic
import Derived.OwnWalk
import Derived.Laws.Cells
import Derived.Laws.CopyRow
import Derived.Laws.Entries
import Derived.RangeFuncLeaves
import Derived.LoopNIn
import Derived.OrdersIn
import Derived.TacticsIn
import Derived.DeepKeys
import Derived.DeepKeys3
import Derived.Laws.Slices
import Derived.WideLaws
import Derived.StillTail
import Derived.Laws.Tables
import Derived.Laws.BytesString
import Derived.Laws.AppendOwn
set_option linter.unusedVariables false
set_option linter.unusedSimpArgs false
set_option linter.unusedSectionVars false
namespace Go
abbrev Z0 := @Option.bind_eq_some_iff
abbrev Z1 := @Option.map_eq_some_iff
abbrev Z2 := @List.getElem?_eq_getElem
abbrev Z3 := @List.getElem?_eq_some_iff
abbrev Z4 := @Bool.and_eq_true
abbrev Z5 := @List.length_append
abbrev Z6 := @List.append_assoc
abbrev Z7 := @Go.run_underlying
abbrev Z8 := @Nat.le_refl
abbrev Z9 := @List.eq_nil_of_length_eq_zero
abbrev Za := @List.all_eq_true
abbrev Zb := @Nat.mul_le_mul_right
abbrev Zc := @List.getD_eq_getElem?_getD
abbrev Zd := @Array.getD_eq_getD_getElem?
abbrev Ze := @List.take_of_length_le
abbrev Zf := @decide_eq_true_eq
abbrev Zg := @List.mem_append
abbrev Zh := @List.map_cons
abbrev Zi := @List.mem_of_getElem?
abbrev Zj := @List.mem_filter
abbrev Zk := @List.getElem_take
abbrev Zl := @List.getElem_mem
abbrev Zn := @Option.bind_some
abbrev Zo := @List.mem_cons_of_mem
abbrev Zp := @List.getElem?_append_left
abbrev Zq := @List.mem_cons
abbrev Zr := @List.append_nil
abbrev Zs := @List.take_add_one
abbrev Zt := @Nat.lt_of_lt_of_le
abbrev Zu := @List.getElem_map
abbrev Zv := @List.getElem?_set_ne
abbrev Zw := @List.getElem_drop
abbrev Zx := @List.getElem?_take
abbrev Zy := @Nat.succ_mul
abbrev Zz := @List.getElem?_map
abbrev Y0 := @Array.getElem?_eq_getElem
abbrev Y1 := @List.mem_map
abbrev Y2 := @List.all_cons
abbrev Y3 := @List.getElem?_append_right
abbrev Y4 := @List.mem_range
abbrev Y5 := @Nat.le_trans
abbrev Y6 := @Bool.false_eq_true
abbrev Y7 := @Option.some.inj
abbrev Y8 := @Nat.eq_zero_or_pos
abbrev Y9 := @List.map_nil
abbrev Ya := @List.flatMap_cons
abbrev Yb := @List.getElem?_drop
abbrev Yc := @List.flatMap_append
abbrev Yd := @List.set_append_left
abbrev Ye := @List.flatMap_nil
abbrev Yf := @List.getElem?_take_of_lt
abbrev Yg := @List.map_congr_left
abbrev Yh := @List.length_cons
abbrev Yi := @Option.map_some
abbrev Yj := @Nat.add_mul
abbrev Yk := @Nat.le_of_ble_eq_true
abbrev Yl := @Go.Result.andThen_ok
abbrev Ym := @List.length_map
abbrev Yn := @Option.bind_assoc
abbrev Yo := @Int.eq_ofNat_of_zero_le
abbrev Yp := @Option.some.injEq
abbrev Yq := @Function.comp_def
abbrev Yr := @Go.Sem.run_bind
abbrev Ys := @Nat.lt_or_ge
abbrev Yt := @List.getElem?_eq_none
abbrev Yu := @Bool.and_true
abbrev Yv := @List.length_nil
abbrev Yw := @List.getElem_replicate
abbrev Yx := @List.ext_getElem?
abbrev Yy := @List.getElem?_range
abbrev Yz := @List.map_append
abbrev X0 := @Bool.not_eq_true'
abbrev X1 := @List.mem_singleton
abbrev X2 := @List.map_map
abbrev X4 := @Nat.le_add_right
abbrev X5 := @List.take_append_drop
abbrev X6 := @List.all_nil
abbrev X7 := @Array.getElem?_setIfInBounds_ne
abbrev X8 := @List.pairwise_cons
abbrev X9 := @Nat.add_assoc
abbrev Xa := @List.nil_append
abbrev Xb := @List.eq_nil_iff_forall_not_mem
abbrev Xc := @List.getElem?_set
abbrev Xd := @Option.isSome_iff_exists
abbrev Xe := @List.foldl_cons
abbrev Xf := @List.all_append
abbrev Xg := @List.mem_cons_self
abbrev Xh := @List.length_drop
abbrev Xi := @Go.heap_alloc_new
abbrev Xj := @Array.getElem?_eq_none
abbrev Xk := @List.getElem?_zip_eq_some
abbrev Xl := @List.getElem_set
abbrev Xm := @List.findIdx?_cons
abbrev Xn := @Nat.zero_add
abbrev Xo := @List.set_set
abbrev Xp := @Bool.true_and
abbrev Xq := @List.replicate_succ'
abbrev Xr := @decide_eq_false_iff_not
abbrev Xs := @beq_iff_eq
abbrev Xt := @List.replicate_succ
abbrev Xu := @Nat.mul_comm
abbrev Xv := @List.getElem?_eraseIdx
abbrev Xw := @List.not_mem_nil
abbrev Xx := @List.any_eq_true
abbrev Xy := @Go.RowKit.Below.heap_alloc
abbrev Xz := @decide_eq_true
end Go
namespace Go.Proofs.YtahoelmjfgoedaaGreat.B
open Go.RowKit
theorem W1a(a:Addr)(n:Nat):(a.add n).block=a.block:=by unfold Addr.add; split<;>rfl
theorem W4v(a:Addr)(i j:Nat):(a.add i).add j=a.add (i+j):=by
 unfold Addr.add
 by_cases hi:i=0<;>by_cases hj:j=0<;>simp[hi,hj,X9]
structure Keep(fp:List Nat)(w w':World):Prop where
 os:w'.os=w.os
 tape:w'.tape=w.tape
 output:w'.output=w.output
 size:w.heap.size≤w'.heap.size
 block:∀k,k<w.heap.size→k∉fp→w'.heap[k]?=w.heap[k]?
section
variable {fp fp':List Nat} {w w' w'':World}
theorem Keep.refl(fp:List Nat)(w:World):Keep fp w w:=⟨rfl,rfl,rfl,Z8 _,fun _ _ _=>rfl⟩
theorem Keep.trans(h:Keep fp w w')(k:Keep fp w' w''):Keep fp w w'':=
 ⟨k.os.trans h.os,k.tape.trans h.tape,k.output.trans h.output,Y5 h.size k.size,fun i hi hn=>(k.block i (Zt hi h.size) hn).trans (h.block i hi hn)⟩
theorem Keep.trans'(h:Keep fp w w')(k:Keep fp' w' w'')(hs:∀b,b∈fp'→b∈fp∨w.heap.size≤b):Keep fp w w'':=
 ⟨k.os.trans h.os,k.tape.trans h.tape,k.output.trans h.output,Y5 h.size k.size,fun i hi hn=>(k.block i (Zt hi h.size) (fun hm=>by rcases hs i hm with h | h; exact hn h; omega)).trans (h.block i hi hn)⟩
theorem Keep.more(h:Keep fp w w')(hs:∀b,b∈fp→b∈fp'):Keep fp' w w':=⟨h.os,h.tape,h.output,h.size,fun i hi hn=>h.block i hi fun hm=>hn (hs i hm)⟩
theorem Keep.of_below(h:Below w.heap.size w w'):Keep fp w w':=⟨h.os,h.tape,h.output,h.size,fun i hi _=>h.block i hi⟩
theorem Keep.below(h:Keep [] w w'):Below w.heap.size w w':=⟨h.os,h.tape,h.output,h.size,fun i hi=>h.block i hi (by simp)⟩
theorem Keep.alloc(h:Keep fp w w')(o:Obj):Keep fp w (w'.alloc o):=
 h.trans ⟨rfl,rfl,rfl,by simp,fun k hk _=>Xy _ _ _ hk⟩
end
structure Kd(α:Type) where
 sz:Nat
 rd:World→List Nat→α→List Value→Prop
 len:∀{w fp x cs},rd w fp x cs→cs.length=sz
 one:∀{w fp x cs},rd w fp x cs→∀u∈cs,u.oneCell'=true
 step:∀{w w' fp fp' x cs},Keep fp w w'→(∀b,b∈fp'→b∈fp∨w.heap.size≤b)→rd w fp x cs→rd w' fp' x cs
structure SlT(P:Program)(t e:TypeId)(size bytes:Nat)(z:Value):Prop where
 under:P.underlying t=some (.slice e)
 info:(P.info? e).map (fun i=>(i.zero,i.size,i.bytes))=some (some z,size,bytes)
 zs:z.cells.size=size
 pos:0<size
def Src(w:World)(size:Nat)(A:Option Addr)(m:Nat)(news:List Value):Prop:=
 news.length=m*size∧(∀u∈news,u.oneCell'=true)∧(0<m→∃ad,A=some ad∧∀j u,news[j]?=some u→w.cell? (ad.add j)=some u)
section
variable {P:Program} {w:World} {t e:TypeId} {size bytes:Nat} {z:Value}
theorem Wjn{ty:TypeId}(hT:SlT P t e size bytes z){base:Nat}{v:Value}{n:Nat}{xs:List Value}(hown:w.ownsRow base e size v n xs)
  {A:Option Addr} {m c:Nat} {news:List Value} (hr:Src w size A m news) (h63:n+m≤140737488355328) (hbytes:(n+m)*bytes≤140737488355328) (hbase:base≤w.heap.size):
  ∃v' w',(Builtin.append_ #[t,t] ty #[v,.slice A m c]).run P w= .ok v' w'∧w'.ownsRow base e size v' (n+m) (xs++news)∧w.grownBy w' v.ownBlock∧
   (v'.ownBlock=v.ownBlock∨v'.ownBlock=some w.heap.size):=by
 obtain ⟨ht,hinfo,hzs,hsz⟩:=hT
 obtain ⟨i,hi,hz,hsize,hby⟩:=info_parts hinfo
 rcases A with _ | ad
 ·have hm:m=0:=by
   rcases Y8 m with h0 | h0
   ·exact h0
   ·obtain ⟨ad,h,_⟩:=hr.2.2 h0
    cases h
  subst hm
  have hn:news=[]:=Z9 (by simpa using hr.1)
  subst hn
  refine ⟨v,w,?_,by simpa using hown,World.grownBy.refl w _,.inl rfl⟩
  rcases hown.2 with ⟨rfl,rfl⟩ | ⟨g,cap,cur,rfl,_,_,hnc,_⟩
  ·simp[Builtin.append_,Z7 ht,sizeOf,typeInfo,hi,Builtin.lenOf,Builtin.firstCells]
  ·simp[Builtin.append_,Z7 ht,sizeOf,typeInfo,hi,Builtin.lenOf,Builtin.firstCells,hnc,storeCells]
 ·have hcells:∀j u,news[j]?=some u→w.cell? (ad.add j)=some u:=by
   intro j u hu
   rcases Y8 m with h0 | h0
   ·subst h0
    have hn:news=[]:=Z9 (by simpa using hr.1)
    subst hn
    simp at hu
   ·obtain ⟨ad',h,hc⟩:=hr.2.2 h0
    injection h with h
    subst h
    exact hc j u hu
  obtain ⟨v',w',hrun,h2,h3,_,h5⟩:=run_append_own_at (P:=P) w base t ty e i z size bytes ht hi hz hsize hby hzs hsz v n xs hown ad m c news hr.1 hcells hr.2.1 (by simp only[maxLen]; omega) hbytes hbase
  exact ⟨v',w',hrun,h2,h3,h5⟩
theorem V17{o:Oper}{a:Act}{K:Act→World→Prop}{Q:Exit→Act→World→Prop}{s x:Operand}
  (ho:o.op= .call {callee:= .builtin .append,args:= #[s,x],argTypes:= #[t,t]}) (hT:SlT P t e size bytes z)
  {base:Nat} {v:Value} {n:Nat} {xs:List Value} (hs:a.eval s=v) (hown:w.ownsRow base e size v n xs)
  {A:Option Addr} {m c:Nat} {news:List Value} (hx:a.eval x= .slice A m c) (hr:Src w size A m news) (h63:n+m≤140737488355328) (hbytes:(n+m)*bytes≤140737488355328) (hbase:base≤w.heap.size)
  (h:∀v' w',w'.ownsRow base e size v' (n+m) (xs++news)→w.grownBy w' v.ownBlock→(v'.ownBlock=v.ownBlock∨v'.ownBlock=some w.heap.size)→K (a.put o.dst v') w'):o.wp P a w K Q:=by
 obtain ⟨v',w',hrun,h2,h3,h4⟩:=Wjn (ty:=o.type) hT hown hr h63 hbytes hbase (c:=c)
 unfold Oper.wp execOp
 simp only[ho,resolve,invoke,builtin,Yr,Sem.run_pure,Yl,List.map_toArray,Zh,Y9,hs,hx,hrun]
 exact h v' w' h2 h3 h4
theorem app{ops:Array Oper}{rest:List Oper}{o:Oper}{a:Act}{Q:Exit→Act→World→Prop}{s x:Operand}
  (ho:o.op= .call {callee:= .builtin .append,args:= #[s,x],argTypes:= #[t,t]}) (hgd:o.guard=none) (hT:SlT P t e size bytes z)
  {base:Nat} {v:Value} {n:Nat} {xs:List Value} (hs:a.eval s=v) (hown:w.ownsRow base e size v n xs)
  {A:Option Addr} {m c:Nat} {news:List Value} (hx:a.eval x= .slice A m c) (hr:Src w size A m news) (h63:n+m≤140737488355328) (hbytes:(n+m)*bytes≤140737488355328) (hbase:base≤w.heap.size)
  (h:∀v' w',w'.ownsRow base e size v' (n+m) (xs++news)→w.grownBy w' v.ownBlock→(v'.ownBlock=v.ownBlock∨v'.ownBlock=some w.heap.size)→wpList P ops Q rest (a.put o.dst v') w'):wpList P ops Q (o::rest) a w:=
 wpList_plain hgd fun _ hK=>V17 ho hT hs hown hx hr h63 hbytes hbase fun v' w' h2 h3 h4=>hK _ _ (h v' w' h2 h3 h4)
end
end Go.Proofs.YtahoelmjfgoedaaGreat.B
namespace Go.Sim
open Go.RowKit Go.Proofs.YtahoelmjfgoedaaGreat.B
def W2d:Value→Bool
 | .bool _ | .int _ _ | .string _ | .nilFunc | .nilIface=>true
 | .pointer none | .slice none 0 0 | .map none | .chan none=>true
 | _=>false
inductive PV where
 | v (x:Value)
 | sl (sz:Nat) (l:List (List PV))
inductive FA where
 | p (x:PV)
 | ptr (id off:Nat)
inductive Cap where
 | free
 | ex (k:Nat)
 | unk
inductive HK where
 | mp
 | ch
 | yl
 deriving DecidableEq
inductive AC where
 | p (x:PV)
 | tight (sz:Nat) (l:List (List PV))
 | own (id off sz len:Nat) (cap:Cap)
 | ptr (id off:Nat)
 | ept (id sz i j:Nat)
 | rp (cells:List PV)
 | fn (f:Fn) (first captured:List FA)
 | hnd (k:HK) (id:Nat)
 | any
inductive AV where
 | c (x:AC)
 | agg (l:List AC)
 | tup (l:List AV)
abbrev PW:=Bool×List PV
inductive Ob where
 | mp (l:List (PW×PW))
 | ch (cap:Nat) (q:List PW)
inductive LpSt where
 | ready
 | busy
 | done
 | over
 deriving DecidableEq
inductive LpEx where
 | ret
 | exit (id:Nat)
 deriving DecidableEq
def LpSt.of:LpSt→LoopState
 | .ready=> .ready
 | .busy=> .busy
 | .done=> .done
 | .over=> .exhausted
def LpEx.of:LpEx→Code
 | .ret=> .ret
 | .exit id=> .exit id
def lk:List (Nat×AV)→Nat→AV
 | [],_=> .c .any
 | (k,v)::r,n=>if k=n then v else lk r n
structure LoopT where
 ps:Array Tmp
 asg:Code
 body:Code
def W14:Code→List LoopT
 | .seq a b=>W14 a++W14 b
 | .cond _ a b=>W14 a++W14 b
 | .block _ c=>W14 c
 | .loop c=>W14 c
 | .rangeFunc _ ps a b=>[⟨ps,a,b⟩]
 | _=>[]
def lpOf(P:Program)(f j:Nat):Option (LoopT×Nat):=(P.funcs[f]?).bind fun fn=>fn.body.bind fun c=>((W14 c)[j]?).map fun l=>(l,fn.ntmps)
inductive Reg where
 | pc (sz:Nat) (ls:List (List PV))
 | ac (l:List AC)
 | es (sz:Nat) (ls:List (List AC))
 | ob (o:Ob)
 | lp (f j:Nat) (sl:List (Nat×AV)) (st:LpSt) (pe:Option LpEx)
 | dead
def Reg.live:Reg→Bool
 | .dead=>false
 | _=>true
structure Env where
 n:Nat
 f:Nat→Option (Nat×Nat)
def Env.push(e:Env)(x:Option (Nat×Nat)):Env:=⟨e.n+1,fun i=>if i=e.n then x else e.f i⟩
def Env.le(e e':Env):Prop:=e.n≤e'.n∧∀i,i<e.n→e'.f i=e.f i
theorem Env.le_refl(e:Env):e.le e:=⟨Z8 _,fun _ _=>rfl⟩
theorem Env.le_trans{a b c:Env}(h:a.le b)(k:b.le c):a.le c:=⟨Y5 h.1 k.1,fun i hi=>(k.2 i (Zt hi h.1)).trans (h.2 i hi)⟩
theorem Env.le_push(e:Env)(x:Option (Nat×Nat)):e.le (e.push x):=⟨Nat.le_succ _,fun i hi=>by simp[Env.push,Nat.ne_of_lt hi]⟩
theorem Env.push_at(e:Env)(x:Option (Nat×Nat)):(e.push x).f e.n=x:=by simp[Env.push]
def All2{α β:Type}(R:α→β→Prop):List α→List β→Prop
 | [],[]=>True
 | a::l,b::m=>R a b∧All2 R l m
 | _,_=>False
theorem All2.len{α β:Type}{R:α→β→Prop}:∀{l:List α} {m:List β},All2 R l m→l.length=m.length
 | [],[],_=>rfl
 | _::_,_::_,h=>by simp[All2.len h.2]
 | [],_::_,h=>h.elim
 | _::_,[],h=>h.elim
theorem All2.imp{α β:Type}{R S:α→β→Prop}(hs:∀a b,R a b→S a b):∀{l:List α} {m:List β},All2 R l m→All2 S l m
 | [],[],_=>trivial
 | _::_,_::_,h=>⟨hs _ _ h.1,All2.imp hs h.2⟩
 | [],_::_,h=>h.elim
 | _::_,[],h=>h.elim
theorem All2.get{α β:Type}{R:α→β→Prop}:∀{l:List α} {m:List β},All2 R l m→∀i (h:i<l.length) (h':i<m.length),R l[i] m[i]
 | _::_,_::_,h,0,_,_=>h.1
 | _::_,_::_,h,i+1,h1,h2=>All2.get h.2 i (by simpa using h1) (by simpa using h2)
 | [],_,_,i,h1,_=>by simp at h1
 | _::_,[],h,_,_,_=>h.elim
theorem All2.of_get{α β:Type}{R:α→β→Prop}:∀{l:List α} {m:List β},l.length=m.length→(∀i (h:i<l.length) (h':i<m.length),R l[i] m[i])→All2 R l m
 | [],[],_,_=>trivial
 | _::_,_::_,hn,h=>⟨h 0 (by simp) (by simp),All2.of_get (by simpa using hn) fun i h1 h2=>h (i+1) (by simpa using h1) (by simpa using h2)⟩
 | [],_::_,hn,_=>by simp at hn
 | _::_,[],hn,_=>by simp at hn
theorem All2.append{α β:Type}{R:α→β→Prop}:∀{l l':List α} {m m':List β},All2 R l m→All2 R l' m'→All2 R (l++l') (m++m')
 | [],_,[],_,_,h'=>h'
 | _::_,_,_::_,_,h,h'=>⟨h.1,All2.append h.2 h'⟩
 | [],_,_::_,_,h,_=>h.elim
 | _::_,_,[],_,h,_=>h.elim
inductive PRel (w:World) (bad:Nat→Prop):PV→Value→Prop where
 | v {x:Value} (h:W2d x=true):PRel w bad (.v x) x
 | sl {sz:Nat} {l:List (List PV)} {A:Option Addr} {n c:Nat} (U:Nat→Nat→Value) (hz:0<sz) (hn:n=l.length) (hc:n≤c) (hm:n≤9223372036854775807)
   (hsz:∀i (h:i<l.length),l[i].length=sz) (hA:0<n→∃ad,A=some ad∧¬bad ad.block)
   (hcell:∀ad,A=some ad→∀i (h:i<l.length),∀j,j<l[i].length→w.cell? (ad.add (i*sz+j))=some (U i j))
   (h:∀i (hi:i<l.length),∀j (hj:j<l[i].length),PRel w bad l[i][j] (U i j)):PRel w bad (.sl sz l) (.slice A n c)
theorem Wh3{x:Value}(h:W2d x=true):x.oneCell'=true:=by
 cases x<;>simp_all[W2d,Value.oneCell']
theorem PRel.one{w:World}{bad:Nat→Prop}{x:PV}{v:Value}(h:PRel w bad x v):v.oneCell'=true:=by
 cases h with
 | v h=>exact Wh3 h
 | sl=>rfl
structure Same(bad:Nat→Prop)(w w':World):Prop where
 size:w.heap.size≤w'.heap.size
 block:∀b,b<w.heap.size→¬bad b→w'.heap[b]?=w.heap[b]?
theorem PRel.step{w w':World}{bad bad':Nat→Prop}{x:PV}{v:Value}(hk:Same bad w w')
  (hb:∀b,b<w.heap.size→bad' b→bad b) (h:PRel w bad x v):PRel w' bad' x v:=by
 induction h with
 | v h=>exact .v h
 | @sl sz l A n c U hz hn hc hm hsz hA hcell h ih=>
  have hlt:∀ad,A=some ad→0<n→ad.block<w.heap.size:=fun ad e h0=>by
   have h1:=hcell ad e 0 (by omega) 0 (by rw[hsz]; exact hz)
   have:=World.block_lt_of_cell? w _ h1
   rwa[W1a]at this
  have hnb:∀ad,A=some ad→0<n→¬bad ad.block:=fun ad e h0=>by
   obtain ⟨ad',e',h⟩:=hA h0
   rw[e]at e'
   cases e'
   exact h
  refine .sl U hz hn hc hm hsz (fun h0=> ?_) (fun ad e i hi j hj=> ?_) ih
  ·obtain ⟨ad,e,h⟩:=hA h0
   exact ⟨ad,e,fun hx=>h (hb _ (hlt ad e h0) hx)⟩
  ·rw[World.cell?_of_block (w:=w) (by rw[W1a]; exact hk.block _ (hlt ad e (by omega)) (hnb ad e (by omega)))]
   exact hcell ad e i hi j hj
def FRel(w:World)(env:Env)(bad:Nat→Prop):FA→Value→Prop
 | .p x,v=>PRel w bad x v
 | .ptr id off,v=>id<env.n∧∃g c,env.f id=some (g,c)∧v= .pointer (some ⟨g,off,none⟩)
def OwnV(env:Env)(id off sz len:Nat)(cap:Cap)(v:Value):Prop:=
 id<env.n∧((env.f id=none∧off=0∧len=0∧v= .slice none 0 0)∨
  ∃g c k,env.f id=some (g,c)∧v= .slice (some ⟨g,off*sz,none⟩) len k∧len≤k∧(cap= .ex k∨cap= .unk∨cap= .free∧off=0∧k=c))
def hndV:HK→Nat→Value
 | .mp,g=> .map (some g)
 | .ch,g=> .chan (some g)
 | .yl,g=> .func (.yield g) #[] #[]
def CRel(w:World)(env:Env)(bad:Nat→Prop):AC→Value→Prop
 | .p x,v=>PRel w bad x v
 | .tight sz l,v=>PRel w bad (.sl sz l) v∧∃A,v= .slice A l.length l.length
 | .own id off sz len cap,v=>OwnV env id off sz len cap v
 | .ept id sz i j,v=>id<env.n∧∃g c,env.f id=some (g,c)∧v= .pointer (some ⟨g,i*sz+j,none⟩)
 | .ptr id off,v=>id<env.n∧∃g c,env.f id=some (g,c)∧v= .pointer (some ⟨g,off,none⟩)
 | .rp cells,v=>∃ad,v= .pointer (some ad)∧¬bad ad.block∧ad.block<w.heap.size∧∃U:Nat→Value,∀j (hj:j<cells.length),w.cell? (ad.add j)=some (U j)∧PRel w bad cells[j] (U j)
 | .fn f first captured,v=>∃fs cs:List Value,v= .func f fs.toArray cs.toArray∧All2 (FRel w env bad) first fs∧All2 (FRel w env bad) captured cs
 | .hnd k id,v=>id<env.n∧∃g c,env.f id=some (g,c)∧v=hndV k g
 | .any,_=>True
def AC.known:AC→Bool
 | .any=>false
 | _=>true
theorem CRel.one{w:World}{env:Env}{bad:Nat→Prop}{x:AC}{v:Value}(hx:x.known=true)(h:CRel w env bad x v):v.oneCell'=true:=by
 cases x with
 | p x=>exact PRel.one h
 | tight sz l=>exact PRel.one h.1
 | own id off sz len cap=>rcases h.2 with ⟨_,_,_,rfl⟩ | ⟨g,c,k,_,rfl,_⟩<;>rfl
 | ptr id off=>obtain ⟨_,g,c,_,rfl⟩:=h; rfl
 | ept id sz i j=>obtain ⟨_,g,c,_,rfl⟩:=h; rfl
 | rp cells=>obtain ⟨ad,rfl,_⟩:=h; rfl
 | fn f a b=>obtain ⟨fs,cs,rfl,_⟩:=h; rfl
 | hnd k id=>obtain ⟨_,g,c,_,rfl⟩:=h; cases k<;>rfl
 | any=>cases hx
section
variable {w w':World} {env env':Env} {bad bad':Nat→Prop}
theorem FRel.step(hk:Same bad w w')(hb:∀b,b<w.heap.size→bad' b→bad b)(he:env.le env'){x:FA}{v:Value}(h:FRel w env bad x v):FRel w' env' bad' x v:=by
 cases x with
 | p x=>exact PRel.step hk hb h
 | ptr id off=>
  obtain ⟨hi,g,c,e,rfl⟩:=h
  exact ⟨Zt hi he.1,g,c,(he.2 id hi).trans e,rfl⟩
theorem OwnV.step(he:env.le env'){id off sz len:Nat}{cap:Cap}{v:Value}(h:OwnV env id off sz len cap v):OwnV env' id off sz len cap v:=by
 obtain ⟨hi,h⟩:=h
 refine ⟨Zt hi he.1,?_⟩
 rw[he.2 id hi]
 exact h
theorem CRel.step(hk:Same bad w w')(hb:∀b,b<w.heap.size→bad' b→bad b)(he:env.le env'){x:AC}{v:Value}(h:CRel w env bad x v):CRel w' env' bad' x v:=by
 cases x with
 | p x=>exact PRel.step hk hb h
 | tight sz l=>exact ⟨PRel.step hk hb h.1,h.2⟩
 | own id off sz len cap=>exact OwnV.step he h
 | ptr id off=>
  obtain ⟨hi,g,c,e,rfl⟩:=h
  exact ⟨Zt hi he.1,g,c,(he.2 id hi).trans e,rfl⟩
 | ept id sz i j=>
  obtain ⟨hi,g,c,e,rfl⟩:=h
  exact ⟨Zt hi he.1,g,c,(he.2 id hi).trans e,rfl⟩
 | rp cells=>
  obtain ⟨ad,rfl,hn,hlt,U,hU⟩:=h
  refine ⟨ad,rfl,fun hx=>hn (hb _ hlt hx),Zt hlt hk.size,U,fun j hj=>⟨?_,PRel.step hk hb (hU j hj).2⟩⟩
  rw[World.cell?_of_block (w:=w) (by rw[W1a]; exact hk.block _ hlt hn)]
  exact (hU j hj).1
 | fn f a b=>
  obtain ⟨fs,cs,rfl,h1,h2⟩:=h
  exact ⟨fs,cs,rfl,h1.imp fun _ _ h=>FRel.step hk hb he h,h2.imp fun _ _ h=>FRel.step hk hb he h⟩
 | hnd k id=>
  obtain ⟨hi,g,c,e,rfl⟩:=h
  exact ⟨Zt hi he.1,g,c,(he.2 id hi).trans e,rfl⟩
 | any=>trivial
end
inductive VRel (w:World) (env:Env) (bad:Nat→Prop):AV→Value→Prop where
 | c {x:AC} {v:Value} (h:CRel w env bad x v):VRel w env bad (.c x) v
 | agg {l:List AC} {vs:List Value} (h:All2 (CRel w env bad) l vs) (hk:l.all AC.known=true):VRel w env bad (.agg l) (.agg vs.toArray)
 | tup {l:List AV} {vs:List Value} (hn:l.length=vs.length) (h:∀i (h1:i<l.length) (h2:i<vs.length),VRel w env bad l[i] vs[i]):VRel w env bad (.tup l) (.tuple vs.toArray)
theorem VRel.step{w w':World}{env env':Env}{bad bad':Nat→Prop}(hk:Same bad w w')(hb:∀b,b<w.heap.size→bad' b→bad b)(he:env.le env'){x:AV}{v:Value}
  (h:VRel w env bad x v):VRel w' env' bad' x v:=by
 induction h with
 | c h=>exact .c (CRel.step hk hb he h)
 | agg h hk'=>exact .agg (h.imp fun _ _ h=>CRel.step hk hb he h) hk'
 | tup hn _ ih=>exact .tup hn ih
def WRel(w:World)(bad:Nat→Prop):PW→Value→Prop
 | (true,l),v=>∃vs:List Value,v= .agg vs.toArray∧All2 (PRel w bad) l vs
 | (false,[x]),v=>PRel w bad x v
 | (false,_),_=>False
theorem WRel.imp{w w':World}{bad bad':Nat→Prop}(hp:∀x v,PRel w bad x v→PRel w' bad' x v):∀{p:PW} {v:Value},WRel w bad p v→WRel w' bad' p v
 | (true,_),_,⟨vs,e,h⟩=>⟨vs,e,h.imp hp⟩
 | (false,[x]),v,h=>hp x v h
 | (false,[]),_,h=>h.elim
 | (false,_::_::_),_,h=>h.elim
def ObRel(w:World)(bad:Nat→Prop)(g:Nat):Ob→Prop
 | .mp l=>∃(es:Array MapEntry) (clock:Nat) (l':List (PW×PW)),w.heap[g]?=some (.map es clock)∧l'.Perm l∧All2 (fun (p:PW×PW) (e:MapEntry)=>WRel w bad p.1 e.key∧WRel w bad p.2 e.val) l' es.toList
 | .ch cap q=>∃(buf:Array Value) (s r:Nat),w.heap[g]?=some (.chan cap buf false s r false)∧All2 (WRel w bad) q buf.toList
theorem ObRel.carry{w w':World}{bad bad':Nat→Prop}{g:Nat}{o:Ob}(h:ObRel w bad g o)(hg:w'.heap[g]?=w.heap[g]?)(hp:∀x v,PRel w bad x v→PRel w' bad' x v):ObRel w' bad' g o:=by
 cases o with
 | mp l=>
  obtain ⟨es,clock,l',h1,h2,h3⟩:=h
  exact ⟨es,clock,l',hg.trans h1,h2,h3.imp fun _ _ h=>⟨WRel.imp hp h.1,WRel.imp hp h.2⟩⟩
 | ch cap q=>
  obtain ⟨buf,s,r,h1,h2⟩:=h
  exact ⟨buf,s,r,hg.trans h1,h2.imp fun _ _ h=>WRel.imp hp h⟩
def RRel(P:Program)(w:World)(env:Env)(bad:Nat→Prop)(id:Nat):Reg→Prop
 | .dead=>True
 | .pc sz ls=>0<sz∧(∀i (h:i<ls.length),ls[i].length=sz)∧((env.f id=none∧ls=[])∨
   ∃g c cur t,env.f id=some (g,c)∧w.heap[g]?=some (.cells cur t (0,0))∧cur.size=c*sz∧c≤9223372036854775807∧ls.length≤c∧
    ∀i (h:i<ls.length),∀j (h':j<ls[i].length),∃u,cur[i*sz+j]?=some u∧PRel w bad ls[i][j] u)
 | .es sz ls=>0<sz∧(∀i (h:i<ls.length),ls[i].length=sz)∧((env.f id=none∧ls=[])∨
   ∃g c cur t,env.f id=some (g,c)∧w.heap[g]?=some (.cells cur t (0,0))∧cur.size=c*sz∧c≤9223372036854775807∧ls.length≤c∧
    ∀i (h:i<ls.length),∀j (h':j<ls[i].length),∃u,cur[i*sz+j]?=some u∧CRel w env bad ls[i][j] u∧ls[i][j].known=true)
 | .ob o=>∃g c,env.f id=some (g,c)∧ObRel w bad g o
 | .lp f j sl st pe=>∃g c L N fn tmps D,env.f id=some (g,c)∧lpOf P f j=some (L,N)∧w.heap[g]?=some (.loop {state:=st.of,pending:=pe.map LpEx.of,fn:=fn,tmps:=tmps,params:=L.ps,assign:=L.asg,body:=L.body,defers:=D})∧
   tmps.size=N∧∀n,VRel w env bad (lk sl n) (tmps.getD n undef)
 | .ac l=>∃g c cur t,env.f id=some (g,c)∧w.heap[g]?=some (.cells cur t (0,0))∧l.length=cur.size∧
   ∀j (h:j<l.length),∃u,cur[j]?=some u∧CRel w env bad l[j] u∧l[j].known=true
def W04(base:Nat→Prop)(env:Env)(regs:List Reg)(b:Nat):Prop:=
 base b∨∃id r c,regs[id]?=some r∧r.live=true∧env.f id=some (b,c)
structure RS(P:Program)(w0 w:World)(fps:List Nat)(base:Nat→Prop)(env:Env)(regs:List Reg):Prop where
 keep:Keep fps w0 w
 base_lt:∀b,base b→b<w0.heap.size∧b∉fps
 len:env.n=regs.length
 reg:∀id r,regs[id]?=some r→RRel P w env (W04 base env regs) id r
 own:∀id r g c,regs[id]?=some r→r.live=true→env.f id=some (g,c)→(g∈fps∨w0.heap.size≤g)∧g<w.heap.size
 inj:∀i j r r' g c c',regs[i]?=some r→regs[j]?=some r'→r.live=true→r'.live=true→env.f i=some (g,c)→env.f j=some (g,c')→i=j
structure Ev(w:World)(env:Env)(bad:Nat→Prop)(w':World)(env':Env)(bad':Nat→Prop):Prop where
 same:Same bad w w'
 sub:∀b,b<w.heap.size→bad' b→bad b
 le:env.le env'
section
variable {w w' w'':World} {env env' env'':Env} {bad bad' bad'':Nat→Prop}
theorem Ev.refl(w:World)(env:Env)(bad:Nat→Prop):Ev w env bad w env bad:=⟨⟨Z8 _,fun _ _ _=>rfl⟩,fun _ _ h=>h,Env.le_refl _⟩
theorem Ev.trans(h:Ev w env bad w' env' bad')(k:Ev w' env' bad' w'' env'' bad''):Ev w env bad w'' env'' bad'':=
 ⟨⟨Y5 h.same.size k.same.size,fun b hb hn=>(k.same.block b (Zt hb h.same.size) fun hx=>hn (h.sub b hb hx)).trans (h.same.block b hb hn)⟩,
  fun b hb hx=>h.sub b hb (k.sub b (Zt hb h.same.size) hx),Env.le_trans h.le k.le⟩
theorem PRel.ev(h:Ev w env bad w' env' bad'){x:PV}{v:Value}(r:PRel w bad x v):PRel w' bad' x v:=r.step h.same h.sub
theorem CRel.ev(h:Ev w env bad w' env' bad'){x:AC}{v:Value}(r:CRel w env bad x v):CRel w' env' bad' x v:=CRel.step h.same h.sub h.le r
theorem VRel.ev(h:Ev w env bad w' env' bad'){x:AV}{v:Value}(r:VRel w env bad x v):VRel w' env' bad' x v:=r.step h.same h.sub h.le
end
section
variable {P:Program} {w0 w w':World} {fps:List Nat} {base:Nat→Prop} {env:Env} {regs:List Reg}
theorem RRel.ev{env':Env}{bad bad':Nat→Prop}(hev:Ev w env bad w' env' bad'){id:Nat}(hid:id<env.n){r:Reg}(hb:r.live=true→∀g c,env.f id=some (g,c)→w'.heap[g]?=w.heap[g]?)
  (h:RRel P w env bad id r):RRel P w' env' bad' id r:=by
 have he:=hev.le.2 id hid
 cases r with
 | dead=>trivial
 | pc sz ls=>
  obtain ⟨hz,hs,h⟩:=h
  refine ⟨hz,hs,?_⟩
  rcases h with ⟨e,h1⟩ | ⟨g,c,cur,t,e,hg,h1,h2,h3,h4⟩
  ·exact .inl ⟨he.trans e,h1⟩
  ·exact .inr ⟨g,c,cur,t,he.trans e,(hb rfl g c e).trans hg,h1,h2,h3,fun i hi j hj=>let ⟨u,a,b⟩:=h4 i hi j hj; ⟨u,a,b.ev hev⟩⟩
 | ac l=>
  obtain ⟨g,c,cur,t,e,hg,h1,h4⟩:=h
  exact ⟨g,c,cur,t,he.trans e,(hb rfl g c e).trans hg,h1,fun j hj=>let ⟨u,a,b,d⟩:=h4 j hj; ⟨u,a,b.ev hev,d⟩⟩
 | es sz ls=>
  obtain ⟨hz,hs,h⟩:=h
  refine ⟨hz,hs,?_⟩
  rcases h with ⟨e,h1⟩ | ⟨g,c,cur,t,e,hg,h1,h2,h3,h4⟩
  ·exact .inl ⟨he.trans e,h1⟩
  ·exact .inr ⟨g,c,cur,t,he.trans e,(hb rfl g c e).trans hg,h1,h2,h3,fun i hi j hj=>let ⟨u,a,b,d⟩:=h4 i hi j hj; ⟨u,a,b.ev hev,d⟩⟩
 | ob o=>
  obtain ⟨g,c,e,h⟩:=h
  exact ⟨g,c,he.trans e,h.carry (hb rfl g c e) fun _ _ r=>PRel.ev hev r⟩
 | lp f j sl st pe=>
  obtain ⟨g,c,L,N,fn,tmps,D,e,hL,hg,hs,h⟩:=h
  exact ⟨g,c,L,N,fn,tmps,D,he.trans e,hL,(hb rfl g c e).trans hg,hs,fun n=>(h n).ev hev⟩
theorem RS.live_lt(h:RS P w0 w fps base env regs){id:Nat}{r:Reg}(hr:regs[id]?=some r):id<env.n:=by
 rw[h.len]
 exact (Z3.1 hr).1
theorem RS.draw(h:RS P w0 w fps base env regs)(hh:w'.heap=w.heap)(ho:w'.os=w.os)(ht:w'.tape=w.tape)(hp:w'.output=w.output):RS P w0 w' fps base env regs:=by
 have hev:Ev w env (W04 base env regs) w' env (W04 base env regs):=⟨⟨by rw[hh]; exact Z8 _,fun b _ _=>by rw[hh]⟩,fun _ _ h=>h,Env.le_refl _⟩
 refine ⟨⟨ho.trans h.keep.os,ht.trans h.keep.tape,hp.trans h.keep.output,by rw[hh]; exact h.keep.size,fun k hk hn=>by rw[hh]; exact h.keep.block k hk hn⟩,h.base_lt,h.len,fun id r hr=> ?_,fun id r g c hr hl he=>by rw[hh]; exact h.own id r g c hr hl he,h.inj⟩
 exact RRel.ev hev (RS.live_lt h hr) (fun _ _ _ _=>by rw[hh]) (h.reg id r hr)
theorem RS.bad_live{id:Nat}{r:Reg}{g c:Nat}(hr:regs[id]?=some r)(hl:r.live=true)(he:env.f id=some (g,c)):W04 base env regs g:= .inr ⟨id,r,c,hr,hl,he⟩
theorem RS.alloc(h:RS P w0 w fps base env regs){r:Reg}{o:Obj}{c:Nat}(hk:w'=w.alloc o)
  (hr:∀bad',Ev w env (W04 base env regs) w' (env.push (some (w.heap.size,c))) bad'→RRel P w' (env.push (some (w.heap.size,c))) bad' env.n r):
  RS P w0 w' fps base (env.push (some (w.heap.size,c))) (regs++[r])∧
  Ev w env (W04 base env regs) w' (env.push (some (w.heap.size,c))) (W04 base (env.push (some (w.heap.size,c))) (regs++[r])):=by
 subst hk
 have hsame:Same (W04 base env regs) w (w.alloc o):=⟨by simp,fun b hb _=>Xy _ _ _ hb⟩
 have hf:∀id,id<env.n→(env.push (some (w.heap.size,c))).f id=env.f id:=(Env.le_push env _).2
 have hget:∀id r',(regs++[r])[id]?=some r'→regs[id]?=some r'∧id<env.n∨id=env.n∧r'=r:=by
  intro id r' hx
  rw[List.getElem?_append]at hx
  split at hx
  ·rename_i hlt; exact .inl ⟨hx,by rw[h.len]; exact hlt⟩
  ·rename_i hge
   rw[h.len]
   obtain ⟨h0,e⟩:id-regs.length=0∧r=r':=by
    rcases Y8 (id-regs.length)with h0 | h0
    ·rw[h0]at hx; simp at hx; exact ⟨h0,hx⟩
    ·obtain ⟨m,hm⟩:∃m,id-regs.length=m+1:=⟨id-regs.length-1,by omega⟩
     rw[hm]at hx; simp at hx
   exact .inr ⟨by omega,e.symm⟩
 have hsub:∀b,b<w.heap.size→W04 base (env.push (some (w.heap.size,c))) (regs++[r]) b→W04 base env regs b:=by
  intro b hb hx
  rcases hx with hx | ⟨id,r',c',hx,hl,he⟩
  ·exact .inl hx
  ·rcases hget id r' hx with ⟨h1,h2⟩ | ⟨rfl,rfl⟩
   ·rw[hf id h2]at he
    exact .inr ⟨id,r',c',h1,hl,he⟩
   ·rw[Env.push_at]at he
    simp at he
    omega
 have hev:Ev w env (W04 base env regs) (w.alloc o) (env.push (some (w.heap.size,c))) (W04 base (env.push (some (w.heap.size,c))) (regs++[r])):=⟨hsame,hsub,Env.le_push _ _⟩
 refine ⟨⟨h.keep.alloc _,h.base_lt,by simp[Env.push,h.len],fun id r' hx=> ?_,fun id r' g c' hx hl he=> ?_,fun i j r1 r2 g c1 c2 h1 h2 l1 l2 e1 e2=> ?_⟩,hev⟩
 ·rcases hget id r' hx with ⟨h1,h2⟩ | ⟨rfl,rfl⟩
  ·exact RRel.ev hev h2 (fun hl g c' he=>Xy _ _ _ (h.own id r' g c' h1 hl he).2) (h.reg id r' h1)
  ·exact hr _ hev
 ·rcases hget id r' hx with ⟨h1,h2⟩ | ⟨rfl,rfl⟩
  ·rw[hf id h2]at he
   have:=h.own id r' g c' h1 hl he
   exact ⟨this.1,by simp; omega⟩
  ·rw[Env.push_at]at he
   simp at he
   obtain ⟨rfl,rfl⟩:=he
   exact ⟨.inr h.keep.size,by simp⟩
 ·rcases hget i r1 h1 with ⟨g1,i1⟩ | ⟨rfl,rfl⟩<;>rcases hget j r2 h2 with ⟨g2,i2⟩ | ⟨rfl,rfl⟩
  ·rw[hf i i1]at e1; rw[hf j i2]at e2
   exact h.inj i j r1 r2 g c1 c2 g1 g2 l1 l2 e1 e2
  ·rw[hf i i1]at e1; rw[Env.push_at]at e2
   simp at e2
   have:=(h.own i r1 g c1 g1 l1 e1).2
   omega
  ·rw[hf j i2]at e2; rw[Env.push_at]at e1
   simp at e1
   have:=(h.own j r2 g c2 g2 l2 e2).2
   omega
  ·rfl
theorem RS.kill(h:RS P w0 w fps base env regs)(id:Nat):RS P w0 w fps base env (regs.set id .dead)∧Ev w env (W04 base env regs) w env (W04 base env (regs.set id .dead)):=by
 have hget:∀(i:Nat) (r:Reg),(regs.set id .dead)[i]?=some r→r.live=true→regs[i]?=some r:=by
  intro i r hx hl
  rw[Xc]at hx
  split at hx
  ·split at hx
   ·cases hx; cases hl
   ·cases hx
  ·exact hx
 have hget':∀(i:Nat) (r:Reg),(regs.set id .dead)[i]?=some r→r= .dead∨regs[i]?=some r:=by
  intro i r hx
  rw[Xc]at hx
  split at hx
  ·split at hx
   ·cases hx; exact .inl rfl
   ·cases hx
  ·exact .inr hx
 have hsub:∀b,W04 base env (regs.set id .dead) b→W04 base env regs b:=by
  intro b hx
  rcases hx with hx | ⟨i,r,c,hx,hl,he⟩
  ·exact .inl hx
  ·exact .inr ⟨i,r,c,hget i r hx hl,hl,he⟩
 have hev:Ev w env (W04 base env regs) w env (W04 base env (regs.set id .dead)):=⟨⟨Z8 _,fun _ _ _=>rfl⟩,fun b _=>hsub b,Env.le_refl _⟩
 refine ⟨⟨h.keep,h.base_lt,by simp[h.len],fun i r hx=> ?_,fun i r g c hx hl he=>h.own i r g c (hget i r hx hl) hl he,fun i j r1 r2 g c1 c2 h1 h2 l1 l2=>h.inj i j r1 r2 g c1 c2 (hget i r1 h1 l1) (hget j r2 h2 l2) l1 l2⟩,hev⟩
 rcases hget' i r hx with rfl | h1
 ·trivial
 ·exact RRel.ev hev (h.live_lt h1) (fun _ _ _ _=>rfl) (h.reg i r h1)
theorem RS.write(h:RS P w0 w fps base env regs){id g c:Nat}{r r':Reg}(hr:regs[id]?=some r)(hl:r.live=true)(he:env.f id=some (g,c)){cs:Array Value}
  (hr':r'.live=true) (hrel:Ev w env (W04 base env regs) (w.setRow g cs) env (W04 base env (regs.set id r'))→RRel P (w.setRow g cs) env (W04 base env (regs.set id r')) id r'):
  RS P w0 (w.setRow g cs) fps base env (regs.set id r')∧Ev w env (W04 base env regs) (w.setRow g cs) env (W04 base env (regs.set id r')):=by
 have hlt:id<regs.length:=(Z3.1 hr).1
 have hget:∀i x,(regs.set id r')[i]?=some x→i=id∧x=r'∨i≠id∧regs[i]?=some x:=by
  intro i x hx
  rw[Xc]at hx
  split at hx
  ·rename_i hi
   cases hx
   exact .inl ⟨hi.symm,rfl⟩
  ·rename_i hi
   exact .inr ⟨fun e=>hi e.symm,hx⟩
 have hsub:∀b,W04 base env (regs.set id r') b→W04 base env regs b:=by
  intro b hx
  rcases hx with hx | ⟨i,x,c',hx,hl',he'⟩
  ·exact .inl hx
  ·rcases hget i x hx with ⟨rfl,rfl⟩ | ⟨_,hx⟩
   ·exact .inr ⟨i,r,c',hr,hl,he'⟩
   ·exact .inr ⟨i,x,c',hx,hl',he'⟩
 have hown:=h.own id r g c hr hl he
 have hbg:W04 base env regs g:=RS.bad_live hr hl he
 have hsame:Same (W04 base env regs) w (w.setRow g cs):=⟨by simp[World.setRow],fun b _ hn=>setRow_other w g b _ (fun e=>hn (e▸hbg))⟩
 have hev:Ev w env (W04 base env regs) (w.setRow g cs) env (W04 base env (regs.set id r')):=⟨hsame,fun b _=>hsub b,Env.le_refl _⟩
 refine ⟨⟨?_,h.base_lt,by simp[h.len],fun i x hx=> ?_,fun i x g' c' hx hl' he'=> ?_,fun i j r1 r2 g' c1 c2 h1 h2 l1 l2 e1 e2=> ?_⟩,hev⟩
 ·exact ⟨h.keep.os,h.keep.tape,h.keep.output,by simpa[World.setRow]using h.keep.size,fun k hk hn=>(setRow_other w g k _ (by rintro rfl; rcases hown.1 with h1 | h1; exact hn h1; omega)).trans (h.keep.block k hk hn)⟩
 ·rcases hget i x hx with ⟨rfl,rfl⟩ | ⟨hne,hx⟩
  ·exact hrel hev
  ·refine RRel.ev hev (h.live_lt hx) (fun hl' g' c' he'=>setRow_other w g g' _ ?_) (h.reg i x hx)
   rintro rfl
   exact hne (h.inj i id x r _ c' c hx hr hl' hl he' he)
 ·rcases hget i x hx with ⟨rfl,rfl⟩ | ⟨_,hx⟩
  ·have:=h.own i r g' c' hr hl he'
   exact ⟨this.1,by simpa[World.setRow]using this.2⟩
  ·have:=h.own i x g' c' hx hl' he'
   exact ⟨this.1,by simpa[World.setRow]using this.2⟩
 ·rcases hget i r1 h1 with ⟨hi,_⟩ | ⟨_,k1⟩<;>rcases hget j r2 h2 with ⟨hj,_⟩ | ⟨_,k2⟩
  ·exact hi.trans hj.symm
  ·subst hi; exact h.inj i j r r2 g' c1 c2 hr k2 hl l2 e1 e2
  ·subst hj; exact h.inj i j r1 r g' c1 c2 k1 hr l1 hl e1 e2
  ·exact h.inj i j r1 r2 g' c1 c2 k1 k2 l1 l2 e1 e2
theorem RS.turn(h:RS P w0 w fps base env regs){id g c:Nat}{r r':Reg}(hr:regs[id]?=some r)(hl:r.live=true)(he:env.f id=some (g,c))(ho1:w'.os=w.os)(ho2:w'.tape=w.tape)(ho3:w'.output=w.output)(hs:w'.heap.size=w.heap.size)(hot:∀b,b≠g→w'.heap[b]?=w.heap[b]?)
  (hr':r'.live=true) (hrel:Ev w env (W04 base env regs) w' env (W04 base env (regs.set id r'))→RRel P w' env (W04 base env (regs.set id r')) id r'):
  RS P w0 w' fps base env (regs.set id r')∧Ev w env (W04 base env regs) w' env (W04 base env (regs.set id r')):=by
 have hlt:id<regs.length:=(Z3.1 hr).1
 have hget:∀i x,(regs.set id r')[i]?=some x→i=id∧x=r'∨i≠id∧regs[i]?=some x:=by
  intro i x hx
  rw[Xc]at hx
  split at hx
  ·rename_i hi
   cases hx
   exact .inl ⟨hi.symm,rfl⟩
  ·rename_i hi
   exact .inr ⟨fun e=>hi e.symm,hx⟩
 have hsub:∀b,W04 base env (regs.set id r') b→W04 base env regs b:=by
  intro b hx
  rcases hx with hx | ⟨i,x,c',hx,hl',he'⟩
  ·exact .inl hx
  ·rcases hget i x hx with ⟨rfl,rfl⟩ | ⟨_,hx⟩
   ·exact .inr ⟨i,r,c',hr,hl,he'⟩
   ·exact .inr ⟨i,x,c',hx,hl',he'⟩
 have hown:=h.own id r g c hr hl he
 have hbg:W04 base env regs g:=RS.bad_live hr hl he
 have hsame:Same (W04 base env regs) w w':=⟨by rw[hs]; exact Z8 _,fun b _ hn=>hot b (fun e=>hn (e▸hbg))⟩
 have hev:Ev w env (W04 base env regs) w' env (W04 base env (regs.set id r')):=⟨hsame,fun b _=>hsub b,Env.le_refl _⟩
 refine ⟨⟨?_,h.base_lt,by simp[h.len],fun i x hx=> ?_,fun i x g' c' hx hl' he'=> ?_,fun i j r1 r2 g' c1 c2 h1 h2 l1 l2 e1 e2=> ?_⟩,hev⟩
 ·exact ⟨ho1.trans h.keep.os,ho2.trans h.keep.tape,ho3.trans h.keep.output,by rw[hs]; exact h.keep.size,fun k hk hn=>(hot k (by rintro rfl; rcases hown.1 with h1 | h1; exact hn h1; omega)).trans (h.keep.block k hk hn)⟩
 ·rcases hget i x hx with ⟨rfl,rfl⟩ | ⟨hne,hx⟩
  ·exact hrel hev
  ·refine RRel.ev hev (h.live_lt hx) (fun hl' g' c' he'=>hot g' ?_) (h.reg i x hx)
   rintro rfl
   exact hne (h.inj i id x r _ c' c hx hr hl' hl he' he)
 ·rcases hget i x hx with ⟨rfl,rfl⟩ | ⟨_,hx⟩
  ·have:=h.own i r g' c' hr hl he'
   exact ⟨this.1,by rw[hs]; exact this.2⟩
  ·have:=h.own i x g' c' hx hl' he'
   exact ⟨this.1,by rw[hs]; exact this.2⟩
 ·rcases hget i r1 h1 with ⟨hi,_⟩ | ⟨_,k1⟩<;>rcases hget j r2 h2 with ⟨hj,_⟩ | ⟨_,k2⟩
  ·exact hi.trans hj.symm
  ·subst hi; exact h.inj i j r r2 g' c1 c2 hr k2 hl l2 e1 e2
  ·subst hj; exact h.inj i j r1 r g' c1 c2 k1 hr l1 hl e1 e2
  ·exact h.inj i j r1 r2 g' c1 c2 k1 k2 l1 l2 e1 e2
end
structure St where
 slots:List (Nat×AV)
 regs:List Reg
inductive AX where
 | t (n:Nat)
 | k (x:Value)
 | f (i:Nat)
def St.ev(s:St):AX→AV
 | .t n=>lk s.slots n
 | .k x=> .c (.p (.v x))
 | .f i=> .c (.fn (.func i) [] [])
def St.put(s:St):Option Nat→AV→St
 | some d,v=>⟨(d,v)::s.slots,s.regs⟩
 | none,_=>s
def St.putr(s:St)(d:Option Nat)(v:AV)(regs:List Reg):St:=St.put ⟨s.slots,regs⟩ d v
inductive XOp where
 | mkmap
 | look (kk:Bool×List IntKind) (zero:PW) (ok:Bool)
 | upd (kk:Bool×List IntKind)
 | mlen
 | nilq (k:Nat) (neg:Bool)
 | mkch (bytes:Nat)
 | chlen
 | chcap
 | subs (hl hh:Bool)
 | clr (sz:Nat)
inductive AOp where
 | x (d:Option Nat) (k:XOp) (args:List AX)
 | mv (d:Option Nat) (x:AX)
 | bin (d:Option Nat) (op:BinOp) (x y:AX)
 | eqs (d:Option Nat) (neg:Bool) (t:Nat) (ks:List IntKind) (x y:AX)
 | beq (d:Option Nat) (neg:Bool) (x y:AX)
 | pick (d:Option Nat) (c a b:AX)
 | un (d:Option Nat) (op:UnOp) (x:AX)
 | cvi (d:Option Nat) (k:IntKind) (x:AX)
 | b2s (d:Option Nat) (x:AX)
 | alloc (d:Option Nat) (zs:List Value)
 | allocA (d:Option Nat) (sz n:Nat) (z:List Value)
 | box (d:Option Nat) (x:AX)
 | build (d:Option Nat) (zs:List Value) (parts:List (Nat×Nat×AX))
 | bsl (d:Option Nat) (sz len:Nat) (z:List Value) (parts:List (Nat×AX))
 | load (d:Option Nat) (n:Nat) (agg:Bool) (x:AX)
 | store (n:Nat) (a x:AX)
 | nilc (d:Option Nat) (x:AX)
 | fad (d:Option Nat) (off:Nat) (x:AX)
 | fld (d:Option Nat) (off n:Nat) (agg:Bool) (x:AX)
 | ixs (d:Option Nat) (sz:Nat) (x i:AX)
 | ixa (d:Option Nat) (len sz:Nat) (x i:AX)
 | ixv (d:Option Nat) (len sz:Nat) (agg:Bool) (x i:AX)
 | ixt (d:Option Nat) (x i:AX)
 | sls (d:Option Nat) (sz:Nat) (x:AX) (lo hi mx:Option AX)
 | sla (d:Option Nat) (n sz:Nat) (x:AX) (lo hi mx:Option AX)
 | mks (d:Option Nat) (sz bytes:Nat) (z:List Value) (len cap:AX)
 | mkf (d:Option Nat) (f:Fn) (first captured:List AX)
 | ext (d:Option Nat) (x:AX) (i:Nat)
 | len (d:Option Nat) (x:AX)
 | lens (d:Option Nat) (x:AX)
 | mm (d:Option Nat) (mx:Bool) (x y:AX)
 | app (d:Option Nat) (sz bytes:Nat) (s x:AX)
 | call (d:Option Nat) (f:Nat) (args:List AX)
 | callv (d:Option Nat) (x:AX) (args:List AX)
 | cally (d:Option Nat) (x:AX) (args:List AX)
def AOp.dst:AOp→Option Nat
 | .x d _ _ | .mv d _ | .bin d _ _ _ | .eqs d _ _ _ _ _ | .beq d _ _ _ | .pick d _ _ _ | .un d _ _ | .cvi d _ _ | .b2s d _ | .alloc d _ | .allocA d _ _ _ | .box d _ | .build d _ _ | .bsl d _ _ _ _
 | .load d _ _ _ | .nilc d _ | .fad d _ _ | .fld d _ _ _ _ | .ixs d _ _ _ | .ixa d _ _ _ _ | .ixv d _ _ _ _ _ | .ixt d _ _ | .sls d _ _ _ _ _ | .sla d _ _ _ _ _ _ | .mks d _ _ _ _ _
 | .mkf d _ _ _ | .ext d _ _ | .len d _ | .lens d _ | .mm d _ _ _ | .app d _ _ _ _ | .call d _ _ | .callv d _ _ | .cally d _ _=>d
 | .store _ _ _=>none
def binW(op:BinOp)(x y:Value)(K:Value→Prop):Prop:=
 match op,x,y with
 | .add,.int k a,.int k' b=>k=k'∧K (.int k (k.wrap (a+b)))
 | .sub,.int k a,.int k' b=>k=k'∧K (.int k (k.wrap (a-b)))
 | .mul,.int k a,.int k' b=>k=k'∧K (.int k (k.wrap (a*b)))
 | .quo,.int k a,.int k' b=>k=k'∧b≠0∧K (.int k (k.wrap (a.tdiv b)))
 | .rem,.int k a,.int k' b=>k=k'∧b≠0∧K (.int k (a.tmod b))
 | .and,.int k a,.int k' b=>k=k'∧K (.int k (bits .and k a b))
 | .or,.int k a,.int k' b=>k=k'∧K (.int k (bits .or k a b))
 | .xor,.int k a,.int k' b=>k=k'∧K (.int k (bits .xor k a b))
 | .andNot,.int k a,.int k' b=>k=k'∧K (.int k (bits .andNot k a b))
 | .eql,.int k a,.int k' b=>k=k'∧K (.bool (decide (a=b)))
 | .neq,.int k a,.int k' b=>k=k'∧K (.bool (!decide (a=b)))
 | .lss,.int k a,.int k' b=>k=k'∧K (.bool (decide (a<b)))
 | .leq,.int k a,.int k' b=>k=k'∧K (.bool (decide (a≤b)))
 | .gtr,.int k a,.int k' b=>k=k'∧K (.bool (decide (b<a)))
 | .geq,.int k a,.int k' b=>k=k'∧K (.bool (decide (b≤a)))
 | .shl,.int k a,.int _ b=>0≤b∧K (.int k (k.wrap (a*2^(min b.toNat k.bits))))
 | .shr,.int k a,.int _ b=>0≤b∧K (.int k (a/2^(min b.toNat k.bits)))
 | .add,.string a,.string b=>((a.size+b.size:Nat):Int)≤9223372036854775807∧K (.string (a++b))
 | .eql,.string a,.string b=>K (.bool (a.toList==b.toList))
 | .neq,.string a,.string b=>K (.bool (!(a.toList==b.toList)))
 | _,_,_=>False
def W2f:List IntKind→List AC→Option (List Int)
 | [],[]=>some []
 | k::ks,.p (.v (.int k' n))::r=>if k=k' then (W2f ks r).map (n:: ·)else none
 | _,_=>none
def W0v(ks:List IntKind)(ns:List Int):List Value:=List.zipWith Value.int ks ns
def EqOk(P:Program)(t:Nat)(ks:List IntKind):Prop:=
 P.eqGuardType P.depth t=false∧∀(w:World) (as bs:List Int),as.length=ks.length→bs.length=ks.length→
  (Op.equal t (.agg (W0v ks as).toArray) (.agg (W0v ks bs).toArray)).run P w= .ok (decide (as=bs)) w
def W00:AV→Option Bool
 | .c (.p (.v (.bool b)))=>some b
 | _=>none
def W0m:AV→Option (IntKind×Int)
 | .c (.p (.v (.int k n)))=>some (k,n)
 | _=>none
def W33:AV→Option Value
 | .c (.p (.v x))=>some x
 | _=>none
def cellsOf:AV→Option (List AC)
 | .c x=>if x.known then some [x]else none
 | .agg l=>some l
 | .tup _=>none
def W1g:List AC→Option (List PV)
 | []=>some []
 | .p x::r=>(W1g r).map (x:: ·)
 | _::_=>none
def faOf:AV→Option FA
 | .c (.p x)=>some (.p x)
 | .c (.ptr id off)=>some (.ptr id off)
 | _=>none
def W0h{α β:Type}(f:α→Option β):List α→Option (List β)
 | []=>some []
 | a::l=>(f a).bind fun b=>(W0h f l).map (b:: ·)
def avFA:FA→AV
 | .p x=> .c (.p x)
 | .ptr id off=> .c (.ptr id off)
def W1i:AV→Option Nat
 | .c (.p (.sl _ l))=>some l.length
 | .c (.tight _ l)=>some l.length
 | .c (.own _ _ _ len _)=>some len
 | .c (.p (.v (.slice none 0 0)))=>some 0
 | _=>none
def pack(agg:Bool)(l:List AC):Option AV:=
 if agg then (if l.all AC.known then some (.agg l)else none)else match l with
  | [x]=>some (.c x)
  | _=>none
def W7w:List AC→List (Nat×Nat×AV)→Option (List AC)
 | cells,[]=>some cells
 | cells,(off,sz,v)::r=>(cellsOf v).bind fun xs=>if xs.length=sz∧off+sz≤cells.length then W7w (cells.take off++xs++cells.drop (off+sz)) r else none
def Wct(sz:Nat):List (List PV)→List (Nat×AV)→Option (List (List PV))
 | ls,[]=>some ls
 | ls,(i,v)::r=>(cellsOf v).bind fun xs=>(W1g xs).bind fun ps=>if ps.length=sz∧i<ls.length then Wct sz (ls.set i ps) r else none
def W1v(sz:Nat):Nat→List PV→List (List PV)
 | 0,_=>[]
 | n+1,l=>l.take sz::W1v sz n (l.drop sz)
def W17:Option AV→Nat→Option Int
 | none,n=>some n
 | some v,_=>(W0m v).map (·.2)
def W15(regs:List Reg):AV→Option (List (List PV))
 | .c (.p (.sl _ l))=>some l
 | .c (.tight _ l)=>some l
 | .c (.p (.v (.slice none 0 0)))=>some []
 | .c (.own id off sz len _)=>match regs[id]? with
  | some (.pc sz' ls)=>if sz'=sz then some ((ls.drop off).take len)else none
  | _=>none
 | _=>none
def szOf:AV→Option Nat
 | .c (.p (.sl sz _))=>some sz
 | .c (.tight sz _)=>some sz
 | .c (.own _ _ sz _ _)=>some sz
 | _=>none
def FnOk(P:Program)(f:Nat):Prop:=∃fn,P.funcs[f]?=some fn∧(fn.name== "runtime.NumGoroutine")=false∧fn.body.isSome=true
def FS(P:Program)(f:Nat)(args:List AV)(regs:List Reg)(K:AV→List Reg→Prop):Prop:=
 FnOk P f∧∀(w:World) (fps:List Nat) (base:Nat→Prop) (env:Env) (vs:List Value),RS P w w fps base env regs→All2 (VRel w env (W04 base env regs)) args vs→
  Calls P f vs.toArray w fun e w'=>∃v res regs' env',e= .returned v∧K res regs'∧RS P w w' fps base env' regs'∧VRel w' env' (W04 base env' regs') res v∧Ev w env (W04 base env regs) w' env' (W04 base env' regs')
theorem FS.mono{P:Program}{f:Nat}{args:List AV}{regs:List Reg}{K K':AV→List Reg→Prop}(h:FS P f args regs K)(hk:∀r rg,K r rg→K' r rg):FS P f args regs K':=
 ⟨h.1,fun w fps base env vs h1 h2=>(h.2 w fps base env vs h1 h2).mono fun _ _ ⟨v,res,regs',env',e,k,r⟩=>⟨v,res,regs',env',e,hk _ _ k,r⟩⟩
def Fw(ro:Option Nat):Fence:={fn:=fun _=>True,depth:=none,alive:=false,round:=ro}
def YS(P:Program)(id:Nat)(args:List AV)(regs:List Reg)(K:AV→List Reg→Prop):Prop:=
 ∀(w:World) (fps:List Nat) (base:Nat→Prop) (env:Env) (vs:List Value),RS P w w fps base env regs→All2 (VRel w env (W04 base env regs)) args vs→∀l c,env.f id=some (l,c)→
  ∃f tmps asg body,(Instr.yield l vs.toArray).run P w= .ok (.round l f tmps asg body) w∧∀ro n,RoundIn (Fw ro) n P l f tmps asg body w fun e w'=>
   ∃v res regs' env',e= .returned v∧K res regs'∧RS P w w' fps base env' regs'∧VRel w' env' (W04 base env' regs') res v∧Ev w env (W04 base env regs) w' env' (W04 base env' regs')
theorem YS.mono{P:Program}{id:Nat}{args:List AV}{regs:List Reg}{K K':AV→List Reg→Prop}(h:YS P id args regs K)(hk:∀r rg,K r rg→K' r rg):YS P id args regs K':=
 fun w fps base env vs h1 h2 l c hl=>by
  obtain ⟨f,tmps,asg,body,hy,hr⟩:=h w fps base env vs h1 h2 l c hl
  exact ⟨f,tmps,asg,body,hy,fun ro n=>(hr ro n).mono fun _ _ ⟨v,res,regs',env',e,k,r⟩=>⟨v,res,regs',env',e,hk _ _ k,r⟩⟩
def upL(ls:List (List PV)):List (List AC):=ls.map fun l=>l.map AC.p
def esOf:Reg→Option (Nat×List (List AC))
 | .pc sz ls=>some (sz,upL ls)
 | .es sz ls=>some (sz,ls)
 | _=>none
def elemsX(regs:List Reg):AV→Option (List (List AC))
 | .c (.own id off sz len _)=>match (regs[id]?).bind esOf with
  | some (sz',ls)=>if sz'=sz then some ((ls.drop off).take len)else none
  | none=>none
 | v=>(W15 regs v).map upL
def Wcu(sz:Nat):List (List AC)→List (Nat×AV)→Option (List (List AC))
 | ls,[]=>some ls
 | ls,(i,v)::r=>(cellsOf v).bind fun xs=>if xs.length=sz∧i<ls.length then Wcu sz (ls.set i xs) r else none
def Wa7(n sz i j:Nat)(xs:List AC)(ls:List (List AC))(K:List (List AC)→Prop):Prop:=
 ∃c,ls[i]?=some c∧xs.length=n∧j+n≤sz∧K (ls.set i (c.take j++xs++c.drop (j+n)))
def appW(regs:List Reg)(vx vy:AV)(sz bytes:Nat)(K:AV→List Reg→Prop):Prop:=
 match W15 regs vy,W1i vy with
 | some ls,some n=>n=ls.length∧(szOf vy=none∨szOf vy=some sz)∧match vx with
  | .c (.p (.v (.slice none 0 0)))=>n≤140737488355328∧n*bytes≤140737488355328∧K (.c (.own regs.length 0 sz n .free)) (regs++[.pc sz ls])
  | .c (.own id 0 sz' len .free)=>match regs[id]? with
   | some (.pc sz'' old)=>sz=sz'∧sz=sz''∧len≤old.length∧len+n≤140737488355328∧(len+n)*bytes≤140737488355328∧
     K (.c (.own regs.length 0 sz (len+n) .free)) (regs.set id .dead++[.pc sz (old.take len++ls)])
   | _=>False
  | .c (.own id off sz' len (.ex k))=>match regs[id]? with
   | some (.pc sz'' old)=>sz=sz'∧sz=sz''∧off+len≤old.length∧k<len+n∧len+n≤140737488355328∧(len+n)*bytes≤140737488355328∧
     K (.c (.own regs.length 0 sz (len+n) .free)) (regs++[.pc sz ((old.drop off).take len++ls)])
   | _=>False
  | .c (.tight sz' old)=>sz=sz'∧((0<n∧old.length+n≤140737488355328∧(old.length+n)*bytes≤140737488355328∧
     K (.c (.own regs.length 0 sz (old.length+n) .free)) (regs++[.pc sz (old++ls)]))∨(n=0∧K (.c (.tight sz' old)) regs))
  | _=>False
 | _,_=>False
def appE(regs:List Reg)(vx vy:AV)(sz bytes:Nat)(K:AV→List Reg→Prop):Prop:=
 match elemsX regs vy,W1i vy with
 | some ls,some n=>n=ls.length∧(szOf vy=none∨szOf vy=some sz)∧match vx with
  | .c (.p (.v (.slice none 0 0)))=>n≤140737488355328∧n*bytes≤140737488355328∧K (.c (.own regs.length 0 sz n .free)) (regs++[.es sz ls])
  | .c (.own id 0 sz' len .free)=>match (regs[id]?).bind esOf with
   | some (sz'',old)=>sz=sz'∧sz=sz''∧len≤old.length∧len+n≤140737488355328∧(len+n)*bytes≤140737488355328∧
     K (.c (.own regs.length 0 sz (len+n) .free)) (regs.set id .dead++[.es sz (old.take len++ls)])
   | _=>False
  | .c (.own id off sz' len (.ex k))=>match (regs[id]?).bind esOf with
   | some (sz'',old)=>sz=sz'∧sz=sz''∧off+len≤old.length∧k<len+n∧len+n≤140737488355328∧(len+n)*bytes≤140737488355328∧
     K (.c (.own regs.length 0 sz (len+n) .free)) (regs++[.es sz ((old.drop off).take len++ls)])
   | _=>False
  | _=>False
 | _,_=>False
def pwAV:PW→AV
 | (true,l)=> .agg (l.map .p)
 | (false,[x])=> .c (.p x)
 | (false,_)=> .c .any
def avPW:AV→Option PW
 | .agg l=>(W1g l).map fun ps=>(true,ps)
 | .c (.p x)=>some (false,[x])
 | _=>none
def W27(kk:Bool×List IntKind):PW→Option (List Int)
 | (true,l)=>if kk.1=true then W2f kk.2 (l.map .p)else none
 | (false,[.v (.int k n)])=>if kk=(false,[k])then some [n]else none
 | _=>none
def kEq(kk:Bool×List IntKind)(us:List Int)(p:PW×PW):Bool:=decide (W27 kk p.1=some us)
def W79(kk:Bool×List IntKind)(us:List Int)(l:List (PW×PW)):Option PW:=(l.find? (kEq kk us)).map (·.2)
def W7a(kk:Bool×List IntKind)(us:List Int)(key val:PW)(l:List (PW×PW)):List (PW×PW):=
 if l.any (kEq kk us)=true then l.map (fun p=>if kEq kk us p=true then (key,val)else p)else l++[(key,val)]
def Wa8(kk:Bool×List IntKind)(l:List (PW×PW)):Prop:=(∀p∈l,(W27 kk p.1).isSome=true)∧l.Pairwise (fun p q=>W27 kk p.1≠W27 kk q.1)
def W4g:Nat→AV→Option Bool
 | 0,.c (.ptr _ _) | 0,.c (.ept _ _ _ _) | 0,.c (.rp _)=>some false
 | 0,.c (.p (.v (.pointer none)))=>some true
 | 1,.c (.p (.sl _ (_::_))) | 1,.c (.tight _ (_::_)) | 1,.c (.own _ _ _ (_+1) _)=>some false
 | 1,.c (.p (.v (.slice none 0 0)))=>some true
 | 2,.c (.hnd .mp _)=>some false
 | 2,.c (.p (.v (.map none)))=>some true
 | 3,.c (.hnd .ch _)=>some false
 | 3,.c (.p (.v (.chan none)))=>some true
 | 4,.c (.fn _ _ _)=>some false
 | 4,.c (.p (.v .nilFunc))=>some true
 | _,_=>none
def Wcv:Nat→AV→Bool
 | 1,.c (.p (.sl _ _))=>true
 | 1,.c (.own _ _ _ _ _)=>true
 | _,_=>false
def cutV(id off sz:Nat)(lo hi:Int)(cap:Cap):AC:=if lo=0∨lo<hi then .own id (off+lo.toNat) sz (hi.toNat-lo.toNat) (if lo=0 then cap else .unk)else .p (.sl sz [])
def Wsa:Bool→Bool→List AV→Option (Option AV×Option AV)
 | true,true,[l,h]=>some (some l,some h)
 | true,false,[l]=>some (some l,none)
 | false,true,[h]=>some (none,some h)
 | false,false,[]=>some (none,none)
 | _,_,_=>none
def xW(k:XOp)(args:List AV)(regs:List Reg)(K:AV→List Reg→Prop):Prop:=
 match k,args with
 | .mkmap,[]=>K (.c (.hnd .mp regs.length)) (regs++[.ob (.mp [])])
 | .look ks z ok,[m,key]=>match (avPW key).bind (W27 ks),m with
  | some _,.c (.p (.v (.map none)))=>K (if ok then .tup [pwAV z,.c (.p (.v (.bool false)))]else pwAV z) regs
  | some us,.c (.hnd .mp id)=>match regs[id]? with
   | some (.ob (.mp l))=>Wa8 ks l∧match W79 ks us l with
    | some v=>K (if ok then .tup [pwAV v,.c (.p (.v (.bool true)))]else pwAV v) regs
    | none=>K (if ok then .tup [pwAV z,.c (.p (.v (.bool false)))]else pwAV z) regs
   | _=>False
  | _,_=>False
 | .upd ks,[m,key,val]=>match m,avPW key,avPW val with
  | .c (.hnd .mp id),some pk,some pv=>match regs[id]?,W27 ks pk with
   | some (.ob (.mp l)),some us=>Wa8 ks l∧K (.tup []) (regs.set id (.ob (.mp (W7a ks us pk pv l))))
   | _,_=>False
  | _,_,_=>False
 | .nilq k neg,[v]=>match W4g k v with
  | some b=>K (.c (.p (.v (.bool (if neg then !b else b))))) regs
  | none=>Wcv k v=true∧K (.c (.p (.v (.bool true)))) regs∧K (.c (.p (.v (.bool false)))) regs
 | .clr sz,[x]=>match x with
  | .c (.p (.sl _ []))=>K (.tup []) regs
  | .c (.own id off sz' len _)=>match regs[id]? with
   | some (.pc sz'' ls)=>sz=sz'∧sz=sz''∧off+len≤ls.length∧K (.tup []) (regs.set id (.pc sz (ls.take off)))
   | _=>False
  | _=>False
 | .mlen,[.c (.hnd .mp id)]=>match regs[id]? with
  | some (.ob (.mp l))=>K (.c (.p (.v (.int .i64 l.length)))) regs
  | _=>False
 | .mlen,[.c (.p (.v (.map none)))]=>K (.c (.p (.v (.int .i64 0)))) regs
 | .mkch bytes,[n]=>match W0m n with
  | some (_,n)=>0≤n∧n≤9223372036854775807∧bytes*n≤281474976710544∧K (.c (.hnd .ch regs.length)) (regs++[.ob (.ch n.toNat [])])
  | none=>False
 | .chlen,[.c (.hnd .ch id)]=>match regs[id]? with
  | some (.ob (.ch _ q))=>K (.c (.p (.v (.int .i64 q.length)))) regs
  | _=>False
 | .chcap,[.c (.hnd .ch id)]=>match regs[id]? with
  | some (.ob (.ch cap _))=>K (.c (.p (.v (.int .i64 cap)))) regs
  | _=>False
 | .chlen,[.c (.p (.v (.chan none)))] | .chcap,[.c (.p (.v (.chan none)))]=>K (.c (.p (.v (.int .i64 0)))) regs
 | .subs hl hh,x::r=>match W33 x,Wsa hl hh r with
  | some (.string b),some (lo,hi)=>match W17 lo 0,W17 hi b.size with
   | some l,some h=>0≤l∧l≤h∧h≤b.size∧K (.c (.p (.v (.string (b.extract l.toNat h.toNat))))) regs
   | _,_=>False
  | _,_=>False
 | _,_=>False
def opW(P:Program)(o:AOp)(s:St)(K:St→Prop):Prop:=
 match o with
 | .x d k args=>xW k (args.map s.ev) s.regs fun v regs'=>K (s.putr d v regs')
 | .mv d x=>K (s.put d (s.ev x))
 | .bin d op x y=>match W33 (s.ev x),W33 (s.ev y)with
  | some a,some b=>binW op a b fun v=>K (s.put d (.c (.p (.v v))))
  | _,_=>False
 | .eqs d neg t ks x y=>match s.ev x,s.ev y with
  | .agg l,.agg l'=>match W2f ks l,W2f ks l' with
   | some as,some bs=>EqOk P t ks∧K (s.put d (.c (.p (.v (.bool (if neg then !decide (as=bs)else decide (as=bs)))))))
   | _,_=>False
  | _,_=>False
 | .beq d neg x y=>match W00 (s.ev x),W00 (s.ev y)with
  | some a,some b=>K (s.put d (.c (.p (.v (.bool (if neg then !(a==b)else (a==b)))))))
  | _,_=>False
 | .pick d c a b=>match W00 (s.ev c)with
  | some t=>(t=true→K (s.put d (s.ev a)))∧(t=false→K (s.put d (s.ev b)))
  | none=>False
 | .un d op x=>match op,W33 (s.ev x)with
  | .not,some (.bool b)=>K (s.put d (.c (.p (.v (.bool (!b))))))
  | .neg,some (.int k n)=>K (s.put d (.c (.p (.v (.int k (k.wrap (0-n)))))))
  | _,_=>False
 | .cvi d k x=>match W0m (s.ev x)with
  | some (_,n)=>K (s.put d (.c (.p (.v (.int k (k.wrap n))))))
  | none=>False
 | .alloc d zs=>K (s.putr d (.c (.ptr s.regs.length 0)) (s.regs++[.ac (zs.map fun z=> .p (.v z))]))
 | .allocA d sz n z=>K (s.putr d (.c (.ept s.regs.length sz 0 0)) (s.regs++[.pc sz (List.replicate n (z.map .v))]))
 | .box d x=>match cellsOf (s.ev x)with
  | some l=>K (s.putr d (.c (.ptr s.regs.length 0)) (s.regs++[.ac l]))
  | none=>False
 | .nilc d x=>match s.ev x with
  | .c (.ptr id off)=>K (s.put d (.c (.ptr id off)))
  | .c (.ept id sz i j)=>K (s.put d (.c (.ept id sz i j)))
  | .c (.rp l)=>K (s.put d (.c (.rp l)))
  | _=>False
 | .fad d off x=>match s.ev x with
  | .c (.ptr id o)=>K (s.put d (.c (.ptr id (o+off))))
  | .c (.ept id sz i j)=>K (s.put d (.c (.ept id sz i (j+off))))
  | .c (.rp l)=>K (s.put d (.c (.rp (l.drop off))))
  | _=>False
 | .fld d off n agg x=>match s.ev x with
  | .agg l=>∃v,off+n≤l.length∧pack agg ((l.drop off).take n)=some v∧K (s.put d v)
  | _=>False
 | .load d n agg x=>match s.ev x with
  | .c (.ptr id off)=>match s.regs[id]? with
   | some (.ac l)=>∃v,off+n≤l.length∧pack agg ((l.drop off).take n)=some v∧K (s.put d v)
   | _=>False
  | .c (.ept id sz i j)=>match s.regs[id]? with
   | some (.pc sz' ls)=>sz=sz'∧∃c v,ls[i]?=some c∧j+n≤sz∧pack agg (((c.drop j).take n).map .p)=some v∧K (s.put d v)
   | some (.es sz' ls)=>sz=sz'∧∃c v,ls[i]?=some c∧j+n≤sz∧pack agg ((c.drop j).take n)=some v∧K (s.put d v)
   | _=>False
  | .c (.rp l)=>∃v,n≤l.length∧pack agg ((l.take n).map .p)=some v∧K (s.put d v)
  | _=>False
 | .store n a x=>match s.ev a,cellsOf (s.ev x)with
  | .c (.ptr id off),some xs=>match s.regs[id]? with
   | some (.ac l)=>xs.length=n∧off+n≤l.length∧K ⟨s.slots,s.regs.set id (.ac (l.take off++xs++l.drop (off+n)))⟩
   | _=>False
  | .c (.ept id sz i j),some xs=>match s.regs[id]? with
   | some (.pc sz' ls)=>sz=sz'∧((∃c ps,ls[i]?=some c∧W1g xs=some ps∧ps.length=n∧j+n≤sz∧K ⟨s.slots,s.regs.set id (.pc sz (ls.set i (c.take j++ps++c.drop (j+n))))⟩)∨
     Wa7 n sz i j xs (upL ls) fun l=>K ⟨s.slots,s.regs.set id (.es sz l)⟩)
   | some (.es sz' ls)=>sz=sz'∧Wa7 n sz i j xs ls fun l=>K ⟨s.slots,s.regs.set id (.es sz l)⟩
   | _=>False
  | _,_=>False
 | .ixs d sz x i=>match W0m (s.ev i),s.ev x with
  | some (_,i),.c (.p (.sl sz' l))=>sz=sz'∧0≤i∧∃c,l[i.toNat]?=some c∧K (s.put d (.c (.rp c)))
  | some (_,i),.c (.own id off sz' len _)=>sz=sz'∧0≤i∧i<len∧K (s.put d (.c (.ept id sz (off+i.toNat) 0)))
  | _,_=>False
 | .ixa d len sz x i=>match W0m (s.ev i),s.ev x with
  | some (_,i),.c (.ept id sz' a 0)=>sz=sz'∧0≤i∧i<len∧K (s.put d (.c (.ept id sz (a+i.toNat) 0)))
  | some (_,i),.c (.ptr id off)=>0≤i∧i<len∧K (s.put d (.c (.ptr id (off+i.toNat*sz))))
  | some (_,i),.c (.rp l)=>0≤i∧i<len∧K (s.put d (.c (.rp (l.drop (i.toNat*sz)))))
  | _,_=>False
 | .len d x=>match W1i (s.ev x)with
  | some n=>K (s.put d (.c (.p (.v (.int .i64 n)))))
  | none=>False
 | .build d zs parts=>match W7w (zs.map fun z=> .p (.v z)) (parts.map fun (off,sz,x)=>(off,sz,s.ev x))with
  | some l=>K (s.put d (.agg l))
  | none=>False
 | .bsl d sz len z parts=>match Wct sz (List.replicate len (z.map .v)) (parts.map fun (i,x)=>(i,s.ev x))with
  | some ls=>K (s.putr d (.c (.own s.regs.length 0 sz len .free)) (s.regs++[.pc sz ls]))
  | none=>match Wcu sz (upL (List.replicate len (z.map .v))) (parts.map fun (i,x)=>(i,s.ev x))with
   | some ls=>K (s.putr d (.c (.own s.regs.length 0 sz len .free)) (s.regs++[.es sz ls]))
   | none=>False
 | .ixv d len sz agg x i=>match W0m (s.ev i),s.ev x with
  | some (_,i),.agg l=>0≤i∧i<len∧∃v,i.toNat*sz+sz≤l.length∧pack agg ((l.drop (i.toNat*sz)).take sz)=some v∧K (s.put d v)
  | _,_=>False
 | .ixt d x i=>match W0m (s.ev i),W33 (s.ev x)with
  | some (_,i),some (.string b)=>0≤i∧∃h:i.toNat<b.size,K (s.put d (.c (.p (.v (.int .u8 (b[i.toNat]'h).toNat)))))
  | _,_=>False
 | .mm d mx x y=>match W0m (s.ev x),W0m (s.ev y)with
  | some (k,a),some (_,b)=>K (s.put d (.c (.p (.v (.int k (if mx then (if a<b then b else a)else (if b<a then b else a)))))))
  | _,_=>False
 | .sls d sz x lo hi mx=>match s.ev x with
  | .c (.p (.sl sz' l))=>match W17 (lo.map s.ev) 0,W17 (hi.map s.ev) l.length,mx.map s.ev with
   | some lo,some hi,none=>sz=sz'∧0≤lo∧lo≤hi∧hi≤l.length∧K (s.put d (.c (.p (.sl sz ((l.take hi.toNat).drop lo.toNat)))))
   | some lo,some hi,some m=>sz=sz'∧0≤lo∧lo≤hi∧hi≤l.length∧(W0m m).map (·.2)=some hi∧K (s.put d (.c (.tight sz ((l.take hi.toNat).drop lo.toNat))))
   | _,_,_=>False
  | .c (.own id off sz' len cap)=>match W17 (lo.map s.ev) 0,W17 (hi.map s.ev) len,mx.map s.ev with
   | some lo,some hi,none=>sz=sz'∧0≤lo∧lo≤hi∧hi≤len∧(lo=0∨lo<hi∨0<sz)∧K (s.put d (.c (cutV id off sz lo hi cap)))
   | some lo,some hi,some m=>sz=sz'∧0≤lo∧lo≤hi∧hi≤len∧(lo=0∨lo<hi)∧(W0m m).map (·.2)=some hi∧K (s.put d (.c (.own id (off+lo.toNat) sz (hi.toNat-lo.toNat) (.ex (hi.toNat-lo.toNat)))))
   | _,_,_=>False
  | .c (.p (.v (.slice none 0 0)))=>match W17 (lo.map s.ev) 0,W17 (hi.map s.ev) 0,mx.map s.ev with
   | some lo,some hi,none=>lo=0∧hi=0∧K (s.put d (.c (.p (.v (.slice none 0 0)))))
   | some lo,some hi,some m=>lo=0∧hi=0∧(W0m m).map (·.2)=some hi∧K (s.put d (.c (.p (.v (.slice none 0 0)))))
   | _,_,_=>False
  | _=>False
 | .sla d n sz x lo hi mx=>match s.ev x,mx with
  | .c (.ept id sz' i 0),none=>match W17 (lo.map s.ev) 0,W17 (hi.map s.ev) n with
   | some lo,some hi=>sz=sz'∧0≤lo∧lo≤hi∧hi≤n∧(lo=0∨lo<hi)∧K (s.put d (.c (.own id (i+lo.toNat) sz (hi.toNat-lo.toNat) (.ex (n-lo.toNat)))))
   | _,_=>False
  | .c (.rp l),none=>match W17 (lo.map s.ev) 0,W17 (hi.map s.ev) n with
   | some lo,some hi=>lo=0∧0≤hi∧hi≤n∧0<sz∧n≤9223372036854775807∧n*sz≤l.length∧K (s.put d (.c (.p (.sl sz (W1v sz hi.toNat l)))))
   | _,_=>False
  | _,_=>False
 | .mks d sz bytes z len cap=>match W0m (s.ev len),W0m (s.ev cap)with
  | some (_,n),some (_,c)=>0≤n∧n≤c∧c≤140737488355328∧c*bytes≤140737488355328∧K (s.putr d (.c (.own s.regs.length 0 sz n.toNat .free)) (s.regs++[.pc sz (List.replicate n.toNat (z.map .v))]))
  | _,_=>False
 | .app d sz bytes x y=>appW s.regs (s.ev x) (s.ev y) sz bytes (fun v rg=>K (s.putr d v rg))∨appE s.regs (s.ev x) (s.ev y) sz bytes (fun v rg=>K (s.putr d v rg))
 | .b2s d x=>match W15 s.regs (s.ev x),W1i (s.ev x)with
  | some ls,some n=>n=ls.length∧(szOf (s.ev x)=none∨szOf (s.ev x)=some 1)∧∃bs:List Int,ls=bs.map (fun b=>[.v (.int .u8 b)])∧K (s.put d (.c (.p (.v (.string ⟨(bs.map fun b=>UInt8.ofNat b.toNat).toArray⟩)))))
  | _,_=>False
 | .lens d x=>match W33 (s.ev x)with
  | some (.string b)=>K (s.put d (.c (.p (.v (.int .i64 b.size)))))
  | _=>False
 | .ext d x i=>match s.ev x with
  | .tup l=>∃v,l[i]?=some v∧K (s.put d v)
  | _=>False
 | .mkf d f first captured=>match W0h (fun x=>faOf (s.ev x)) first,W0h (fun x=>faOf (s.ev x)) captured with
  | some a,some b=>K (s.put d (.c (.fn f a b)))
  | _,_=>False
 | .call d f args=>FS P f (args.map s.ev) s.regs fun res regs'=>K (s.putr d res regs')
 | .cally d x args=>match s.ev x with
  | .c (.fn (.func f) a b)=>FS P f (a.map avFA++args.map s.ev++b.map avFA) s.regs fun res regs'=>K (s.putr d res regs')
  | .c (.hnd .yl id)=>YS P id (args.map s.ev) s.regs fun res regs'=>K (s.putr d res regs')
  | _=>False
 | .callv d x args=>match s.ev x with
  | .c (.fn (.func f) a b)=>FS P f (a.map avFA++args.map s.ev++b.map avFA) s.regs fun res regs'=>K (s.putr d res regs')
  | _=>False
end Go.Sim
namespace Go.Sim
open Go.RowKit
def shape(P:Program):Nat→TypeId→Option (List IntKind)
 | 0,_=>none
 | d+1,t=>match P.underlying t with
  | some (.int q)=>some [q]
  | some (.struct fs)=>if P.stoodInHeld t then none else
    fs.toList.foldl (fun o f=>o.bind fun ks=>if f.name≠ "_" ∧f.offset=ks.length then (shape P d f.type).bind fun q=>if P.cellsOf f.type=q.length then some (ks++q)else none else none) (some [])
  | some (.array n e)=>(shape P d e).bind fun q=>if P.cellsOf e=q.length∧(P.info? e).isSome then some (List.replicate n q).flatten else none
  | _=>none
theorem W2m(ks:List IntKind)(us:List Int)(n:Nat):(W0v ks us).take n=W0v (ks.take n) (us.take n):=by simp[W0v,List.take_zipWith]
theorem W2n(ks:List IntKind)(us:List Int)(n:Nat):(W0v ks us).drop n=W0v (ks.drop n) (us.drop n):=by simp[W0v,List.drop_zipWith]
theorem Wh4(n:Nat)(us vs:List Int):us=vs↔us.take n=vs.take n∧us.drop n=vs.drop n:=
 ⟨fun h=>by simp[h],fun ⟨h,k⟩=>by rw[←X5 n us,←X5 n vs,h,k]⟩
section
variable {P:Program}
def Wh5(P:Program)(dd:Nat)(t:TypeId)(ks:List IntKind):Prop:=
 ∀(w:World) (xs ys:Array Value) (off:Nat) (us vs:List Int),us.length=ks.length→vs.length=ks.length→(xs.toList.drop off).take ks.length=W0v ks us→(ys.toList.drop off).take ks.length=W0v ks vs→
  ∃a b,(part t xs off).run P w= .ok a w∧(part t ys off).run P w= .ok b w∧(Op.equalIn dd t a b).run P w= .ok (decide (us=vs)) w
theorem Wcw(w:World)(dd d:Nat)(IH:∀t ks,shape P d t=some ks→P.cellsOf t=ks.length→Wh5 P dd t ks)(xs ys:Array Value):∀(fs:List Field) (k0 ks:List IntKind),
  fs.foldl (fun o f=>o.bind fun ks=>if f.name≠ "_" ∧f.offset=ks.length then (shape P d f.type).bind fun q=>if P.cellsOf f.type=q.length then some (ks++q)else none else none) (some k0)=some ks→
  ∃k1,ks=k0++k1∧∀us vs:List Int,us.length=k1.length→vs.length=k1.length→xs.toList.drop k0.length=W0v k1 us→ys.toList.drop k0.length=W0v k1 vs→(Op.eqFields dd xs ys fs).run P w= .ok (decide (us=vs)) w
 | [],k0,ks,h=>by
  simp only[List.foldl_nil,Yp]at h
  subst h
  refine ⟨[],by simp,fun us vs h1 h2 _ _=> ?_⟩
  obtain rfl:us=[]:=Z9 h1
  obtain rfl:vs=[]:=Z9 h2
  simp[Op.eqFields]
 | f::fs,k0,ks,h=>by
  have hnone:∀fs:List Field,fs.foldl (fun o f=>o.bind fun ks=>if f.name≠ "_" ∧f.offset=ks.length then (shape P d f.type).bind fun q=>if P.cellsOf f.type=q.length then some (ks++q)else none else none) (none:Option (List IntKind))=none:=by
   intro fs
   induction fs with
   | nil=>rfl
   | cons _ _ ih=>exact ih
  rw[Xe,Zn]at h
  split at h
  ·rename_i hc
   cases hq:shape P d f.type with
   | none=>rw[hq,Option.bind_none,hnone]at h; cases h
   | some q=>
    rw[hq,Zn]at h
    split at h
    ·rename_i hcell
     obtain ⟨k1,rfl,hk⟩:=Wcw w dd d IH xs ys fs (k0++q) ks h
     refine ⟨q++k1,by rw[Z6],fun us vs h1 h2 hx hy=> ?_⟩
     rw[Z5]at h1 h2
     have hx1:(xs.toList.drop f.offset).take q.length=W0v q (us.take q.length):=by rw[hc.2,hx,W2m]; simp
     have hy1:(ys.toList.drop f.offset).take q.length=W0v q (vs.take q.length):=by rw[hc.2,hy,W2m]; simp
     obtain ⟨a,b,p1,p2,p3⟩:=IH f.type q hq hcell w xs ys f.offset (us.take q.length) (vs.take q.length) (by simp; omega) (by simp; omega) hx1 hy1
     have hx2:xs.toList.drop (k0++q).length=W0v k1 (us.drop q.length):=by rw[Z5,←List.drop_drop,hx,W2n]; simp
     have hy2:ys.toList.drop (k0++q).length=W0v k1 (vs.drop q.length):=by rw[Z5,←List.drop_drop,hy,W2n]; simp
     have hr:=hk (us.drop q.length) (vs.drop q.length) (by simp; omega) (by simp; omega) hx2 hy2
     simp only[Op.eqFields,hc.1,ne_eq,not_false_eq_true,if_true,Yr,p1,p2,p3,Yl]
     have he:=Wh4 q.length us vs
     by_cases e1:us.take q.length=vs.take q.length
     ·simp only[e1,decide_true,Bool.not_true,Y6,if_false,hr]
      congr 1
      exact decide_eq_decide.2 ⟨fun h=>he.2 ⟨e1,h⟩,fun h=>(he.1 h).2⟩
     ·have:¬us=vs:=fun h=>e1 (he.1 h).1
      simp[e1,this]
    ·rw[hnone]at h; cases h
  ·rw[hnone]at h; cases h
theorem Wh6(w:World)(dd:Nat){e:TypeId}{q:List IntKind}(IH:Wh5 P dd e q)(hc:P.cellsOf e=q.length)(xs ys:Array Value):∀(n i:Nat) (us vs:List Int),
  us.length=(List.replicate n q).flatten.length→vs.length=(List.replicate n q).flatten.length→xs.toList.drop (i*q.length)=W0v (List.replicate n q).flatten us→ys.toList.drop (i*q.length)=W0v (List.replicate n q).flatten vs→
  (Op.eqItems dd e (P.cellsOf e) xs ys (List.range' i n)).run P w= .ok (decide (us=vs)) w
 | 0,i,us,vs,h1,h2,_,_=>by
  obtain rfl:us=[]:=Z9 (by simpa using h1)
  obtain rfl:vs=[]:=Z9 (by simpa using h2)
  simp[Op.eqItems]
 | n+1,i,us,vs,h1,h2,hx,hy=>by
  rw[Xt,List.flatten_cons]at h1 h2 hx hy
  rw[Z5]at h1 h2
  have hx1:(xs.toList.drop (i*P.cellsOf e)).take q.length=W0v q (us.take q.length):=by rw[hc,hx,W2m]; simp
  have hy1:(ys.toList.drop (i*P.cellsOf e)).take q.length=W0v q (vs.take q.length):=by rw[hc,hy,W2m]; simp
  obtain ⟨a,b,p1,p2,p3⟩:=IH w xs ys (i*P.cellsOf e) (us.take q.length) (vs.take q.length) (by simp; omega) (by simp; omega) hx1 hy1
  have ea:(i+1)*q.length=i*q.length+q.length:=by rw[Yj,Nat.one_mul]
  have hx2:xs.toList.drop ((i+1)*q.length)=W0v (List.replicate n q).flatten (us.drop q.length):=by rw[ea,←List.drop_drop,hx,W2n]; simp
  have hy2:ys.toList.drop ((i+1)*q.length)=W0v (List.replicate n q).flatten (vs.drop q.length):=by rw[ea,←List.drop_drop,hy,W2n]; simp
  have hr:=Wh6 w dd IH hc xs ys n (i+1) (us.drop q.length) (vs.drop q.length) (by rw[Xh]; omega) (by rw[Xh]; omega) hx2 hy2
  rw[List.range'_succ]
  simp only[Op.eqItems,Yr,p1,p2,p3,Yl]
  have he:=Wh4 q.length us vs
  by_cases e1:us.take q.length=vs.take q.length
  ·simp only[e1,decide_true,Bool.not_true,Y6,if_false,hr]
   congr 1
   exact decide_eq_decide.2 ⟨fun h=>he.2 ⟨e1,h⟩,fun h=>(he.1 h).2⟩
  ·have:¬us=vs:=fun h=>e1 (he.1 h).1
   simp[e1,this]
theorem Wlk(w:World)(dd d:Nat)(IH:∀t ks,shape P d t=some ks→P.cellsOf t=ks.length→Wh5 P dd t ks){t:TypeId}{ks:List IntKind}(h:shape P (d+1) t=some ks)(hk:∀q,P.underlying t≠some (.int q)){us vs:List Int}(h1:us.length=ks.length)(h2:vs.length=ks.length)(xs ys:Array Value)
  (hx:xs.toList=W0v ks us) (hy:ys.toList=W0v ks vs):(Op.equalIn (dd+1) t (.agg xs) (.agg ys)).run P w= .ok (decide (us=vs)) w:=by
 simp only[shape]at h
 cases hu:P.underlying t with
 | none=>simp[hu]at h
 | some kd=>
  rw[hu]at h
  cases kd with
  | int q=>exact absurd hu (hk q)
  | struct fs=>
   simp only at h
   split at h
   ·cases h
   ·rename_i hs
    obtain ⟨k1,rfl,hf⟩:=Wcw w dd d IH xs ys fs.toList [] ks h
    have hfs:P.fieldsOf t=fs:=by simp[Program.fieldsOf,hu]
    rw[run_equalIn_struct w dd t xs ys (by rw[hfs]; exact hu) (by simpa using hs),hfs]
    exact hf us vs h1 h2 (by simpa using hx) (by simpa using hy)
  | array n e=>
   simp only at h
   cases hq:shape P d e with
   | none=>simp[hq]at h
   | some q=>
    rw[hq,Zn]at h
    split at h
    ·rename_i hc
     obtain ⟨i,hi⟩:=Xd.1 hc.2
     cases h
     rw[run_equalIn_array w dd xs ys hu hi,List.range_eq_range']
     exact Wh6 w dd (IH e q hq hc.1) hc.1 xs ys n 0 us vs h1 h2 (by simpa using hx) (by simpa using hy)
    ·cases h
  | _=>simp at h
theorem W6k(d0:Nat):∀(d:Nat) (t:TypeId) (ks:List IntKind),shape P d t=some ks→P.cellsOf t=ks.length→Wh5 P (d0+d) t ks
 | 0,_,_,h,_=>by simp[shape]at h
 | d+1,t,ks,h,hcell=>by
  intro w xs ys off us vs h1 h2 hx hy
  cases hu:P.underlying t with
  | none=>simp[shape,hu]at h
  | some kd=>
   have agg:(∀q,P.underlying t≠some (.int q))→(isAgg t).run P w= .ok true w→∃a b,(part t xs off).run P w= .ok a w∧(part t ys off).run P w= .ok b w∧(Op.equalIn (d0+(d+1)) t a b).run P w= .ok (decide (us=vs)) w:=by
    intro hk ha
    obtain ⟨i,hi⟩:=info_of_underlying hu
    have hl:∀zs:Array Value,(zs.extract off (off+P.cellsOf t)).toList=(zs.toList.drop off).take ks.length:=by
     intro zs
     rw[Array.toList_extract,hcell]
     simp[List.extract]
    refine ⟨.agg (xs.extract off (off+P.cellsOf t)),.agg (ys.extract off (off+P.cellsOf t)),?_,?_,?_⟩
    ·simp[part,ha,run_sizeOf w hi]
    ·simp[part,ha,run_sizeOf w hi]
    ·exact Wlk w (d0+d) d (fun t ks h hc=>W6k d0 d t ks h hc) h hk h1 h2 _ _ (by rw[hl,hx]) (by rw[hl,hy])
   cases kd with
   | int q=>
    simp only[shape,hu,Yp]at h
    subst h
    match us,vs,h1,h2 with
    | [u],[v],_,_=>
     have g:∀(zs:Array Value) (z:Int),(zs.toList.drop off).take 1=[.int q z]→zs[off]?=some (.int q z):=by
      intro zs z hz
      have:(zs.toList.drop off)[0]?=some (.int q z):=by
       have:=congrArg (fun l=>l[0]?) hz
       simpa[Zx]using this
      simpa using this
     have hp:P.plainKey t=true:=by simp[Program.plainKey,hu]
     refine ⟨_,_,run_part_plain w hp (g xs u hx),run_part_plain w hp (g ys v hy),?_⟩
     rw[show d0+(d+1)=(d0+d)+1 from rfl,run_equalIn_int w (d0+d) t q q u v hu]
     by_cases e:u=v<;>simp[e]
   | struct fs=>exact agg (by simp[hu]) (by simp[isAgg,Z7 hu])
   | array n e=>exact agg (by simp[hu]) (by simp[isAgg,Z7 hu])
   | _=>simp[shape,hu]at h
theorem Wll{t m:Nat}{ks:List IntKind}(hm:m+1≤10000)(hs:shape P (m+1) t=some ks)(hk:∀q,P.underlying t≠some (.int q))(w:World)(us vs:List Int)(h1:us.length=ks.length)(h2:vs.length=ks.length):
  (Op.equal t (.agg (W0v ks us).toArray) (.agg (W0v ks vs).toArray)).run P w= .ok (decide (us=vs)) w:=
 Wlk (P:=P) w 9999 m (fun t ks h hc=>by
  have:=W6k (P:=P) (9999-m) m t ks h hc
  rwa[show 9999-m+m=9999 by omega]at this) hs hk h1 h2 (W0v ks us).toArray (W0v ks vs).toArray rfl rfl
theorem Wwu{t m:Nat}{ks:List IntKind}(hm:m+1≤10000)(hg:P.eqGuardType P.depth t=false)(hs:shape P (m+1) t=some ks)(hk:(match P.underlying t with | some (.int _)=>false | _=>true)=true):EqOk P t ks:=by
 refine ⟨hg,fun w us vs h1 h2=> ?_⟩
 have h:=Wlk (P:=P) w 9999 m (fun t ks h hc=>by
  have:=W6k (P:=P) (9999-m) m t ks h hc
  rwa[show 9999-m+m=9999 by omega]at this) hs (fun q e=>by simp[e]at hk) h1 h2 (W0v ks us).toArray (W0v ks vs).toArray rfl rfl
 exact h
end
end Go.Sim
namespace Go.Sim
open Go.RowKit Go.Proofs.YtahoelmjfgoedaaGreat.B
structure Bs where
 w:World
 bad:Nat→Prop
 ds:List Deferred
 lo:Nat
def Mark(b:Bs)(d:Deferred):Prop:=∃D,d={target:= .collected D,args:= #[]}∧b.lo≤D∧D<b.w.heap.size∧¬b.bad D∧b.w.heap[D]?=some (.deferred (some []))
def DsOk(b:Bs)(w0:World)(l:List Deferred):Prop:=l=b.ds∧b.ds.Nodup∧(∀d∈b.ds,Mark b d)∧b.lo≤w0.heap.size
structure R(P:Program)(w0:World)(env0:Env)(bad0:Bs)(fps:List Nat)(base:Nat→Prop)(N:Nat)(s:St)(a:Act)(w:World):Prop where
 ex:∃env,RS P w0 w fps base env s.regs∧(∀n,VRel w env (W04 base env s.regs) (lk s.slots n) (a.tmps.getD n undef))∧Ev bad0.w env0 bad0.bad w env (W04 base env s.regs)
 size:a.tmps.size=N
 defers:DsOk bad0 w0 a.defers
def trX:Operand→Option AX
 | .tmp t=>some (.t t)
 | .const v=>if W2d v then some (.k v)else none
 | .func f=>some (.f f)
 | .global _=>none
theorem W05{s:St}{a:Act}{w:World}{env:Env}{bad:Nat→Prop}(h:∀n,VRel w env bad (lk s.slots n) (a.tmps.getD n undef)){x:Operand}{ax:AX}(hx:trX x=some ax):
  VRel w env bad (s.ev ax) (a.eval x):=by
 cases x with
 | tmp t=>cases hx; exact h t
 | const v=>
  have hx':(if W2d v=true then some (AX.k v)else none)=some ax:=hx
  by_cases hf:W2d v=true
  ·rw[if_pos hf]at hx'; cases hx'; exact .c (show CRel _ _ _ (.p (.v v)) v from PRel.v hf)
  ·rw[if_neg hf]at hx'; cases hx'
 | func f=>cases hx; exact .c ⟨[],[],rfl,trivial,trivial⟩
 | global g=>cases hx
theorem Wvt{w:World}{env:Env}{bad:Nat→Prop}{slots:List (Nat×AV)}{tmps:Array Value}(h:∀n,VRel w env bad (lk slots n) (tmps.getD n undef)){d:Nat}(hd:d<tmps.size)
  {v:AV} {u:Value} (hv:VRel w env bad v u) (n:Nat):VRel w env bad (lk ((d,v)::slots) n) ((tmps.setIfInBounds d u).getD n undef):=by
 unfold lk
 by_cases e:d=n
 ·subst e
  rw[if_pos rfl,Zd,Array.getElem?_setIfInBounds_self_of_lt hd]
  exact hv
 ·rw[if_neg e,Zd,X7 e,←Zd]
  exact h n
section
variable {P:Program} {w0 w w':World} {env0 env env':Env} {bad0:Bs} {fps:List Nat} {base:Nat→Prop} {N:Nat} {s:St} {a:Act} {regs':List Reg}
theorem R.put'(hs:a.tmps.size=N)(hdf:DsOk bad0 w0 a.defers)(hslots:∀n,VRel w env (W04 base env s.regs) (lk s.slots n) (a.tmps.getD n undef))(hev:Ev bad0.w env0 bad0.bad w env (W04 base env s.regs))
  (hrs:RS P w0 w' fps base env' regs') (he:Ev w env (W04 base env s.regs) w' env' (W04 base env' regs')) {d:Option Nat} (hd:∀n,d=some n→n<N) {v:AV} {u:Value}
  (hv:VRel w' env' (W04 base env' regs') v u):R P w0 env0 bad0 fps base N (s.putr d v regs') (a.put d u) w':=by
 have h':∀n,VRel w' env' (W04 base env' regs') (lk s.slots n) (a.tmps.getD n undef):=fun n=>(hslots n).ev he
 cases d with
 | none=>exact ⟨⟨env',hrs,h',hev.trans he⟩,hs,hdf⟩
 | some d=>exact ⟨⟨env',hrs,fun n=>Wvt h' (by rw[hs]; exact hd d rfl) hv n,hev.trans he⟩,by simpa[Act.put]using hs,hdf⟩
def _root_.Go.Oper.pureWp(P:Program)(o:Oper)(a:Act)(w:World)(nx:Act→Prop):Prop:=∃v,(execOp a.eval o).run P w= .ok (.value v) w∧nx (a.put o.dst v)
def _root_.Go.Oper.timeWp(P:Program)(o:Oper)(a:Act)(nx:Act→Prop):Prop:=∃v,(∀w,(execOp a.eval o).run P w= .ok (.value v) w)∧nx (a.put o.dst v)
theorem Wlm{o:Oper}{nx:Act→Prop}(h:o.timeWp P a nx):o.pureWp P a w nx:=by
 obtain ⟨v,hr,hn⟩:=h
 exact ⟨v,hr w,hn⟩
theorem W1p{o:Oper}{next:Act→World→Prop}{Q:Exit→Act→World→Prop}{v:Value}(hr:(execOp a.eval o).run P w= .ok (.value v) w')(hn:next (a.put o.dst v) w'):o.wp P a w next Q:=by
 unfold Oper.wp
 rw[hr]
 exact hn
theorem Wwv{o:Oper}{next:Act→World→Prop}{Q:Exit→Act→World→Prop}(h:o.pureWp P a w fun a'=>next a' w):o.wp P a w next Q:=by
 obtain ⟨v,hr,hn⟩:=h
 exact W1p hr hn
theorem Wa9{o:Oper}{nx:Act→Prop}(h:o.pureWp P a w nx):o.still P a w nx:=by
 obtain ⟨v,hr,hn⟩:=h
 unfold Oper.still
 rw[hr]
 exact ⟨rfl,hn⟩
theorem W7b{o:Oper}{next:Act→World→Prop}{Q:Exit→Act→World→Prop}(hr:(execOp a.eval o).run P w= .ok .skip w')(hn:next (a.put o.dst undef) w'):o.wp P a w next Q:=by
 unfold Oper.wp
 rw[hr]
 exact hn
end
section
variable {w:World} {env:Env} {bad:Nat→Prop}
theorem W1w{v:AV}{u x:Value}(h:VRel w env bad v u)(hv:W33 v=some x):u=x∧W2d x=true:=by
 cases h with
 | @c y _ h=>
  cases y with
  | p y=>
   cases y with
   | v y=>
    cases hv
    cases h with
    | v h=>exact ⟨rfl,h⟩
   | sl=>cases hv
  | _=>cases hv
 | agg=>cases hv
 | tup=>cases hv
theorem W7x{v:AV}{u:Value}{b:Bool}(h:VRel w env bad v u)(hv:W00 v=some b):u= .bool b:=by
 cases h with
 | @c y _ h=>
  cases y with
  | p y=>
   cases y with
   | v y=>
    cases y with
    | bool y=>
     cases hv
     cases h
     rfl
    | _=>cases hv
   | sl=>cases hv
  | _=>cases hv
 | agg=>cases hv
 | tup=>cases hv
theorem W39{v:AV}{u:Value}{k:IntKind}{n:Int}(h:VRel w env bad v u)(hv:W0m v=some (k,n)):u= .int k n:=by
 cases h with
 | @c y _ h=>
  cases y with
  | p y=>
   cases y with
   | v y=>
    cases y with
    | int k y=>
     cases hv
     cases h
     rfl
    | _=>cases hv
   | sl=>cases hv
  | _=>cases hv
 | agg=>cases hv
 | tup=>cases hv
theorem W25{x:Value}(h:W2d x=true):VRel w env bad (.c (.p (.v x))) x:= .c (show CRel _ _ _ (.p (.v x)) x from PRel.v h)
theorem V18{v:AV}{u:Value}{n:Nat}(h:VRel w env bad v u)(hv:W1i v=some n):∃A c,u= .slice A n c:=by
 cases h with
 | @c y _ h=>
  cases y with
  | p y=>
   cases y with
   | v y=>
    cases h with
    | v h=>
     unfold W1i at hv
     split at hv<;>simp_all
   | sl sz l=>
    cases hv
    cases h with
    | sl U hz hn=>exact ⟨_,_,by rw[hn]⟩
  | tight sz l=>
   cases hv
   obtain ⟨_,A,rfl⟩:=h
   exact ⟨_,_,rfl⟩
  | own id off sz len cap=>
   cases hv
   rcases h.2 with ⟨_,_,rfl,rfl⟩ | ⟨g,c,k,_,rfl,_⟩<;>exact ⟨_,_,rfl⟩
  | _=>cases hv
 | agg=>cases hv
 | tup=>cases hv
theorem V19{l:List AV}{u:Value}(h:VRel w env bad (.tup l) u):∃vs:List Value,u= .tuple vs.toArray∧l.length=vs.length∧∀i (h1:i<l.length) (h2:i<vs.length),VRel w env bad l[i] vs[i]:=by
 cases h with
 | tup hn h=>exact ⟨_,rfl,hn,h⟩
theorem Wh7{l:List AC}{u:Value}(h:VRel w env bad (.agg l) u):∃vs:List Value,u= .agg vs.toArray∧All2 (CRel w env bad) l vs∧l.all AC.known=true:=by
 cases h with
 | agg h hk=>exact ⟨_,rfl,h,hk⟩
theorem c_of{x:AC}{u:Value}(h:VRel w env bad (.c x) u):CRel w env bad x u:=by
 cases h with
 | c h=>exact h
end
abbrev KRel(w:World)(env:Env)(bad:Nat→Prop)(x:AC)(v:Value):Prop:=CRel w env bad x v∧x.known=true
theorem KRel.ev{w w':World}{env env':Env}{bad bad':Nat→Prop}(h:Ev w env bad w' env' bad'){x:AC}{v:Value}(r:KRel w env bad x v):KRel w' env' bad' x v:=⟨r.1.ev h,r.2⟩
theorem KRel.one{w:World}{env:Env}{bad:Nat→Prop}{x:AC}{v:Value}(r:KRel w env bad x v):v.oneCell'=true:=CRel.one r.2 r.1
theorem W3y{ls:List (List PV)}:(upL ls).length=ls.length:=Ym ..
theorem Wln{ls:List (List PV)}{i:Nat}(h:i<(upL ls).length):(upL ls)[i]=(ls[i]'(by rw[W3y]at h; exact h)).map AC.p:=Zu ..
theorem Wf8{w:World}{env:Env}{bad:Nat→Prop}{ls:List (List PV)}{f:Nat→Nat→Option Value}(h:∀i (h:i<ls.length),∀j (h':j<ls[i].length),∃u,f i j=some u∧PRel w bad ls[i][j] u):
  ∀i (h:i<(upL ls).length),∀j (h':j<(upL ls)[i].length),∃u,f i j=some u∧KRel w env bad (upL ls)[i][j] u:=by
 intro i hi j hj
 have hi':i<ls.length:=by rw[W3y]at hi; exact hi
 simp only[Wln hi]at hj ⊢
 obtain ⟨u,h1,h2⟩:=h i hi' j (by simpa using hj)
 refine ⟨u,h1,?_⟩
 rw[Zu]
 exact ⟨h2,rfl⟩
theorem Wlo{sz:Nat}{ls:List (List PV)}(h:∀i (h:i<ls.length),ls[i].length=sz):∀i (h:i<(upL ls).length),(upL ls)[i].length=sz:=by
 intro i hi
 rw[Wln hi,Ym]
 exact h i _
theorem Wcx{r:Reg}{sz:Nat}{ls:List (List AC)}(h:esOf r=some (sz,ls)):r.live=true:=by
 cases r<;>first | rfl | cases h
theorem RRel.toEs{P:Program}{w:World}{env:Env}{bad:Nat→Prop}{id:Nat}{r:Reg}{sz:Nat}{ls:List (List AC)}(h:RRel P w env bad id r)(he:esOf r=some (sz,ls)):RRel P w env bad id (.es sz ls):=by
 cases r with
 | pc sz' ls'=>
  cases he
  obtain ⟨hz,hs,h⟩:=h
  refine ⟨hz,Wlo hs,?_⟩
  rcases h with ⟨h1,h2⟩ | ⟨g,c,cur,t,e,hg,h1,h2,h3,h4⟩
  ·exact .inl ⟨h1,by rw[h2]; rfl⟩
  ·exact .inr ⟨g,c,cur,t,e,hg,h1,h2,by rw[W3y]; exact h3,Wf8 h4⟩
 | es sz' ls'=>cases he; exact h
 | ac l=>cases he
 | ob o=>cases he
 | lp f j sl st pe=>cases he
 | dead=>cases he
theorem Wa1{P:Program}{t:TypeId}(ht:P.underlying t=some .bool)(w:World)(a b:Bool):(Op.equal t (.bool a) (.bool b)).run P w= .ok (a==b) w:=by
 have h:∀d,(Op.equalIn (d+1) t (.bool a) (.bool b)).run P w= .ok (a==b) w:=by
  intro d
  simp[Op.equalIn,Z7 ht]
 exact h 9999
theorem Wlp{P:Program}{op:BinOp}{t:TypeId}{x y:Operand}{u v:Value}{K:Value→Prop}(h:binW op u v K):
  ∃r,(∀w,(do eqGuard op t x y u v; binOp op t u v:Sem Value).run P w= .ok r w)∧W2d r=true∧K r:=by
 unfold binW at h
 split at h
 all_goals (try exact h.elim)
 all_goals (try obtain ⟨rfl,h⟩:=h)
 ·exact ⟨_,fun w=>by simp[eqGuard,binOp,Op.intArith],rfl,h⟩
 ·exact ⟨_,fun w=>by simp[eqGuard,binOp,Op.intArith],rfl,h⟩
 ·exact ⟨_,fun w=>by simp[eqGuard,binOp,Op.intArith],rfl,h⟩
 ·exact ⟨_,fun w=>by simp[eqGuard,binOp,Op.intDiv,h.1],rfl,h.2⟩
 ·exact ⟨_,fun w=>by simp[eqGuard,binOp,Op.intDiv,h.1],rfl,h.2⟩
 ·exact ⟨_,fun w=>by simp[eqGuard,binOp,intBits_and],rfl,h⟩
 ·exact ⟨_,fun w=>by simp[eqGuard,binOp,intBits_or],rfl,h⟩
 ·exact ⟨_,fun w=>by simp[eqGuard,binOp,intBits_xor],rfl,h⟩
 ·exact ⟨_,fun w=>by simp[eqGuard,binOp,intBits_andNot],rfl,h⟩
 ·rename_i k a b
  exact ⟨.bool (a==b),fun w=>by simp[eqGuard,binOp,Op.intCmp],rfl,by rw[show (a==b)=decide (a=b)from rfl]; exact h⟩
 ·rename_i k a b
  exact ⟨.bool (a != b),fun w=>by simp[eqGuard,binOp,Op.intCmp],rfl,by rw[show (a != b)= !decide (a=b)from rfl]; exact h⟩
 ·exact ⟨_,fun w=>by simp[eqGuard,binOp,Op.intCmp],rfl,h⟩
 ·exact ⟨_,fun w=>by simp[eqGuard,binOp,Op.intCmp],rfl,h⟩
 ·exact ⟨_,fun w=>by simp[eqGuard,binOp,Op.intCmp],rfl,h⟩
 ·exact ⟨_,fun w=>by simp[eqGuard,binOp,Op.intCmp],rfl,h⟩
 ·have h0:=Int.not_lt.mpr h.1
  exact ⟨_,fun w=>by simp[eqGuard,binOp,Op.shift,h0],rfl,h.2⟩
 ·rename_i k a k' b
  have h0:=Int.not_lt.mpr h.1
  have hp:(0:Int)≤2^(min b.toNat k.bits):=Int.pow_nonneg (by decide)
  refine ⟨.int k (a.fdiv (2^min b.toNat k.bits)),fun w=>by simp[eqGuard,binOp,Op.shift,h0],rfl,?_⟩
  rw[Int.fdiv_eq_ediv_of_nonneg _ hp]
  exact h.2
 ·rename_i a b
  refine ⟨.string (a++b),fun w=> ?_,rfl,h.2⟩
  simp only[eqGuard,binOp,Op.stringOp]
  simp
  have:=h.1
  omega
 ·exact ⟨_,fun w=>by simp[eqGuard,binOp,Op.stringOp],rfl,h⟩
 ·exact ⟨_,fun w=>by simp[eqGuard,binOp,Op.stringOp],rfl,h⟩
def aggD:TypeDesc→Bool
 | .struct _ | .array _ _=>true
 | _=>false
def Wlq:List Value→Option (List IntKind)
 | []=>some []
 | .int k _::r=>(Wlq r).map (k:: ·)
 | _::_=>none
def trXs:List Operand→Option (List AX):=W0h trX
def trO:Option Operand→Option (Option AX)
 | none=>some none
 | some x=>(trX x).map some
theorem W23{P:Program}{t:TypeId}{d:TypeDesc}(h:P.underlying t=some d)(w:World):(isAgg t).run P w= .ok (aggD d) w:=by
 cases d<;>simp[isAgg,Z7 h,aggD]
theorem W10{P:Program}{t:TypeId}{i:TypeInfo}(h:P.info? t=some i)(w:World):(sizeOf t).run P w= .ok i.size w:=by
 simp[sizeOf,typeInfo,h]
section
variable {P:Program} {w0 w w':World} {env0 env:Env} {bad0:Bs} {fps:List Nat} {base:Nat→Prop} {N:Nat} {s:St} {a:Act} {o:Oper}
 {next:Act→World→Prop} {nx:Act→Prop} {Q:Exit→Act→World→Prop} {K:St→Prop}
theorem W0t(hR:R P w0 env0 bad0 fps base N s a w)(hd:∀n,o.dst=some n→n<N)(hK:∀s' a',K s'→R P w0 env0 bad0 fps base N s' a' w→nx a')
  {v:AV} (h:∀env,(∀n,VRel w env (W04 base env s.regs) (lk s.slots n) (a.tmps.getD n undef))→RS P w0 w fps base env s.regs→∃u,(execOp a.eval o).run P w= .ok (.value u) w∧VRel w env (W04 base env s.regs) v u)
  (hk:K (s.put o.dst v)):o.pureWp P a w nx:=by
 obtain ⟨⟨env,hrs,hsl,hev⟩,hsz,hdf⟩:=hR
 obtain ⟨u,hr,hv⟩:=h env hsl hrs
 exact ⟨u,hr,hK _ _ hk (R.put' (regs':=s.regs) hsz hdf hsl hev hrs (Ev.refl _ _ _) hd hv)⟩
theorem W0s(hR:R P w0 env0 bad0 fps base N s a w)(hd:∀n,o.dst=some n→n<N)(hK:∀s' a',K s'→R P w0 env0 bad0 fps base N s' a' w→nx a')
  {v:AV} (h:∀env,(∀n,VRel w env (W04 base env s.regs) (lk s.slots n) (a.tmps.getD n undef))→RS P w0 w fps base env s.regs→∃u,(∀w',(execOp a.eval o).run P w'= .ok (.value u) w')∧VRel w env (W04 base env s.regs) v u)
  (hk:K (s.put o.dst v)):o.timeWp P a nx:=by
 obtain ⟨⟨env,hrs,hsl,hev⟩,hsz,hdf⟩:=hR
 obtain ⟨u,hr,hv⟩:=h env hsl hrs
 exact ⟨u,hr,hK _ _ hk (R.put' (regs':=s.regs) hsz hdf hsl hev hrs (Ev.refl _ _ _) hd hv)⟩
theorem Wh8{x:Operand}{ax:AX}(ho:o.op= .move x∨o.op= .assign x)(hx:trX x=some ax)(hd:∀n,o.dst=some n→n<N)(h:opW P (.mv o.dst ax) s K)
  (hR:R P w0 env0 bad0 fps base N s a w) (hK:∀s' a',K s'→R P w0 env0 bad0 fps base N s' a' w→nx a'):o.timeWp P a nx:=
 W0s hR hd hK (fun env hsl _=>⟨a.eval x,fun w'=>by rcases ho with ho | ho<;>simp[execOp,ho],W05 hsl hx⟩) h
theorem Wlr{op:BinOp}{t u:TypeId}{x y:Operand}{ax ay:AX}(ho:o.op= .binOp op t x y u)(hx:trX x=some ax)(hy:trX y=some ay)(hd:∀n,o.dst=some n→n<N)
  (h:opW P (.bin o.dst op ax ay) s K) (hR:R P w0 env0 bad0 fps base N s a w) (hK:∀s' a',K s'→R P w0 env0 bad0 fps base N s' a' w→nx a'):o.timeWp P a nx:=by
 simp only[opW]at h
 split at h
 ·rename_i p q hp hq
  obtain ⟨⟨env,hrs,hsl,hev⟩,hsz,hdf⟩:=hR
  have e1:=(W1w (W05 hsl hx) hp).1
  have e2:=(W1w (W05 hsl hy) hq).1
  obtain ⟨r,hr,hf,hk⟩:=Wlp (P:=P) (t:=t) (x:=x) (y:=y) h
  refine ⟨r,fun w'=> ?_,hK _ _ hk (R.put' (regs':=s.regs) hsz hdf hsl hev hrs (Ev.refl _ _ _) hd (W25 hf))⟩
  simp only[execOp,ho,e1,e2]
  rw[Yr,hr]
  rfl
 ·exact h.elim
theorem Wcy{neg:Bool}{t u:TypeId}{x y:Operand}{ax ay:AX}(ho:o.op= .binOp (if neg then .neq else .eql) t x y u)(ht:P.underlying t=some .bool)(hx:trX x=some ax)(hy:trX y=some ay)(hd:∀n,o.dst=some n→n<N)
  (h:opW P (.beq o.dst neg ax ay) s K) (hR:R P w0 env0 bad0 fps base N s a w) (hK:∀s' a',K s'→R P w0 env0 bad0 fps base N s' a' w→nx a'):o.timeWp P a nx:=by
 simp only[opW]at h
 split at h
 ·rename_i p q hp hq
  refine W0s hR hd hK (fun env hsl _=> ?_) h
  have e1:=W7x (W05 hsl hx) hp
  have e2:=W7x (W05 hsl hy) hq
  refine ⟨_,fun w'=> ?_,W25 rfl⟩
  cases neg<;>simp[execOp,ho,e1,e2,eqGuard,binOp,Wa1 ht]
 ·exact h.elim
theorem Wjo{c x y:Operand}{ac ax ay:AX}(ho:o.op= .pick c x y)(hc:trX c=some ac)(hx:trX x=some ax)(hy:trX y=some ay)(hd:∀n,o.dst=some n→n<N)
  (h:opW P (.pick o.dst ac ax ay) s K) (hR:R P w0 env0 bad0 fps base N s a w) (hK:∀s' a',K s'→R P w0 env0 bad0 fps base N s' a' w→nx a'):o.timeWp P a nx:=by
 simp only[opW]at h
 split at h
 ·rename_i t ht
  cases t with
  | true=>
   refine W0s hR hd hK (fun env hsl _=> ?_) (h.1 rfl)
   have e:=W7x (W05 hsl hc) ht
   exact ⟨a.eval x,fun w'=>by simp[execOp,ho,e,asBool],W05 hsl hx⟩
  | false=>
   refine W0s hR hd hK (fun env hsl _=> ?_) (h.2 rfl)
   have e:=W7x (W05 hsl hc) ht
   exact ⟨a.eval y,fun w'=>by simp[execOp,ho,e,asBool],W05 hsl hy⟩
 ·exact h.elim
theorem Wsb{op:UnOp}{t:TypeId}{x:Operand}{ax:AX}(ho:o.op= .unOp op t x)(hx:trX x=some ax)(hd:∀n,o.dst=some n→n<N)
  (h:opW P (.un o.dst op ax) s K) (hR:R P w0 env0 bad0 fps base N s a w) (hK:∀s' a',K s'→R P w0 env0 bad0 fps base N s' a' w→nx a'):o.timeWp P a nx:=by
 simp only[opW]at h
 split at h
 ·rename_i b hb
  refine W0s hR hd hK (fun env hsl _=> ?_) h
  have e:=(W1w (W05 hsl hx) hb).1
  exact ⟨_,fun w'=>by simp[execOp,ho,e,Op.unary],W25 rfl⟩
 ·rename_i k n hb
  refine W0s hR hd hK (fun env hsl _=> ?_) h
  have e:=(W1w (W05 hsl hx) hb).1
  exact ⟨_,fun w'=>by simp[execOp,ho,e,Op.unary,Op.intArith]; rfl,by simpa using W25 rfl⟩
 ·exact h.elim
theorem Wls{t u:TypeId}{k:IntKind}{d:TypeDesc}{x:Operand}{ax:AX}(ho:o.op= .convert t u x)(ht:P.underlying u=some (.int k))(hu:P.underlying t=some d)(hx:trX x=some ax)(hd:∀n,o.dst=some n→n<N)
  (h:opW P (.cvi o.dst k ax) s K) (hR:R P w0 env0 bad0 fps base N s a w) (hK:∀s' a',K s'→R P w0 env0 bad0 fps base N s' a' w→nx a'):o.timeWp P a nx:=by
 simp only[opW]at h
 split at h
 ·rename_i k' n hb
  refine W0s hR hd hK (fun env hsl _=> ?_) h
  have e:=W39 (W05 hsl hx) hb
  exact ⟨_,fun w'=>by simp[execOp,ho,e,convert,Z7 ht,Z7 hu,Conv.intToInt],W25 rfl⟩
 ·exact h.elim
theorem Wjp{x:Operand}{ax:AX}(ho:o.op= .nilCheck x)(hx:trX x=some ax)(hd:∀n,o.dst=some n→n<N)
  (h:opW P (.nilc o.dst ax) s K) (hR:R P w0 env0 bad0 fps base N s a w) (hK:∀s' a',K s'→R P w0 env0 bad0 fps base N s' a' w→nx a'):o.timeWp P a nx:=by
 simp only[opW]at h
 split at h
 ·rename_i id off hb
  refine W0s hR hd hK (fun env hsl _=> ?_) h
  have e:=W05 hsl hx
  rw[hb]at e
  cases e with
  | c e=>obtain ⟨hi,g,c,he,e⟩:=e; exact ⟨a.eval x,fun w'=>by simp[execOp,ho,e],by rw[e]; exact .c ⟨hi,g,c,he,rfl⟩⟩
 ·rename_i id sz i j hb
  refine W0s hR hd hK (fun env hsl _=> ?_) h
  have e:=W05 hsl hx
  rw[hb]at e
  cases e with
  | c e=>obtain ⟨hi,g,c,he,e⟩:=e; exact ⟨a.eval x,fun w'=>by simp[execOp,ho,e],by rw[e]; exact .c ⟨hi,g,c,he,rfl⟩⟩
 ·rename_i l hb
  refine W0s hR hd hK (fun env hsl _=> ?_) h
  have e:=W05 hsl hx
  rw[hb]at e
  cases e with
  | c e=>obtain ⟨ad,e,r⟩:=e; exact ⟨a.eval x,fun w'=>by simp[execOp,ho,e],by rw[e]; exact .c ⟨ad,rfl,r⟩⟩
 ·exact h.elim
theorem add_lit(g o n:Nat):(⟨g,o,none⟩:Addr).add n=⟨g,o+n,none⟩:=by unfold Addr.add; split<;>simp_all
theorem Wlt{t:TypeId}{fs:Array Field}{f:Field}{k:Nat}{i:TypeInfo}{x:Operand}{ax:AX}(ho:o.op= .fieldAddr t x k)(ht:P.underlying t=some (.struct fs))(hf:fs[k]?=some f)(hi:P.info? f.type=some i)(h0:i.size≠0)
  (hx:trX x=some ax) (hd:∀n,o.dst=some n→n<N)
  (h:opW P (.fad o.dst f.offset ax) s K) (hR:R P w0 env0 bad0 fps base N s a w) (hK:∀s' a',K s'→R P w0 env0 bad0 fps base N s' a' w→nx a'):o.timeWp P a nx:=by
 have hrun:∀ad,a.eval x= .pointer (some ad)→∀w',(execOp a.eval o).run P w'= .ok (.value (.pointer (some (ad.add f.offset)))) w':=by
  intro ad e w'
  simp[execOp,ho,e,Instr.fieldAt,Instr.sureAddr,fieldPlace,Z7 ht,hf,W10 hi,h0]
 simp only[opW]at h
 split at h
 ·rename_i id off hb
  refine W0s hR hd hK (fun env hsl _=> ?_) h
  have e:=W05 hsl hx
  rw[hb]at e
  cases e with
  | c e=>obtain ⟨hi,g,c,he,e⟩:=e; exact ⟨_,hrun _ e,by rw[add_lit]; exact .c ⟨hi,g,c,he,rfl⟩⟩
 ·rename_i id sz i j hb
  refine W0s hR hd hK (fun env hsl _=> ?_) h
  have e:=W05 hsl hx
  rw[hb]at e
  cases e with
  | c e=>obtain ⟨hi,g,c,he,e⟩:=e; exact ⟨_,hrun _ e,by rw[add_lit,X9]; exact .c ⟨hi,g,c,he,rfl⟩⟩
 ·rename_i l hb
  refine W0s hR hd hK (fun env hsl _=> ?_) h
  have e:=W05 hsl hx
  rw[hb]at e
  cases e with
  | c e=>
   obtain ⟨ad,e,r1,r2,U,hU⟩:=e
   refine ⟨_,hrun _ e,.c ⟨_,rfl,by rw[W1a]; exact r1,by rw[W1a]; exact r2,fun j=>U (f.offset+j),fun j hj=> ?_⟩⟩
   rw[Xh]at hj
   have:=hU (f.offset+j) (by omega)
   rw[W4v,Zw]
   exact this
 ·exact h.elim
theorem Wlu{x:Operand}{k:Nat}{ax:AX}(ho:o.op= .extract x k)(hx:trX x=some ax)(hd:∀n,o.dst=some n→n<N)
  (h:opW P (.ext o.dst ax k) s K) (hR:R P w0 env0 bad0 fps base N s a w) (hK:∀s' a',K s'→R P w0 env0 bad0 fps base N s' a' w→nx a'):o.timeWp P a nx:=by
 simp only[opW]at h
 split at h
 ·rename_i l hb
  obtain ⟨v,hv,h⟩:=h
  refine W0s hR hd hK (fun env hsl _=> ?_) h
  have e:=W05 hsl hx
  rw[hb]at e
  obtain ⟨vs,e,hn,hg⟩:=V19 e
  obtain ⟨h1,rfl⟩:=Z3.1 hv
  exact ⟨vs[k]'(by omega),fun w'=>by simp[execOp,ho,e,Instr.extract,Z2 (show k<vs.length by omega)],hg k h1 (by omega)⟩
 ·exact h.elim
theorem Wlv{x:Operand}{t e:TypeId}{ax:AX}(ho:o.op= .call {callee:= .builtin .len,args:= #[x],argTypes:= #[t]})(ht:P.underlying t=some (.slice e))
  (hx:trX x=some ax) (hd:∀n,o.dst=some n→n<N)
  (h:opW P (.len o.dst ax) s K) (hR:R P w0 env0 bad0 fps base N s a w) (hK:∀s' a',K s'→R P w0 env0 bad0 fps base N s' a' w→nx a'):o.timeWp P a nx:=by
 simp only[opW]at h
 split at h
 ·rename_i n hb
  refine W0s hR hd hK (fun env hsl _=> ?_) h
  obtain ⟨A,c,e⟩:=V18 (W05 hsl hx) hb
  exact ⟨.int .i64 n,fun w'=>by simp[execOp,ho,e,resolve,invoke,builtin,Builtin.len_,Z7 ht,goInt],W25 rfl⟩
 ·exact h.elim
theorem Wjq{x:Operand}{t:TypeId}{ax:AX}(ho:o.op= .call {callee:= .builtin .len,args:= #[x],argTypes:= #[t]})(ht:P.underlying t=some .string)
  (hx:trX x=some ax) (hd:∀n,o.dst=some n→n<N)
  (h:opW P (.lens o.dst ax) s K) (hR:R P w0 env0 bad0 fps base N s a w) (hK:∀s' a',K s'→R P w0 env0 bad0 fps base N s' a' w→nx a'):o.timeWp P a nx:=by
 simp only[opW]at h
 split at h
 ·rename_i b hb
  refine W0s hR hd hK (fun env hsl _=> ?_) h
  have e:=(W1w (W05 hsl hx) hb).1
  exact ⟨.int .i64 b.size,fun w'=>by simp[execOp,ho,e,resolve,invoke,builtin,Builtin.len_,Z7 ht,goInt],W25 rfl⟩
 ·exact h.elim
theorem W2o{w:World}{env:Env}{bad:Nat→Prop}{agg:Bool}{l:List AC}{v:AV}{vs:List Value}(h:All2 (CRel w env bad) l vs)(hp:pack agg l=some v):
  ∃u,VRel w env bad v u∧(agg=true→u= .agg vs.toArray)∧(agg=false→vs=[u]):=by
 unfold pack at hp
 cases agg with
 | true=>
  simp only[if_true]at hp
  split at hp
  ·cases hp
   rename_i hk
   exact ⟨_,.agg h hk,(fun _=>rfl),(fun e=>by cases e)⟩
  ·cases hp
 | false=>
  simp only[Y6,if_false]at hp
  split at hp
  ·cases hp
   match vs,h with
   | [u],h=>exact ⟨u,.c h.1,(fun e=>by cases e),fun _=>rfl⟩
  ·cases hp
theorem All2.drop{α β:Type}{R:α→β→Prop}:∀(n:Nat) {l:List α} {m:List β},All2 R l m→All2 R (l.drop n) (m.drop n)
 | 0,_,_,h=>h
 | _+1,[],[],_=>trivial
 | n+1,_::_,_::_,h=>All2.drop n h.2
 | _+1,[],_::_,h=>h.elim
 | _+1,_::_,[],h=>h.elim
theorem All2.take{α β:Type}{R:α→β→Prop}:∀(n:Nat) {l:List α} {m:List β},All2 R l m→All2 R (l.take n) (m.take n)
 | 0,_,_,_=>trivial
 | _+1,[],[],_=>trivial
 | n+1,_::_,_::_,h=>⟨h.1,All2.take n h.2⟩
 | _+1,[],_::_,h=>h.elim
 | _+1,_::_,[],h=>h.elim
theorem Wlw{t:TypeId}{fs:Array Field}{f:Field}{k:Nat}{i:TypeInfo}{d:TypeDesc}{x:Operand}{ax:AX}(ho:o.op= .field t x k)(ht:P.underlying t=some (.struct fs))(hf:fs[k]?=some f)(hi:P.info? f.type=some i)
  (hdd:P.underlying f.type=some d) (hone:aggD d=false→i.size=1) (hx:trX x=some ax) (hd:∀n,o.dst=some n→n<N)
  (h:opW P (.fld o.dst f.offset i.size (aggD d) ax) s K) (hR:R P w0 env0 bad0 fps base N s a w) (hK:∀s' a',K s'→R P w0 env0 bad0 fps base N s' a' w→nx a'):o.timeWp P a nx:=by
 simp only[opW]at h
 split at h
 ·rename_i l hb
  obtain ⟨v,hlen,hp,h⟩:=h
  refine W0s hR hd hK (fun env hsl _=> ?_) h
  have e:=W05 hsl hx
  rw[hb]at e
  obtain ⟨vs,e,h2,hk⟩:=Wh7 e
  have hl:=h2.len
  obtain ⟨u,hv,h1,h0⟩:=W2o ((h2.drop f.offset).take i.size) hp
  refine ⟨u,fun w'=> ?_,hv⟩
  cases hag:aggD d with
  | true=>
   rw[h1 hag]
   simp[execOp,ho,e,Instr.field,Z7 ht,hf,asAgg,part,W23 hdd,hag,W10 hi]
  | false=>
   have h1':=hone hag
   have h0':=h0 hag
   have:vs[f.offset]?=some u:=by
    rw[h1']at h0'
    have:=congrArg (·[0]?) h0'
    simpa[Zx,Yb]using this
   simp[execOp,ho,e,Instr.field,Z7 ht,hf,asAgg,part,W23 hdd,hag,this]
 ·exact h.elim
end
section
variable {P:Program} {w0 w w':World} {env0 env:Env} {bad0:Bs} {fps:List Nat} {base:Nat→Prop} {N:Nat} {s:St} {a:Act} {o:Oper}
 {next:Act→World→Prop} {nx:Act→Prop} {Q:Exit→Act→World→Prop} {K:St→Prop}
theorem W5s{bad:Nat→Prop}{cur:List Value}{l:List AC}{off n:Nat}(h:∀j,j<n→∃x u,l[off+j]?=some x∧cur[off+j]?=some u∧CRel w env bad x u)(h1:off+n≤l.length)(h2:off+n≤cur.length):
  All2 (CRel w env bad) ((l.drop off).take n) ((cur.drop off).take n):=by
 refine All2.of_get (by simp; omega) fun i hi hi'=> ?_
 have hin:i<n:=by simp at hi; omega
 obtain ⟨x,u,e1,e2,h⟩:=h i hin
 rw[Zk,Zk,Zw,Zw]
 rw[Z2 (by omega)]at e1 e2
 rw[Y7 e1,Y7 e2]
 exact h
theorem W5t{t:TypeId}{x:Operand}{d:TypeDesc}{i:TypeInfo}{ad:Addr}{vs:List Value}{u:Value}(ho:o.op= .load t x)(ht:P.underlying t=some d)(hi:P.info? t=some i)
  (e:a.eval x= .pointer (some ad)) (hl:vs.length=i.size) (hc:∀j v,vs[j]?=some v→w.cell? (ad.add j)=some v) (h1:aggD d=true→u= .agg vs.toArray) (h0:aggD d=false→vs=[u]):
  (execOp a.eval o).run P w= .ok (.value u) w:=by
 cases hag:aggD d with
 | true=>
  have hr:=run_loadCells_list (P:=P) (w:=w) ad vs hc
  rw[hl]at hr
  simp[execOp,ho,e,Instr.loadAt,Instr.sureAddr,loadVar,W23 ht,hag,W10 hi,hr,h1 hag]
 | false=>
  have h0':=h0 hag
  have hc0:=hc 0 u (by rw[h0']; rfl)
  have hadd:ad.add 0=ad:=by unfold Addr.add; simp
  rw[hadd]at hc0
  simp[execOp,ho,e,Instr.loadAt,Instr.sureAddr,loadVar,W23 ht,hag,hc0]
theorem Wjr{t:TypeId}{d:TypeDesc}{i:TypeInfo}{x:Operand}{ax:AX}(ho:o.op= .load t x)(ht:P.underlying t=some d)(hi:P.info? t=some i)
  (hx:trX x=some ax) (hd:∀n,o.dst=some n→n<N)
  (h:opW P (.load o.dst i.size (aggD d) ax) s K) (hR:R P w0 env0 bad0 fps base N s a w) (hK:∀s' a',K s'→R P w0 env0 bad0 fps base N s' a' w→nx a'):o.pureWp P a w nx:=by
 simp only[opW]at h
 split at h
 ·rename_i id off hb
  split at h
  ·rename_i l hl
   obtain ⟨v,hlen,hp,h⟩:=h
   refine W0t hR hd hK (fun env hsl hrs=> ?_) h
   have e:=W05 hsl hx
   rw[hb]at e
   obtain ⟨_,g,c,he,e⟩:=c_of e
   obtain ⟨g',c',cur,ty,he',hg,hsz,hcell⟩:=hrs.reg id _ hl
   rw[he]at he'
   cases he'
   have hcl:l.length=cur.toList.length:=by simpa using hsz
   have hall:All2 (CRel w env (W04 base env s.regs)) ((l.drop off).take i.size) ((cur.toList.drop off).take i.size):=
    W5s (fun j hj=>by
     obtain ⟨u,h1,h2,_⟩:=hcell (off+j) (by omega)
     exact ⟨_,u,Z2 (by omega),by simpa using h1,h2⟩) hlen (by omega)
   obtain ⟨u,hv,h1,h0⟩:=W2o hall hp
   refine ⟨u,W5t ho ht hi e (by simp; omega) (fun j v hj=> ?_) h1 h0,hv⟩
   rw[add_lit]
   rw[Zx]at hj
   split at hj
   ·rw[Yb]at hj
    simp[World.cell?,hg]
    simpa using hj
   ·cases hj
  ·exact h.elim
 ·rename_i id sz i' j hb
  split at h
  ·rename_i sz' ls hl
   obtain ⟨rfl,c,v,hc,hlen,hp,h⟩:=h
   refine W0t hR hd hK (fun env hsl hrs=> ?_) h
   have e:=W05 hsl hx
   rw[hb]at e
   obtain ⟨_,g,cc,he,e⟩:=c_of e
   obtain ⟨hz,hs,hrr⟩:=hrs.reg id _ hl
   obtain ⟨hi',rfl⟩:=Z3.1 hc
   rcases hrr with ⟨he',_⟩ | ⟨g',c',cur,ty,he',hg,hsz,_,hcl,hcell⟩
   ·rw[he]at he'; cases he'
   rw[he]at he'
   cases he'
   have hsi:=hs i' hi'
   have hle:(i'+1)*sz≤cur.size:=by rw[hsz]; exact Zb _ (by omega)
   rw[Zy]at hle
   have hall:All2 (CRel w env (W04 base env s.regs)) (((ls[i'].drop j).take i.size).map AC.p) ((cur.toList.drop (i'*sz+j)).take i.size):=by
    refine All2.of_get (by simp; omega) fun q hq hq'=> ?_
    have hqn:q<i.size:=by simp at hq; omega
    obtain ⟨u,h1,h2⟩:=hcell i' hi' (j+q) (by omega)
    rw[Zu,Zk,Zw,Zk,Zw]
    have h1':cur.toList[i'*sz+j+q]?=some u:=by simpa[X9]using h1
    rw[Z2 (by simp; omega)]at h1'
    rw[Y7 h1']
    exact h2
   obtain ⟨u,hv,h1,h0⟩:=W2o hall hp
   refine ⟨u,W5t ho ht hi e (by simp; omega) (fun q v hj=> ?_) h1 h0,hv⟩
   rw[add_lit]
   rw[Zx]at hj
   split at hj
   ·rw[Yb]at hj
    simp[World.cell?,hg]
    simpa using hj
   ·cases hj
  ·rename_i sz' ls hl
   obtain ⟨rfl,c,v,hc,hlen,hp,h⟩:=h
   refine W0t hR hd hK (fun env hsl hrs=> ?_) h
   have e:=W05 hsl hx
   rw[hb]at e
   obtain ⟨_,g,cc,he,e⟩:=c_of e
   obtain ⟨hz,hs,hrr⟩:=hrs.reg id _ hl
   obtain ⟨hi',rfl⟩:=Z3.1 hc
   rcases hrr with ⟨he',_⟩ | ⟨g',c',cur,ty,he',hg,hsz,_,hcl,hcell⟩
   ·rw[he]at he'; cases he'
   rw[he]at he'
   cases he'
   have hsi:=hs i' hi'
   have hle:(i'+1)*sz≤cur.size:=by rw[hsz]; exact Zb _ (by omega)
   rw[Zy]at hle
   have hall:All2 (CRel w env (W04 base env s.regs)) ((ls[i'].drop j).take i.size) ((cur.toList.drop (i'*sz+j)).take i.size):=by
    refine All2.of_get (by simp; omega) fun q hq hq'=> ?_
    have hqn:q<i.size:=by simp at hq; omega
    obtain ⟨u,h1,h2,_⟩:=hcell i' hi' (j+q) (by omega)
    rw[Zk,Zw,Zk,Zw]
    have h1':cur.toList[i'*sz+j+q]?=some u:=by simpa[X9]using h1
    rw[Z2 (by simp; omega)]at h1'
    rw[Y7 h1']
    exact h2
   obtain ⟨u,hv,h1,h0⟩:=W2o hall hp
   refine ⟨u,W5t ho ht hi e (by simp; omega) (fun q v hj=> ?_) h1 h0,hv⟩
   rw[add_lit]
   rw[Zx]at hj
   split at hj
   ·rw[Yb]at hj
    simp[World.cell?,hg]
    simpa using hj
   ·cases hj
  ·exact h.elim
 ·rename_i l hb
  obtain ⟨v,hlen,hp,h⟩:=h
  refine W0t hR hd hK (fun env hsl hrs=> ?_) h
  have e:=W05 hsl hx
  rw[hb]at e
  obtain ⟨ad,e,_,_,U,hU⟩:=c_of e
  have hall:All2 (CRel w env (W04 base env s.regs)) ((l.take i.size).map AC.p) ((List.range i.size).map U):=by
   refine All2.of_get (by simp; omega) fun q hq hq'=> ?_
   have hqn:q<i.size:=by simp at hq; omega
   rw[Zu,Zk,Zu,List.getElem_range]
   exact (hU q (by omega)).2
  obtain ⟨u,hv,h1,h0⟩:=W2o hall hp
  refine ⟨u,W5t ho ht hi e (by simp) (fun q v hj=> ?_) h1 h0,hv⟩
  rw[Zz]at hj
  obtain ⟨q',hq',rfl⟩:=Z1.1 hj
  obtain ⟨hql,rfl⟩:=Z3.1 hq'
  rw[List.getElem_range]
  exact (hU q (by simp at hql; omega)).1
 ·exact h.elim
theorem W3z{bad:Nat→Prop}{v:AV}{u:Value}{l:List AC}(h:VRel w env bad v u)(hv:cellsOf v=some l):All2 (CRel w env bad) l u.cells.toList∧l.all AC.known=true:=by
 cases h with
 | @c y _ h=>
  have hv':(if y.known then some [y]else none)=some l:=hv
  by_cases hk:y.known=true
  ·rw[if_pos hk]at hv'
   cases hv'
   have h1:=CRel.one hk h
   have:u.cells= #[u]:=by cases u<;>simp_all[Value.cells,Value.oneCell']
   rw[this]
   exact ⟨⟨h,trivial⟩,by simp[hk]⟩
  ·rw[if_neg hk]at hv'
   cases hv'
 | agg h hk=>cases hv; exact ⟨h,hk⟩
 | tup=>cases hv
theorem Wbj{bad:Nat→Prop}{l:List AC}{vs:List Value}(h:All2 (CRel w env bad) l vs)(hk:l.all AC.known=true):∀v∈vs,v.oneCell'=true:=by
 intro v hv
 obtain ⟨i,hi,rfl⟩:=List.getElem_of_mem hv
 have hl:=h.len
 refine CRel.one (x:=l[i]'(by omega)) ?_ (h.get i (by omega) hi)
 exact Za.1 hk _ (Zl _)
theorem W5u{t:TypeId}{x y:Operand}{i:TypeInfo}{g off:Nat}{ty:TypeId}{cur:Array Value}{v:Value}(ho:o.op= .store t x y)(hi:P.info? t=some i)(e:a.eval x= .pointer (some ⟨g,off,none⟩))(ev:a.eval y=v)
  (hg:w.heap[g]?=some (.cells cur ty (0,0))) (hl:v.cells.toList.length=i.size) (hb:off+i.size≤cur.size) (h1:∀u∈v.cells.toList,u.oneCell'=true):
  (execOp a.eval o).run P w= .ok .skip (w.setRow g (cur.toList.take off++v.cells.toList++cur.toList.drop (off+i.size)).toArray):=by
 have hs:=run_storeCells_at (P:=P) g off ty v.cells.toList 0 cur w hg (by simp at hl ⊢; omega) h1
 simp only[Nat.add_zero]at hs
 have hl':v.cells.size=i.size:=by simpa using hl
 rw[hl]at hs
 simp[execOp,ho,e,ev,Instr.storeAt,Instr.sureAddr,storeVar,W10 hi,hl',hs]
theorem getElem?_splice{α:Type}{l xs:List α}{off j:Nat}(h:off+xs.length≤l.length):
  (l.take off++xs++l.drop (off+xs.length))[j]?=if off≤j∧j<off+xs.length then xs[j-off]? else l[j]?:=by
 by_cases h1:j<off
 ·rw[if_neg (by omega),Z6,Zp (by simp; omega),Yf h1]
 ·by_cases h2:j<off+xs.length
  ·rw[if_pos ⟨by omega,h2⟩,Z6,Y3 (by simp; omega),Zp (by simp; omega)]
   congr 1
   simp
   omega
  ·rw[if_neg (by omega),Y3 (by simp; omega),Yb]
   congr 1
   simp
   omega
theorem Wh9{t:TypeId}{i:TypeInfo}{x y:Operand}{ax ay:AX}(ho:o.op= .store t x y)(hi:P.info? t=some i)(hx:trX x=some ax)(hy:trX y=some ay)(hdn:o.dst=none){id sz i' j:Nat}{xs:List AC}{r:Reg}{ls:List (List AC)}
  (hb:s.ev ax= .c (.ept id sz i' j)) (hxs:cellsOf (s.ev ay)=some xs) (hl:s.regs[id]?=some r) (hes:esOf r=some (sz,ls))
  (h:Wa7 i.size sz i' j xs ls fun l=>K ⟨s.slots,s.regs.set id (.es sz l)⟩) (hR:R P w0 env0 bad0 fps base N s a w) (hK:∀s' a' w',K s'→R P w0 env0 bad0 fps base N s' a' w'→next a' w'):o.wp P a w next Q:=by
 obtain ⟨⟨env,hrs,hsl,hev⟩,hsz,hdf⟩:=hR
 have hput:∀u,a.put o.dst u=a:=fun u=>by rw[hdn]; rfl
 obtain ⟨c,hc,hpn,hjn,h⟩:=h
 obtain ⟨_,g,cc,he,e⟩:=c_of (hb▸W05 hsl hx)
 obtain ⟨hz,hs,hrr⟩:=(hrs.reg id _ hl).toEs hes
 obtain ⟨hi',rfl⟩:=Z3.1 hc
 rcases hrr with ⟨he',_⟩ | ⟨g',c',cur,ty,he',hg,hcs,hcm,hcl,hcell⟩
 ·rw[he]at he'; cases he'
 rw[he]at he'
 cases he'
 obtain ⟨h2,hk⟩:=W3z (W05 hsl hy) hxs
 have hlen:=h2.len
 have hsi:=hs i' hi'
 have hle:(i'+1)*sz≤cur.size:=by rw[hcs]; exact Zb _ (by omega)
 rw[Zy]at hle
 have hrun:=W5u ho hi e rfl hg (by omega) (by omega) (Wbj h2 hk)
 have hvn:(a.eval y).cells.toList.length=i.size:=by omega
 have hnew:(ls[i'].take j++xs++ls[i'].drop (j+i.size)).length=sz:=by simp; omega
 obtain ⟨hrs',hev'⟩:=hrs.write (r':= .es sz (ls.set i' (ls[i'].take j++xs++ls[i'].drop (j+i.size)))) hl (Wcx hes) he (cs:=(cur.toList.take (i'*sz+j)++(a.eval y).cells.toList++cur.toList.drop (i'*sz+j+i.size)).toArray) rfl (fun hev'=>by
  refine ⟨hz,fun q hq=> ?_,.inr ⟨g,cc,_,ty,he,setRow_heap w g cur _ ty _ hg,by simp at hvn ⊢; omega,hcm,by simpa using hcl,fun q hq r hr=> ?_⟩⟩
  ·rw[Xl]
   split
   ·exact hnew
   ·exact hs q (by simpa using hq)
  ·have hq':q<ls.length:=by simpa using hq
   have e2:(cur.toList.take (i'*sz+j)++(a.eval y).cells.toList++cur.toList.drop (i'*sz+j+i.size)).toArray[q*sz+r]?=
     if i'*sz+j≤q*sz+r∧q*sz+r<i'*sz+j+(a.eval y).cells.toList.length then (a.eval y).cells.toList[q*sz+r-(i'*sz+j)]? else cur.toList[q*sz+r]?:=by
    rw[List.getElem?_toArray,show i'*sz+j+i.size=i'*sz+j+(a.eval y).cells.toList.length by omega,getElem?_splice (by simp at hvn ⊢; omega)]
   have hrsz:r<sz:=by
    rw[Xl]at hr
    split at hr
    ·omega
    ·have:=hs q hq'; omega
   by_cases hqi:i'=q
   ·subst hqi
    have e1:((ls.set i' (ls[i'].take j++xs++ls[i'].drop (j+i.size)))[i'])[r]?=some (((ls.set i' (ls[i'].take j++xs++ls[i'].drop (j+i.size)))[i'])[r]):=Z2 hr
    generalize ((ls.set i' (ls[i'].take j++xs++ls[i'].drop (j+i.size)))[i'])[r]=z at e1 ⊢
    rw[List.getElem_set_self,show j+i.size=j+xs.length by omega,getElem?_splice (by omega)]at e1
    by_cases hin:j≤r∧r<j+xs.length
    ·rw[if_pos hin]at e1
     obtain ⟨hr1,rfl⟩:=Z3.1 e1
     rw[if_pos (by omega),show i'*sz+r-(i'*sz+j)=r-j by omega]at e2
     have:=h2.get (r-j) (by simpa using hr1) (by omega)
     exact ⟨_,e2.trans (Z2 (by omega)),CRel.ev hev' this,Za.1 hk _ (Zl _)⟩
    ·rw[if_neg hin]at e1
     obtain ⟨hr1,rfl⟩:=Z3.1 e1
     rw[if_neg (by omega)]at e2
     obtain ⟨u,u1,u2⟩:=hcell i' hq' r hr1
     exact ⟨u,e2.trans (by simpa using u1),KRel.ev hev' u2⟩
   ·have hset:(ls.set i' (ls[i'].take j++xs++ls[i'].drop (j+i.size)))[q]=ls[q]:=List.getElem_set_ne hqi _
    have e1:((ls.set i' (ls[i'].take j++xs++ls[i'].drop (j+i.size)))[q])[r]?=some (((ls.set i' (ls[i'].take j++xs++ls[i'].drop (j+i.size)))[q])[r]):=Z2 hr
    generalize ((ls.set i' (ls[i'].take j++xs++ls[i'].drop (j+i.size)))[q])[r]=z at e1 ⊢
    rw[hset]at e1
    obtain ⟨hr1,rfl⟩:=Z3.1 e1
    obtain ⟨u,u1,u2⟩:=hcell q hq' r hr1
    refine ⟨u,?_,KRel.ev hev' u2⟩
    rw[e2,if_neg,←u1]
    ·simp
    ·intro hx
     rcases Nat.lt_or_gt_of_ne hqi with hlt | hgt
     ·have:(i'+1)*sz≤q*sz:=Zb _ hlt
      rw[Zy]at this
      omega
     ·have:(q+1)*sz≤i'*sz:=Zb _ hgt
      rw[Zy]at this
      omega)
 refine W7b hrun ?_
 rw[hput]
 exact hK _ _ _ h ⟨⟨env,hrs',fun n=>(hsl n).ev hev',hev.trans hev'⟩,hsz,hdf⟩
theorem Wf9{t:TypeId}{i:TypeInfo}{x y:Operand}{ax ay:AX}(ho:o.op= .store t x y)(hi:P.info? t=some i)
  (hx:trX x=some ax) (hy:trX y=some ay) (hdn:o.dst=none)
  (h:opW P (.store i.size ax ay) s K) (hR:R P w0 env0 bad0 fps base N s a w) (hK:∀s' a' w',K s'→R P w0 env0 bad0 fps base N s' a' w'→next a' w'):o.wp P a w next Q:=by
 have hR0:=hR
 obtain ⟨⟨env,hrs,hsl,hev⟩,hsz,hdf⟩:=hR
 have hput:∀u,a.put o.dst u=a:=fun u=>by rw[hdn]; rfl
 simp only[opW]at h
 split at h
 ·rename_i id off xs hb hxs
  split at h
  ·rename_i l hl
   obtain ⟨hn,hle,h⟩:=h
   obtain ⟨_,g,c,he,e⟩:=c_of (hb▸W05 hsl hx)
   obtain ⟨g',c',cur,ty,he',hg,hlc,hcell⟩:=hrs.reg id _ hl
   rw[he]at he'
   cases he'
   obtain ⟨h2,hk⟩:=W3z (W05 hsl hy) hxs
   have hlen:=h2.len
   have hrun:=W5u ho hi e rfl hg (by omega) (by omega) (Wbj h2 hk)
   have hvn:(a.eval y).cells.toList.length=i.size:=by omega
   have hvs:(a.eval y).cells.size=i.size:=by simpa using hvn
   obtain ⟨hrs',hev'⟩:=hrs.write (r':= .ac (l.take off++xs++l.drop (off+i.size))) hl rfl he (cs:=(cur.toList.take off++(a.eval y).cells.toList++cur.toList.drop (off+i.size)).toArray) rfl (fun hev'=>by
    refine ⟨g,c,_,ty,he,setRow_heap w g cur _ ty _ hg,by simp; omega,fun j hj=> ?_⟩
    have hjl:j<l.length:=by simp at hj; omega
    have e1:(l.take off++xs++l.drop (off+i.size))[j]?=some ((l.take off++xs++l.drop (off+i.size))[j]):=Z2 hj
    generalize (l.take off++xs++l.drop (off+i.size))[j]=z at e1 ⊢
    rw[show off+i.size=off+xs.length by omega,getElem?_splice (by omega)]at e1
    have e2:(cur.toList.take off++(a.eval y).cells.toList++cur.toList.drop (off+i.size)).toArray[j]?=if off≤j∧j<off+(a.eval y).cells.toList.length then (a.eval y).cells.toList[j-off]? else cur.toList[j]?:=by
     rw[List.getElem?_toArray,show off+i.size=off+(a.eval y).cells.toList.length by omega,getElem?_splice (by simp at hvn ⊢; omega)]
    by_cases hin:off≤j∧j<off+xs.length
    ·rw[if_pos hin]at e1
     obtain ⟨hj1,rfl⟩:=Z3.1 e1
     rw[if_pos (by omega)]at e2
     exact ⟨_,e2.trans (Z2 (by omega)),(h2.get (j-off) hj1 (by omega)).ev hev',Za.1 hk _ (Zl _)⟩
    ·rw[if_neg hin]at e1
     obtain ⟨hj1,rfl⟩:=Z3.1 e1
     rw[if_neg (by omega)]at e2
     obtain ⟨u,u1,u2,u3⟩:=hcell j hjl
     exact ⟨u,e2.trans (by simpa using u1),u2.ev hev',u3⟩)
   refine W7b hrun ?_
   rw[hput]
   exact hK _ _ _ h ⟨⟨env,hrs',fun n=>(hsl n).ev hev',hev.trans hev'⟩,hsz,hdf⟩
  ·exact h.elim
 ·rename_i id sz i' j xs hb hxs
  split at h
  ·rename_i sz' ls hl
   obtain ⟨rfl,h⟩:=h
   rcases h with h | h
   rotate_left
   ·exact Wh9 ho hi hx hy hdn hb hxs hl rfl h hR0 hK
   obtain ⟨c,ps,hc,hps,hpn,hjn,h⟩:=h
   obtain ⟨_,g,cc,he,e⟩:=c_of (hb▸W05 hsl hx)
   obtain ⟨hz,hs,hrr⟩:=hrs.reg id _ hl
   obtain ⟨hi',rfl⟩:=Z3.1 hc
   rcases hrr with ⟨he',_⟩ | ⟨g',c',cur,ty,he',hg,hcs,hcm,hcl,hcell⟩
   ·rw[he]at he'; cases he'
   rw[he]at he'
   cases he'
   obtain ⟨h2,hk⟩:=W3z (W05 hsl hy) hxs
   have hxp:∀{xs:List AC} {ps:List PV},W1g xs=some ps→xs=ps.map .p:=by
    intro xs
    induction xs with
    | nil=>intro ps h; cases h; rfl
    | cons x xs ih=>
     intro ps h
     cases x with
     | p x=>
      simp only[W1g]at h
      obtain ⟨ps',h',rfl⟩:=Z1.1 h
      rw[ih h']; rfl
     | _=>cases h
   have hxe:=hxp hps
   subst hxe
   have hlen:=h2.len
   rw[Ym]at hlen
   have hsi:=hs i' hi'
   have hle:(i'+1)*sz≤cur.size:=by rw[hcs]; exact Zb _ (by omega)
   rw[Zy]at hle
   have hrun:=W5u ho hi e rfl hg (by omega) (by omega) (Wbj h2 hk)
   have hvn:(a.eval y).cells.toList.length=i.size:=by omega
   have hnew:(ls[i'].take j++ps++ls[i'].drop (j+i.size)).length=sz:=by simp; omega
   obtain ⟨hrs',hev'⟩:=hrs.write (r':= .pc sz (ls.set i' (ls[i'].take j++ps++ls[i'].drop (j+i.size)))) hl rfl he (cs:=(cur.toList.take (i'*sz+j)++(a.eval y).cells.toList++cur.toList.drop (i'*sz+j+i.size)).toArray) rfl (fun hev'=>by
    refine ⟨hz,fun q hq=> ?_,.inr ⟨g,cc,_,ty,he,setRow_heap w g cur _ ty _ hg,by simp at hvn ⊢; omega,hcm,by simpa using hcl,fun q hq r hr=> ?_⟩⟩
    ·rw[Xl]
     split
     ·exact hnew
     ·exact hs q (by simpa using hq)
    ·have hq':q<ls.length:=by simpa using hq
     have e2:(cur.toList.take (i'*sz+j)++(a.eval y).cells.toList++cur.toList.drop (i'*sz+j+i.size)).toArray[q*sz+r]?=
       if i'*sz+j≤q*sz+r∧q*sz+r<i'*sz+j+(a.eval y).cells.toList.length then (a.eval y).cells.toList[q*sz+r-(i'*sz+j)]? else cur.toList[q*sz+r]?:=by
      rw[List.getElem?_toArray,show i'*sz+j+i.size=i'*sz+j+(a.eval y).cells.toList.length by omega,getElem?_splice (by simp at hvn ⊢; omega)]
     have hrsz:r<sz:=by
      rw[Xl]at hr
      split at hr
      ·omega
      ·have:=hs q hq'; omega
     by_cases hqi:i'=q
     ·subst hqi
      have e1:((ls.set i' (ls[i'].take j++ps++ls[i'].drop (j+i.size)))[i'])[r]?=some (((ls.set i' (ls[i'].take j++ps++ls[i'].drop (j+i.size)))[i'])[r]):=Z2 hr
      generalize ((ls.set i' (ls[i'].take j++ps++ls[i'].drop (j+i.size)))[i'])[r]=z at e1 ⊢
      rw[List.getElem_set_self,show j+i.size=j+ps.length by omega,getElem?_splice (by omega)]at e1
      by_cases hin:j≤r∧r<j+ps.length
      ·rw[if_pos hin]at e1
       obtain ⟨hr1,rfl⟩:=Z3.1 e1
       rw[if_pos (by omega),show i'*sz+r-(i'*sz+j)=r-j by omega]at e2
       have:=h2.get (r-j) (by simpa using hr1) (by omega)
       rw[Zu]at this
       exact ⟨_,e2.trans (Z2 (by omega)),PRel.ev hev' this⟩
      ·rw[if_neg hin]at e1
       obtain ⟨hr1,rfl⟩:=Z3.1 e1
       rw[if_neg (by omega)]at e2
       obtain ⟨u,u1,u2⟩:=hcell i' hq' r hr1
       exact ⟨u,e2.trans (by simpa using u1),u2.ev hev'⟩
     ·have hset:(ls.set i' (ls[i'].take j++ps++ls[i'].drop (j+i.size)))[q]=ls[q]:=List.getElem_set_ne hqi _
      have e1:((ls.set i' (ls[i'].take j++ps++ls[i'].drop (j+i.size)))[q])[r]?=some (((ls.set i' (ls[i'].take j++ps++ls[i'].drop (j+i.size)))[q])[r]):=Z2 hr
      generalize ((ls.set i' (ls[i'].take j++ps++ls[i'].drop (j+i.size)))[q])[r]=z at e1 ⊢
      rw[hset]at e1
      obtain ⟨hr1,rfl⟩:=Z3.1 e1
      obtain ⟨u,u1,u2⟩:=hcell q hq' r hr1
      refine ⟨u,?_,u2.ev hev'⟩
      rw[e2,if_neg,←u1]
      ·simp
      ·intro hx
       rcases Nat.lt_or_gt_of_ne hqi with hlt | hgt
       ·have:(i'+1)*sz≤q*sz:=Zb _ hlt
        rw[Zy]at this
        omega
       ·have:(q+1)*sz≤i'*sz:=Zb _ hgt
        rw[Zy]at this
        omega)
   refine W7b hrun ?_
   rw[hput]
   exact hK _ _ _ h ⟨⟨env,hrs',fun n=>(hsl n).ev hev',hev.trans hev'⟩,hsz,hdf⟩
  ·rename_i sz' ls hl
   obtain ⟨rfl,h⟩:=h
   exact Wh9 ho hi hx hy hdn hb hxs hl rfl h hR0 hK
  ·exact h.elim
 ·exact h.elim
end
section
variable {P:Program} {w0 w w':World} {env0 env:Env} {bad0:Bs} {fps:List Nat} {base:Nat→Prop} {N:Nat} {s:St} {a:Act} {o:Oper}
 {next:Act→World→Prop} {nx:Act→Prop} {Q:Exit→Act→World→Prop} {K:St→Prop}
theorem W4w(hR:R P w0 env0 bad0 fps base N s a w)(hd:∀n,o.dst=some n→n<N)(hK:∀s' a' w',K s'→R P w0 env0 bad0 fps base N s' a' w'→next a' w')
  {v:AV} {r:Reg} (h:∀env,env.n=s.regs.length→(∀n,VRel w env (W04 base env s.regs) (lk s.slots n) (a.tmps.getD n undef))→RS P w0 w fps base env s.regs→
   ∃u cur ty c,(execOp a.eval o).run P w= .ok (.value u) (w.alloc (.cells cur ty))∧
    (∀bad',Ev w env (W04 base env s.regs) (w.alloc (.cells cur ty)) (env.push (some (w.heap.size,c))) bad'→RRel P (w.alloc (.cells cur ty)) (env.push (some (w.heap.size,c))) bad' env.n r)∧
    (∀bad',VRel (w.alloc (.cells cur ty)) (env.push (some (w.heap.size,c))) bad' v u))
  (hk:K (s.putr o.dst v (s.regs++[r]))):o.wp P a w next Q:=by
 obtain ⟨⟨env,hrs,hsl,hev⟩,hsz,hdf⟩:=hR
 obtain ⟨u,cur,ty,c,hr,h1,h2⟩:=h env hrs.len hsl hrs
 obtain ⟨hrs',hev'⟩:=hrs.alloc (r:=r) (c:=c) rfl h1
 exact W1p hr (hK _ _ _ hk (R.put' hsz hdf hsl hev hrs' hev' hd (h2 _)))
theorem Wha{bad:Nat→Prop}{c off:Nat}(hn:env.n=s.regs.length):VRel w' (env.push (some (w.heap.size,c))) bad (.c (.ptr s.regs.length off)) (.pointer (some ⟨w.heap.size,off,none⟩)):=
 .c ⟨by simp[Env.push,hn],_,c,by rw[←hn,Env.push_at],rfl⟩
theorem W5v{t:TypeId}{i:TypeInfo}{z:Value}(hi:P.info? t=some i)(hz:i.zero=some z)(w:World):(zeroValue t).run P w= .ok z w:=by
 simp[zeroValue,typeInfo,hi,hz]
theorem W7y{t:TypeId}{i:TypeInfo}{z:Value}(ho:o.op= .alloc t)(hi:P.info? t=some i)(hz:i.zero=some z)(hf:z.cells.toList.all W2d=true)(hd:∀n,o.dst=some n→n<N)
  (h:opW P (.alloc o.dst z.cells.toList) s K) (hR:R P w0 env0 bad0 fps base N s a w) (hK:∀s' a' w',K s'→R P w0 env0 bad0 fps base N s' a' w'→next a' w'):o.wp P a w next Q:=by
 refine W4w hR hd hK (fun env hn hsl hrs=>⟨.pointer (some ⟨w.heap.size,0,none⟩),z.cells,t,1,?_,fun bad' hev=> ?_,fun bad'=>Wha hn⟩) h
 ·simp[execOp,ho,Instr.alloc,W5v hi hz,newVar,newRow]
 ·refine ⟨w.heap.size,1,z.cells,t,Env.push_at _ _,Xi w _,by simp,fun j hj=> ?_⟩
  have hj':j<z.cells.size:=by simpa using hj
  refine ⟨z.cells[j],by simp[hj'],?_,by simp[AC.known]⟩
  rw[Zu]
  refine show PRel _ _ _ _ from ?_
  rw[Array.getElem_toList]
  refine PRel.v ?_
  exact Za.1 hf _ (by simp)
theorem Wcz{sz n:Nat}{z:List Value}{bad:Nat→Prop}(hf:z.all W2d=true)(hz:z.length=sz){cur:Array Value}(hc:∀i j,i<n→j<sz→cur[i*sz+j]?=z[j]?):
  ∀i (h:i<(List.replicate n (z.map PV.v)).length),∀j (h':j<(List.replicate n (z.map PV.v))[i].length),∃u,cur[i*sz+j]?=some u∧PRel w bad (List.replicate n (z.map PV.v))[i][j] u:=by
 intro i hi j hj
 have hi':i<n:=by simpa using hi
 have hj':j<z.length:=by simpa[Yw]using hj
 refine ⟨z[j],by rw[hc i j hi' (by omega)]; exact Z2 hj',?_⟩
 simp only[Yw,Zu]
 exact .v (Za.1 hf _ (Zl _))
theorem Wd0{t e:TypeId}{n:Nat}{i ie:TypeInfo}{z ze:Value}(ho:o.op= .alloc t)(_ht:P.underlying t=some (.array n e))(hi:P.info? t=some i)(hz:i.zero=some z)(_hie:P.info? e=some ie)(_hze:ie.zero=some ze)
  (hf:ze.cells.toList.all W2d=true) (hsz:ze.cells.size=ie.size) (hpos:0<ie.size) (hrep:z.cells.toList=(List.replicate n ze.cells.toList).flatten) (hn':n≤9223372036854775807) (hd:∀n,o.dst=some n→n<N)
  (h:opW P (.allocA o.dst ie.size n ze.cells.toList) s K) (hR:R P w0 env0 bad0 fps base N s a w) (hK:∀s' a' w',K s'→R P w0 env0 bad0 fps base N s' a' w'→next a' w'):o.wp P a w next Q:=by
 have hlen:∀m,((List.replicate m ze.cells.toList).flatten).length=m*ie.size:=by
  intro m
  induction m with
  | zero=>simp
  | succ m ih=>rw[Xt,List.flatten_cons,Z5,ih,Zy]; simp[hsz]; omega
 have hget:∀m i' j,i'<m→j<ie.size→((List.replicate m ze.cells.toList).flatten)[i'*ie.size+j]?=ze.cells.toList[j]?:=by
  intro m
  induction m with
  | zero=>intro i' j h; omega
  | succ m ih=>
   intro i' j h1 h2
   rw[Xt,List.flatten_cons]
   cases i' with
   | zero=>rw[Nat.zero_mul,Xn,Zp (by simp; omega)]
   | succ i'=>
    rw[Y3 (by simp[hsz,Zy]; omega),←ih i' j (by omega) h2]
    congr 1
    simp[hsz,Zy]
    omega
 refine W4w hR hd hK (fun env hn hsl hrs=>⟨.pointer (some ⟨w.heap.size,0,none⟩),z.cells,t,n,?_,fun bad' hev=> ?_,fun bad'=> ?_⟩) h
 ·simp[execOp,ho,Instr.alloc,W5v hi hz,newVar,newRow]
 ·refine ⟨hpos,fun q hq=>by simp[Yw,hsz],.inr ⟨w.heap.size,n,z.cells,t,Env.push_at _ _,Xi w _,?_,hn',by simp,?_⟩⟩
  ·rw[←Array.length_toList,hrep,hlen]
  ·refine Wcz hf (by simp[hsz]) (fun i' j h1 h2=> ?_)
   rw[←Array.getElem?_toList,hrep,hget n i' j h1 h2]
 ·exact .c ⟨by simp[Env.push,hn],_,n,by rw[←hn,Env.push_at],by simp⟩
theorem Wlx{t:TypeId}{x:Operand}{ax:AX}(ho:o.op= .box t x)(hx:trX x=some ax)(hd:∀n,o.dst=some n→n<N)
  (h:opW P (.box o.dst ax) s K) (hR:R P w0 env0 bad0 fps base N s a w) (hK:∀s' a' w',K s'→R P w0 env0 bad0 fps base N s' a' w'→next a' w'):o.wp P a w next Q:=by
 simp only[opW]at h
 split at h
 ·rename_i l hl
  refine W4w hR hd hK (fun env hn hsl hrs=>⟨.pointer (some ⟨w.heap.size,0,none⟩),(a.eval x).cells,t,1,?_,fun bad' hev=> ?_,fun bad'=>Wha hn⟩) h
  ·simp[execOp,ho,Instr.box,newVar,newRow]
  ·obtain ⟨h2,hk⟩:=W3z (W05 hsl hx) hl
   have hlen:=h2.len
   refine ⟨w.heap.size,1,(a.eval x).cells,t,Env.push_at _ _,Xi w _,by simpa using hlen,fun j hj=> ?_⟩
   have hj':j<(a.eval x).cells.size:=by simp at hlen; omega
   refine ⟨(a.eval x).cells[j],by simp[hj'],?_,Za.1 hk _ (Zl _)⟩
   have:=h2.get j hj (by simpa using hj')
   rw[Array.getElem_toList]at this
   exact this.ev hev
 ·exact h.elim
theorem Wly{t e:TypeId}{i:TypeInfo}{x y:Operand}{ax ay:AX}(ho:o.op= .indexAddr t x y)(ht:P.underlying t=some (.slice e))(hi:P.info? e=some i)(hx:trX x=some ax)(hy:trX y=some ay)(hd:∀n,o.dst=some n→n<N)
  (h:opW P (.ixs o.dst i.size ax ay) s K) (hR:R P w0 env0 bad0 fps base N s a w) (hK:∀s' a',K s'→R P w0 env0 bad0 fps base N s' a' w→nx a'):o.timeWp P a nx:=by
 have hrun:∀ad n c k q,a.eval x= .slice (some ad) n c→a.eval y= .int k q→0≤q→q<(n:Int)→∀w',(execOp a.eval o).run P w'= .ok (.value (.pointer (some (ad.add (q.toNat*i.size))))) w':=by
  intro ad n c k q e1 e2 h1 h2 w'
  simp[execOp,ho,e1,e2,Instr.indexAt,asIntOf,Z7 ht,W10 hi,h1,h2]
 simp only[opW]at h
 split at h
 ·rename_i k q sz' l hq hb
  obtain ⟨rfl,h0,c,hc,h⟩:=h
  refine W0s hR hd hK (fun env hsl _=> ?_) h
  have e2:=W39 (W05 hsl hy) hq
  have e1:=c_of (hb▸W05 hsl hx)
  obtain ⟨hql,rfl⟩:=Z3.1 hc
  generalize hu:a.eval x=u at e1
  cases e1 with
  | @sl _ _ A n cc U hz hn hcc hm hsz hA hcell hrel=>
   obtain ⟨ad,rfl,hnb⟩:=hA (by omega)
   refine ⟨_,hrun ad n cc k q hu e2 h0 (by omega),.c ⟨_,rfl,by rw[W1a]; exact hnb,?_,fun j=>U q.toNat j,fun j hj=>⟨?_,hrel _ hql j hj⟩⟩⟩
   ·have:=World.block_lt_of_cell? w _ (hcell ad rfl q.toNat hql 0 (by rw[hsz]; exact hz))
    rw[W1a]at this ⊢
    exact this
   ·rw[W4v]
    exact hcell ad rfl q.toNat hql j hj
 ·rename_i k q id off sz' len cap hq hb
  obtain ⟨rfl,h0,h1,h⟩:=h
  refine W0s hR hd hK (fun env hsl _=> ?_) h
  have e2:=W39 (W05 hsl hy) hq
  obtain ⟨hid,e1⟩:=c_of (hb▸W05 hsl hx)
  rcases e1 with ⟨_,_,hl0,_⟩ | ⟨g,c,kk,he,e1,hl,_⟩
  ·omega
  ·refine ⟨_,hrun _ _ _ k q e1 e2 h0 h1,.c ⟨hid,g,c,he,?_⟩⟩
   rw[add_lit,Yj]
   simp
 ·exact h.elim
theorem Wlz{t e:TypeId}{n:Nat}{i:TypeInfo}{x y:Operand}{ax ay:AX}(ho:o.op= .indexAddr t x y)(ht:P.underlying t=some (.array n e))(hi:P.info? e=some i)(hx:trX x=some ax)(hy:trX y=some ay)(hd:∀n,o.dst=some n→n<N)
  (h:opW P (.ixa o.dst n i.size ax ay) s K) (hR:R P w0 env0 bad0 fps base N s a w) (hK:∀s' a',K s'→R P w0 env0 bad0 fps base N s' a' w→nx a'):o.timeWp P a nx:=by
 have hrun:∀ad k q,a.eval x= .pointer (some ad)→a.eval y= .int k q→0≤q→q<(n:Int)→∀w',(execOp a.eval o).run P w'= .ok (.value (.pointer (some (ad.add (q.toNat*i.size))))) w':=by
  intro ad k q e1 e2 h1 h2 w'
  simp[execOp,ho,e1,e2,Instr.indexAt,asIntOf,Z7 ht,W10 hi,h1,h2,Instr.sureAddr]
 simp only[opW]at h
 split at h
 ·rename_i k q id sz' b hq hb
  obtain ⟨rfl,h0,h1,h⟩:=h
  refine W0s hR hd hK (fun env hsl _=> ?_) h
  have e2:=W39 (W05 hsl hy) hq
  obtain ⟨hid,g,c,he,e1⟩:=c_of (hb▸W05 hsl hx)
  refine ⟨_,hrun _ k q e1 e2 h0 h1,.c ⟨hid,g,c,he,?_⟩⟩
  rw[add_lit,Yj]
  simp
 ·rename_i k q id off hq hb
  obtain ⟨h0,h1,h⟩:=h
  refine W0s hR hd hK (fun env hsl _=> ?_) h
  have e2:=W39 (W05 hsl hy) hq
  obtain ⟨hid,g,c,he,e1⟩:=c_of (hb▸W05 hsl hx)
  refine ⟨_,hrun _ k q e1 e2 h0 h1,.c ⟨hid,g,c,he,?_⟩⟩
  rw[add_lit]
 ·rename_i k q l hq hb
  obtain ⟨h0,h1,h⟩:=h
  refine W0s hR hd hK (fun env hsl _=> ?_) h
  have e2:=W39 (W05 hsl hy) hq
  obtain ⟨ad,e1,r1,r2,U,hU⟩:=c_of (hb▸W05 hsl hx)
  refine ⟨_,hrun _ k q e1 e2 h0 h1,.c ⟨_,rfl,by rw[W1a]; exact r1,by rw[W1a]; exact r2,fun j=>U (q.toNat*i.size+j),fun j hj=> ?_⟩⟩
  rw[Xh]at hj
  have:=hU (q.toNat*i.size+j) (by omega)
  rw[W4v,Zw]
  exact this
 ·exact h.elim
theorem CRel.of_p{w:World}{env:Env}{bad:Nat→Prop}{x:PV}{v:Value}(h:PRel w bad x v):CRel w env bad (.p x) v:=h
theorem Wm0{bad:Nat→Prop}(hsl:∀n,VRel w env bad (lk s.slots n) (a.tmps.getD n undef)){x:Option Operand}{ax:Option AX}(hx:trO x=some ax){n:Nat}{q:Int}(hq:W17 (ax.map s.ev) n=some q):
  (x=none∧q=n)∨∃y k,x=some y∧a.eval y= .int k q:=by
 cases x with
 | none=>cases hx; cases hq; exact .inl ⟨rfl,rfl⟩
 | some y=>
  obtain ⟨ay,hy,rfl⟩:=Z1.1 hx
  obtain ⟨⟨k,q'⟩,h1,rfl⟩:=Z1.1 hq
  exact .inr ⟨y,k,rfl,W39 (W05 hsl hy) h1⟩
theorem W2g{b:Bool}{len cap p q:Nat}{lo hi:Option Value}(h1:p≤q)(h2:q≤cap)(hlo:(lo=none∧p=0)∨∃k,lo=some (.int k p))(hhi:(hi=none∧q=len)∨∃k,hi=some (.int k q))(w:World):
  (Instr.sliceBounds b len cap lo hi none).run P w= .ok (p,q,cap) w:=by
 rcases hlo with ⟨rfl,rfl⟩ | ⟨k,rfl⟩<;>rcases hhi with ⟨rfl,rfl⟩ | ⟨k',rfl⟩<;>
  simp[Instr.sliceBounds,Instr.sliceBound,asIntOf,h1,h2]
theorem W40{b:Bool}{len cap p q:Nat}{lo hi:Option Value}{km:IntKind}(h1:p≤q)(h2:q≤cap)(hlo:(lo=none∧p=0)∨∃k,lo=some (.int k p))(hhi:∃k,hi=some (.int k q))(w:World):
  (Instr.sliceBounds b len cap lo hi (some (.int km q))).run P w= .ok (p,q,q) w:=by
 rcases hlo with ⟨rfl,rfl⟩ | ⟨k,rfl⟩<;>obtain ⟨k',rfl⟩:=hhi<;>
  simp[Instr.sliceBounds,Instr.sliceBound,asIntOf,h1,h2]
theorem PRel.cut{bad:Nat→Prop}{sz:Nat}{l:List (List PV)}{A:Option Addr}{n c lo hi m:Nat}(h:PRel w bad (.sl sz l) (.slice A n c))(h1:lo≤hi)(h2:hi≤n)(hm:hi≤m):
  PRel w bad (.sl sz ((l.take hi).drop lo)) (.slice (if m=lo then A else A.map (·.add (lo*sz))) (hi-lo) (m-lo)):=by
 cases h with
 | sl U hz hn hc hm' hsz hA hcell hrel=>
  have hget:∀i (h:i<((l.take hi).drop lo).length),∃h':lo+i<l.length,((l.take hi).drop lo)[i]=l[lo+i]:=fun i h=>by
   have h':lo+i<l.length:=by simp at h; omega
   exact ⟨h',by rw[Zw,Zk]⟩
  refine .sl (fun i j=>U (lo+i) j) hz (by simp; omega) (by omega) (by omega) (fun i h=> ?_) (fun h0=> ?_) (fun ad e i hi' j hj=> ?_) (fun i hi' j hj=> ?_)
  ·obtain ⟨h',e⟩:=hget i h
   rw[e]; exact hsz _ h'
  ·obtain ⟨ad,rfl,hb⟩:=hA (by omega)
   rw[if_neg (by omega)]
   exact ⟨_,rfl,by rw[W1a]; exact hb⟩
  ·obtain ⟨h',e'⟩:=hget i hi'
   obtain ⟨ad0,rfl,_⟩:=hA (by omega)
   have hlt:lo<hi:=by simp at hi'; omega
   rw[if_neg (by omega)]at e
   cases e
   rw[W4v]
   have hj':j<l[lo+i].length:=by rw[←e']; exact hj
   have:=hcell ad0 rfl (lo+i) h' j hj'
   rwa[Yj,X9]at this
  ·obtain ⟨h',e'⟩:=hget i hi'
   have hj':j<l[lo+i].length:=by rw[←e']; exact hj
   have:=hrel (lo+i) h' j hj'
   simp only[e']
   exact this
theorem Wm1{t e:TypeId}{i:TypeInfo}{x:Operand}{lo hi mx:Option Operand}{ax:AX}{alo ahi amx:Option AX}(ho:o.op= .slice t x lo hi mx)(ht:P.underlying t=some (.slice e))(hi':P.info? e=some i)(hx:trX x=some ax)
  (hlo:trO lo=some alo) (hhi:trO hi=some ahi) (hmx:trO mx=some amx) (hfull:mx.isSome=true→hi.isSome=true) (hd:∀n,o.dst=some n→n<N)
  (h:opW P (.sls o.dst i.size ax alo ahi amx) s K) (hR:R P w0 env0 bad0 fps base N s a w) (hK:∀s' a',K s'→R P w0 env0 bad0 fps base N s' a' w→nx a'):o.pureWp P a w nx:=by
 have hrun:∀A n c l h m,a.eval x= .slice A n c→(Instr.sliceBounds true n c (lo.map a.eval) (hi.map a.eval) (mx.map a.eval)).run P w= .ok (l,h,m) w→
   (execOp a.eval o).run P w= .ok (.value (.slice (if m=l then A else A.map (·.add (l*i.size))) (h-l) (m-l))) w:=by
  intro A n c l h m e1 e2
  simp[execOp,ho,e1,Instr.sliceAt,Instr.slice,Z7 ht,e2,W10 hi']
 have hone:∀{env:Env} {bad:Nat→Prop} {q:Int} {n:Nat} {x:Option Operand} {ax:Option AX},(∀n,VRel w env bad (lk s.slots n) (a.tmps.getD n undef))→trO x=some ax→W17 (ax.map s.ev) n=some q→0≤q→
   (x.map a.eval=none∧q.toNat=n)∨∃k,x.map a.eval=some (.int k (q.toNat:Int)):=by
  intro env bad q n x ax hsl h1 h2 h0
  rcases Wm0 hsl h1 h2 with ⟨rfl,e⟩ | ⟨y,k,rfl,e⟩
  ·exact .inl ⟨rfl,by omega⟩
  ·exact .inr ⟨k,by rw[Yi,e,Int.toNat_of_nonneg h0]⟩
 have hmax:∀{env:Env} {bad:Nat→Prop} {q:Int} {m:AV},(∀n,VRel w env bad (lk s.slots n) (a.tmps.getD n undef))→amx.map s.ev=some m→(W0m m).map (·.2)=some q→0≤q→
   (∃k,mx.map a.eval=some (.int k (q.toNat:Int))):=by
  intro env bad q m hsl h1 h2 h0
  obtain ⟨am,rfl,rfl⟩:=Z1.1 h1
  obtain ⟨y,rfl,hy⟩:∃y,mx=some y∧trX y=some am:=by
   cases mx with
   | none=>cases hmx
   | some y=>obtain ⟨z,h,hz⟩:=Z1.1 hmx; cases hz; exact ⟨y,rfl,h⟩
  obtain ⟨⟨k,q'⟩,h3,rfl⟩:=Z1.1 h2
  exact ⟨k,by rw[Yi,W39 (W05 hsl hy) h3,Int.toNat_of_nonneg h0]⟩
 have hmx0:amx.map s.ev=none→mx.map a.eval=none:=by
  intro h
  cases mx with
  | none=>rfl
  | some y=>obtain ⟨z,_,hz⟩:=Z1.1 hmx; rw[←hz]at h; cases h
 have hhs:∀{q:Nat} {n:Nat},mx.isSome=true→((hi.map a.eval=none∧q=n)∨∃k,hi.map a.eval=some (.int k (q:Int)))→∃k,hi.map a.eval=some (.int k (q:Int)):=by
  intro q n h1 h2
  rcases h2 with ⟨h2,_⟩ | h2
  ·have:=hfull h1
   cases hi with
   | none=>cases this
   | some y=>cases h2
  ·exact h2
 have hms:∀{m:AV},amx.map s.ev=some m→mx.isSome=true:=by
  intro m h
  cases mx with
  | none=>cases hmx; cases h
  | some y=>rfl
 simp only[opW]at h
 split at h
 ·rename_i sz' l hb
  split at h
  ·rename_i ql qh e1 e2 e3
   obtain ⟨rfl,h0,h1,h2,h⟩:=h
   refine W0t hR hd hK (fun env hsl _=> ?_) h
   have hc:=c_of (hb▸W05 hsl hx)
   generalize hu:a.eval x=u at hc
   obtain ⟨A,c,rfl,hcl⟩:∃A c,u= .slice A l.length c∧l.length≤c:=by
    cases hc with
    | sl U hz hn hc=>exact ⟨_,_,by rw[hn],by omega⟩
   have hbr:=W2g (P:=P) (b:=true) (len:=l.length) (cap:=c) (p:=ql.toNat) (q:=qh.toNat) (by omega) (by omega) (hone hsl hlo e1 h0) (hone hsl hhi e2 (by omega)) w
   rw[←hmx0 e3]at hbr
   exact ⟨_,hrun _ _ _ _ _ _ hu hbr,.c (PRel.cut hc (by omega) (by omega) (by omega))⟩
  ·rename_i ql qh m e1 e2 e3
   obtain ⟨rfl,h0,h1,h2,h3,h⟩:=h
   refine W0t hR hd hK (fun env hsl _=> ?_) h
   have hc:=c_of (hb▸W05 hsl hx)
   generalize hu:a.eval x=u at hc
   obtain ⟨A,c,rfl,hcl⟩:∃A c,u= .slice A l.length c∧l.length≤c:=by
    cases hc with
    | sl U hz hn hc=>exact ⟨_,_,by rw[hn],by omega⟩
   obtain ⟨k,hk⟩:=hmax hsl e3 h3 (by omega)
   have hbr:=W40 (P:=P) (b:=true) (len:=l.length) (cap:=c) (p:=ql.toNat) (q:=qh.toNat) (km:=k) (by omega) (by omega) (hone hsl hlo e1 h0) (hhs (hms e3) (hone hsl hhi e2 (by omega))) w
   rw[←hk]at hbr
   have hcut:=PRel.cut (m:=qh.toNat) hc (show ql.toNat≤qh.toNat by omega) (show qh.toNat≤l.length by omega) (Z8 _)
   have hlen:((l.take qh.toNat).drop ql.toNat).length=qh.toNat-ql.toNat:=by simp; omega
   exact ⟨_,hrun _ _ _ _ _ _ hu hbr,.c ⟨hcut,_,by rw[hlen]⟩⟩
  ·exact h.elim
 ·rename_i id off sz' len cap hb
  split at h
  ·rename_i ql qh e1 e2 e3
   obtain ⟨rfl,h0,h1,h2,hne,h⟩:=h
   refine W0t hR hd hK (fun env hsl _=> ?_) h
   obtain ⟨hid,hc⟩:=c_of (hb▸W05 hsl hx)
   by_cases hcut:ql=0∨ql<qh
   rotate_left
   ·have hz:0<i.size:=by omega
    rw[cutV,if_neg hcut]
    have hqe:qh.toNat-ql.toNat=0:=by omega
    rcases hc with ⟨he,rfl,rfl,hu⟩ | ⟨g,c,kk,he,hu,hl,hcap⟩
    ·omega
    ·have hbr:=W2g (P:=P) (b:=true) (len:=len) (cap:=kk) (p:=ql.toNat) (q:=qh.toNat) (by omega) (by omega) (hone hsl hlo e1 h0) (hone hsl hhi e2 (by omega)) w
     rw[←hmx0 e3]at hbr
     refine ⟨_,hrun _ _ _ _ _ _ hu hbr,.c ?_⟩
     rw[hqe]
     exact .sl (fun _ _=> .bool false) hz rfl (Nat.zero_le _) (by decide) (fun i h=>by simp at h) (fun h=>by omega) (fun _ _ i h=>by simp at h) (fun i h=>by simp at h)
   rw[cutV,if_pos hcut]
   rcases hc with ⟨he,rfl,rfl,hu⟩ | ⟨g,c,kk,he,hu,hl,hcap⟩
   ·obtain rfl:ql=0:=by omega
    obtain rfl:qh=0:=by omega
    have hbr:=W2g (P:=P) (b:=true) (len:=0) (cap:=0) (p:=0) (q:=0) (by omega) (by omega) (hone hsl hlo e1 (by omega)) (hone hsl hhi e2 (by omega)) w
    rw[←hmx0 e3]at hbr
    exact ⟨_,hrun _ _ _ _ _ _ hu hbr,.c ⟨hid,.inl ⟨he,rfl,rfl,by simp⟩⟩⟩
   ·have hbr:=W2g (P:=P) (b:=true) (len:=len) (cap:=kk) (p:=ql.toNat) (q:=qh.toNat) (by omega) (by omega) (hone hsl hlo e1 h0) (hone hsl hhi e2 (by omega)) w
    rw[←hmx0 e3]at hbr
    refine ⟨_,hrun _ _ _ _ _ _ hu hbr,.c ⟨hid,.inr ⟨g,c,kk-ql.toNat,he,?_,by omega,?_⟩⟩⟩
    ·by_cases hz:ql=0
     ·subst hz
      simp[add_lit]
     ·have:kk≠ql.toNat:=by omega
      simp[this,add_lit,Yj]
    ·by_cases hz:ql=0
     ·subst hz
      rcases hcap with rfl | rfl | ⟨rfl,rfl,rfl⟩<;>simp
     ·rw[if_neg hz]; exact .inr (.inl rfl)
  ·rename_i ql qh m e1 e2 e3
   obtain ⟨rfl,h0,h1,h2,hne,h3,h⟩:=h
   refine W0t hR hd hK (fun env hsl _=> ?_) h
   obtain ⟨hid,hc⟩:=c_of (hb▸W05 hsl hx)
   obtain ⟨k,hk⟩:=hmax hsl e3 h3 (by omega)
   rcases hc with ⟨he,rfl,rfl,hu⟩ | ⟨g,c,kk,he,hu,hl,hcap⟩
   ·obtain rfl:ql=0:=by omega
    obtain rfl:qh=0:=by omega
    have hbr:=W40 (P:=P) (b:=true) (len:=0) (cap:=0) (p:=0) (q:=0) (km:=k) (by omega) (by omega) (hone hsl hlo e1 (by omega)) (hhs (hms e3) (hone hsl hhi e2 (by omega))) w
    have hk':mx.map a.eval=some (.int k ((0:Nat):Int)):=by simpa using hk
    rw[←hk']at hbr
    exact ⟨_,hrun _ _ _ _ _ _ hu hbr,.c ⟨hid,.inl ⟨he,rfl,rfl,by simp⟩⟩⟩
   ·have hbr:=W40 (P:=P) (b:=true) (len:=len) (cap:=kk) (p:=ql.toNat) (q:=qh.toNat) (km:=k) (by omega) (by omega) (hone hsl hlo e1 h0) (hhs (hms e3) (hone hsl hhi e2 (by omega))) w
    rw[←hk]at hbr
    refine ⟨_,hrun _ _ _ _ _ _ hu hbr,.c ⟨hid,.inr ⟨g,c,qh.toNat-ql.toNat,he,?_,by omega,.inl rfl⟩⟩⟩
    by_cases hz:ql=0
    ·subst hz
     simp[add_lit]
    ·have:qh.toNat≠ql.toNat:=by omega
     simp[this,add_lit,Yj]
  ·exact h.elim
 ·rename_i hb
  have hnil:∀{env:Env} {bad:Nat→Prop},(∀n,VRel w env bad (lk s.slots n) (a.tmps.getD n undef))→a.eval x= .slice none 0 0:=fun hsl=>(W1w (W05 hsl hx) (x:= .slice none 0 0) (by rw[hb]; rfl)).1
  split at h
  ·rename_i ql qh e1 e2 e3
   obtain ⟨rfl,rfl,h⟩:=h
   refine W0t hR hd hK (fun env hsl _=> ?_) h
   have hbr:=W2g (P:=P) (b:=true) (len:=0) (cap:=0) (p:=0) (q:=0) (by omega) (by omega) (hone hsl hlo e1 (by omega)) (hone hsl hhi e2 (by omega)) w
   rw[←hmx0 e3]at hbr
   exact ⟨_,hrun _ _ _ _ _ _ (hnil hsl) hbr,by simpa using VRel.c (CRel.of_p (PRel.v rfl))⟩
  ·rename_i ql qh m e1 e2 e3
   obtain ⟨rfl,rfl,h3,h⟩:=h
   refine W0t hR hd hK (fun env hsl _=> ?_) h
   obtain ⟨k,hk⟩:=hmax hsl e3 h3 (by omega)
   have hbr:=W40 (P:=P) (b:=true) (len:=0) (cap:=0) (p:=0) (q:=0) (km:=k) (by omega) (by omega) (hone hsl hlo e1 (by omega)) (hhs (hms e3) (hone hsl hhi e2 (by omega))) w
   have hk':mx.map a.eval=some (.int k ((0:Nat):Int)):=by simpa using hk
   rw[←hk']at hbr
   exact ⟨_,hrun _ _ _ _ _ _ (hnil hsl) hbr,by simpa using VRel.c (CRel.of_p (PRel.v rfl))⟩
  ·exact h.elim
 ·exact h.elim
end
section
variable {P:Program} {w0 w w':World} {env0 env:Env} {bad0:Bs} {fps:List Nat} {base:Nat→Prop} {N:Nat} {s:St} {a:Act} {o:Oper}
 {next:Act→World→Prop} {nx:Act→Prop} {Q:Exit→Act→World→Prop} {K:St→Prop}
theorem V6n{bad:Nat→Prop}{v:AV}{u:Value}{b:FA}(hv:VRel w env bad v u)(hb:faOf v=some b):FRel w env bad b u:=by
 unfold faOf at hb
 split at hb
 ·cases hb; exact c_of hv
 ·cases hb; exact c_of hv
 ·cases hb
theorem Wm2{f:Fn}{fi ca:List Operand}{afi aca:List AX}(ho:o.op= .makeFunc f fi.toArray ca.toArray)(hfi:trXs fi=some afi)(hca:trXs ca=some aca)(hd:∀n,o.dst=some n→n<N)
  (h:opW P (.mkf o.dst f afi aca) s K) (hR:R P w0 env0 bad0 fps base N s a w) (hK:∀s' a',K s'→R P w0 env0 bad0 fps base N s' a' w→nx a'):o.pureWp P a w nx:=by
 have hall:∀{env:Env} {bad:Nat→Prop},(∀n,VRel w env bad (lk s.slots n) (a.tmps.getD n undef))→∀(xs:List Operand) (axs:List AX) (fs:List FA),trXs xs=some axs→W0h (fun x=>faOf (s.ev x)) axs=some fs→All2 (FRel w env bad) fs (xs.map a.eval):=by
  intro env bad hsl xs
  induction xs with
  | nil=>intro axs fs h1 h2; cases h1; cases h2; trivial
  | cons x xs ih=>
   intro axs fs h1 h2
   obtain ⟨ax,hx,h1⟩:=Z0.1 h1
   obtain ⟨axs',hxs,rfl⟩:=Z1.1 h1
   obtain ⟨b,hb,h2⟩:=Z0.1 h2
   obtain ⟨fs',hfs,rfl⟩:=Z1.1 h2
   exact ⟨V6n (W05 hsl hx) hb,ih _ _ hxs hfs⟩
 simp only[opW]at h
 split at h
 ·rename_i f1 f2 e1 e2
  refine W0t hR hd hK (fun env hsl _=> ?_) h
  exact ⟨_,by simp[execOp,ho,Instr.makeFunc],.c ⟨_,_,rfl,hall hsl fi afi f1 hfi e1,hall hsl ca aca f2 hca e2⟩⟩
 ·exact h.elim
theorem Whb{x y:Operand}{ax ay:AX}{b:Bool}{ts:Array TypeId}(ho:o.op= .call {callee:= .builtin (if b then .max else .min),args:= #[x,y],argTypes:=ts})(hx:trX x=some ax)(hy:trX y=some ay)(hd:∀n,o.dst=some n→n<N)
  (h:opW P (.mm o.dst b ax ay) s K) (hR:R P w0 env0 bad0 fps base N s a w) (hK:∀s' a',K s'→R P w0 env0 bad0 fps base N s' a' w→nx a'):o.timeWp P a nx:=by
 simp only[opW]at h
 split at h
 ·rename_i k p k' q hp hq
  refine W0s hR hd hK (fun env hsl _=> ?_) h
  have e1:=W39 (W05 hsl hx) hp
  have e2:=W39 (W05 hsl hy) hq
  refine ⟨_,fun w'=> ?_,W25 rfl⟩
  cases b
  ·simp[execOp,ho,e1,e2,resolve,invoke,builtin,Builtin.min_,Builtin.min2]
  ·simp[execOp,ho,e1,e2,resolve,invoke,builtin,Builtin.max_,Builtin.max2]
 ·exact h.elim
theorem Wm3{t:TypeId}{x y:Operand}{ax ay:AX}(ho:o.op= .index t x y)(ht:P.underlying t=some .string)(hx:trX x=some ax)(hy:trX y=some ay)(hd:∀n,o.dst=some n→n<N)
  (h:opW P (.ixt o.dst ax ay) s K) (hR:R P w0 env0 bad0 fps base N s a w) (hK:∀s' a',K s'→R P w0 env0 bad0 fps base N s' a' w→nx a'):o.timeWp P a nx:=by
 simp only[opW]at h
 split at h
 ·rename_i k q b hq hb
  obtain ⟨h0,h1,h⟩:=h
  refine W0s hR hd hK (fun env hsl _=> ?_) h
  have e1:=(W1w (W05 hsl hx) hb).1
  have e2:=W39 (W05 hsl hy) hq
  refine ⟨_,fun w'=> ?_,W25 rfl⟩
  simp[execOp,ho,e1,e2,Instr.index,asIntOf,Z7 ht,h0,h1]
 ·exact h.elim
theorem Wm4{t e:TypeId}{n:Nat}{i:TypeInfo}{d:TypeDesc}{x y:Operand}{ax ay:AX}(ho:o.op= .index t x y)(ht:P.underlying t=some (.array n e))(hi:P.info? e=some i)(hdd:P.underlying e=some d)(hone:aggD d=false→i.size=1)
  (hx:trX x=some ax) (hy:trX y=some ay) (hd:∀n,o.dst=some n→n<N)
  (h:opW P (.ixv o.dst n i.size (aggD d) ax ay) s K) (hR:R P w0 env0 bad0 fps base N s a w) (hK:∀s' a',K s'→R P w0 env0 bad0 fps base N s' a' w→nx a'):o.pureWp P a w nx:=by
 simp only[opW]at h
 split at h
 ·rename_i k q l hq hb
  obtain ⟨h0,h1,v,hlen,hp,h⟩:=h
  refine W0t hR hd hK (fun env hsl _=> ?_) h
  have e2:=W39 (W05 hsl hy) hq
  obtain ⟨vs,e,h2,hk⟩:=Wh7 (hb▸W05 hsl hx)
  have hl:=h2.len
  obtain ⟨u,hv,g1,g0⟩:=W2o ((h2.drop (q.toNat*i.size)).take i.size) hp
  refine ⟨u,?_,hv⟩
  cases hag:aggD d with
  | true=>
   rw[g1 hag]
   simp[execOp,ho,e,e2,Instr.index,asIntOf,Z7 ht,h0,h1,part,W23 hdd,hag,W10 hi]
  | false=>
   have h1':=hone hag
   have h0':=g0 hag
   have:vs[q.toNat*i.size]?=some u:=by
    rw[h1']at h0' ⊢
    have:=congrArg (·[0]?) h0'
    simpa[Zx,Yb]using this
   simp[execOp,ho,e,e2,Instr.index,asIntOf,Z7 ht,h0,h1,part,W23 hdd,hag,W10 hi,this]
 ·exact h.elim
theorem Wfa{bad:Nat→Prop}:∀{ks:List IntKind} {l:List AC} {ns:List Int} {vs:List Value},W2f ks l=some ns→All2 (CRel w env bad) l vs→vs=W0v ks ns∧ns.length=ks.length
 | [],[],ns,vs,h,h2=>by
  cases h
  cases vs with
  | nil=>exact ⟨rfl,rfl⟩
  | cons _ _=>exact h2.elim
 | k::ks,x::l,ns,vs,h,h2=>by
  cases x with
  | p x=>
   cases x with
   | v x=>
    cases x with
    | int k2 n=>
     have h':(if k=k2 then (W2f ks l).map (n:: ·)else none)=some ns:=h
     by_cases hk:k=k2
     ·rw[if_pos hk]at h'
      subst hk
      obtain ⟨ns',h4,rfl⟩:=Z1.1 h'
      cases vs with
      | nil=>exact h2.elim
      | cons v vs=>
       obtain ⟨rfl,hn⟩:=Wfa h4 h2.2
       have hv:v= .int k n:=by
        have h3:PRel w bad (.v (.int k n)) v:=h2.1
        cases h3; rfl
       subst hv
       exact ⟨rfl,by simp[hn]⟩
     ·rw[if_neg hk]at h'
      cases h'
    | _=>cases h
   | sl=>cases h
  | _=>cases h
 | [],_::_,ns,vs,h,_=>by cases h
 | _::_,[],ns,vs,h,_=>by cases h
theorem W5w{t u:TypeId}{b:Bool}{ks:List IntKind}{x y:Operand}{ax ay:AX}(ho:o.op= .binOp (if b then .neq else .eql) t x y u)(hx:trX x=some ax)(hy:trX y=some ay)(hd:∀n,o.dst=some n→n<N)
  (h:opW P (.eqs o.dst b t ks ax ay) s K) (hR:R P w0 env0 bad0 fps base N s a w) (hK:∀s' a',K s'→R P w0 env0 bad0 fps base N s' a' w→nx a'):o.pureWp P a w nx:=by
 simp only[opW]at h
 split at h
 ·rename_i l l' hb hb'
  split at h
  ·rename_i ns ms hn hm
   obtain ⟨⟨hq1,hq2⟩,h⟩:=h
   refine W0t hR hd hK (fun env hsl _=> ?_) h
   obtain ⟨vs,e1,h2,_⟩:=Wh7 (hb▸W05 hsl hx)
   obtain ⟨us,e2,h2',_⟩:=Wh7 (hb'▸W05 hsl hy)
   obtain ⟨rfl,l1⟩:=Wfa hn h2
   obtain ⟨rfl,l2⟩:=Wfa hm h2'
   have hr:=hq2 w ns ms l1 l2
   refine ⟨_,?_,W25 rfl⟩
   cases b<;>simp[execOp,ho,e1,e2,eqGuard,binOp,hq1,hr]
  ·exact h.elim
 ·exact h.elim
theorem Wm5{t e:TypeId}{i:TypeInfo}{z:Value}{x y:Operand}{ax ay:AX}(ho:o.op= .makeSlice t x y)(ht:P.underlying t=some (.slice e))(hi:P.info? e=some i)(hz:i.zero=some z)(hf:z.cells.toList.all W2d=true)
  (hzs:z.cells.size=i.size) (hpos:0<i.size) (hx:trX x=some ax) (hy:trX y=some ay) (hd:∀n,o.dst=some n→n<N)
  (h:opW P (.mks o.dst i.size i.bytes z.cells.toList ax ay) s K) (hR:R P w0 env0 bad0 fps base N s a w) (hK:∀s' a' w',K s'→R P w0 env0 bad0 fps base N s' a' w'→next a' w'):o.wp P a w next Q:=by
 simp only[opW]at h
 split at h
 ·rename_i k n k' c hn hc
  obtain ⟨h0,h1,h2,h3,h⟩:=h
  obtain ⟨p,rfl⟩:=Yo h0
  obtain ⟨q,rfl⟩:=Yo (show 0≤c by omega)
  rw[Int.toNat_natCast]at h
  refine W4w hR hd hK (fun env hnl hsl hrs=>⟨.slice (some ⟨w.heap.size,0,none⟩) p q,(Array.range (q*i.size)).map (z.cells[· %z.cells.size]!),e,q,?_,fun bad' hev=> ?_,fun bad'=> ?_⟩) h
  ·have e1:=W39 (W05 hsl hx) hn
   have e2:=W39 (W05 hsl hy) hc
   have w1:IntKind.i64.wrap (p:Int)=p:=by simp[IntKind.wrap,IntKind.bits,IntKind.signed]; omega
   have w2:IntKind.i64.wrap (q:Int)=q:=by simp[IntKind.wrap,IntKind.bits,IntKind.signed]; omega
   have hb:¬((i.bytes:Int)*(q:Int)>281474976710656):=by rw[Int.mul_comm]; omega
   have f1:((281474976710656:Int)<(i.bytes:Int)*(q:Int))=False:=eq_false (by omega)
   have f2:(q<p)=False:=eq_false (by omega)
   have f3:((p:Int)<0)=False:=eq_false (by omega)
   have f4:((q:Int)<0)=False:=eq_false (by omega)
   by_cases hq0:q*i.size=0
   ·obtain rfl:q=0:=by
     rcases Y8 q with h | h
     ·exact h
     ·have:=Nat.mul_pos h hpos
      omega
    obtain rfl:p=0:=by omega
    simp[execOp,ho,e1,e2,Instr.makeSlice,asInt,asIntOf,Z7 ht,typeInfo,hi,W10 hi,newRow,show IntKind.i64.wrap 0=0 from by decide+kernel,show Array.range 0= #[]from rfl]
   ·simp[execOp,ho,e1,e2,Instr.makeSlice,asInt,asIntOf,Z7 ht,typeInfo,hi,w1,w2,f1,f2,f3,f4,W10 hi,W5v hi hz,newRow,hq0]
  ·refine ⟨hpos,fun r hr=>by simp[Yw,hzs],.inr ⟨w.heap.size,q,_,e,Env.push_at _ _,Xi w _,by simp,by omega,by simp; omega,?_⟩⟩
   refine Wcz hf (by simp[hzs]) (fun i' j g1 g2=> ?_)
   have hlt:i'*i.size+j<q*i.size:=by
    have:(i'+1)*i.size≤q*i.size:=Zb _ (by omega)
    rw[Zy]at this
    omega
   have hmod:(i'*i.size+j)%z.cells.size=j:=by rw[hzs,Xu,Nat.mul_add_mod,Nat.mod_eq_of_lt g2]
   simp[hlt,hmod]
   rw[Array.getElem!_eq_getD,Zd]
   have:j<z.cells.size:=by omega
   simp[this]
  ·exact .c ⟨by simp[Env.push,hnl],.inr ⟨w.heap.size,q,q,by rw[←hnl,Env.push_at],by simp,by omega,.inr (.inr ⟨rfl,rfl,rfl⟩)⟩⟩
 ·exact h.elim
theorem W7z{l:List Value}{off sz:Nat}{vs:List Value}(hs:vs.length=sz)(hb:off+sz≤l.length):
  (vs.zipIdx.foldl (fun cs (x:Value×Nat)=>cs.setIfInBounds (off+x.2) x.1) l.toArray)=(l.take off++vs++l.drop (off+sz)).toArray:=by
 subst hs
 have:∀(vs:List Value) (k:Nat) (l:List Value),off+k+vs.length≤l.length→
   ((vs.zipIdx k).foldl (fun cs (x:Value×Nat)=>cs.setIfInBounds (off+x.2) x.1) l.toArray)=(l.take (off+k)++vs++l.drop (off+k+vs.length)).toArray:=by
  intro vs
  induction vs with
  | nil=>intro k l h; simp
  | cons v vs ih=>
   intro k l h
   rw[List.zipIdx_cons,Xe]
   simp only[List.setIfInBounds_toArray]
   rw[ih (k+1) (l.set (off+k) v) (by simp at h ⊢; omega)]
   congr 1
   apply Yx
   intro j
   have hlen:off+k<l.length:=by simp at h; omega
   rw[show off+(k+1)=off+k+1 by omega,show off+k+1+vs.length=off+k+(v::vs).length by simp; omega]
   rw[getElem?_splice (by simpa using h)]
   by_cases h1:j<off+k+1
   ·rw[Z6,Zp (by simp; omega),Yf h1,Xc]
    by_cases h2:off+k=j
    ·rw[if_pos h2,if_pos hlen,if_pos ⟨by omega,by simp; omega⟩]
     simp[h2]
    ·rw[if_neg h2,if_neg (by omega)]
   ·by_cases h3:j<off+k+(v::vs).length
    ·rw[Z6,Y3 (by simp; omega),Zp (by simp at h3 ⊢; omega),if_pos ⟨by omega,h3⟩]
     rw[show j-(off+k)=(j-(off+k+1))+1 by omega,List.getElem?_cons_succ]
     congr 1
     simp
     omega
    ·have hL:(List.take (off+k+1) (l.set (off+k) v)++vs).length=off+k+1+vs.length:=by simp; simp at h; omega
     have h4:(v::vs).length=vs.length+1:=rfl
     rw[Y3 (by omega),if_neg (by omega),Yb]
     rw[Zv (by omega)]
     congr 1
     omega
 simpa using this vs 0 l (by omega)
theorem Waa{bad:Nat→Prop}{place:Nat→Option (Nat×Nat)}:∀{parts:List (Nat×Value)} {aparts:List (Nat×Nat×AV)} {l l':List AC} {cs:List Value},
  All2 (fun (p:Nat×Nat×AV) (q:Nat×Value)=>place q.1=some (p.1,p.2.1)∧VRel w env bad p.2.2 q.2) aparts parts→All2 (CRel w env bad) l cs→l.all AC.known=true→W7w l aparts=some l'→
  ∃cs':List Value,Instr.fill place cs.toArray parts=some cs'.toArray∧All2 (CRel w env bad) l' cs'∧l'.all AC.known=true
 | [],[],l,l',cs,_,h,hk,hf=>by cases hf; exact ⟨cs,rfl,h,hk⟩
 | (i,v)::parts,(off,sz,av)::aparts,l,l',cs,hp,h,hk,hf=>by
  obtain ⟨⟨hpl,hv⟩,hp'⟩:=hp
  obtain ⟨xs,hxs,hf⟩:=Z0.1 hf
  split at hf
  ·rename_i hc
   obtain ⟨h2,hk2⟩:=W3z hv hxs
   have hl:=h.len
   have hl2:=h2.len
   have hvs:v.cells.size=sz:=by simp at hl2; omega
   obtain ⟨cs',e,r1,r2⟩:=Waa (l:=l.take off++xs++l.drop (off+sz)) (cs:=cs.take off++v.cells.toList++cs.drop (off+sz)) hp'
    (((h.take off).append h2).append (h.drop (off+sz))) (by
     rw[Za]at hk hk2 ⊢
     intro x hx
     rcases Zg.1 hx with hx | hx
     ·rcases Zg.1 hx with hx | hx
      ·exact hk x (List.mem_of_mem_take hx)
      ·exact hk2 x hx
     ·exact hk x (List.mem_of_mem_drop hx)) hf
   refine ⟨cs',?_,r1,r2⟩
   have hst:=W7z (l:=cs) (off:=off) (sz:=sz) (vs:=v.cells.toList) (by simpa using hvs) (by omega)
   unfold Instr.fill
   rw[hpl]
   simp only
   rw[if_neg (by simp; omega),←e,←hst,←Array.foldl_toList,Array.toList_zipIdx]
  ·cases hf
 | [],_::_,_,_,_,h,_,_,_=>h.elim
 | _::_,[],_,_,_,h,_,_,_=>h.elim
end
section
variable {P:Program} {w0 w w':World} {env0 env:Env} {bad0:Bs} {fps:List Nat} {base:Nat→Prop} {N:Nat} {s:St} {a:Act} {o:Oper}
 {next:Act→World→Prop} {nx:Act→Prop} {Q:Exit→Act→World→Prop} {K:St→Prop}
theorem Whc{bad:Nat→Prop}:∀{z:List Value},z.all W2d=true→All2 (CRel w env bad) (z.map fun z=> .p (.v z)) z∧(z.map fun z=>AC.p (.v z)).all AC.known=true
 | [],_=>⟨trivial,rfl⟩
 | x::z,h=>by
  rw[Y2,Z4]at h
  obtain ⟨h1,h2⟩:=Whc (bad:=bad) h.2
  exact ⟨⟨PRel.v h.1,h1⟩,by rw[Zh,Y2,h2]; rfl⟩
theorem Wfb{t:TypeId}{parts:List (Nat×Operand)}{aparts:List (Nat×Nat×AX)}{place:Nat→Option (Nat×Nat)}{z:Value}(ho:o.op= .build t parts.toArray)
  (hb:∀vs,P.built t vs=Instr.fill place z.cells vs) (hf:z.cells.toList.all W2d=true) (hp:All2 (fun (q:Nat×Nat×AX) (p:Nat×Operand)=>place p.1=some (q.1,q.2.1)∧trX p.2=some q.2.2) aparts parts)
  (hd:∀n,o.dst=some n→n<N)
  (h:opW P (.build o.dst z.cells.toList aparts) s K) (hR:R P w0 env0 bad0 fps base N s a w) (hK:∀s' a',K s'→R P w0 env0 bad0 fps base N s' a' w→nx a'):o.pureWp P a w nx:=by
 simp only[opW]at h
 split at h
 ·rename_i l hl
  refine W0t hR hd hK (fun env hsl _=> ?_) h
  have hrel:All2 (fun (p:Nat×Nat×AV) (q:Nat×Value)=>place q.1=some (p.1,p.2.1)∧VRel w env (W04 base env s.regs) p.2.2 q.2) (aparts.map fun (off,sz,x)=>(off,sz,s.ev x)) (parts.map fun (i,x)=>(i,a.eval x)):=by
   clear hl h ho
   induction aparts generalizing parts with
   | nil=>cases parts with
    | nil=>trivial
    | cons _ _=>exact hp.elim
   | cons q aparts ih=>cases parts with
    | nil=>exact hp.elim
    | cons p parts=>exact ⟨⟨hp.1.1,W05 hsl hp.1.2⟩,ih hp.2⟩
  obtain ⟨z1,z2⟩:=Whc (w:=w) (env:=env) (bad:=W04 base env s.regs) hf
  obtain ⟨cs',e,r1,r2⟩:=Waa hrel z1 z2 hl
  have hbuilt:P.built t (parts.map fun (i,x)=>(i,a.eval x))=some cs'.toArray:=by rw[hb,←e]
  have hr:=run_build (P:=P) w t (parts.toArray.map fun (i,x)=>(i,a.eval x)) cs'.toArray (by simpa using hbuilt)
  exact ⟨_,by simp only[execOp,ho,Yr,hr]; rfl,.agg r1 r2⟩
 ·exact h.elim
theorem W7c{bad:Nat→Prop}{v:AV}{u:Value}{ls:List (List PV)}{sz:Nat}(hrs:RS P w0 w fps base env s.regs)(hb:bad=W04 base env s.regs)(h:VRel w env bad v u)(he:W15 s.regs v=some ls)(hn:W1i v=some ls.length)(hsz:szOf v=none∨szOf v=some sz)(hpos:0<sz):
  ∃(A:Option Addr) (c:Nat) (news:List Value),u= .slice A ls.length c∧news.length=ls.length*sz∧(∀i (h:i<ls.length),ls[i].length=sz)∧
   (∀i (h:i<ls.length),∀j (h':j<ls[i].length),∃x,news[i*sz+j]?=some x∧PRel w bad ls[i][j] x)∧(∀x∈news,x.oneCell'=true)∧
   (0<ls.length→∃ad,A=some ad∧∀j x,news[j]?=some x→w.cell? (ad.add j)=some x):=by
 have hpure:∀{l:List (List PV)} {u:Value},PRel w bad (.sl sz l) u→∃(A:Option Addr) (c:Nat) (news:List Value),u= .slice A l.length c∧news.length=l.length*sz∧(∀i (h:i<l.length),l[i].length=sz)∧
   (∀i (h:i<l.length),∀j (h':j<l[i].length),∃x,news[i*sz+j]?=some x∧PRel w bad l[i][j] x)∧(∀x∈news,x.oneCell'=true)∧
   (0<l.length→∃ad,A=some ad∧∀j x,news[j]?=some x→w.cell? (ad.add j)=some x):=by
  intro l u h
  cases h with
  | @sl _ _ A n c U hz hn hc hm hsz hA hcell hrel=>
   have hdm:∀q,q<l.length*sz→q/sz<l.length∧q%sz<sz:=fun q hq=>⟨Nat.div_lt_of_lt_mul (by rw[Xu]; exact hq),Nat.mod_lt _ hz⟩
   refine ⟨A,c,(List.range (l.length*sz)).map fun q=>U (q/sz) (q%sz),by rw[hn],by simp,hsz,fun i hi j hj=>⟨U i j,?_,hrel i hi j hj⟩,fun x hx=> ?_,fun h0=> ?_⟩
   ·have hj':j<sz:=by rw[←hsz i hi]; exact hj
    have hlt:i*sz+j<l.length*sz:=by
     have:(i+1)*sz≤l.length*sz:=Zb _ hi
     rw[Zy]at this
     omega
    rw[Zz,Yy hlt,Yi]
    congr 2
    ·rw[Xu,Nat.mul_add_div hz,Nat.div_eq_of_lt hj']; simp
    ·rw[Xu,Nat.mul_add_mod,Nat.mod_eq_of_lt hj']
   ·obtain ⟨q,hq,rfl⟩:=Y1.1 hx
    obtain ⟨h1,h2⟩:=hdm q (by simpa using hq)
    exact (hrel _ h1 _ (by rw[hsz _ h1]; exact h2)).one
   ·obtain ⟨ad,rfl,_⟩:=hA (by omega)
    refine ⟨ad,rfl,fun j x hx=> ?_⟩
    rw[Zz]at hx
    obtain ⟨q,hq,rfl⟩:=Z1.1 hx
    obtain ⟨hql,rfl⟩:=Z3.1 hq
    rw[List.getElem_range]
    have hj:j<l.length*sz:=by simpa using hql
    obtain ⟨h1,h2⟩:=hdm j hj
    have:=hcell ad rfl _ h1 (j%sz) (by rw[hsz _ h1]; exact h2)
    rwa[show j/sz*sz+j%sz=j from by rw[Xu]; exact Nat.div_add_mod j sz]at this
 unfold W15 at he
 split at he
 ·rename_i sz' l
  have hss:sz'=sz:=by
   rcases hsz with h1 | h1
   ·cases h1
   ·exact Y7 h1
  subst hss
  cases he
  exact hpure (c_of h)
 ·rename_i sz' l
  have hss:sz'=sz:=by
   rcases hsz with h1 | h1
   ·cases h1
   ·exact Y7 h1
  subst hss
  cases he
  exact hpure (c_of h).1
 ·cases he
  have hv:=(W1w h rfl).1
  subst hv
  exact ⟨none,0,[],rfl,by simp,fun i h=>by simp at h,fun i h=>by simp at h,fun x h=>by simp at h,fun h=>by simp at h⟩
 ·rename_i id off sz' len cap
  have hss:sz'=sz:=by
   rcases hsz with h1 | h1
   ·cases h1
   ·exact Y7 h1
  subst hss
  split at he
  ·rename_i szr lss hl
   split at he
   ·rename_i hszr
    subst hszr
    cases he
    have hlen:((lss.drop off).take len).length=len:=(Y7 hn).symm
    have hge:len=0∨off+len≤lss.length:=by simp at hlen; omega
    obtain ⟨hid,hv⟩:=c_of h
    obtain ⟨hz,hs,hrr⟩:=hrs.reg id _ hl
    have hgl:∀i (h:i<((lss.drop off).take len).length),∃h':off+i<lss.length,((lss.drop off).take len)[i]=lss[off+i]:=fun i h=>by
     have h':off+i<lss.length:=by simp at h; omega
     exact ⟨h',by rw[Zk,Zw]⟩
    rcases hv with ⟨he,rfl,rfl,rfl⟩ | ⟨g,c,k,he,rfl,hlk,_⟩
    ·exact ⟨none,0,[],by simp,by simp,fun i h=>by simp at h,fun i h=>by simp at h,fun x h=>by simp at h,fun h=>by simp at h⟩
    ·rcases hrr with ⟨he',_⟩ | ⟨g',c',cur,ty,he',hg,hcs,hcm,hcl,hcell⟩
     ·rw[he]at he'; cases he'
     rw[he]at he'
     cases he'
     have hbound:off*szr+len*szr≤cur.size∨len=0:=by
      rcases hge with h | h
      ·exact .inr h
      ·left
       rw[←Yj,hcs]
       exact Zb _ (by omega)
     refine ⟨some ⟨g,off*szr,none⟩,k,(cur.toList.drop (off*szr)).take (len*szr),by rw[hlen],?_,fun i h=> ?_,fun i hi j hj=> ?_,fun x hx=> ?_,fun h0=>⟨_,rfl,fun j x hx=> ?_⟩⟩
     ·rw[hlen,List.length_take,Xh,Array.length_toList]
      rcases hbound with h | h
      ·omega
      ·subst h; simp
     ·obtain ⟨h',e⟩:=hgl i h
      rw[e]; exact hs _ h'
     ·obtain ⟨h',e⟩:=hgl i hi
      have hj':j<lss[off+i].length:=by rw[←e]; exact hj
      obtain ⟨x,x1,x2⟩:=hcell (off+i) h' j hj'
      have hjs:j<szr:=by rw[←hs _ h']; exact hj'
      have hil:i<len:=by rw[←hlen]; exact hi
      have hlt:i*szr+j<len*szr:=by
       have:(i+1)*szr≤len*szr:=Zb _ hil
       rw[Zy]at this
       omega
      refine ⟨x,?_,?_⟩
      ·rw[Yf hlt,Yb,Array.getElem?_toList,←x1,Yj,X9]
      ·simp only[e]
       rw[hb]
       exact x2
     ·have hx':=List.mem_of_mem_take hx
      obtain ⟨q,hq,rfl⟩:=List.getElem_of_mem hx
      have hq':q<len*szr:=by simp at hq; omega
      have h1:q/szr<len:=Nat.div_lt_of_lt_mul (by rw[Xu]; exact hq')
      have h2:q%szr<szr:=Nat.mod_lt _ hz
      have h3:off+q/szr<lss.length:=by
       clear hcell hx hx' hq hbound hcs
       generalize q/szr=dd at h1 ⊢
       rcases hge with h | h<;>omega
      obtain ⟨x,x1,x2⟩:=hcell (off+q/szr) h3 (q%szr) (by rw[hs _ h3]; exact h2)
      have e:(off+q/szr)*szr+q%szr=off*szr+q:=by
       rw[Yj,X9,Xu (q/szr),Nat.div_add_mod]
      rw[e]at x1
      rw[Zk,Zw,Array.getElem_toList]
      have:cur[off*szr+q]'(by simp at hq; omega)=x:=by
       have:=(Y0 (xs:=cur) (i:=off*szr+q) (by simp at hq; omega)).symm.trans x1
       exact Y7 this
      rw[this]
      exact x2.one
     ·rw[add_lit]
      rw[Zx]at hx
      split at hx
      ·rw[Yb,Array.getElem?_toList]at hx
       simp[World.cell?,hg,hx]
      ·cases hx
   ·cases he
  ·cases he
 ·cases he
theorem Wm6{bad:Nat→Prop}{v:AV}{u:Value}{ls:List (List AC)}{sz:Nat}(hrs:RS P w0 w fps base env s.regs)(hb:bad=W04 base env s.regs)(h:VRel w env bad v u)(he:elemsX s.regs v=some ls)(hn:W1i v=some ls.length)(hsz:szOf v=none∨szOf v=some sz)(hpos:0<sz):
  ∃(A:Option Addr) (c:Nat) (news:List Value),u= .slice A ls.length c∧news.length=ls.length*sz∧(∀i (h:i<ls.length),ls[i].length=sz)∧
   (∀i (h:i<ls.length),∀j (h':j<ls[i].length),∃x,news[i*sz+j]?=some x∧KRel w env bad ls[i][j] x)∧(∀x∈news,x.oneCell'=true)∧
   (0<ls.length→∃ad,A=some ad∧∀j x,news[j]?=some x→w.cell? (ad.add j)=some x):=by
 unfold elemsX at he
 split at he
 ·rename_i id off sz' len cap
  have hss:sz'=sz:=by
   rcases hsz with h1 | h1
   ·cases h1
   ·exact Y7 h1
  subst hss
  split at he
  ·rename_i szr lss hl0
   obtain ⟨r,hl,hes⟩:=Z0.1 hl0
   split at he
   ·rename_i hszr
    subst hszr
    cases he
    have hlen:((lss.drop off).take len).length=len:=(Y7 hn).symm
    have hge:len=0∨off+len≤lss.length:=by simp at hlen; omega
    obtain ⟨hid,hv⟩:=c_of h
    obtain ⟨hz,hs,hrr⟩:=(hrs.reg id _ hl).toEs hes
    have hgl:∀i (h:i<((lss.drop off).take len).length),∃h':off+i<lss.length,((lss.drop off).take len)[i]=lss[off+i]:=fun i h=>by
     have h':off+i<lss.length:=by simp at h; omega
     exact ⟨h',by rw[Zk,Zw]⟩
    rcases hv with ⟨he,rfl,rfl,rfl⟩ | ⟨g,c,k,he,rfl,hlk,_⟩
    ·exact ⟨none,0,[],by simp,by simp,fun i h=>by simp at h,fun i h=>by simp at h,fun x h=>by simp at h,fun h=>by simp at h⟩
    ·rcases hrr with ⟨he',_⟩ | ⟨g',c',cur,ty,he',hg,hcs,hcm,hcl,hcell⟩
     ·rw[he]at he'; cases he'
     rw[he]at he'
     cases he'
     have hbound:off*szr+len*szr≤cur.size∨len=0:=by
      rcases hge with h | h
      ·exact .inr h
      ·left
       rw[←Yj,hcs]
       exact Zb _ (by omega)
     refine ⟨some ⟨g,off*szr,none⟩,k,(cur.toList.drop (off*szr)).take (len*szr),by rw[hlen],?_,fun i h=> ?_,fun i hi j hj=> ?_,fun x hx=> ?_,fun h0=>⟨_,rfl,fun j x hx=> ?_⟩⟩
     ·rw[hlen,List.length_take,Xh,Array.length_toList]
      rcases hbound with h | h
      ·omega
      ·subst h; simp
     ·obtain ⟨h',e⟩:=hgl i h
      rw[e]; exact hs _ h'
     ·obtain ⟨h',e⟩:=hgl i hi
      have hj':j<lss[off+i].length:=by rw[←e]; exact hj
      obtain ⟨x,x1,x2⟩:=hcell (off+i) h' j hj'
      have hjs:j<szr:=by rw[←hs _ h']; exact hj'
      have hil:i<len:=by rw[←hlen]; exact hi
      have hlt:i*szr+j<len*szr:=by
       have:(i+1)*szr≤len*szr:=Zb _ hil
       rw[Zy]at this
       omega
      refine ⟨x,?_,?_⟩
      ·rw[Yf hlt,Yb,Array.getElem?_toList,←x1,Yj,X9]
      ·simp only[e]
       rw[hb]
       exact x2
     ·have hx':=List.mem_of_mem_take hx
      obtain ⟨q,hq,rfl⟩:=List.getElem_of_mem hx
      have hq':q<len*szr:=by simp at hq; omega
      have h1:q/szr<len:=Nat.div_lt_of_lt_mul (by rw[Xu]; exact hq')
      have h2:q%szr<szr:=Nat.mod_lt _ hz
      have h3:off+q/szr<lss.length:=by
       clear hcell hx hx' hq hbound hcs
       generalize q/szr=dd at h1 ⊢
       rcases hge with h | h<;>omega
      obtain ⟨x,x1,x2⟩:=hcell (off+q/szr) h3 (q%szr) (by rw[hs _ h3]; exact h2)
      have e:(off+q/szr)*szr+q%szr=off*szr+q:=by
       rw[Yj,X9,Xu (q/szr),Nat.div_add_mod]
      rw[e]at x1
      rw[Zk,Zw,Array.getElem_toList]
      have:cur[off*szr+q]'(by simp at hq; omega)=x:=by
       have:=(Y0 (xs:=cur) (i:=off*szr+q) (by simp at hq; omega)).symm.trans x1
       exact Y7 this
      rw[this]
      exact KRel.one x2
     ·rw[add_lit]
      rw[Zx]at hx
      split at hx
      ·rw[Yb,Array.getElem?_toList]at hx
       simp[World.cell?,hg,hx]
      ·cases hx
   ·cases he
  ·cases he
 ·obtain ⟨l,hl,rfl⟩:=Z1.1 he
  rw[W3y]at hn
  obtain ⟨A,c,news,h1,h2,h3,h4,h5,h6⟩:=W7c hrs hb h hl hn hsz hpos
  exact ⟨A,c,news,by rw[W3y]; exact h1,by rw[W3y]; exact h2,Wlo h3,Wf8 (f:=fun i j=>news[i*sz+j]?) h4,h5,by rw[W3y]; exact h6⟩
theorem Wm7{t t' e:TypeId}{x:Operand}{ax:AX}(ho:o.op= .convert t t' x)(ht:P.underlying t=some (.slice e))(he:P.underlying e=some (.int .u8))(ht':P.underlying t'=some .string)
  (hx:trX x=some ax) (hd:∀n,o.dst=some n→n<N)
  (h:opW P (.b2s o.dst ax) s K) (hR:R P w0 env0 bad0 fps base N s a w) (hK:∀s' a',K s'→R P w0 env0 bad0 fps base N s' a' w→nx a'):o.pureWp P a w nx:=by
 simp only[opW]at h
 split at h
 ·rename_i ls n h1 h2
  obtain ⟨rfl,hsz,bs,rfl,h⟩:=h
  refine W0t hR hd hK (fun env hsl hrs=> ?_) h
  obtain ⟨A,c,news,e1,e2,e3,e4,_,e5⟩:=W7c hrs rfl (W05 hsl hx) h1 h2 hsz (by decide)
  rw[Ym]at e1 e2 e5
  have hnews:news=bs.map (Value.int .u8):=by
   apply Yx
   intro i
   by_cases hi:i<bs.length
   ·obtain ⟨x,x1,x2⟩:=e4 i (by simpa using hi) 0 (by simp)
    rw[Nat.mul_one,Nat.add_zero]at x1
    rw[x1,Zz,Z2 hi]
    simp only[Zu]at x2
    have h3:PRel w (W04 base env s.regs) (.v (.int .u8 bs[i])) x:=x2
    cases h3
    rfl
   ·rw[Yt (by omega),Yt (by simp; omega)]
  have hfold:∀(l:List Int) (b:ByteArray),l.foldl (fun r n=>r.push (UInt8.ofNat n.toNat)) b=⟨b.data++(l.map fun b=>UInt8.ofNat b.toNat).toArray⟩:=by
   intro l
   induction l with
   | nil=>intro b; simp
   | cons x l ih=>intro b; rw[Xe,ih]; simp[ByteArray.push]
  refine ⟨_,?_,W25 rfl⟩
  simp only[execOp,ho,e1,Yr]
  rw[run_convert_bytes_string w t t' e A _ c ht he ht']
  rcases A with _ | ad
  ·have:bs=[]:=by
    rcases Y8 bs.length with h0 | h0
    ·exact Z9 h0
    ·obtain ⟨ad,h,_⟩:=e5 h0; cases h
   subst this
   simp[Conv.bytesToString]
   rfl
  ·have hl:(loadCells ad bs.length).run P w= .ok (bs.map (Value.int .u8)).toArray w:=by
    have:=run_loadCells_list (P:=P) (w:=w) ad (bs.map (Value.int .u8)) (fun j v hj=>by
     rcases Y8 bs.length with h0 | h0
     ·have:bs=[]:=Z9 h0
      subst this; simp at hj
     ·obtain ⟨ad',h,hc⟩:=e5 h0
      cases h
      exact hc j v (by rw[hnews]; exact hj))
    simpa using this
   rw[run_bytesToString w ad bs.length c bs hl,hfold]
   simp
 ·exact h.elim
theorem Wm8{t e:TypeId}{n:Nat}{i:TypeInfo}{x:Operand}{lo hi:Option Operand}{ax:AX}{alo ahi:Option AX}(ho:o.op= .slice t x lo hi none)(ht:P.underlying t=some (.array n e))(hi':P.info? e=some i)(hx:trX x=some ax)
  (hlo:trO lo=some alo) (hhi:trO hi=some ahi) (hd:∀n,o.dst=some n→n<N)
  (h:opW P (.sla o.dst n i.size ax alo ahi none) s K) (hR:R P w0 env0 bad0 fps base N s a w) (hK:∀s' a',K s'→R P w0 env0 bad0 fps base N s' a' w→nx a'):o.pureWp P a w nx:=by
 have hrun:∀ad l h m,a.eval x= .pointer (some ad)→(Instr.sliceBounds false n n (lo.map a.eval) (hi.map a.eval) none).run P w= .ok (l,h,m) w→
   (execOp a.eval o).run P w= .ok (.value (.slice (some (if m=l then ad else ad.add (l*i.size))) (h-l) (m-l))) w:=by
  intro ad l h m e1 e2
  simp[execOp,ho,e1,Instr.sliceAt,Z7 ht,Instr.sureAddr,e2,W10 hi']
 have hone:∀{env:Env} {bad:Nat→Prop} {q:Int} {n:Nat} {x:Option Operand} {ax:Option AX},(∀n,VRel w env bad (lk s.slots n) (a.tmps.getD n undef))→trO x=some ax→W17 (ax.map s.ev) n=some q→0≤q→
   (x.map a.eval=none∧q.toNat=n)∨∃k,x.map a.eval=some (.int k (q.toNat:Int)):=by
  intro env bad q n x ax hsl h1 h2 h0
  rcases Wm0 hsl h1 h2 with ⟨rfl,e⟩ | ⟨y,k,rfl,e⟩
  ·exact .inl ⟨rfl,by omega⟩
  ·exact .inr ⟨k,by rw[Yi,e,Int.toNat_of_nonneg h0]⟩
 simp only[opW]at h
 split at h
 ·rename_i id sz' b hb hn
  split at h
  ·rename_i ql qh e1 e2
   obtain ⟨rfl,h0,h1,h2,hne,h⟩:=h
   refine W0t hR hd hK (fun env hsl _=> ?_) h
   obtain ⟨hid,g,c,he,e⟩:=c_of (hb▸W05 hsl hx)
   have hbr:=W2g (P:=P) (b:=false) (len:=n) (cap:=n) (p:=ql.toNat) (q:=qh.toNat) (by omega) (by omega) (hone hsl hlo e1 h0) (hone hsl hhi e2 (by omega)) w
   refine ⟨_,hrun _ _ _ _ e hbr,.c ⟨hid,.inr ⟨g,c,n-ql.toNat,he,?_,by omega,.inl rfl⟩⟩⟩
   by_cases hz:ql=0
   ·subst hz
    simp[add_lit]
   ·have:n≠ql.toNat:=by omega
    simp[this,add_lit,Yj]
  ·exact h.elim
 ·rename_i l hb hn
  split at h
  ·rename_i ql qh e1 e2
   obtain ⟨rfl,h1,h2,hz,hn47,hlen,h⟩:=h
   refine W0t hR hd hK (fun env hsl _=> ?_) h
   obtain ⟨ad,e,r1,r2,U,hU⟩:=c_of (hb▸W05 hsl hx)
   have hbr:=W2g (P:=P) (b:=false) (len:=n) (cap:=n) (p:=(0:Int).toNat) (q:=qh.toNat) (by simp) (by omega) (hone hsl hlo e1 (by omega)) (hone hsl hhi e2 (by omega)) w
   have hck:∀(m:Nat) (l:List PV),m*i.size≤l.length→(W1v i.size m l).length=m∧(∀q (h:q<(W1v i.size m l).length),(W1v i.size m l)[q].length=i.size)∧
     ∀q (h:q<(W1v i.size m l).length),∀j (h':j<(W1v i.size m l)[q].length),∃h2:q*i.size+j<l.length,(W1v i.size m l)[q][j]=l[q*i.size+j]:=by
    intro m
    induction m with
    | zero=>intro l _; exact ⟨rfl,fun q h=>by simp[W1v]at h,fun q h=>by simp[W1v]at h⟩
    | succ m ih=>
     intro l hl
     rw[Zy]at hl
     obtain ⟨i1,i2,i3⟩:=ih (l.drop i.size) (by simp; omega)
     refine ⟨by simp[W1v,i1],fun q h=> ?_,fun q h j h'=> ?_⟩
     ·cases q with
      | zero=>simp[W1v]; omega
      | succ q=>simp only[W1v,List.getElem_cons_succ]; exact i2 q (by simpa[W1v]using h)
     ·cases q with
      | zero=>
       have hj:j<i.size:=by simp[W1v]at h'; omega
       exact ⟨by omega,by simp[W1v]⟩
      | succ q=>
       obtain ⟨g1,g2⟩:=i3 q (by simpa[W1v]using h) j (by simpa[W1v]using h')
       simp only[Xh]at g1
       refine ⟨by rw[Zy]; omega,?_⟩
       simp only[W1v,List.getElem_cons_succ]
       refine g2.trans ?_
       rw[Zw]
       congr 1
       rw[Zy]
       omega
   have hle:qh.toNat*i.size≤l.length:=Y5 (Zb _ (by omega)) hlen
   obtain ⟨c1,c2,c3⟩:=hck qh.toNat l hle
   refine ⟨_,hrun _ _ _ _ e hbr,.c (show PRel _ _ _ _ from ?_)⟩
   refine .sl (fun q j=>U (q*i.size+j)) hz (by rw[c1]; simp) (by simp; omega) (by simp; omega) c2 (fun _=>⟨_,rfl,?_⟩) (fun ad' e' q hq j hj=> ?_) (fun q hq j hj=> ?_)
   ·split
    ·exact r1
    ·rw[W1a]; exact r1
   ·cases e'
    obtain ⟨g1,g2⟩:=c3 q hq j hj
    have:=(hU _ g1).1
    simpa[Addr.add]using this
   ·obtain ⟨g1,g2⟩:=c3 q hq j hj
    rw[g2]
    exact (hU _ g1).2
  ·exact h.elim
 ·exact h.elim
end
section
variable {P:Program} {w0 w w':World} {env0 env:Env} {bad0:Bs} {fps:List Nat} {base:Nat→Prop} {N:Nat} {s:St} {a:Act} {o:Oper}
 {next:Act→World→Prop} {Q:Exit→Act→World→Prop} {K:St→Prop}
theorem W7d:∀{xs:List AC} {ps:List PV},W1g xs=some ps→xs=ps.map .p
 | [],ps,h=>by cases h; rfl
 | .p x::xs,ps,h=>by
  simp only[W1g]at h
  obtain ⟨ps',h',rfl⟩:=Z1.1 h
  rw[W7d h']; rfl
 | .tight _ _::_,_,h=>by cases h
 | .own _ _ _ _ _::_,_,h=>by cases h
 | .ptr _ _::_,_,h=>by cases h
 | .ept _ _ _ _::_,_,h=>by cases h
 | .rp _::_,_,h=>by cases h
 | .fn _ _ _::_,_,h=>by cases h
 | .hnd _ _::_,_,h=>by cases h
 | .any::_,_,h=>by cases h
theorem W80{bad:Nat→Prop}{sz:Nat}:∀{parts:List (Nat×Value)} {aparts:List (Nat×AV)} {ls ls':List (List PV)} {cs:List Value},
  All2 (fun (p:Nat×AV) (q:Nat×Value)=>q.1=p.1∧VRel w env bad p.2 q.2) aparts parts→cs.length=ls.length*sz→(∀i (h:i<ls.length),ls[i].length=sz)→
  (∀i (h:i<ls.length),∀j (h':j<ls[i].length),∃u,cs[i*sz+j]?=some u∧PRel w bad ls[i][j] u)→Wct sz ls aparts=some ls'→
  ∃cs':List Value,Instr.fill (fun i=>some (i*sz,sz)) cs.toArray parts=some cs'.toArray∧cs'.length=ls'.length*sz∧ls'.length=ls.length∧(∀i (h:i<ls'.length),ls'[i].length=sz)∧
   (∀i (h:i<ls'.length),∀j (h':j<ls'[i].length),∃u,cs'[i*sz+j]?=some u∧PRel w bad ls'[i][j] u)
 | [],[],ls,ls',cs,_,h1,h2,h3,hf=>by cases hf; exact ⟨cs,rfl,h1,rfl,h2,h3⟩
 | (i,v)::parts,(k,av)::aparts,ls,ls',cs,hp,h1,h2,h3,hf=>by
  obtain ⟨⟨hik,hv⟩,hp'⟩:=hp
  cases hik
  obtain ⟨xs,hxs,hf1⟩:=Z0.1 hf
  obtain ⟨ps,hps,hf2⟩:=Z0.1 hf1
  clear hf hf1
  obtain rfl:=W7d hps
  split at hf2
  ·rename_i hc
   obtain ⟨g2,gk2⟩:=W3z hv hxs
   have hl2:=g2.len
   have hvs:v.cells.size=sz:=by simp at hl2; omega
   have hle:(i+1)*sz≤cs.length:=by rw[h1]; exact Zb _ hc.2
   rw[Zy]at hle
   obtain ⟨cs',e,r1,r2,r3,r4⟩:=W80 (ls:=ls.set i ps) (cs:=cs.take (i*sz)++v.cells.toList++cs.drop (i*sz+sz)) hp' (by simp; omega)
    (fun q hq=>by
     rw[Xl]
     split
     ·exact hc.1
     ·exact h2 q (by simpa using hq))
    (fun q hq j hj=>by
     have hq':q<ls.length:=by simpa using hq
     have e2:(cs.take (i*sz)++v.cells.toList++cs.drop (i*sz+sz))[q*sz+j]?=if i*sz≤q*sz+j∧q*sz+j<i*sz+v.cells.toList.length then v.cells.toList[q*sz+j-i*sz]? else cs[q*sz+j]?:=by
      rw[show i*sz+sz=i*sz+v.cells.toList.length by simp; omega,getElem?_splice (by simp; omega)]
     have hjs:j<sz:=by
      rw[Xl]at hj
      split at hj
      ·omega
      ·have:=h2 q hq'; omega
     by_cases hqi:i=q
     ·subst hqi
      rw[if_pos ⟨by omega,by simp; omega⟩,show i*sz+j-i*sz=j by omega]at e2
      have:=g2.get j (by simp; omega) (by simp; omega)
      rw[Zu]at this
      refine ⟨_,e2.trans (Z2 (by simp; omega)),?_⟩
      simp only[List.getElem_set_self]
      exact this
     ·have hset:(ls.set i ps)[q]=ls[q]:=List.getElem_set_ne hqi _
      have hj':j<ls[q].length:=by rw[←hset]; exact hj
      obtain ⟨u,u1,u2⟩:=h3 q hq' j hj'
      refine ⟨u,?_,by simp only[hset]; exact u2⟩
      rw[e2,if_neg,u1]
      intro hx
      have hvl:v.cells.toList.length=sz:=by simpa using hvs
      rcases Nat.lt_or_gt_of_ne hqi with hlt | hgt
      ·have:(i+1)*sz≤q*sz:=Zb _ hlt
       rw[Zy]at this
       omega
      ·have:(q+1)*sz≤i*sz:=Zb _ hgt
       rw[Zy]at this
       omega) hf2
   refine ⟨cs',?_,r1,by simpa using r2,r3,r4⟩
   have hst:=W7z (l:=cs) (off:=i*sz) (sz:=sz) (vs:=v.cells.toList) (by simpa using hvs) (by omega)
   unfold Instr.fill
   simp only
   rw[if_neg (by simp; omega),←e,←hst,←Array.foldl_toList,Array.toList_zipIdx]
  ·cases hf2
 | [],_::_,_,_,_,h,_,_,_,_=>h.elim
 | _::_,[],_,_,_,h,_,_,_,_=>h.elim
theorem W81{bad:Nat→Prop}{sz:Nat}:∀{parts:List (Nat×Value)} {aparts:List (Nat×AV)} {ls ls':List (List AC)} {cs:List Value},
  All2 (fun (p:Nat×AV) (q:Nat×Value)=>q.1=p.1∧VRel w env bad p.2 q.2) aparts parts→cs.length=ls.length*sz→(∀i (h:i<ls.length),ls[i].length=sz)→
  (∀i (h:i<ls.length),∀j (h':j<ls[i].length),∃u,cs[i*sz+j]?=some u∧KRel w env bad ls[i][j] u)→Wcu sz ls aparts=some ls'→
  ∃cs':List Value,Instr.fill (fun i=>some (i*sz,sz)) cs.toArray parts=some cs'.toArray∧cs'.length=ls'.length*sz∧ls'.length=ls.length∧(∀i (h:i<ls'.length),ls'[i].length=sz)∧
   (∀i (h:i<ls'.length),∀j (h':j<ls'[i].length),∃u,cs'[i*sz+j]?=some u∧KRel w env bad ls'[i][j] u)
 | [],[],ls,ls',cs,_,h1,h2,h3,hf=>by cases hf; exact ⟨cs,rfl,h1,rfl,h2,h3⟩
 | (i,v)::parts,(k,av)::aparts,ls,ls',cs,hp,h1,h2,h3,hf=>by
  obtain ⟨⟨hik,hv⟩,hp'⟩:=hp
  cases hik
  obtain ⟨ps,hxs,hf2⟩:=Z0.1 hf
  clear hf
  split at hf2
  ·rename_i hc
   obtain ⟨g2,gk2⟩:=W3z hv hxs
   have hl2:=g2.len
   have hvs:v.cells.size=sz:=by simp at hl2; omega
   have hle:(i+1)*sz≤cs.length:=by rw[h1]; exact Zb _ hc.2
   rw[Zy]at hle
   obtain ⟨cs',e,r1,r2,r3,r4⟩:=W81 (ls:=ls.set i ps) (cs:=cs.take (i*sz)++v.cells.toList++cs.drop (i*sz+sz)) hp' (by simp; omega)
    (fun q hq=>by
     rw[Xl]
     split
     ·exact hc.1
     ·exact h2 q (by simpa using hq))
    (fun q hq j hj=>by
     have hq':q<ls.length:=by simpa using hq
     have e2:(cs.take (i*sz)++v.cells.toList++cs.drop (i*sz+sz))[q*sz+j]?=if i*sz≤q*sz+j∧q*sz+j<i*sz+v.cells.toList.length then v.cells.toList[q*sz+j-i*sz]? else cs[q*sz+j]?:=by
      rw[show i*sz+sz=i*sz+v.cells.toList.length by simp; omega,getElem?_splice (by simp; omega)]
     have hjs:j<sz:=by
      rw[Xl]at hj
      split at hj
      ·omega
      ·have:=h2 q hq'; omega
     by_cases hqi:i=q
     ·subst hqi
      rw[if_pos ⟨by omega,by simp; omega⟩,show i*sz+j-i*sz=j by omega]at e2
      have:=g2.get j (by omega) (by simp; omega)
      refine ⟨_,e2.trans (Z2 (by simp; omega)),?_⟩
      simp only[List.getElem_set_self]
      exact ⟨this,Za.1 gk2 _ (Zl _)⟩
     ·have hset:(ls.set i ps)[q]=ls[q]:=List.getElem_set_ne hqi _
      have hj':j<ls[q].length:=by rw[←hset]; exact hj
      obtain ⟨u,u1,u2⟩:=h3 q hq' j hj'
      refine ⟨u,?_,by simp only[hset]; exact u2⟩
      rw[e2,if_neg,u1]
      intro hx
      have hvl:v.cells.toList.length=sz:=by simpa using hvs
      rcases Nat.lt_or_gt_of_ne hqi with hlt | hgt
      ·have:(i+1)*sz≤q*sz:=Zb _ hlt
       rw[Zy]at this
       omega
      ·have:(q+1)*sz≤i*sz:=Zb _ hgt
       rw[Zy]at this
       omega) hf2
   refine ⟨cs',?_,r1,by simpa using r2,r3,r4⟩
   have hst:=W7z (l:=cs) (off:=i*sz) (sz:=sz) (vs:=v.cells.toList) (by simpa using hvs) (by omega)
   unfold Instr.fill
   simp only
   rw[if_neg (by simp; omega),←e,←hst,←Array.foldl_toList,Array.toList_zipIdx]
  ·cases hf2
 | [],_::_,_,_,_,h,_,_,_,_=>h.elim
 | _::_,[],_,_,_,h,_,_,_,_=>h.elim
theorem V6o{t e:TypeId}{n:Nat}{i:TypeInfo}{z:Value}{parts:List (Nat×Operand)}{aparts:List (Nat×AX)}(ho:o.op= .buildSlice t n parts.toArray)(ht:P.underlying t=some (.slice e))(hi:P.info? e=some i)(hz:i.zero=some z)
  (hf:z.cells.toList.all W2d=true) (hzs:z.cells.size=i.size) (hpos:0<i.size) (hsmall:n*i.size≤16777216) (hp:All2 (fun (q:Nat×AX) (p:Nat×Operand)=>p.1=q.1∧trX p.2=some q.2) aparts parts)
  (hd:∀n,o.dst=some n→n<N)
  {ls:List (List PV)} (hl:Wct i.size (List.replicate n (z.cells.toList.map .v)) (aparts.map fun (i,x)=>(i,s.ev x))=some ls) (h:K (s.putr o.dst (.c (.own s.regs.length 0 i.size n .free)) (s.regs++[.pc i.size ls]))) (hR:R P w0 env0 bad0 fps base N s a w) (hK:∀s' a' w',K s'→R P w0 env0 bad0 fps base N s' a' w'→next a' w'):o.wp P a w next Q:=by
 have hn:n≤16777216:=Y5 (Nat.le_mul_of_pos_right n hpos) hsmall
 refine W4w hR hd hK (v:= .c (.own s.regs.length 0 i.size n .free)) (r:= .pc i.size ls) (fun env hnl hsl hrs=> ?_) h
 have hrel:All2 (fun (p:Nat×AV) (q:Nat×Value)=>q.1=p.1∧VRel w env (W04 base env s.regs) p.2 q.2) (aparts.map fun (i,x)=>(i,s.ev x)) (parts.map fun (i,x)=>(i,a.eval x)):=by
  clear hl h ho
  induction aparts generalizing parts with
  | nil=>cases parts with
   | nil=>trivial
   | cons _ _=>exact hp.elim
  | cons q aparts ih=>cases parts with
   | nil=>exact hp.elim
   | cons p parts=>exact ⟨⟨hp.1.1,W05 hsl hp.1.2⟩,ih hp.2⟩
 have hz0:∀i' j,i'<n→j<i.size→((List.range (n*i.size)).map fun q=>z.cells[q%z.cells.size]!)[i'*i.size+j]?=z.cells.toList[j]?:=by
  intro i' j g1 g2
  have hlt:i'*i.size+j<n*i.size:=by
   have:(i'+1)*i.size≤n*i.size:=Zb _ (by omega)
   rw[Zy]at this
   omega
  have hmod:(i'*i.size+j)%z.cells.size=j:=by rw[hzs,Xu,Nat.mul_add_mod,Nat.mod_eq_of_lt g2]
  rw[Zz,Yy hlt,Yi,hmod,Array.getElem!_eq_getD,Zd]
  have:j<z.cells.size:=by omega
  simp[this]
 obtain ⟨cs',he,r1,r2,r3,r4⟩:=W80 (cs:=(List.range (n*i.size)).map fun q=>z.cells[q%z.cells.size]!) hrel (by simp) (fun q hq=>by simp[Yw,hzs]) (by
  intro q hq j hj
  have hq':q<n:=by simpa using hq
  have hj':j<z.cells.toList.length:=by simpa[Yw]using hj
  refine ⟨z.cells.toList[j],by rw[hz0 q j hq' (by simp at hj'; omega)]; exact Z2 hj',?_⟩
  simp only[Yw,Zu]
  exact .v (Za.1 hf _ (Zl _))) hl
 rw[List.length_replicate]at r2
 refine ⟨.slice (some ⟨w.heap.size,0,none⟩) n n,cs'.toArray,e,n,?_,fun bad' hev=> ?_,fun bad'=> ?_⟩
 ·have hrange:(Array.range (n*i.size)).map (fun q=>z.cells[q%z.cells.size]!)=((List.range (n*i.size)).map fun q=>z.cells[q%z.cells.size]!).toArray:=by
   apply Array.ext'
   rw[Array.toList_map,Array.toList_range]
  have hparts:(parts.toArray.map fun (x:Nat×Operand)=>(x.1,a.eval x.2)).toList=parts.map fun (x:Nat×Operand)=>(x.1,a.eval x.2):=by simp
  simp only[execOp,ho,Yr,Instr.buildSlice,Z7 ht,Yl,W10 hi]
  rw[if_neg (by omega)]
  by_cases h0:n*i.size=0
  ·have hn0:n=0:=by
    rcases Y8 n with h1 | h1
    ·exact h1
    ·have:=Nat.mul_pos h1 hpos; omega
   subst hn0
   have hcs:cs'=[]:=Z9 (by rw[r1,r2]; simp)
   subst hcs
   have he':Instr.fill (fun i_1=>some (i_1*i.size,i.size)) #[] (parts.map fun (x:Nat×Operand)=>(x.1,a.eval x.2))=some #[]:=by simpa using he
   simp[he',newRow,show Array.range 0= #[]from rfl]
  ·simp only[h0,if_false,Yr,W5v hi hz,Yl,Sem.run_pure]
   rw[hrange,hparts]
   simp only[he]
   simp[newRow]
 ·refine ⟨hpos,r3,.inr ⟨w.heap.size,n,_,e,Env.push_at _ _,Xi w _,by simp[r1,r2],by omega,by omega,fun q hq j hj=> ?_⟩⟩
  obtain ⟨u,u1,u2⟩:=r4 q hq j hj
  exact ⟨u,by simpa using u1,u2.ev hev⟩
 ·exact .c ⟨by simp[Env.push,hnl],.inr ⟨w.heap.size,n,n,by rw[←hnl,Env.push_at],by simp,by omega,.inr (.inr ⟨rfl,rfl,rfl⟩)⟩⟩
theorem V6p{t e:TypeId}{n:Nat}{i:TypeInfo}{z:Value}{parts:List (Nat×Operand)}{aparts:List (Nat×AX)}(ho:o.op= .buildSlice t n parts.toArray)(ht:P.underlying t=some (.slice e))(hi:P.info? e=some i)(hz:i.zero=some z)
  (hf:z.cells.toList.all W2d=true) (hzs:z.cells.size=i.size) (hpos:0<i.size) (hsmall:n*i.size≤16777216) (hp:All2 (fun (q:Nat×AX) (p:Nat×Operand)=>p.1=q.1∧trX p.2=some q.2) aparts parts)
  (hd:∀n,o.dst=some n→n<N)
  {ls:List (List AC)} (hl:Wcu i.size (upL (List.replicate n (z.cells.toList.map .v))) (aparts.map fun (i,x)=>(i,s.ev x))=some ls) (h:K (s.putr o.dst (.c (.own s.regs.length 0 i.size n .free)) (s.regs++[.es i.size ls]))) (hR:R P w0 env0 bad0 fps base N s a w) (hK:∀s' a' w',K s'→R P w0 env0 bad0 fps base N s' a' w'→next a' w'):o.wp P a w next Q:=by
 have hn:n≤16777216:=Y5 (Nat.le_mul_of_pos_right n hpos) hsmall
 refine W4w hR hd hK (v:= .c (.own s.regs.length 0 i.size n .free)) (r:= .es i.size ls) (fun env hnl hsl hrs=> ?_) h
 have hrel:All2 (fun (p:Nat×AV) (q:Nat×Value)=>q.1=p.1∧VRel w env (W04 base env s.regs) p.2 q.2) (aparts.map fun (i,x)=>(i,s.ev x)) (parts.map fun (i,x)=>(i,a.eval x)):=by
  clear hl h ho
  induction aparts generalizing parts with
  | nil=>cases parts with
   | nil=>trivial
   | cons _ _=>exact hp.elim
  | cons q aparts ih=>cases parts with
   | nil=>exact hp.elim
   | cons p parts=>exact ⟨⟨hp.1.1,W05 hsl hp.1.2⟩,ih hp.2⟩
 have hz0:∀i' j,i'<n→j<i.size→((List.range (n*i.size)).map fun q=>z.cells[q%z.cells.size]!)[i'*i.size+j]?=z.cells.toList[j]?:=by
  intro i' j g1 g2
  have hlt:i'*i.size+j<n*i.size:=by
   have:(i'+1)*i.size≤n*i.size:=Zb _ (by omega)
   rw[Zy]at this
   omega
  have hmod:(i'*i.size+j)%z.cells.size=j:=by rw[hzs,Xu,Nat.mul_add_mod,Nat.mod_eq_of_lt g2]
  rw[Zz,Yy hlt,Yi,hmod,Array.getElem!_eq_getD,Zd]
  have:j<z.cells.size:=by omega
  simp[this]
 obtain ⟨cs',he,r1,r2,r3,r4⟩:=W81 (cs:=(List.range (n*i.size)).map fun q=>z.cells[q%z.cells.size]!) hrel (by rw[W3y]; simp) (Wlo fun q hq=>by simp[Yw,hzs]) (Wf8 (f:=fun q j=>((List.range (n*i.size)).map fun q=>z.cells[q%z.cells.size]!)[q*i.size+j]?) (by
  intro q hq j hj
  have hq':q<n:=by simpa using hq
  have hj':j<z.cells.toList.length:=by simpa[Yw]using hj
  refine ⟨z.cells.toList[j],by rw[hz0 q j hq' (by simp at hj'; omega)]; exact Z2 hj',?_⟩
  simp only[Yw,Zu]
  exact .v (Za.1 hf _ (Zl _)))) hl
 rw[W3y,List.length_replicate]at r2
 refine ⟨.slice (some ⟨w.heap.size,0,none⟩) n n,cs'.toArray,e,n,?_,fun bad' hev=> ?_,fun bad'=> ?_⟩
 ·have hrange:(Array.range (n*i.size)).map (fun q=>z.cells[q%z.cells.size]!)=((List.range (n*i.size)).map fun q=>z.cells[q%z.cells.size]!).toArray:=by
   apply Array.ext'
   rw[Array.toList_map,Array.toList_range]
  have hparts:(parts.toArray.map fun (x:Nat×Operand)=>(x.1,a.eval x.2)).toList=parts.map fun (x:Nat×Operand)=>(x.1,a.eval x.2):=by simp
  simp only[execOp,ho,Yr,Instr.buildSlice,Z7 ht,Yl,W10 hi]
  rw[if_neg (by omega)]
  by_cases h0:n*i.size=0
  ·have hn0:n=0:=by
    rcases Y8 n with h1 | h1
    ·exact h1
    ·have:=Nat.mul_pos h1 hpos; omega
   subst hn0
   have hcs:cs'=[]:=Z9 (by rw[r1,r2]; simp)
   subst hcs
   have he':Instr.fill (fun i_1=>some (i_1*i.size,i.size)) #[] (parts.map fun (x:Nat×Operand)=>(x.1,a.eval x.2))=some #[]:=by simpa using he
   simp[he',newRow,show Array.range 0= #[]from rfl]
  ·simp only[h0,if_false,Yr,W5v hi hz,Yl,Sem.run_pure]
   rw[hrange,hparts]
   simp only[he]
   simp[newRow]
 ·refine ⟨hpos,r3,.inr ⟨w.heap.size,n,_,e,Env.push_at _ _,Xi w _,by simp[r1,r2],by omega,by omega,fun q hq j hj=> ?_⟩⟩
  obtain ⟨u,u1,u2⟩:=r4 q hq j hj
  exact ⟨u,by simpa using u1,KRel.ev hev u2⟩
 ·exact .c ⟨by simp[Env.push,hnl],.inr ⟨w.heap.size,n,n,by rw[←hnl,Env.push_at],by simp,by omega,.inr (.inr ⟨rfl,rfl,rfl⟩)⟩⟩
theorem Wm9{t e:TypeId}{n:Nat}{i:TypeInfo}{z:Value}{parts:List (Nat×Operand)}{aparts:List (Nat×AX)}(ho:o.op= .buildSlice t n parts.toArray)(ht:P.underlying t=some (.slice e))(hi:P.info? e=some i)(hz:i.zero=some z)
  (hf:z.cells.toList.all W2d=true) (hzs:z.cells.size=i.size) (hpos:0<i.size) (hsmall:n*i.size≤16777216) (hp:All2 (fun (q:Nat×AX) (p:Nat×Operand)=>p.1=q.1∧trX p.2=some q.2) aparts parts)
  (hd:∀n,o.dst=some n→n<N)
  (h:opW P (.bsl o.dst i.size n z.cells.toList aparts) s K) (hR:R P w0 env0 bad0 fps base N s a w) (hK:∀s' a' w',K s'→R P w0 env0 bad0 fps base N s' a' w'→next a' w'):o.wp P a w next Q:=by
 simp only[opW]at h
 split at h
 ·rename_i ls hl
  exact V6o ho ht hi hz hf hzs hpos hsmall hp hd hl h hR hK
 ·split at h
  ·rename_i ls hl
   exact V6p ho ht hi hz hf hzs hpos hsmall hp hd hl h hR hK
  ·exact h.elim
end
section
variable {P:Program} {w0 w w':World} {env0 env:Env} {bad0:Bs} {fps:List Nat} {base:Nat→Prop} {N:Nat} {regs:List Reg} {s:St} {a:Act} {o:Oper}
 {next:Act→World→Prop} {Q:Exit→Act→World→Prop} {K:St→Prop}
theorem getElem?_snoc{α:Type}{l:List α}{x y:α}{i:Nat}(h:(l++[x])[i]?=some y):l[i]?=some y∧i<l.length∨i=l.length∧y=x:=by
 rw[List.getElem?_append]at h
 split at h
 ·rename_i hlt; exact .inl ⟨h,hlt⟩
 ·rename_i hge
  obtain ⟨h1,h2⟩:=Z3.1 h
  have:i-l.length=0:=by simpa using h1
  refine .inr ⟨by omega,?_⟩
  rw[←h2]
  simp[this]
theorem RS.push_nil(h:RS P w0 w fps base env regs)(sz:Nat)(hz:0<sz):RS P w0 w fps base (env.push none) (regs++[.pc sz []])∧Ev w env (W04 base env regs) w (env.push none) (W04 base (env.push none) (regs++[.pc sz []])):=by
 have hf:∀id,id<env.n→(env.push none).f id=env.f id:=(Env.le_push env _).2
 have hget:∀(id:Nat) (r:Reg),(regs++[Reg.pc sz []])[id]?=some r→regs[id]?=some r∧id<env.n∨id=env.n∧r= .pc sz []:=by
  intro id r hx
  rcases getElem?_snoc hx with ⟨h1,h2⟩ | ⟨h1,h2⟩
  ·exact .inl ⟨h1,by rw[h.len]; exact h2⟩
  ·exact .inr ⟨by rw[h.len]; exact h1,h2⟩
 have hsub:∀b,W04 base (env.push none) (regs++[.pc sz []]) b→W04 base env regs b:=by
  intro b hx
  rcases hx with hx | ⟨id,r,c,hx,hl,he⟩
  ·exact .inl hx
  ·rcases hget id r hx with ⟨h1,h2⟩ | ⟨rfl,rfl⟩
   ·rw[hf id h2]at he; exact .inr ⟨id,r,c,h1,hl,he⟩
   ·rw[Env.push_at]at he; cases he
 have hev:Ev w env (W04 base env regs) w (env.push none) (W04 base (env.push none) (regs++[.pc sz []])):=⟨⟨Z8 _,fun _ _ _=>rfl⟩,fun b _=>hsub b,Env.le_push _ _⟩
 refine ⟨⟨h.keep,h.base_lt,by simp[Env.push,h.len],fun id r hx=> ?_,fun id r g c hx hl he=> ?_,fun i j r1 r2 g c1 c2 h1 h2 l1 l2 e1 e2=> ?_⟩,hev⟩
 ·rcases hget id r hx with ⟨h1,h2⟩ | ⟨rfl,rfl⟩
  ·exact RRel.ev hev h2 (fun _ _ _ _=>rfl) (h.reg id r h1)
  ·exact ⟨hz,fun i hi=>by simp at hi,.inl ⟨Env.push_at _ _,rfl⟩⟩
 ·rcases hget id r hx with ⟨h1,h2⟩ | ⟨rfl,rfl⟩
  ·rw[hf id h2]at he; exact h.own id r g c h1 hl he
  ·rw[Env.push_at]at he; cases he
 ·rcases hget i r1 h1 with ⟨k1,i1⟩ | ⟨rfl,rfl⟩
  ·rcases hget j r2 h2 with ⟨k2,i2⟩ | ⟨rfl,rfl⟩
   ·rw[hf i i1]at e1; rw[hf j i2]at e2
    exact h.inj i j r1 r2 g c1 c2 k1 k2 l1 l2 e1 e2
   ·rw[Env.push_at]at e2; cases e2
  ·rw[Env.push_at]at e1; cases e1
theorem RS.move(h:RS P w0 w fps base env regs){id sz g c:Nat}{ls:List (List PV)}(hr:regs[id]?=some (.pc sz ls))(he:env.f id=some (g,c)):
  RS P w0 w fps base (env.push (some (g,c))) (regs.set id .dead++[.pc sz ls])∧Ev w env (W04 base env regs) w (env.push (some (g,c))) (W04 base (env.push (some (g,c))) (regs.set id .dead++[.pc sz ls])):=by
 have hid:id<regs.length:=(Z3.1 hr).1
 have hf:∀id,id<env.n→(env.push (some (g,c))).f id=env.f id:=(Env.le_push env _).2
 have hget:∀(i:Nat) (r:Reg),(regs.set id .dead++[Reg.pc sz ls])[i]?=some r→r.live=true→i≠id∧regs[i]?=some r∧i<env.n∨i=env.n∧r= .pc sz ls:=by
  intro i r hx hl
  rcases getElem?_snoc hx with ⟨h1,h2⟩ | ⟨h1,h2⟩
  ·rw[Xc]at h1
   split at h1
   ·cases h1; cases hl
   ·rename_i hne
    exact .inl ⟨fun e=>hne e.symm,h1,by rw[h.len]; simpa using h2⟩
  ·exact .inr ⟨by rw[h.len]; simpa using h1,h2⟩
 have hsub:∀b,W04 base (env.push (some (g,c))) (regs.set id .dead++[.pc sz ls]) b→W04 base env regs b:=by
  intro b hx
  rcases hx with hx | ⟨i,r,c',hx,hl,he'⟩
  ·exact .inl hx
  ·rcases hget i r hx hl with ⟨_,h1,h2⟩ | ⟨rfl,rfl⟩
   ·rw[hf i h2]at he'; exact .inr ⟨i,r,c',h1,hl,he'⟩
   ·rw[Env.push_at]at he'
    cases he'
    exact .inr ⟨id,_,c,hr,rfl,he⟩
 have hev:Ev w env (W04 base env regs) w (env.push (some (g,c))) (W04 base (env.push (some (g,c))) (regs.set id .dead++[.pc sz ls])):=⟨⟨Z8 _,fun _ _ _=>rfl⟩,fun b _=>hsub b,Env.le_push _ _⟩
 refine ⟨⟨h.keep,h.base_lt,by simp[Env.push,h.len],fun i r hx=> ?_,fun i r g' c' hx hl he'=> ?_,fun i j r1 r2 g' c1 c2 h1 h2 l1 l2 e1 e2=> ?_⟩,hev⟩
 ·by_cases hl:r.live=true
  ·rcases hget i r hx hl with ⟨_,h1,h2⟩ | ⟨rfl,rfl⟩
   ·exact RRel.ev hev h2 (fun _ _ _ _=>rfl) (h.reg i r h1)
   ·obtain ⟨hz,hs,hrr⟩:=h.reg id _ hr
    refine ⟨hz,hs,.inr ?_⟩
    rcases hrr with ⟨h1,_⟩ | ⟨g',c',cur,t,e,hg,q1,q2,q3,q4⟩
    ·rw[he]at h1; cases h1
    ·rw[he]at e
     cases e
     exact ⟨g,c,cur,t,Env.push_at _ _,hg,q1,q2,q3,fun i hi j hj=>let ⟨u,u1,u2⟩:=q4 i hi j hj; ⟨u,u1,u2.ev hev⟩⟩
  ·cases r with
   | dead=>trivial
   | _=>exact absurd rfl hl
 ·rcases hget i r hx hl with ⟨_,h1,h2⟩ | ⟨rfl,rfl⟩
  ·rw[hf i h2]at he'; exact h.own i r g' c' h1 hl he'
  ·rw[Env.push_at]at he'
   cases he'
   exact h.own id _ g c hr rfl he
 ·rcases hget i r1 h1 l1 with ⟨n1,k1,i1⟩ | ⟨p1,p2⟩
  ·rcases hget j r2 h2 l2 with ⟨n2,k2,i2⟩ | ⟨p3,p4⟩
   ·rw[hf i i1]at e1; rw[hf j i2]at e2
    exact h.inj i j r1 r2 g' c1 c2 k1 k2 l1 l2 e1 e2
   ·rw[hf i i1]at e1
    rw[p3,Env.push_at]at e2
    cases e2
    exact absurd (h.inj i id r1 _ _ c1 c k1 hr l1 rfl e1 he) n1
  ·rcases hget j r2 h2 l2 with ⟨n2,k2,i2⟩ | ⟨p3,_⟩
   ·rw[hf j i2]at e2
    rw[p1,Env.push_at]at e1
    cases e1
    exact absurd (h.inj j id r2 _ _ c2 c k2 hr l2 rfl e2 he) n2
   ·rw[p1,p3]
theorem RS.push_nilE(h:RS P w0 w fps base env regs)(sz:Nat)(hz:0<sz):RS P w0 w fps base (env.push none) (regs++[.es sz []])∧Ev w env (W04 base env regs) w (env.push none) (W04 base (env.push none) (regs++[.es sz []])):=by
 have hf:∀id,id<env.n→(env.push none).f id=env.f id:=(Env.le_push env _).2
 have hget:∀(id:Nat) (r:Reg),(regs++[Reg.es sz []])[id]?=some r→regs[id]?=some r∧id<env.n∨id=env.n∧r= .es sz []:=by
  intro id r hx
  rcases getElem?_snoc hx with ⟨h1,h2⟩ | ⟨h1,h2⟩
  ·exact .inl ⟨h1,by rw[h.len]; exact h2⟩
  ·exact .inr ⟨by rw[h.len]; exact h1,h2⟩
 have hsub:∀b,W04 base (env.push none) (regs++[.es sz []]) b→W04 base env regs b:=by
  intro b hx
  rcases hx with hx | ⟨id,r,c,hx,hl,he⟩
  ·exact .inl hx
  ·rcases hget id r hx with ⟨h1,h2⟩ | ⟨rfl,rfl⟩
   ·rw[hf id h2]at he; exact .inr ⟨id,r,c,h1,hl,he⟩
   ·rw[Env.push_at]at he; cases he
 have hev:Ev w env (W04 base env regs) w (env.push none) (W04 base (env.push none) (regs++[.es sz []])):=⟨⟨Z8 _,fun _ _ _=>rfl⟩,fun b _=>hsub b,Env.le_push _ _⟩
 refine ⟨⟨h.keep,h.base_lt,by simp[Env.push,h.len],fun id r hx=> ?_,fun id r g c hx hl he=> ?_,fun i j r1 r2 g c1 c2 h1 h2 l1 l2 e1 e2=> ?_⟩,hev⟩
 ·rcases hget id r hx with ⟨h1,h2⟩ | ⟨rfl,rfl⟩
  ·exact RRel.ev hev h2 (fun _ _ _ _=>rfl) (h.reg id r h1)
  ·exact ⟨hz,fun i hi=>by simp at hi,.inl ⟨Env.push_at _ _,rfl⟩⟩
 ·rcases hget id r hx with ⟨h1,h2⟩ | ⟨rfl,rfl⟩
  ·rw[hf id h2]at he; exact h.own id r g c h1 hl he
  ·rw[Env.push_at]at he; cases he
 ·rcases hget i r1 h1 with ⟨k1,i1⟩ | ⟨rfl,rfl⟩
  ·rcases hget j r2 h2 with ⟨k2,i2⟩ | ⟨rfl,rfl⟩
   ·rw[hf i i1]at e1; rw[hf j i2]at e2
    exact h.inj i j r1 r2 g c1 c2 k1 k2 l1 l2 e1 e2
   ·rw[Env.push_at]at e2; cases e2
  ·rw[Env.push_at]at e1; cases e1
theorem RS.moveE(h:RS P w0 w fps base env regs){id sz g c:Nat}{ls:List (List AC)}(hr:regs[id]?=some (.es sz ls))(he:env.f id=some (g,c)):
  RS P w0 w fps base (env.push (some (g,c))) (regs.set id .dead++[.es sz ls])∧Ev w env (W04 base env regs) w (env.push (some (g,c))) (W04 base (env.push (some (g,c))) (regs.set id .dead++[.es sz ls])):=by
 have hid:id<regs.length:=(Z3.1 hr).1
 have hf:∀id,id<env.n→(env.push (some (g,c))).f id=env.f id:=(Env.le_push env _).2
 have hget:∀(i:Nat) (r:Reg),(regs.set id .dead++[Reg.es sz ls])[i]?=some r→r.live=true→i≠id∧regs[i]?=some r∧i<env.n∨i=env.n∧r= .es sz ls:=by
  intro i r hx hl
  rcases getElem?_snoc hx with ⟨h1,h2⟩ | ⟨h1,h2⟩
  ·rw[Xc]at h1
   split at h1
   ·cases h1; cases hl
   ·rename_i hne
    exact .inl ⟨fun e=>hne e.symm,h1,by rw[h.len]; simpa using h2⟩
  ·exact .inr ⟨by rw[h.len]; simpa using h1,h2⟩
 have hsub:∀b,W04 base (env.push (some (g,c))) (regs.set id .dead++[.es sz ls]) b→W04 base env regs b:=by
  intro b hx
  rcases hx with hx | ⟨i,r,c',hx,hl,he'⟩
  ·exact .inl hx
  ·rcases hget i r hx hl with ⟨_,h1,h2⟩ | ⟨rfl,rfl⟩
   ·rw[hf i h2]at he'; exact .inr ⟨i,r,c',h1,hl,he'⟩
   ·rw[Env.push_at]at he'
    cases he'
    exact .inr ⟨id,_,c,hr,rfl,he⟩
 have hev:Ev w env (W04 base env regs) w (env.push (some (g,c))) (W04 base (env.push (some (g,c))) (regs.set id .dead++[.es sz ls])):=⟨⟨Z8 _,fun _ _ _=>rfl⟩,fun b _=>hsub b,Env.le_push _ _⟩
 refine ⟨⟨h.keep,h.base_lt,by simp[Env.push,h.len],fun i r hx=> ?_,fun i r g' c' hx hl he'=> ?_,fun i j r1 r2 g' c1 c2 h1 h2 l1 l2 e1 e2=> ?_⟩,hev⟩
 ·by_cases hl:r.live=true
  ·rcases hget i r hx hl with ⟨_,h1,h2⟩ | ⟨rfl,rfl⟩
   ·exact RRel.ev hev h2 (fun _ _ _ _=>rfl) (h.reg i r h1)
   ·obtain ⟨hz,hs,hrr⟩:=h.reg id _ hr
    refine ⟨hz,hs,.inr ?_⟩
    rcases hrr with ⟨h1,_⟩ | ⟨g',c',cur,t,e,hg,q1,q2,q3,q4⟩
    ·rw[he]at h1; cases h1
    ·rw[he]at e
     cases e
     exact ⟨g,c,cur,t,Env.push_at _ _,hg,q1,q2,q3,fun i hi j hj=>let ⟨u,u1,u2⟩:=q4 i hi j hj; ⟨u,u1,KRel.ev hev u2⟩⟩
  ·cases r with
   | dead=>trivial
   | _=>exact absurd rfl hl
 ·rcases hget i r hx hl with ⟨_,h1,h2⟩ | ⟨rfl,rfl⟩
  ·rw[hf i h2]at he'; exact h.own i r g' c' h1 hl he'
  ·rw[Env.push_at]at he'
   cases he'
   exact h.own id _ g c hr rfl he
 ·rcases hget i r1 h1 l1 with ⟨n1,k1,i1⟩ | ⟨p1,p2⟩
  ·rcases hget j r2 h2 l2 with ⟨n2,k2,i2⟩ | ⟨p3,p4⟩
   ·rw[hf i i1]at e1; rw[hf j i2]at e2
    exact h.inj i j r1 r2 g' c1 c2 k1 k2 l1 l2 e1 e2
   ·rw[hf i i1]at e1
    rw[p3,Env.push_at]at e2
    cases e2
    exact absurd (h.inj i id r1 _ _ c1 c k1 hr l1 rfl e1 he) n1
  ·rcases hget j r2 h2 l2 with ⟨n2,k2,i2⟩ | ⟨p3,_⟩
   ·rw[hf j i2]at e2
    rw[p1,Env.push_at]at e1
    cases e1
    exact absurd (h.inj j id r2 _ _ c2 c k2 hr l2 rfl e2 he) n2
   ·rw[p1,p3]
theorem Wab{A:Option Addr}{m c sz:Nat}{news:List Value}(hl:news.length=m*sz)(hc:0<m→∃ad,A=some ad∧∀j x,news[j]?=some x→w.cell? (ad.add j)=some x):
  (Builtin.firstCells sz m (.slice A m c)).run P w= .ok news.toArray w:=by
 rcases A with _ | ad
 ·have hm:m=0:=by
   rcases Y8 m with h | h
   ·exact h
   ·obtain ⟨ad,h,_⟩:=hc h; cases h
  subst hm
  have:news=[]:=Z9 (by simpa using hl)
  subst this
  simp[Builtin.firstCells]
 ·have hcells:∀j v,news[j]?=some v→w.cell? (ad.add j)=some v:=by
   intro j v hj
   rcases Y8 m with h | h
   ·subst h
    have:news=[]:=Z9 (by simpa using hl)
    subst this; simp at hj
   ·obtain ⟨ad',h,hc⟩:=hc h
    cases h
    exact hc j v hj
  have:=run_loadCells_list (P:=P) (w:=w) ad news hcells
  rw[hl]at this
  simpa[Builtin.firstCells]using this
theorem Whd{t ty e:TypeId}{i:TypeInfo}(ht:P.underlying t=some (.slice e))(hi:P.info? e=some i){g len cap:Nat}{cur:Array Value}{tb:TypeId}(hg:w.heap[g]?=some (.cells cur tb (0,0)))
  {A:Option Addr} {m c:Nat} {news:List Value} (hl:news.length=m*i.size) (hc:0<m→∃ad,A=some ad∧∀j x,news[j]?=some x→w.cell? (ad.add j)=some x) (h1:∀u∈news,u.oneCell'=true)
  (hroom:len+m≤cap) (hfit:len*i.size+news.length≤cur.size):
  (Builtin.append_ #[t,t] ty #[.slice (some ⟨g,0,none⟩) len cap,.slice A m c]).run P w=
   .ok (.slice (some ⟨g,0,none⟩) (len+m) cap) (w.setRow g (cur.toList.take (len*i.size)++news++cur.toList.drop (len*i.size+news.length)).toArray):=by
 have hf:=Wab (P:=P) (c:=c) hl hc
 have hst:=run_storeCells_at (P:=P) g (len*i.size) tb news 0 cur w hg (by simpa using hfit) h1
 simp only[Nat.add_zero]at hst
 simp[Builtin.append_,Z7 ht,sizeOf,typeInfo,hi,Builtin.lenOf,hroom,hf,Addr.add_lit,hst]
end
section
variable {P:Program} {w0 w w':World} {env0 env:Env} {bad0:Bs} {fps:List Nat} {base:Nat→Prop} {N:Nat} {regs:List Reg} {s:St} {a:Act} {o:Oper}
 {next:Act→World→Prop} {Q:Exit→Act→World→Prop} {K:St→Prop}
theorem Whe{t ty e:TypeId}{i:TypeInfo}{z:Value}(ht:P.underlying t=some (.slice e))(hi:P.info? e=some i)(hz:i.zero=some z)(hzs:z.cells.size=i.size)
  {B A:Option Addr} {sl sc m c:Nat} {olds news:List Value} (hB:B=none→sl=0∧sc=0) (hlo:olds.length=sl*i.size) (ho:0<sl→∃ad,B=some ad∧∀j x,olds[j]?=some x→w.cell? (ad.add j)=some x)
  (hl:news.length=m*i.size) (hn:0<m→∃ad,A=some ad∧∀j x,news[j]?=some x→w.cell? (ad.add j)=some x) (h0:0<m) (hg:sc<sl+m) (h1:sl+m≤140737488355328) (h2:(sl+m)*i.bytes≤140737488355328):
  ∃(cur:Array Value) (cap:Nat),(Builtin.append_ #[t,t] ty #[.slice B sl sc,.slice A m c]).run P w= .ok (.slice (some ⟨w.heap.size,0,none⟩) (sl+m) cap) (w.drew.alloc (.cells cur e))∧
   cur.size=cap*i.size∧sl+m≤cap∧cap≤9223372036854775807∧∀(j:Nat) (x:Value),(olds++news)[j]?=some x→cur[j]?=some x:=by
 obtain ⟨ad,rfl,hnc⟩:=hn h0
 have hge:=grownCap_ge w (sl+m) sc e
 have hle:=grownCap_le_maxLen w (sl+m) sc e (Y5 h1 (by decide))
 have hfit:Builtin.nextslicecap (sl+m) sc*i.bytes≤281474976710656:=growslice_fits hg h2
 rcases B with _ | b
 ·obtain ⟨rfl,rfl⟩:=hB rfl
  have ho0:olds=[]:=Z9 (by simpa using hlo)
  subst ho0
  have:=run_append_nil (P:=P) (w:=w) t ty e i z ht hi hz ad m c news hl hnc h0 (by omega) (by simp at h2; omega)
  simp only[Xn]at hge hle ⊢
  refine ⟨_,_,this,?_,hge,Y5 hle (by decide),fun j x hj=> ?_⟩
  ·simp[Builtin.zeroCells,hl,hzs,←Yj,Nat.add_sub_cancel' hge]
  ·have hjl:=(Z3.1 hj).1
   simp only[Xa]at hj hjl
   rw[Array.getElem?_append_left (by simpa using hjl)]
   simpa using hj
 ·have holds:∀j x,olds[j]?=some x→w.cell? (b.add j)=some x:=by
   intro j x hj
   rcases Y8 sl with h | h
   ·subst h
    have ho0:olds=[]:=Z9 (by simpa using hlo)
    subst ho0; simp at hj
   ·obtain ⟨ad',e',hc⟩:=ho h
    cases e'
    exact hc j x hj
  have:=run_append_grow (P:=P) (w:=w) t ty e i z ht hi hz b sl sc olds hlo holds ad m c news hl hnc hg (by omega) hfit
  refine ⟨_,_,this,?_,hge,Y5 hle (by decide),fun j x hj=> ?_⟩
  ·simp[Builtin.zeroCells,hl,hlo,hzs,←Yj,Nat.add_sub_cancel' hge]
  ·have hjl:=(Z3.1 hj).1
   rw[Array.getElem?_append_left (by simpa using hjl)]
   simpa using hj
theorem W34{u v:Operand}{t:TypeId}{r:Value}(ho:o.op= .call {callee:= .builtin .append,args:= #[u,v],argTypes:= #[t,t]})
  (h:(Builtin.append_ #[t,t] o.type #[a.eval u,a.eval v]).run P w= .ok r w'):(execOp a.eval o).run P w= .ok (.value r) w':=by
 unfold execOp
 simp only[ho,resolve,invoke,builtin,Yr,Sem.run_pure,Yl,List.map_toArray,Zh,Y9,h]
theorem Wsc{sz:Nat}(hpos:0<sz){e:TypeId}
  {cur:Array Value} {cap n:Nat} (hex:(execOp a.eval o).run P w= .ok (.value (.slice (some ⟨w.heap.size,0,none⟩) n cap)) (w.drew.alloc (.cells cur e)))
  (hcs:cur.size=cap*sz) (hn:n≤cap) (hcap:cap≤9223372036854775807) (hts:a.tmps.size=N) (hdf:DsOk bad0 w0 a.defers)
  (hsl:∀n,VRel w env (W04 base env s.regs) (lk s.slots n) (a.tmps.getD n undef)) (hev0:Ev bad0.w env0 bad0.bad w env (W04 base env s.regs)) {regs1:List Reg} (hrs:RS P w0 w fps base env regs1)
  (hev:Ev w env (W04 base env s.regs) w env (W04 base env regs1)) (hlen:regs1.length=s.regs.length) {L:List (List AC)} (hL:L.length=n) (hLs:∀i (h:i<L.length),L[i].length=sz)
  (hrel:∀i (h:i<L.length),∀j (h':j<L[i].length),∃x,cur[i*sz+j]?=some x∧KRel w env (W04 base env s.regs) L[i][j] x)
  (hd:∀n,o.dst=some n→n<N) (hk:K (s.putr o.dst (.c (.own s.regs.length 0 sz n .free)) (regs1++[.es sz L])))
  (hK:∀s' a' w',K s'→R P w0 env0 bad0 fps base N s' a' w'→next a' w'):o.wp P a w next Q:=by
 have hrs1:RS P w0 w.drew fps base env regs1:=hrs.draw rfl rfl rfl rfl
 have hev1:Ev w env (W04 base env s.regs) w.drew env (W04 base env regs1):=⟨⟨Z8 _,fun _ _ _=>rfl⟩,hev.sub,hev.le⟩
 have hnl:env.n=s.regs.length:=hrs.len.trans hlen
 obtain ⟨hrs2,hev2⟩:=hrs1.alloc (w':=w.drew.alloc (.cells cur e)) (r:= .es sz L) (o:= .cells cur e) (c:=cap) rfl (fun bad' h2=>by
  refine ⟨hpos,hLs,.inr ⟨w.heap.size,cap,cur,e,Env.push_at _ _,Xi w.drew _,hcs,hcap,by rw[hL]; exact hn,fun i h j h'=> ?_⟩⟩
  obtain ⟨x,hx,hp⟩:=hrel i h j h'
  exact ⟨x,hx,KRel.ev h2 (KRel.ev hev1 hp)⟩)
 exact W1p hex (hK _ _ _ hk (R.put' hts hdf hsl hev0 hrs2 (hev1.trans hev2) hd<| .c ⟨by simp[Env.push,hnl],.inr ⟨w.heap.size,cap,cap,by rw[←hnl]; exact Env.push_at _ _,by simp,hn,.inr (.inr ⟨rfl,rfl,rfl⟩)⟩⟩))
theorem W82{bad:Nat→Prop}{sz:Nat}{X Y:List (List AC)}{xs ys:List Value}(hx:xs.length=X.length*sz)(hX:∀i (h:i<X.length),∀j (h':j<X[i].length),∃u,xs[i*sz+j]?=some u∧KRel w env bad X[i][j] u)
  (hY:∀i (h:i<Y.length),∀j (h':j<Y[i].length),∃u,ys[i*sz+j]?=some u∧KRel w env bad Y[i][j] u):
  ∀i (h:i<(X++Y).length),∀j (h':j<(X++Y)[i].length),∃u,(xs++ys)[i*sz+j]?=some u∧KRel w env bad (X++Y)[i][j] u:=by
 intro i h j h'
 by_cases hi:i<X.length
 ·have e:(X++Y)[i]=X[i]:=List.getElem_append_left hi
  simp only[e]at h' ⊢
  obtain ⟨u,hu,hp⟩:=hX i hi j h'
  exact ⟨u,by rw[Zp (Z3.1 hu).1]; exact hu,hp⟩
 ·have hi':i-X.length<Y.length:=by simp at h; omega
  have e:(X++Y)[i]=Y[i-X.length]:=List.getElem_append_right (by omega)
  simp only[e]at h' ⊢
  obtain ⟨u,hu,hp⟩:=hY _ hi' j h'
  refine ⟨u,?_,hp⟩
  have hle:X.length*sz≤i*sz:=Zb _ (by omega)
  rw[Y3 (by omega),hx,show i*sz+j-X.length*sz=(i-X.length)*sz+j by rw[Nat.sub_mul]; omega]
  exact hu
theorem W5x{sz:Nat}{X Y:List (List AC)}(hX:∀i (h:i<X.length),X[i].length=sz)(hY:∀i (h:i<Y.length),Y[i].length=sz):∀i (h:i<(X++Y).length),(X++Y)[i].length=sz:=by
 intro i h
 by_cases hi:i<X.length
 ·rw[List.getElem_append_left hi]; exact hX i hi
 ·rw[List.getElem_append_right (by omega)]; exact hY _ _
theorem W4h{x y:Operand}{t e:TypeId}{i:TypeInfo}{z:Value}(ho:o.op= .call {callee:= .builtin .append,args:= #[x,y],argTypes:= #[t,t]})
  (ht:P.underlying t=some (.slice e)) (hi:P.info? e=some i) (hz:i.zero=some z) (hzs:z.cells.size=i.size) (hpos:0<i.size)
  (hts:a.tmps.size=N) (hdf:DsOk bad0 w0 a.defers)
  (hsl:∀n,VRel w env (W04 base env s.regs) (lk s.slots n) (a.tmps.getD n undef)) (hev0:Ev bad0.w env0 bad0.bad w env (W04 base env s.regs)) {regs1:List Reg} (hrs:RS P w0 w fps base env regs1)
  (hev:Ev w env (W04 base env s.regs) w env (W04 base env regs1)) (hlen:regs1.length=s.regs.length)
  {B A:Option Addr} {sc c:Nat} {olds news:List Value} {X Y:List (List AC)} (hx:a.eval x= .slice B X.length sc) (hy:a.eval y= .slice A Y.length c)
  (hB:B=none→X.length=0∧sc=0) (hlo:olds.length=X.length*i.size) (hoc:0<X.length→∃ad,B=some ad∧∀j x,olds[j]?=some x→w.cell? (ad.add j)=some x)
  (hl:news.length=Y.length*i.size) (hnc:0<Y.length→∃ad,A=some ad∧∀j x,news[j]?=some x→w.cell? (ad.add j)=some x) (h0:0<Y.length) (hg:sc<X.length+Y.length) (h1:X.length+Y.length≤140737488355328)
  (h2:(X.length+Y.length)*i.bytes≤140737488355328) (hXs:∀j (h:j<X.length),X[j].length=i.size) (hYs:∀j (h:j<Y.length),Y[j].length=i.size)
  (hX:∀q (h:q<X.length),∀j (h':j<X[q].length),∃u,olds[q*i.size+j]?=some u∧KRel w env (W04 base env s.regs) X[q][j] u)
  (hY:∀q (h:q<Y.length),∀j (h':j<Y[q].length),∃u,news[q*i.size+j]?=some u∧KRel w env (W04 base env s.regs) Y[q][j] u)
  (hd:∀n,o.dst=some n→n<N) (hk:K (s.putr o.dst (.c (.own s.regs.length 0 i.size (X.length+Y.length) .free)) (regs1++[.es i.size (X++Y)])))
  (hK:∀s' a' w',K s'→R P w0 env0 bad0 fps base N s' a' w'→next a' w'):o.wp P a w next Q:=by
 obtain ⟨cur,cap,hrun,hcs,hn,hcap,hcells⟩:=Whe (ty:=o.type) ht hi hz hzs hB hlo hoc hl hnc h0 hg h1 h2 (c:=c)
 rw[←hx,←hy]at hrun
 refine Wsc hpos (W34 ho hrun) hcs hn hcap hts hdf hsl hev0 hrs hev hlen (Z5 ..) (W5x hXs hYs) (fun q h j h'=> ?_) hd hk hK
 obtain ⟨u,hu,hp⟩:=W82 hlo hX hY q h j h'
 exact ⟨u,hcells _ _ hu,hp⟩
theorem Wjs{x y:Operand}{ax ay:AX}{t e:TypeId}{i:TypeInfo}{z:Value}(ho:o.op= .call {callee:= .builtin .append,args:= #[x,y],argTypes:= #[t,t]})
  (ht:P.underlying t=some (.slice e)) (hi:P.info? e=some i) (hz:i.zero=some z) (hzs:z.cells.size=i.size) (hpos:0<i.size) (hx:trX x=some ax) (hy:trX y=some ay)
  (hd:∀n,o.dst=some n→n<N) (h:appE s.regs (s.ev ax) (s.ev ay) i.size i.bytes fun v rg=>K (s.putr o.dst v rg)) (hR:R P w0 env0 bad0 fps base N s a w) (hK:∀s' a' w',K s'→R P w0 env0 bad0 fps base N s' a' w'→next a' w'):o.wp P a w next Q:=by
 obtain ⟨⟨env,hrs,hsl,hev⟩,hts,hdf⟩:=hR
 simp only[appE]at h
 split at h
 rotate_left
 ·exact h.elim
 rename_i ls n hls hn
 obtain ⟨rfl,hsz,h⟩:=h
 obtain ⟨A,c,news,hyv,hl,hYs,hY,hone,hnc⟩:=Wm6 hrs rfl (W05 hsl hy) hls hn hsz hpos
 have hvx:=W05 hsl hx
 split at h
 ·--onto nil
  rename_i he
  rw[he]at hvx
  have hxv:=(W1w hvx rfl).1
  obtain ⟨h1,h2,h⟩:=h
  rcases Y8 ls.length with h0 | h0
  ·have hls0:ls=[]:=Z9 h0
   subst hls0
   obtain ⟨hrs',hev'⟩:=hrs.push_nilE i.size hpos
   refine W1p (v:= .slice none 0 0) (w':=w) (W34 ho ?_) (hK _ _ _ h (R.put' hts hdf hsl hev hrs' hev' hd (.c ⟨by simp[Env.push,hrs.len],.inl ⟨by rw[←hrs.len]; exact Env.push_at _ _,rfl,rfl,rfl⟩⟩)))
   have hf:=Wab (P:=P) (c:=c) hl hnc
   rw[hxv,hyv]
   simp only[Yv]at hf ⊢
   have hn0:news=[]:=Z9 (by simpa using hl)
   subst hn0
   simp[Builtin.append_,Z7 ht,sizeOf,typeInfo,hi,Builtin.lenOf,hf]
  ·exact W4h ho ht hi hz hzs hpos hts hdf hsl hev hrs (Ev.refl _ _ _) rfl (B:=none) (sc:=0) (X:=[]) (olds:=[]) hxv hyv (fun _=>⟨rfl,rfl⟩) (by simp) (fun h=>by simp at h) hl hnc h0
    (by simpa using h0) (by simpa using h1) (by simpa using h2) (fun j h=>by simp at h) hYs (fun q h=>by simp at h) hY hd (by simpa using h) hK
 ·--onto a row of the call's own,whose room is its block's
  rename_i id sz' len he
  rw[he]at hvx
  split at h
  rotate_left
  ·exact h.elim
  rename_i sz'' old hreg0
  obtain ⟨rg0,hreg,hes⟩:=Z0.1 hreg0
  obtain ⟨rfl,rfl,hle,h1,h2,h⟩:=h
  obtain ⟨hidn,hown⟩:=(c_of hvx:OwnV env id 0 i.size len .free (a.eval x))
  obtain ⟨hk1,hev1⟩:=hrs.kill id
  have htl:(old.take len).length=len:=by simp[hle]
  obtain ⟨_,hold,hrow⟩:=(hrs.reg id _ hreg).toEs hes
  rcases hown with ⟨hnone,_,rfl,hxv⟩ | ⟨g,cap,k,hsome,hxv,hlk,hcap⟩
  ·--nil
   simp only[List.take_zero,Xa,Xn]at h h1 h2 htl
   rcases Y8 ls.length with h0 | h0
   ·have hls0:ls=[]:=Z9 h0
    subst hls0
    obtain ⟨hrs',hev'⟩:=hk1.push_nilE i.size hpos
    refine W1p (v:= .slice none 0 0) (w':=w) (W34 ho ?_) (hK _ _ _ h (R.put' hts hdf hsl hev hrs' (hev1.trans hev') hd (.c ⟨by simp[Env.push,hrs.len],.inl ⟨by rw[←hrs.len]; exact Env.push_at _ _,rfl,rfl,rfl⟩⟩)))
    have hf:=Wab (P:=P) (c:=c) hl hnc
    rw[hxv,hyv]
    simp only[Yv]at hf ⊢
    have hn0:news=[]:=Z9 (by simpa using hl)
    subst hn0
    simp[Builtin.append_,Z7 ht,sizeOf,typeInfo,hi,Builtin.lenOf,hf]
   ·exact W4h ho ht hi hz hzs hpos hts hdf hsl hev hk1 hev1 (by simp) (B:=none) (sc:=0) (X:=[]) (olds:=[]) hxv hyv (fun _=>⟨rfl,rfl⟩) (by simp) (fun h=>by simp at h) hl hnc h0
     (by simpa using h0) (by simpa using h1) (by simpa using h2) (fun j h=>by simp at h) hYs (fun q h=>by simp at h) hY hd (by simpa using h) hK
  ·rcases hrow with ⟨hnone,_⟩ | ⟨g',cap',cur,ct,hsome',hheap,hcsz,hcm,hlc,hcells⟩
   ·rw[hsome]at hnone; cases hnone
   rw[hsome]at hsome'
   cases hsome'
   obtain rfl:k=cap:=by
    rcases hcap with h | h | ⟨_,_,h⟩
    ·cases h
    ·cases h
    ·exact h
   simp only[Nat.zero_mul]at hxv
   by_cases hroom:len+ls.length≤k
   ·--there is room
    have hfit:len*i.size+news.length≤cur.size:=by
     rw[hl,hcsz,←Yj]; exact Zb _ hroom
    have hrun:=Whd (P:=P) (w:=w) (ty:=o.type) ht hi hheap (c:=c) hl hnc hone hroom hfit
    rw[←hxv,←hyv]at hrun
    have hXs:∀j (h:j<(old.take len).length),(old.take len)[j].length=i.size:=fun j hj=>by
     rw[Zk]; exact hold j _
    obtain ⟨hrs1,hevw⟩:=hrs.write (r':= .es i.size (old.take len++ls)) (cs:=(cur.toList.take (len*i.size)++news++cur.toList.drop (len*i.size+news.length)).toArray) hreg (Wcx hes) hsome rfl (fun hevw=>by
     refine ⟨hpos,W5x hXs hYs,.inr ⟨g,k,_,ct,hsome,setRow_heap w g cur _ ct _ hheap,?_,hcm,?_,?_⟩⟩
     ·simp
      omega
     ·simp[htl]; omega
     ·intro q hq j hj
      have hcl:(cur.toList.take (len*i.size)).length=(old.take len).length*i.size:=by
       rw[htl]; simp; omega
      obtain ⟨u,hu,hp⟩:=W82 (w:=w) (bad:=W04 base env s.regs) (sz:=i.size) (X:=old.take len) (Y:=ls) (xs:=cur.toList.take (len*i.size)) (ys:=news) hcl (fun q hq j hj=>by
       have hq':q<old.length:=by simp at hq; omega
       have hql:q<len:=by simp at hq; omega
       have e:(old.take len)[q]=old[q]:=Zk
       simp only[e]at hj ⊢
       obtain ⟨u,hu,hp⟩:=hcells q hq' j hj
       refine ⟨u,?_,hp⟩
       have hjs:j<i.size:=by rw[←hold q hq']; exact hj
       have:q*i.size+j<len*i.size:=by
        have:(q+1)*i.size≤len*i.size:=Zb _ hql
        rw[Zy]at this
        omega
       rw[Yf this]
       simpa using hu) hY q hq j hj
      refine ⟨u,?_,KRel.ev hevw hp⟩
      rw[List.getElem?_toArray,Zp (Z3.1 hu).1]
      exact hu)
    have hlt:id<s.regs.length:=(Z3.1 hreg).1
    obtain ⟨hrs2,hevm⟩:=hrs1.moveE (id:=id) (sz:=i.size) (ls:=old.take len++ls) (by simp[hlt]) hsome
    rw[Xo]at hrs2 hevm
    refine W1p (W34 ho hrun) (hK _ _ _ h (R.put' hts hdf hsl hev hrs2 (hevw.trans hevm) hd (.c ⟨by simp[Env.push,hrs.len],.inr ⟨g,k,k,by rw[←hrs.len]; exact Env.push_at _ _,by simp,hroom,.inr (.inr ⟨rfl,rfl,rfl⟩)⟩⟩)))
   ·have h0:0<ls.length:=by omega
    refine W4h ho ht hi hz hzs hpos hts hdf hsl hev hk1 hev1 (by simp) (B:=some ⟨g,0,none⟩) (sc:=k) (X:=old.take len) (olds:=cur.toList.take (len*i.size)) (by rw[htl]; exact hxv) hyv (fun h=>by cases h)
     (by rw[htl,List.length_take,Array.length_toList,hcsz]; exact Nat.min_eq_left (Zb _ hlk)) (fun _=>⟨_,rfl,fun j x hj=> ?_⟩) hl hnc h0 (by rw[htl]; omega) (by rw[htl]; exact h1) (by rw[htl]; exact h2) (fun j hj=>by rw[Zk]; exact hold j _) hYs
     (fun q hq j hj=> ?_) hY hd (by rw[htl]; exact h) hK
    ·rw[Zx]at hj
     split at hj
     ·rw[Addr.add_lit,cell_of_row w g _ cur ct (0,0) hheap]
      simpa using hj
     ·cases hj
    ·have hq':q<old.length:=by simp at hq; omega
     have hql:q<len:=by simp at hq; omega
     have e:(old.take len)[q]=old[q]:=Zk
     simp only[e]at hj ⊢
     obtain ⟨u,hu,hp⟩:=hcells q hq' j hj
     refine ⟨u,?_,hp⟩
     have hjs:j<i.size:=by rw[←hold q hq']; exact hj
     have:q*i.size+j<len*i.size:=by
      have:(q+1)*i.size≤len*i.size:=Zb _ hql
      rw[Zy]at this
      omega
     rw[Yf this]
     simpa using hu
 ·--onto a cut whose room is known,and too small
  rename_i id off sz' len k he
  rw[he]at hvx
  split at h
  rotate_left
  ·exact h.elim
  rename_i sz'' old hreg0
  obtain ⟨rg0,hreg,hes⟩:=Z0.1 hreg0
  obtain ⟨rfl,rfl,hle,hkn,h1,h2,h⟩:=h
  obtain ⟨hidn,hown⟩:=(c_of hvx:OwnV env id off i.size len (.ex k) (a.eval x))
  have htl:((old.drop off).take len).length=len:=by simp; omega
  obtain ⟨_,hold,hrow⟩:=(hrs.reg id _ hreg).toEs hes
  rcases hown with ⟨hnone,rfl,rfl,hxv⟩ | ⟨g,cap,k',hsome,hxv,hlk,hcap⟩
  ·rcases Y8 ls.length with h0 | h0
   ·omega
   ·exact W4h ho ht hi hz hzs hpos hts hdf hsl hev hrs (Ev.refl _ _ _) rfl (B:=none) (sc:=0) (X:=[]) (olds:=[]) hxv hyv (fun _=>⟨rfl,rfl⟩) (by simp) (fun h=>by simp at h) hl hnc h0
     (by simpa using h0) (by simpa using h1) (by simpa using h2) (fun j h=>by simp at h) hYs (fun q h=>by simp at h) hY hd (by simpa using h) hK
  ·rcases hrow with ⟨hnone,_⟩ | ⟨g',cap',cur,ct,hsome',hheap,hcsz,hcm,hlc,hcells⟩
   ·rw[hsome]at hnone; cases hnone
   rw[hsome]at hsome'
   cases hsome'
   obtain rfl:k=k':=by
    rcases hcap with h | h | ⟨h,_⟩
    ·cases h; rfl
    ·cases h
    ·cases h
   have hfit:off*i.size+len*i.size≤cur.size:=by
    rw[hcsz,←Yj]; exact Zb _ (by omega)
   have h0:0<ls.length:=by omega
   refine W4h ho ht hi hz hzs hpos hts hdf hsl hev hrs (Ev.refl _ _ _) rfl (B:=some ⟨g,off*i.size,none⟩) (sc:=k) (X:=(old.drop off).take len) (olds:=(cur.toList.drop (off*i.size)).take (len*i.size)) (by rw[htl]; exact hxv) hyv (fun h=>by cases h)
    (by rw[htl]; simp; omega) (fun _=>⟨_,rfl,fun j x hj=> ?_⟩) hl hnc h0 (by rw[htl]; omega) (by rw[htl]; exact h1) (by rw[htl]; exact h2) (fun j hj=>by rw[Zk,Zw]; exact hold _ _) hYs
    (fun q hq j hj=> ?_) hY hd (by rw[htl]; exact h) hK
   ·rw[Zx]at hj
    split at hj
    ·rw[Yb]at hj
     rw[Addr.add_lit,cell_of_row w g _ cur ct (0,0) hheap]
     simpa using hj
    ·cases hj
   ·have hql:q<len:=by simp at hq; omega
    have hq':off+q<old.length:=by simp at hq; omega
    have e:((old.drop off).take len)[q]=old[off+q]:=by rw[Zk,Zw]
    simp only[e]at hj ⊢
    obtain ⟨u,hu,hp⟩:=hcells (off+q) hq' j hj
    refine ⟨u,?_,hp⟩
    have hjs:j<i.size:=by rw[←hold _ hq']; exact hj
    have:q*i.size+j<len*i.size:=by
     have:(q+1)*i.size≤len*i.size:=Zb _ hql
     rw[Zy]at this
     omega
    rw[Yf this,Yb,show off*i.size+(q*i.size+j)=(off+q)*i.size+j by rw[Yj]; omega]
    simpa using hu
 ·exact h.elim
end
section
variable {P:Program} {w0 w w':World} {env0 env:Env} {bad0:Bs} {fps:List Nat} {base:Nat→Prop} {N:Nat} {regs:List Reg} {s:St} {a:Act} {o:Oper}
 {next:Act→World→Prop} {Q:Exit→Act→World→Prop} {K:St→Prop}
theorem Www{sz:Nat}(hpos:0<sz){e:TypeId}
  {cur:Array Value} {cap n:Nat} (hex:(execOp a.eval o).run P w= .ok (.value (.slice (some ⟨w.heap.size,0,none⟩) n cap)) (w.drew.alloc (.cells cur e)))
  (hcs:cur.size=cap*sz) (hn:n≤cap) (hcap:cap≤9223372036854775807) (hts:a.tmps.size=N) (hdf:DsOk bad0 w0 a.defers)
  (hsl:∀n,VRel w env (W04 base env s.regs) (lk s.slots n) (a.tmps.getD n undef)) (hev0:Ev bad0.w env0 bad0.bad w env (W04 base env s.regs)) {regs1:List Reg} (hrs:RS P w0 w fps base env regs1)
  (hev:Ev w env (W04 base env s.regs) w env (W04 base env regs1)) (hlen:regs1.length=s.regs.length) {L:List (List PV)} (hL:L.length=n) (hLs:∀i (h:i<L.length),L[i].length=sz)
  (hrel:∀i (h:i<L.length),∀j (h':j<L[i].length),∃x,cur[i*sz+j]?=some x∧PRel w (W04 base env s.regs) L[i][j] x)
  (hd:∀n,o.dst=some n→n<N) (hk:K (s.putr o.dst (.c (.own s.regs.length 0 sz n .free)) (regs1++[.pc sz L])))
  (hK:∀s' a' w',K s'→R P w0 env0 bad0 fps base N s' a' w'→next a' w'):o.wp P a w next Q:=by
 have hrs1:RS P w0 w.drew fps base env regs1:=hrs.draw rfl rfl rfl rfl
 have hev1:Ev w env (W04 base env s.regs) w.drew env (W04 base env regs1):=⟨⟨Z8 _,fun _ _ _=>rfl⟩,hev.sub,hev.le⟩
 have hnl:env.n=s.regs.length:=hrs.len.trans hlen
 obtain ⟨hrs2,hev2⟩:=hrs1.alloc (w':=w.drew.alloc (.cells cur e)) (r:= .pc sz L) (o:= .cells cur e) (c:=cap) rfl (fun bad' h2=>by
  refine ⟨hpos,hLs,.inr ⟨w.heap.size,cap,cur,e,Env.push_at _ _,Xi w.drew _,hcs,hcap,by rw[hL]; exact hn,fun i h j h'=> ?_⟩⟩
  obtain ⟨x,hx,hp⟩:=hrel i h j h'
  exact ⟨x,hx,(hp.ev hev1).ev h2⟩)
 exact W1p hex (hK _ _ _ hk (R.put' hts hdf hsl hev0 hrs2 (hev1.trans hev2) hd<| .c ⟨by simp[Env.push,hnl],.inr ⟨w.heap.size,cap,cap,by rw[←hnl]; exact Env.push_at _ _,by simp,hn,.inr (.inr ⟨rfl,rfl,rfl⟩)⟩⟩))
theorem Wac{bad:Nat→Prop}{sz:Nat}{X Y:List (List PV)}{xs ys:List Value}(hx:xs.length=X.length*sz)(hX:∀i (h:i<X.length),∀j (h':j<X[i].length),∃u,xs[i*sz+j]?=some u∧PRel w bad X[i][j] u)
  (hY:∀i (h:i<Y.length),∀j (h':j<Y[i].length),∃u,ys[i*sz+j]?=some u∧PRel w bad Y[i][j] u):
  ∀i (h:i<(X++Y).length),∀j (h':j<(X++Y)[i].length),∃u,(xs++ys)[i*sz+j]?=some u∧PRel w bad (X++Y)[i][j] u:=by
 intro i h j h'
 by_cases hi:i<X.length
 ·have e:(X++Y)[i]=X[i]:=List.getElem_append_left hi
  simp only[e]at h' ⊢
  obtain ⟨u,hu,hp⟩:=hX i hi j h'
  exact ⟨u,by rw[Zp (Z3.1 hu).1]; exact hu,hp⟩
 ·have hi':i-X.length<Y.length:=by simp at h; omega
  have e:(X++Y)[i]=Y[i-X.length]:=List.getElem_append_right (by omega)
  simp only[e]at h' ⊢
  obtain ⟨u,hu,hp⟩:=hY _ hi' j h'
  refine ⟨u,?_,hp⟩
  have hle:X.length*sz≤i*sz:=Zb _ (by omega)
  rw[Y3 (by omega),hx,show i*sz+j-X.length*sz=(i-X.length)*sz+j by rw[Nat.sub_mul]; omega]
  exact hu
theorem W6y{sz:Nat}{X Y:List (List PV)}(hX:∀i (h:i<X.length),X[i].length=sz)(hY:∀i (h:i<Y.length),Y[i].length=sz):∀i (h:i<(X++Y).length),(X++Y)[i].length=sz:=by
 intro i h
 by_cases hi:i<X.length
 ·rw[List.getElem_append_left hi]; exact hX i hi
 ·rw[List.getElem_append_right (by omega)]; exact hY _ _
theorem W4x{x y:Operand}{t e:TypeId}{i:TypeInfo}{z:Value}(ho:o.op= .call {callee:= .builtin .append,args:= #[x,y],argTypes:= #[t,t]})
  (ht:P.underlying t=some (.slice e)) (hi:P.info? e=some i) (hz:i.zero=some z) (hzs:z.cells.size=i.size) (hpos:0<i.size)
  (hts:a.tmps.size=N) (hdf:DsOk bad0 w0 a.defers)
  (hsl:∀n,VRel w env (W04 base env s.regs) (lk s.slots n) (a.tmps.getD n undef)) (hev0:Ev bad0.w env0 bad0.bad w env (W04 base env s.regs)) {regs1:List Reg} (hrs:RS P w0 w fps base env regs1)
  (hev:Ev w env (W04 base env s.regs) w env (W04 base env regs1)) (hlen:regs1.length=s.regs.length)
  {B A:Option Addr} {sc c:Nat} {olds news:List Value} {X Y:List (List PV)} (hx:a.eval x= .slice B X.length sc) (hy:a.eval y= .slice A Y.length c)
  (hB:B=none→X.length=0∧sc=0) (hlo:olds.length=X.length*i.size) (hoc:0<X.length→∃ad,B=some ad∧∀j x,olds[j]?=some x→w.cell? (ad.add j)=some x)
  (hl:news.length=Y.length*i.size) (hnc:0<Y.length→∃ad,A=some ad∧∀j x,news[j]?=some x→w.cell? (ad.add j)=some x) (h0:0<Y.length) (hg:sc<X.length+Y.length) (h1:X.length+Y.length≤140737488355328)
  (h2:(X.length+Y.length)*i.bytes≤140737488355328) (hXs:∀j (h:j<X.length),X[j].length=i.size) (hYs:∀j (h:j<Y.length),Y[j].length=i.size)
  (hX:∀q (h:q<X.length),∀j (h':j<X[q].length),∃u,olds[q*i.size+j]?=some u∧PRel w (W04 base env s.regs) X[q][j] u)
  (hY:∀q (h:q<Y.length),∀j (h':j<Y[q].length),∃u,news[q*i.size+j]?=some u∧PRel w (W04 base env s.regs) Y[q][j] u)
  (hd:∀n,o.dst=some n→n<N) (hk:K (s.putr o.dst (.c (.own s.regs.length 0 i.size (X.length+Y.length) .free)) (regs1++[.pc i.size (X++Y)])))
  (hK:∀s' a' w',K s'→R P w0 env0 bad0 fps base N s' a' w'→next a' w'):o.wp P a w next Q:=by
 obtain ⟨cur,cap,hrun,hcs,hn,hcap,hcells⟩:=Whe (ty:=o.type) ht hi hz hzs hB hlo hoc hl hnc h0 hg h1 h2 (c:=c)
 rw[←hx,←hy]at hrun
 refine Www hpos (W34 ho hrun) hcs hn hcap hts hdf hsl hev0 hrs hev hlen (Z5 ..) (W6y hXs hYs) (fun q h j h'=> ?_) hd hk hK
 obtain ⟨u,hu,hp⟩:=Wac hlo hX hY q h j h'
 exact ⟨u,hcells _ _ hu,hp⟩
theorem Wma{x y:Operand}{ax ay:AX}{t e:TypeId}{i:TypeInfo}{z:Value}(ho:o.op= .call {callee:= .builtin .append,args:= #[x,y],argTypes:= #[t,t]})
  (ht:P.underlying t=some (.slice e)) (hi:P.info? e=some i) (hz:i.zero=some z) (hzs:z.cells.size=i.size) (hpos:0<i.size) (hx:trX x=some ax) (hy:trX y=some ay)
  (hd:∀n,o.dst=some n→n<N) (h:opW P (.app o.dst i.size i.bytes ax ay) s K) (hR:R P w0 env0 bad0 fps base N s a w) (hK:∀s' a' w',K s'→R P w0 env0 bad0 fps base N s' a' w'→next a' w'):o.wp P a w next Q:=by
 simp only[opW]at h
 rcases h with h | h
 rotate_left
 ·exact Wjs ho ht hi hz hzs hpos hx hy hd h hR hK
 simp only[appW]at h
 obtain ⟨⟨env,hrs,hsl,hev⟩,hts,hdf⟩:=hR
 split at h
 rotate_left
 ·exact h.elim
 rename_i ls n hls hn
 obtain ⟨rfl,hsz,h⟩:=h
 obtain ⟨A,c,news,hyv,hl,hYs,hY,hone,hnc⟩:=W7c hrs rfl (W05 hsl hy) hls hn hsz hpos
 have hvx:=W05 hsl hx
 split at h
 ·--onto nil
  rename_i he
  rw[he]at hvx
  have hxv:=(W1w hvx rfl).1
  obtain ⟨h1,h2,h⟩:=h
  rcases Y8 ls.length with h0 | h0
  ·have hls0:ls=[]:=Z9 h0
   subst hls0
   obtain ⟨hrs',hev'⟩:=hrs.push_nil i.size hpos
   refine W1p (v:= .slice none 0 0) (w':=w) (W34 ho ?_) (hK _ _ _ h (R.put' hts hdf hsl hev hrs' hev' hd (.c ⟨by simp[Env.push,hrs.len],.inl ⟨by rw[←hrs.len]; exact Env.push_at _ _,rfl,rfl,rfl⟩⟩)))
   have hf:=Wab (P:=P) (c:=c) hl hnc
   rw[hxv,hyv]
   simp only[Yv]at hf ⊢
   have hn0:news=[]:=Z9 (by simpa using hl)
   subst hn0
   simp[Builtin.append_,Z7 ht,sizeOf,typeInfo,hi,Builtin.lenOf,hf]
  ·exact W4x ho ht hi hz hzs hpos hts hdf hsl hev hrs (Ev.refl _ _ _) rfl (B:=none) (sc:=0) (X:=[]) (olds:=[]) hxv hyv (fun _=>⟨rfl,rfl⟩) (by simp) (fun h=>by simp at h) hl hnc h0
    (by simpa using h0) (by simpa using h1) (by simpa using h2) (fun j h=>by simp at h) hYs (fun q h=>by simp at h) hY hd (by simpa using h) hK
 ·--onto a row of the call's own,whose room is its block's
  rename_i id sz' len he
  rw[he]at hvx
  split at h
  rotate_left
  ·exact h.elim
  rename_i sz'' old hreg
  obtain ⟨rfl,rfl,hle,h1,h2,h⟩:=h
  obtain ⟨hidn,hown⟩:=(c_of hvx:OwnV env id 0 i.size len .free (a.eval x))
  obtain ⟨hk1,hev1⟩:=hrs.kill id
  have htl:(old.take len).length=len:=by simp[hle]
  obtain ⟨_,hold,hrow⟩:=hrs.reg id _ hreg
  rcases hown with ⟨hnone,_,rfl,hxv⟩ | ⟨g,cap,k,hsome,hxv,hlk,hcap⟩
  ·--nil
   simp only[List.take_zero,Xa,Xn]at h h1 h2 htl
   rcases Y8 ls.length with h0 | h0
   ·have hls0:ls=[]:=Z9 h0
    subst hls0
    obtain ⟨hrs',hev'⟩:=hk1.push_nil i.size hpos
    refine W1p (v:= .slice none 0 0) (w':=w) (W34 ho ?_) (hK _ _ _ h (R.put' hts hdf hsl hev hrs' (hev1.trans hev') hd (.c ⟨by simp[Env.push,hrs.len],.inl ⟨by rw[←hrs.len]; exact Env.push_at _ _,rfl,rfl,rfl⟩⟩)))
    have hf:=Wab (P:=P) (c:=c) hl hnc
    rw[hxv,hyv]
    simp only[Yv]at hf ⊢
    have hn0:news=[]:=Z9 (by simpa using hl)
    subst hn0
    simp[Builtin.append_,Z7 ht,sizeOf,typeInfo,hi,Builtin.lenOf,hf]
   ·exact W4x ho ht hi hz hzs hpos hts hdf hsl hev hk1 hev1 (by simp) (B:=none) (sc:=0) (X:=[]) (olds:=[]) hxv hyv (fun _=>⟨rfl,rfl⟩) (by simp) (fun h=>by simp at h) hl hnc h0
     (by simpa using h0) (by simpa using h1) (by simpa using h2) (fun j h=>by simp at h) hYs (fun q h=>by simp at h) hY hd (by simpa using h) hK
  ·rcases hrow with ⟨hnone,_⟩ | ⟨g',cap',cur,ct,hsome',hheap,hcsz,hcm,hlc,hcells⟩
   ·rw[hsome]at hnone; cases hnone
   rw[hsome]at hsome'
   cases hsome'
   obtain rfl:k=cap:=by
    rcases hcap with h | h | ⟨_,_,h⟩
    ·cases h
    ·cases h
    ·exact h
   simp only[Nat.zero_mul]at hxv
   by_cases hroom:len+ls.length≤k
   ·--there is room
    have hfit:len*i.size+news.length≤cur.size:=by
     rw[hl,hcsz,←Yj]; exact Zb _ hroom
    have hrun:=Whd (P:=P) (w:=w) (ty:=o.type) ht hi hheap (c:=c) hl hnc hone hroom hfit
    rw[←hxv,←hyv]at hrun
    have hXs:∀j (h:j<(old.take len).length),(old.take len)[j].length=i.size:=fun j hj=>by
     rw[Zk]; exact hold j _
    obtain ⟨hrs1,hevw⟩:=hrs.write (r':= .pc i.size (old.take len++ls)) (cs:=(cur.toList.take (len*i.size)++news++cur.toList.drop (len*i.size+news.length)).toArray) hreg rfl hsome rfl (fun hevw=>by
     refine ⟨hpos,W6y hXs hYs,.inr ⟨g,k,_,ct,hsome,setRow_heap w g cur _ ct _ hheap,?_,hcm,?_,?_⟩⟩
     ·simp
      omega
     ·simp[htl]; omega
     ·intro q hq j hj
      have hcl:(cur.toList.take (len*i.size)).length=(old.take len).length*i.size:=by
       rw[htl]; simp; omega
      obtain ⟨u,hu,hp⟩:=Wac (w:=w) (bad:=W04 base env s.regs) (sz:=i.size) (X:=old.take len) (Y:=ls) (xs:=cur.toList.take (len*i.size)) (ys:=news) hcl (fun q hq j hj=>by
       have hq':q<old.length:=by simp at hq; omega
       have hql:q<len:=by simp at hq; omega
       have e:(old.take len)[q]=old[q]:=Zk
       simp only[e]at hj ⊢
       obtain ⟨u,hu,hp⟩:=hcells q hq' j hj
       refine ⟨u,?_,hp⟩
       have hjs:j<i.size:=by rw[←hold q hq']; exact hj
       have:q*i.size+j<len*i.size:=by
        have:(q+1)*i.size≤len*i.size:=Zb _ hql
        rw[Zy]at this
        omega
       rw[Yf this]
       simpa using hu) hY q hq j hj
      refine ⟨u,?_,hp.ev hevw⟩
      rw[List.getElem?_toArray,Zp (Z3.1 hu).1]
      exact hu)
    have hlt:id<s.regs.length:=(Z3.1 hreg).1
    obtain ⟨hrs2,hevm⟩:=hrs1.move (id:=id) (sz:=i.size) (ls:=old.take len++ls) (by simp[hlt]) hsome
    rw[Xo]at hrs2 hevm
    refine W1p (W34 ho hrun) (hK _ _ _ h (R.put' hts hdf hsl hev hrs2 (hevw.trans hevm) hd (.c ⟨by simp[Env.push,hrs.len],.inr ⟨g,k,k,by rw[←hrs.len]; exact Env.push_at _ _,by simp,hroom,.inr (.inr ⟨rfl,rfl,rfl⟩)⟩⟩)))
   ·have h0:0<ls.length:=by omega
    refine W4x ho ht hi hz hzs hpos hts hdf hsl hev hk1 hev1 (by simp) (B:=some ⟨g,0,none⟩) (sc:=k) (X:=old.take len) (olds:=cur.toList.take (len*i.size)) (by rw[htl]; exact hxv) hyv (fun h=>by cases h)
     (by rw[htl,List.length_take,Array.length_toList,hcsz]; exact Nat.min_eq_left (Zb _ hlk)) (fun _=>⟨_,rfl,fun j x hj=> ?_⟩) hl hnc h0 (by rw[htl]; omega) (by rw[htl]; exact h1) (by rw[htl]; exact h2) (fun j hj=>by rw[Zk]; exact hold j _) hYs
     (fun q hq j hj=> ?_) hY hd (by rw[htl]; exact h) hK
    ·rw[Zx]at hj
     split at hj
     ·rw[Addr.add_lit,cell_of_row w g _ cur ct (0,0) hheap]
      simpa using hj
     ·cases hj
    ·have hq':q<old.length:=by simp at hq; omega
     have hql:q<len:=by simp at hq; omega
     have e:(old.take len)[q]=old[q]:=Zk
     simp only[e]at hj ⊢
     obtain ⟨u,hu,hp⟩:=hcells q hq' j hj
     refine ⟨u,?_,hp⟩
     have hjs:j<i.size:=by rw[←hold q hq']; exact hj
     have:q*i.size+j<len*i.size:=by
      have:(q+1)*i.size≤len*i.size:=Zb _ hql
      rw[Zy]at this
      omega
     rw[Yf this]
     simpa using hu
 ·--onto a cut whose room is known,and too small
  rename_i id off sz' len k he
  rw[he]at hvx
  split at h
  rotate_left
  ·exact h.elim
  rename_i sz'' old hreg
  obtain ⟨rfl,rfl,hle,hkn,h1,h2,h⟩:=h
  obtain ⟨hidn,hown⟩:=(c_of hvx:OwnV env id off i.size len (.ex k) (a.eval x))
  have htl:((old.drop off).take len).length=len:=by simp; omega
  obtain ⟨_,hold,hrow⟩:=hrs.reg id _ hreg
  rcases hown with ⟨hnone,rfl,rfl,hxv⟩ | ⟨g,cap,k',hsome,hxv,hlk,hcap⟩
  ·rcases Y8 ls.length with h0 | h0
   ·omega
   ·exact W4x ho ht hi hz hzs hpos hts hdf hsl hev hrs (Ev.refl _ _ _) rfl (B:=none) (sc:=0) (X:=[]) (olds:=[]) hxv hyv (fun _=>⟨rfl,rfl⟩) (by simp) (fun h=>by simp at h) hl hnc h0
     (by simpa using h0) (by simpa using h1) (by simpa using h2) (fun j h=>by simp at h) hYs (fun q h=>by simp at h) hY hd (by simpa using h) hK
  ·rcases hrow with ⟨hnone,_⟩ | ⟨g',cap',cur,ct,hsome',hheap,hcsz,hcm,hlc,hcells⟩
   ·rw[hsome]at hnone; cases hnone
   rw[hsome]at hsome'
   cases hsome'
   obtain rfl:k=k':=by
    rcases hcap with h | h | ⟨h,_⟩
    ·cases h; rfl
    ·cases h
    ·cases h
   have hfit:off*i.size+len*i.size≤cur.size:=by
    rw[hcsz,←Yj]; exact Zb _ (by omega)
   have h0:0<ls.length:=by omega
   refine W4x ho ht hi hz hzs hpos hts hdf hsl hev hrs (Ev.refl _ _ _) rfl (B:=some ⟨g,off*i.size,none⟩) (sc:=k) (X:=(old.drop off).take len) (olds:=(cur.toList.drop (off*i.size)).take (len*i.size)) (by rw[htl]; exact hxv) hyv (fun h=>by cases h)
    (by rw[htl]; simp; omega) (fun _=>⟨_,rfl,fun j x hj=> ?_⟩) hl hnc h0 (by rw[htl]; omega) (by rw[htl]; exact h1) (by rw[htl]; exact h2) (fun j hj=>by rw[Zk,Zw]; exact hold _ _) hYs
    (fun q hq j hj=> ?_) hY hd (by rw[htl]; exact h) hK
   ·rw[Zx]at hj
    split at hj
    ·rw[Yb]at hj
     rw[Addr.add_lit,cell_of_row w g _ cur ct (0,0) hheap]
     simpa using hj
    ·cases hj
   ·have hql:q<len:=by simp at hq; omega
    have hq':off+q<old.length:=by simp at hq; omega
    have e:((old.drop off).take len)[q]=old[off+q]:=by rw[Zk,Zw]
    simp only[e]at hj ⊢
    obtain ⟨u,hu,hp⟩:=hcells (off+q) hq' j hj
    refine ⟨u,?_,hp⟩
    have hjs:j<i.size:=by rw[←hold _ hq']; exact hj
    have:q*i.size+j<len*i.size:=by
     have:(q+1)*i.size≤len*i.size:=Zb _ hql
     rw[Zy]at this
     omega
    rw[Yf this,Yb,show off*i.size+(q*i.size+j)=(off+q)*i.size+j by rw[Yj]; omega]
    simpa using hu
 ·--onto pure cells without room
  rename_i sz' old he
  rw[he]at hvx
  obtain ⟨rfl,h⟩:=h
  rcases h with ⟨h0,h1,h2,h⟩ | ⟨h0,h⟩
  rotate_left
  ·obtain ⟨hp,B,hxv⟩:=(c_of hvx:PRel w _ (.sl i.size old) (a.eval x)∧_)
   have hls0:ls=[]:=Z9 h0
   subst hls0
   have hn0:news=[]:=Z9 (by simpa using hl)
   subst hn0
   have hf:=Wab (P:=P) (c:=c) hl hnc
   refine W1p (v:=a.eval x) (w':=w) (W34 ho ?_) (hK _ _ _ h (R.put' (regs':=s.regs) hts hdf hsl hev hrs (Ev.refl _ _ _) hd hvx))
   rw[hxv,hyv]
   simp only[Yv]at hf ⊢
   cases B<;>simp[Builtin.append_,Z7 ht,sizeOf,typeInfo,hi,Builtin.lenOf,hf,storeCells]
  obtain ⟨hp,B,hxv⟩:=(c_of hvx:PRel w _ (.sl i.size old) (a.eval x)∧_)
  obtain ⟨B',c',olds,hxv',hlo,hXs,hX,_,hoc⟩:=W7c (v:= .c (.p (.sl i.size old))) hrs rfl (.c hp) rfl rfl (.inr rfl) hpos
  rw[hxv]at hxv'
  cases hxv'
  have hBn:B=none→old.length=0:=fun hB=>by
   rcases Y8 old.length with q | q
   ·exact q
   ·obtain ⟨_,hB',_⟩:=hoc q
    rw[hB]at hB'
    cases hB'
  exact W4x ho ht hi hz hzs hpos hts hdf hsl hev hrs (Ev.refl _ _ _) rfl (B:=B) (sc:=old.length) (X:=old) (olds:=olds) hxv hyv (fun hB=>⟨hBn hB,hBn hB⟩) hlo hoc hl hnc h0 (by omega) h1 h2 hXs hYs hX hY hd h hK
 ·exact h.elim
end
section
variable {P:Program} {ro:Option Nat} {n:Nat}
theorem Wmb(m:Machine):m.fenced P (Fw ro):=by
 intro g _
 refine ⟨fun h=> ?_,Or.inl trivial,fun _ _=>trivial,fun _ h=> ?_⟩
 ·simp[Fw]at h
 ·simp[Fw]at h
theorem Wwx(k:Nat):(Fw ro).room k:=fun _ h=>by simp[Fw]at h
theorem stepsIn_Fw{m m':Machine}:StepsIn (Machine.fenced P (Fw ro)) P m m'↔Steps P m m':=
 ⟨StepsIn.steps,fun h=>(StepsIn.of_steps h).mono fun m _=>Wmb m⟩
theorem comesIn_Fw{m m':Machine}{e:Ending}:ComesIn (Machine.fenced P (Fw ro)) P m m' e↔Comes P m m' e:=by
 cases e with
 | returned v=>exact stepsIn_Fw
 | panicked chain=>exact stepsIn_Fw
 | outgrown=>exact Iff.rfl
theorem callsIn_Fw{f:FuncId}{args:Array Value}{w:World}{R:Ending→World→Prop}:CallsIn (Fw ro) n P f args w R↔Calls P f args w R:=
 ⟨fun h cs=>let ⟨e,w',fr,r,s,x⟩:=h.2 cs (Wwx _); ⟨e,w',fr,r,comesIn_Fw.1 s,x⟩,
   fun h=>⟨trivial,fun cs _=>let ⟨e,w',fr,r,s,x⟩:=h cs; ⟨e,w',fr,r,comesIn_Fw.2 s,x⟩⟩⟩
theorem W7e:(Fw ro).depth.isSome=true→1≤n:=fun h=>by simp[Fw]at h
theorem Wwy{o:Oper}{a:Act}{w:World}{next:Act→World→Prop}{Q:Exit→Act→World→Prop}(hd:∀c,o.op≠ .defer c)(h:o.wp P a w next Q):o.wpIn (Fw ro) n P a w next Q:=by
 unfold Oper.wp at h
 unfold Oper.wpIn
 refine ⟨fun _ _=>trivial,?_⟩
 rw[Oper.semAt_eq _ _ _ hd]
 unfold Oper.upon at h
 split at h
 ·rename_i v w' hr; rw[hr]; exact h
 ·rename_i w' hr; rw[hr]; exact h
 ·rename_i d w' hr; rw[hr]; exact h
 ·rename_i f args w' hr; rw[hr]; exact ⟨W7e,callsIn_Fw.2 h⟩
 ·rename_i row args w' hr
  rw[hr]
  refine ⟨W7e,fun c cs _=> ?_⟩
  obtain ⟨v,w'',hv,hs⟩:=h c cs
  exact ⟨v,w'',hv,stepsIn_Fw.2 hs⟩
 ·rename_i v w' hr; rw[hr]; exact h
 ·exact h.elim
def Wmc(Q:Exit→Act→World→Prop):Exit→Act→World→Prop
 | .outgrown,_,_=>False
 | e,a,w=>Q e a w
theorem Wjt{Q:Exit→Act→World→Prop}:¬LetsOut (Wmc Q):=fun ⟨_,_,h⟩=>h
theorem V1a{ops:Array Oper}{md:Region.Mode}{Q:Exit→Act→World→Prop}(hd:∀(i:Nat) (o:Oper),ops[i]?=some o→∀c,o.op≠ .defer c)(hq:¬LetsOut Q):∀(fuel:Nat) (listed:Array Bool) (a:Act) (w:World),wpAny P md ops Q fuel listed a w→wpAnyIn (Fw ro) n P md ops Q fuel listed a w:=by
 intro fuel
 induction fuel with
 | zero=>exact fun listed a w h=>h
 | succ fuel ih=>
  intro listed a w h
  refine ⟨h.1,fun i hi=> ?_⟩
  have:=h.2 i hi
  unfold wpOp at this
  unfold wpOpIn
  cases ho:ops[i]? with
  | none=>
   simp only[ho]at this
   exact ih _ _ _ this
  | some o=>
   simp only[ho]at this
   by_cases hw:Region.wanted o (yielded ops a.tmps)=true
   ·simp only[hw,if_true]at this ⊢
    rcases this with this | ⟨_,hx⟩
    ·exact Wwy (hd i o ho) (Oper.wp_mono (fun a w=>ih _ a w) this)
    ·exact absurd hx hq
   ·simp only[hw,if_false,Y6]at this ⊢
    exact ⟨fun _ _=>trivial,ih _ _ _ this⟩
end
section
variable {P:Program} {w0 w w':World} {env0 env:Env} {bad0:Bs} {fps:List Nat} {base:Nat→Prop} {N:Nat} {regs:List Reg} {s:St} {a:Act} {o:Oper}
 {next:Act→World→Prop} {Q:Exit→Act→World→Prop} {K:St→Prop}
theorem Wvu{f:FuncId}(h:FnOk P f)(args:Array Value)(w:World):(callFunc f args).run P w= .ok (.enter f args) w:=by
 obtain ⟨fn,hf,hname,hb⟩:=h
 have hb':fn.body≠none:=by intro e; rw[e]at hb; cases hb
 simp[callFunc,hf,hb',show fn.name≠ "runtime.NumGoroutine" from by simpa using hname]
theorem Wbk{f:FuncId}{x:Operand}{as:Array Operand}{ts:Array TypeId}{fs cs:List Value}(ho:o.op= .call {callee:= .value x,args:=as,argTypes:=ts})(hx:a.eval x= .func (.func f) fs.toArray cs.toArray)(h:FnOk P f):
  (execOp a.eval o).run P w= .ok (.enter f (fs++as.toList.map a.eval++cs).toArray) w:=by
 have he:=Wvu h (fs++as.toList.map a.eval++cs).toArray w
 have ha:fs.toArray++as.map a.eval++cs.toArray=(fs++as.toList.map a.eval++cs).toArray:=by apply Array.ext'; simp
 unfold execOp
 simp only[ho,resolve,Deferred.ofValue,hx,invoke,Yr,Sem.run_pure,Yl]
 rw[ha]
 exact he
theorem W5y{bad:Nat→Prop}(h:∀n,VRel w env bad (lk s.slots n) (a.tmps.getD n undef)):∀{xs:List Operand} {axs:List AX},W0h trX xs=some axs→All2 (VRel w env bad) (axs.map s.ev) (xs.map a.eval):=by
 intro xs
 induction xs with
 | nil=>intro axs h; cases h; trivial
 | cons x xs ih=>
  intro axs hx
  simp only[W0h,Z0,Z1]at hx
  obtain ⟨ax,h1,l,h2,rfl⟩:=hx
  exact ⟨W05 h h1,ih h2⟩
theorem R.called(hR:R P w0 env0 bad0 fps base N s a w)(hd:∀n,o.dst=some n→n<N){f:Nat}{args:List AV}
  (hrun:∀env,(∀n,VRel w env (W04 base env s.regs) (lk s.slots n) (a.tmps.getD n undef))→∃vs:List Value,(FnOk P f→(execOp a.eval o).run P w= .ok (.enter f vs.toArray) w)∧All2 (VRel w env (W04 base env s.regs)) args vs) (h:FS P f args s.regs fun res regs'=>K (s.putr o.dst res regs'))
  (hK:∀s' a' w',K s'→R P w0 env0 bad0 fps base N s' a' w'→next a' w'):o.wp P a w next Q:=by
 obtain ⟨⟨env,hrs,hsl,hev⟩,hsz,hdf⟩:=hR
 obtain ⟨hok,hf⟩:=h
 obtain ⟨vs,hrun,hargs⟩:=hrun env hsl
 let fps':=fps++(List.range w.heap.size).filter (fun b=>decide (w0.heap.size≤b))
 have hfp:∀b,b∈fps'→b∈fps∨w0.heap.size≤b:=by
  intro b hb
  rcases Zg.1 hb with h | h
  ·exact .inl h
  ·exact .inr (by simpa using (Zj.1 h).2)
 have hrs1:RS P w w fps' base env s.regs:=⟨Keep.refl _ _,fun b hb=>⟨Zt (hrs.base_lt b hb).1 hrs.keep.size,fun hx=>by
  rcases hfp b hx with h | h
  ·exact (hrs.base_lt b hb).2 h
  ·have:=(hrs.base_lt b hb).1; omega⟩,hrs.len,hrs.reg,fun id r g c hr hl he=>by
   obtain ⟨h1,h2⟩:=hrs.own id r g c hr hl he
   refine ⟨.inl (Zg.2 ?_),h2⟩
   rcases h1 with h1 | h1
   ·exact .inl h1
   ·exact .inr (Zj.2 ⟨Y4.2 h2,by simpa using h1⟩),hrs.inj⟩
 unfold Oper.wp
 rw[hrun hok,Oper.upon_enter]
 refine (hf w fps' base env vs hrs1 hargs).mono fun e w' hh=> ?_
 obtain ⟨v,res,regs',env',rfl,hk,hrs2,hv,hev'⟩:=hh
 have hsize:w0.heap.size≤w.heap.size:=hrs.keep.size
 have hrs3:RS P w0 w' fps base env' regs':=⟨hrs.keep.trans' hrs2.keep hfp,hrs.base_lt,hrs2.len,hrs2.reg,fun id r g c hr hl he=>by
  obtain ⟨h1,h2⟩:=hrs2.own id r g c hr hl he
  refine ⟨?_,h2⟩
  rcases h1 with h1 | h1
  ·exact hfp g h1
  ·exact .inr (Y5 hsize h1),hrs2.inj⟩
 exact hK _ _ _ hk (R.put' hsz hdf hsl hev hrs3 hev' hd hv)
theorem Wju{f:Nat}{as:Array Operand}{ts:Array TypeId}{axs:List AX}(ho:o.op= .call {callee:= .value (.func f),args:=as,argTypes:=ts})(hx:W0h trX as.toList=some axs)
  (hd:∀n,o.dst=some n→n<N) (h:opW P (.call o.dst f axs) s K) (hR:R P w0 env0 bad0 fps base N s a w) (hK:∀s' a' w',K s'→R P w0 env0 bad0 fps base N s' a' w'→next a' w'):o.wp P a w next Q:=
 hR.called hd (fun env hsl=>⟨as.toList.map a.eval,fun hok=>by simpa using Wbk (fs:=[]) (cs:=[]) ho rfl hok,W5y hsl hx⟩) h hK
theorem W2u{bad:Nat→Prop}:∀{l:List FA} {vs:List Value},All2 (FRel w env bad) l vs→All2 (VRel w env bad) (l.map avFA) vs
 | [],[],_=>trivial
 | .p _::_,_::_,h=>⟨.c h.1,W2u h.2⟩
 | .ptr _ _::_,_::_,h=>⟨.c h.1,W2u h.2⟩
 | [],_::_,h=>h.elim
 | .p _::_,[],h=>h.elim
 | .ptr _ _::_,[],h=>h.elim
theorem Wwz{bad:Nat→Prop}{v:AV}{u:Value}{f:Fn}{fa ca:List FA}(h:VRel w env bad v u)(hv:v= .c (.fn f fa ca)):∃fs cs:List Value,u= .func f fs.toArray cs.toArray∧All2 (FRel w env bad) fa fs∧All2 (FRel w env bad) ca cs:=by
 subst hv
 exact c_of h
theorem Wfc{x:Operand}{ax:AX}{as:Array Operand}{ts:Array TypeId}{axs:List AX}(ho:o.op= .call {callee:= .value x,args:=as,argTypes:=ts})(hax:trX x=some ax)(hx:W0h trX as.toList=some axs)
  (hd:∀n,o.dst=some n→n<N) (h:opW P (.callv o.dst ax axs) s K) (hR:R P w0 env0 bad0 fps base N s a w) (hK:∀s' a' w',K s'→R P w0 env0 bad0 fps base N s' a' w'→next a' w'):o.wp P a w next Q:=by
 simp only[opW]at h
 split at h
 ·rename_i f fa ca he
  refine hR.called hd (fun env hsl=> ?_) h hK
  obtain ⟨fs,cs,hv,h1,h2⟩:=Wwz (W05 hsl hax) he
  exact ⟨fs++as.toList.map a.eval++cs,fun hok=>Wbk ho hv hok,((W2u h1).append (W5y hsl hx)).append (W2u h2)⟩
 ·exact h.elim
theorem R.back(hR:R P w0 env0 bad0 fps base N s a w)(hd:∀n,o.dst=some n→n<N){e:Env}(he:RS P w0 w fps base e s.regs∧(∀n,VRel w e (W04 base e s.regs) (lk s.slots n) (a.tmps.getD n undef))∧Ev bad0.w env0 bad0.bad w e (W04 base e s.regs)):
  ∃fps',RS P w w fps' base e s.regs∧∀v res regs' env' w',RS P w w' fps' base env' regs'→VRel w' env' (W04 base env' regs') res v→Ev w e (W04 base e s.regs) w' env' (W04 base env' regs')→R P w0 env0 bad0 fps base N (s.putr o.dst res regs') (a.put o.dst v) w':=by
 obtain ⟨_,hsz,hdf⟩:=hR
 obtain ⟨hrs,hsl,hev⟩:=he
 let fps':=fps++(List.range w.heap.size).filter (fun b=>decide (w0.heap.size≤b))
 have hfp:∀b,b∈fps'→b∈fps∨w0.heap.size≤b:=by
  intro b hb
  rcases Zg.1 hb with h | h
  ·exact .inl h
  ·exact .inr (by simpa using (Zj.1 h).2)
 refine ⟨fps',⟨Keep.refl _ _,fun b hb=>⟨Zt (hrs.base_lt b hb).1 hrs.keep.size,fun hx=>by
  rcases hfp b hx with h | h
  ·exact (hrs.base_lt b hb).2 h
  ·have:=(hrs.base_lt b hb).1; omega⟩,hrs.len,hrs.reg,fun id r g c hr hl he=>by
   obtain ⟨h1,h2⟩:=hrs.own id r g c hr hl he
   refine ⟨.inl (Zg.2 ?_),h2⟩
   rcases h1 with h1 | h1
   ·exact .inl h1
   ·exact .inr (Zj.2 ⟨Y4.2 h2,by simpa using h1⟩),hrs.inj⟩,?_⟩
 intro v res regs' env' w' hrs2 hv hev'
 have hsize:w0.heap.size≤w.heap.size:=hrs.keep.size
 have hrs3:RS P w0 w' fps base env' regs':=⟨hrs.keep.trans' hrs2.keep hfp,hrs.base_lt,hrs2.len,hrs2.reg,fun id r g c hr hl he=>by
  obtain ⟨h1,h2⟩:=hrs2.own id r g c hr hl he
  refine ⟨?_,h2⟩
  rcases h1 with h1 | h1
  ·exact hfp g h1
  ·exact .inr (Y5 hsize h1),hrs2.inj⟩
 exact R.put' hsz hdf hsl hev hrs3 hev' hd hv
theorem V6q{bad:Nat→Prop}{v:AV}{u:Value}{id:Nat}(h:VRel w env bad v u)(hv:v= .c (.hnd .yl id)):∃l c,env.f id=some (l,c)∧u= .func (.yield l) #[] #[]:=by
 subst hv
 obtain ⟨_,g,c,he,hv⟩:=c_of h
 exact ⟨g,c,he,hv⟩
theorem Wfd{ro:Option Nat}{n:Nat}{x:Operand}{ax:AX}{as:Array Operand}{ts:Array TypeId}{axs:List AX}(ho:o.op= .call {callee:= .value x,args:=as,argTypes:=ts})(hax:trX x=some ax)(hx:W0h trX as.toList=some axs)
  (hd:∀n,o.dst=some n→n<N) (h:opW P (.cally o.dst ax axs) s K) (hR:R P w0 env0 bad0 fps base N s a w) (hK:∀s' a' w',K s'→R P w0 env0 bad0 fps base N s' a' w'→next a' w'):o.wpIn (Fw ro) n P a w next Q:=by
 simp only[opW]at h
 split at h
 ·rename_i f fa ca he
  refine Wwy (by rw[ho]; intro c e; cases e) (hR.called hd (fun env hsl=> ?_) h hK)
  obtain ⟨fs,cs,hv,h1,h2⟩:=Wwz (W05 hsl hax) he
  exact ⟨fs++as.toList.map a.eval++cs,fun hok=>Wbk ho hv hok,((W2u h1).append (W5y hsl hx)).append (W2u h2)⟩
 ·rename_i id he
  obtain ⟨env,hrs,hsl,hev⟩:=hR.ex
  obtain ⟨l,c,hl,hv⟩:=V6q (W05 hsl hax) he
  obtain ⟨fps',hrs1,hback⟩:=hR.back hd ⟨hrs,hsl,hev⟩
  obtain ⟨f,tmps,asg,body,hy,hr⟩:=h w fps' base env (as.toList.map a.eval) hrs1 (W5y hsl hx) l c hl
  have hrun:(execOp a.eval o).run P w= .ok (.round l f tmps asg body) w:=by
   unfold execOp
   have ha:(as.map a.eval)=(as.toList.map a.eval).toArray:=by apply Array.ext'; simp
   simp only[ho,resolve,Deferred.ofValue,hv,invoke,Yr,Sem.run_pure,Yl,Array.empty_append,ha]
   exact hy
  unfold Oper.wpIn
  refine ⟨fun _ _=>trivial,?_⟩
  rw[Oper.semAt_eq _ _ _ (by rw[ho]; intro c e; cases e),hrun]
  refine ⟨W7e,(hr ro (n-1)).mono fun e w' hh=> ?_⟩
  obtain ⟨v,res,regs',env',rfl,hk,hrs2,hv2,hev'⟩:=hh
  exact hK _ _ _ hk (hback v res regs' env' w' hrs2 hv2 hev')
 ·exact h.elim
end
end Go.Sim
