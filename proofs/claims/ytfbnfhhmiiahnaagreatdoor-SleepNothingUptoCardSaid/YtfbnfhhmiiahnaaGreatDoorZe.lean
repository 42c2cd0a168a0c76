/-
  Texts of this claim, one behind the other: E1, E2, E3, E4, E5, E6, E7, E8, E9, Im, G1, L1, G2, G4, G3, G5, F0, F1, G6, L2, L3, Kp, W1, W2, W3, W4, W5, W6, Lw, W7, W8.
-/
import Derived.Test.YtfbnfhhmiiahnaaGreatDoorZd
set_option linter.all false
set_option maxHeartbeats 16000000
set_option maxRecDepth 8000
open List renaming range → abS,mem_of_getElem? → apD,length_singleton → apm,getD_eq_getElem?_getD → apJ,length_set → aqY,mem_cons_of_mem → aqd,getElem?_map → apF,map_cons → acK,length_append → adL,length_cons → aph,mem_cons_self → arK,getElem?_set → apo,mem_or_eq_of_mem_set → arM,filter_cons → ar0,map_append → aqn,mem_append_left → ap0,length_map → aqt,append_nil → aqJ,replicate → apW,length_range → arE,mem_append_right → ar1,mem_singleton → ar2,length → aq0,length_filter_le → arD,length_nil → apK,getElem?_eq_none → aoS,filter_append → arF,nodup_append → ar4,mem_append → ars,nil_append → aoQ,filterMap_cons → ar6,append_assoc → adI,take_length → apZ,mem_reverse → ar7,map_reverse → ar8,map_map → aqa,drop_length → aqi,range_succ → arz,getElem?_cons_succ → aq4,getElem?_cons_zero → aq5,getElem?_inj → ar9,find?_cons → asa,filterMap_append → asc,foldl_append → ase,foldl_cons → aqk,foldl_nil → asf,map_nil → afd,length_mergeSort → ard,nodup_nil → ash,length_replicate → arC,filter_filter → aqR,filter_congr → asi,exists_mem_of_ne_nil → asj,countP_cons → arY,count_cons_self → asl,count_cons_of_ne → asn,mem_mergeSort → arL,mem_filter → aoW,append_of_mem → ap4,reverse_reverse → aso,getElem?_reverse → asq
open Int renaming toNat_natCast → ao3,eq_ofNat_of_zero_le → aoR
open Nat renaming le_refl → aat,zero_le → aoZ,zero_add → acL,le_trans → aru,beq → aoX,sub_self → aq7
open Bool renaming and_eq_true → ao0,false_and → aqg,or_false → ar5,false_eq_true → apq,and_true → asb,true_and → aqf
open Option renaming getD_some → aqB
open Decidable renaming byContradiction → arG
open Go.Proofs.Tryz
namespace Go.Proofs.YtfbnfhhmiiahnaaGreatDoor
open Go Wk
open Go.RowKit (Below)
attribute [local irreducible] Go.Calls
section
variable {P:Program} {n:Nat} {ds:List Deferred} {C:World->Prop} {K:Fr->Prop} {F:Fr} {ops rest:List Oper} {d:Nat} {ty t t':TypeId} {pos:String} {aft:Array Edge} {x y:Operand} {a b:List UInt8}
theorem kV (hx:ev n F x=vs a) (hy:ev n F y=vs b) (ht:a<b->Wq P n ds C K ops rest (upd F d (.bool true))) (hf: ¬a<b->Wq P n ds C K ops rest (upd F d (.bool false))):
 Wq P n ds C K ops (⟨some d,.binOp .lss t x y t',ty,pos,aft,none⟩::rest) F:=by
 by_cases h:a<b
 ·exact Wq.val (fun w _=>by simp only [execOp,hx,hy,Sem.run_bind,qP,Result.andThen_ok,binOp_string_lss,ByteArray.toList_mk,Sem.run_pure,bytesLess_eq,decide_eq_true h]) (ht h)
 ·exact Wq.val (fun w _=>by simp only [execOp,hx,hy,Sem.run_bind,qP,Result.andThen_ok,binOp_string_lss,ByteArray.toList_mk,Sem.run_pure,bytesLess_eq,decide_eq_false h]) (hf h)
end
structure Nb where
 bn:Bn
 wv:SV
 st:Nat
deriving Inhabited
abbrev nbC (x:Nb):List Value:=[vs x.bn.path,.bool x.bn.device,.int .u8 x.bn.level,.int .u8 x.bn.reason,vi (qC x.bn.card),vi x.bn.why,svV x.wv,.bool (x.st == 1),.bool (x.st == 2)]
theorem Zd (x:Nb): ∀c∈nbC x,c.oneCell'=true:=by
 intro c hc;simp at hc;rcases hc with rfl|rfl|rfl|rfl|rfl|rfl|rfl|rfl|rfl<;>rfl
theorem Ze:rF (flat nbC) 9:=rC _ (fun _=>rfl) Zd
def bnF (N:List Nb) (i:Nat):Bn:=(N.getD i default).bn
def stF (N:List Nb) (i:Nat):Nat:=(N.getD i default).st
theorem uF {N:List Nb} {i:Nat} {x:Nb} (h:N[i]? =some x):bnF N i=x.bn:=by unfold bnF;rw [apJ,h];rfl
theorem zo {N:List Nb} {i:Nat} {x:Nb} (h:N[i]? =some x):stF N i=x.st:=by unfold stF;rw [apJ,h];rfl
structure WkM (Pb:Nat->Prop) (bw bm:Nat) (N:List Nb) (ord:List Nat) (fl:List (Nm×Int)) (nv ov:Value) (W:World):Prop where
 b:Bk W bw 128 [nv,ov,.map (some bm)]
 nd:LLs nbC (fun x=>svV x.wv) (fun x=>x.bn.wants) viN 130 3 9 Pb W nv N
 od:oP (Wk.one viN) 3 1 Pb NoB W ov ord
 mp:sK prog 9 W bm (Le fl)
 so: ∀x∈N,Sep (svV x.wv) ov
 win: ∀x∈N, ∀k∈x.bn.wants,k<N.length
 nl:N.length<=512
 fn:(fl.map (·.1)).Nodup/\ ∀x∈N,x.bn.path.length<=1000000
 lo2:Pb bw/\Pb bm
section
variable {Pb:Nat->Prop} {bw bm:Nat} {N:List Nb} {ord:List Nat} {fl:List (Nm×Int)} {nv ov:Value} {W W':World}
theorem WkM.new (g:WkM Pb bw bm N ord fl nv ov W) (c:New W W'):WkM Pb bw bm N ord fl nv ov W':=
 ⟨g.b.chg c id,g.nd.new c,g.od.new (oJ _) c,g.mp.chg c id,g.so,g.win,g.nl,g.fn,g.lo2⟩
theorem EC {i:Nat} (g:WkM Pb bw bm N ord fl nv ov W) (hi:i<N.length):
 Calls prog 68 #[pT bw,vi i] W (Ret fun r w'=>r=vi (qC (uf (bnF N) (stF N) i))/\New W w'):=by
 have hnl:=g.nl;obtain ⟨na,nc,rfl,_,_⟩:=g.nd.row.form;have hrd:=g.nd.row.rd (oU nbC);obtain ⟨x,hx⟩:=pz N hi;have hw:=(g.nd.el x (apD hx)).rd qQ.mo;have hwin:=g.win x (apD hx);unfold uf;rw [uF hx];obtain ⟨bn,wv,st⟩:=x;obtain ⟨wa,wl,wc⟩:=wv;obtain ⟨a',c',e',hwc,hwm⟩:=hw.form;have hwl:wl=bn.wants.length:=by injection e'
 subst hwl;dsimp only at hw hwin hwc ⊢;clear e';have an9:bn.wants.length<=9223372036854775807:=by unfold maxLen at hwm;omega
 refine oI func68 rfl ntmps68 rfl ?_;refine qq4 ?_;refine ah (u:=.slice na N.length nc) rfl (g.b.cell (o:=0) rfl) ?_;(repeat' (refine aa1 ?_));refine aO hrd rfl rfl (by omega) hx fun b o cs hl hR hat=>?_;obtain rfl:cs=nbC _:=hR;(repeat' (refine aa5 ?_));refine ah (u:=.slice wa bn.wants.length wc) rfl (hat.get 6 rfl) ?_;clear hat;refine qq6 ?_;refine aC (σ:=Nat×Option Nat) (fun q=>[(0,pT bw),(5,vi (qC q.2)),(15,.slice wa bn.wants.length wc),(16,vi bn.wants.length),(17,vi q.1)]) (fun q w'=>q.1<=bn.wants.length/\(∀j,q.2=some j->j<N.length)/\sW (bnF N) (stF N) none bn.wants=sW (bnF N) (stF N) q.2 (bn.wants.drop q.1)/\New W w') (fun q=>bn.wants.length-q.1) (0,none) (sl rfl) ⟨aoZ _,fun j e=>(by cases e),rfl,aB _ _⟩ ?_;rintro ⟨k,best⟩ G w1 ⟨hk,hbl,hgo,n1⟩;dsimp only at hk hbl hgo n1;simp only [ql];have g1:=g.new n1;have QJ:=hrd.keep (pI nbC) n1.keep;(repeat' (first|refine qq2 ?_|refine aa2 (fun _=>?_) (fun _=>?_)))
 ·obtain ⟨m,hm⟩:=pz bn.wants (k:=k) (by omega);have hml:=hwin m (apD hm);rw [drop_cons hm,sW] at hgo;obtain ⟨y,hy⟩:=pz N hml;rw [zo hy,uF hy] at hgo;refine bC (hw.keep (pF _) n1.keep) rfl rfl (by omega) hm fun b o hcell=>?_;refine ah (u:=vi m) rfl hcell ?_;refine qq1 ?_;refine fG rfl (by kernel_rfl) ?_;refine qq7 ?_;refine ax (u:=.slice na N.length nc) rfl (fun w' hw=>(g1.b.chg hw id).cell (o:=0) rfl) ?_;(repeat' (refine aa3 ?_));refine aY QJ (fun w' hw=>hw.keep) rfl rfl (by omega) hy fun b o cs hl hR hat=>?_;obtain rfl:cs=nbC y:=hR;(repeat' (refine aa6 ?_));refine ax (u:=.bool (y.st == 1)) rfl (fun w' hw=>(hat w' hw).get 7 rfl) ?_;clear hat;have hok: ∀(b2:Option Nat) (w':World),New w1 w'->(∀j,b2=some j->j<N.length)->(if y.st≠1/\(∀j,best=some j->y.bn.path<(bnF N j).path) then some m else best)=b2->(k+1<=bn.wants.length/\(∀j,b2=some j->j<N.length)/\sW (bnF N) (stF N) none bn.wants=sW (bnF N) (stF N) b2 (bn.wants.drop (k+1))/\New W w'):=fun b2 w' n' hb2 e=>⟨by omega,hb2,by rw [hgo,e],New.trans n1 n'⟩;clear hgo;have hsm: ∀j,some m=some j->j<N.length:=fun j e=>by cases e;exact hml
  cases hst:(y.st == 1) with
  |true=>
   have hst':y.st=1:=by simpa using hst
   refine qq7 ?_;intro w2 n2;refine qq3 ?_;exact aA (k+1,best) (sl rfl) (hok best w2 n2 hbl (if_neg fun e=>e.1 hst')) (by dsimp only;omega)
  |false=>
   have hst':y.st≠1:=by simpa using hst
   cases best with
   |none=>rw [show qC none= -1 from rfl];(repeat' (first|refine aa3 ?_|refine af ?_|refine bY rfl rfl ?_|refine iH rfl rfl ?_|refine dI rfl (by conv=>{lhs;whnf}) ?_|refine dP rfl ?_|(refine dQ rfl rfl (fun _=>?_) (fun _=>?_)<;>(first|(exfalso;omega)|skip))));intro w2 n2;refine qq4 ?_;exact aA (k+1,some m) (sl rfl) (hok (some m) w2 n2 hsm (if_pos ⟨hst',fun j e=>by cases e⟩)) (by dsimp only;omega)
   |some j=>
    rw [show qC (some j)=(j:Int) from rfl];have hjl:=hbl j rfl;obtain ⟨z,hz⟩:=pz N hjl;(repeat' (first|refine qq7 ?_|(refine dQ rfl rfl (fun _=>?_) (fun _=>?_)<;>(first|(exfalso;omega)|skip))));refine ax (u:=.slice na N.length nc) rfl (fun w' hw=>(g1.b.chg hw id).cell (o:=0) rfl) ?_;(repeat' (first|refine aa3 ?_|refine bY rfl rfl ?_));refine aY QJ (fun w' hw=>hw.keep) rfl rfl (by omega) hy fun b o cs hl hR hat=>?_;obtain rfl:cs=nbC y:=hR;refine qq7 ?_;refine ax (u:=vs y.bn.path) rfl (fun w' hw=>(hat w' hw).get 0 rfl) ?_;clear hat;refine qq7 ?_;refine ax (u:=.slice na N.length nc) rfl (fun w' hw=>(g1.b.chg hw id).cell (o:=0) rfl) ?_;(repeat' (first|refine aa3 ?_|refine bY rfl rfl ?_));refine aY QJ (fun w' hw=>hw.keep) rfl rfl (by omega) hz fun b o cs hl hR hat=>?_;obtain rfl:cs=nbC z:=hR;refine qq7 ?_;refine ax (u:=vs z.bn.path) rfl (fun w' hw=>(hat w' hw).get 0 rfl) ?_;clear hat;(repeat' (refine bY rfl rfl ?_));refine kV rfl rfl (fun hlt=>?_) (fun hlt=>?_)
    ·refine qq7 ?_;intro w2 n2;refine qq4 ?_;exact aA (k+1,some m) (sl rfl) (hok (some m) w2 n2 hsm (if_pos ⟨hst',fun q e=>by cases e;rw [uF hz];exact hlt⟩)) (by dsimp only;omega)
    ·refine qq7 ?_;intro w2 n2;refine qq3 ?_;exact aA (k+1,some j) (sl rfl) (hok (some j) w2 n2 hbl (if_neg fun e=>hlt (by have:=e.2 j rfl;rw [uF hz] at this;exact this))) (by dsimp only;omega)
 ·obtain rfl:k=bn.wants.length:=by omega
  rw [aqi,sW] at hgo;exact ay rfl rfl ⟨_,rfl,(congrArg (fun o=>vi (qC o)) hgo).symm,n1⟩
end
abbrev rwC (r:Nat×Option Nat×Int):List Value:=[.int .u8 r.1,vi (qC r.2.1),vi r.2.2]
section
variable {Pb:Nat->Prop} {bw bm:Nat} {N:List Nb} {ord:List Nat} {fl:List (Nm×Int)} {nv ov:Value} {W W':World}
theorem Zf {i:Nat} (g:WkM Pb bw bm N ord fl nv ov W) (hi:i<N.length):
 Calls prog 69 #[pT bw,vi i] W (Ret fun r w'=>r=.agg (rwC (rowOf (bnF N) (stF N) i)).toArray/\New W w'):=by
 have hnl:=g.nl;obtain ⟨na,nc,rfl,_,_⟩:=g.nd.row.form;have hrd:=g.nd.row.rd (oU nbC);obtain ⟨x,hx⟩:=pz N hi;unfold rowOf;rw [uF hx,zo hx];refine oI func69 rfl ntmps69 rfl ?_;refine qq0 ?_;refine Wl.alloc fun w1 b4 n1 s1=>?_;replace b4:Bk w1 W.heap.size 92 [.int .u8 0,vi 0,vi 0]:=b4;have g1:=g.new n1;refine qq4 ?_;refine ah (u:=.slice na N.length nc) rfl (g1.b.cell (o:=0) rfl) ?_;(repeat' (refine aa1 ?_));refine aO (hrd.keep (pI nbC) n1.keep) rfl rfl (by omega) hx fun b o cs hl hR hat=>?_;obtain rfl:cs=nbC x:=hR;refine aS hat rfl rfl ?_;clear hat;refine Wl.alloc fun w2 b5 n2 s2=>?_;refine aK (new:=nbC x) b5 rfl rfl rfl rfl zl9 (Zd x) fun w3 b5' c3 s3=>?_;replace b5':Bk w3 w1.heap.size 130 (nbC x):=b5';have n13:New w1 w3:=(Chg.trans n2.any c3 i3).tN
 clear b5 n2 c3;refine qq2 ?_;refine aS (cs:=[.int .u8 x.bn.reason,vi (qC x.bn.card),vi x.bn.why]) (o:=0+3) (fun j u hu=>b5'.cell (o:=0+3+j) (by rw [show 0+3+j=j+3 by omega];match j,hu with|0,h=>exact h|1,h=>exact h|2,h=>exact h|j+3,h=>cases h)) rfl rfl ?_;refine Wl.alloc fun w4 b6 n4 s4=>?_;refine aK (new:=[.int .u8 x.bn.reason,vi (qC x.bn.card),vi x.bn.why]) b6 rfl rfl rfl rfl zl3 (by intro c hc;simp at hc;rcases hc with rfl|rfl|rfl<;>rfl) fun w5 b6' c5 s5=>?_;replace b6':Bk w5 w3.heap.size 92 [.int .u8 x.bn.reason,vi (qC x.bn.card),vi x.bn.why]:=b6';have n35:New w3 w5:=(Chg.trans n4.any c5 i3).tN
 clear b6 n4 c5;have n15:=New.trans n13 n35;have b45:=b4.chg n15 id;have b55:=b5'.chg n35 id;have n05:=New.trans n1 n15;have z1:=n1.size;have z13:=n13.size;have hb4:=b4.lt;have hb5:=b5'.lt;clear b4 b5' n13 n35 n15 g1;(repeat' (first|refine ak ?_|refine aT ?_));refine eX (fun F w6=>agrees F [(4,pT W.heap.size),(6,pT w3.heap.size)]/\Bk w6 W.heap.size 92 [.int .u8 0,vi 0,vi 0]/\Bk w6 w3.heap.size 92 (rwC (if x.bn.reason≠0∨x.st=1 then (x.bn.reason,x.bn.card,x.bn.why) else if x.st=2 then (7,x.bn.card,x.bn.why) else (8,x.bn.card,match uf (bnF N) (stF N) i with|some k=>(k:Int)|none=> -1)))/\New W w6) ?_ ?_
 ·(repeat' (first|refine aP ?_|refine aU ?_|refine Wc.block ?_|refine aa5 ?_));refine ah (u:=.int .u8 x.bn.reason) rfl (b6'.cell (o:=0) rfl) ?_;(repeat' (first|refine aa1 ?_|refine aa7 ?_|refine ak ?_|refine aQ rfl rfl ?_|refine dG rfl rfl ?_|refine dN rfl (by conv=>{lhs;whnf}) ?_|refine aT ?_|refine Wc.skip ?_|refine dM ?_|refine bT rfl ?_|refine aa5 ?_|refine aa4 (fun _=>?_) (fun _=>?_)))
  ·have hr:x.bn.reason≠0:=by omega
   exact cO ⟨⟨rfl,rfl,trivial⟩,b45,by rw [if_pos (.inl hr)];exact b6',n05⟩
  ·have hr:x.bn.reason=0:=by omega
   refine ah (u:=.bool (x.st == 1)) rfl (b55.cell (o:=7) rfl) ?_;cases hs1:(x.st == 1) with
   |true=>(repeat' (first|refine aa7 ?_|refine ak ?_|refine aa9 ?_|refine aT ?_|refine Wc.skip ?_|refine dM ?_|refine bT rfl ?_));exact cO ⟨⟨rfl,rfl,trivial⟩,b45,by rw [if_pos (.inr (by simpa using hs1))];exact b6',n05⟩
   |false=>
    have hs1':x.st≠1:=by simpa using hs1
    rw [if_neg (fun e=>e.elim (fun e=>e hr) hs1')];(repeat' (first|refine aa7 ?_|refine ak ?_|refine aa9 ?_|refine aT ?_|refine aP ?_|refine aU ?_|refine dm rfl ?_|refine aa5 ?_));refine ah (u:=.bool (x.st == 2)) rfl (b55.cell (o:=8) rfl) ?_;cases hs2:(x.st == 2) with
    |true=>rw [if_pos (by simpa using hs2)];(repeat' (first|refine aa7 ?_|refine ak ?_|refine aT ?_|refine aU ?_|refine bT rfl ?_|refine aa5 ?_));refine aJ (u:=.int .u8 7) b6' rfl (show (0:Nat)<3 by omega) rfl rfl fun w7 b7 c7=>?_;refine DY ?_;exact cO ⟨⟨rfl,rfl,trivial⟩,b45.chg c7 (fun e=>by omega),b7,(Chg.trans n05.any c7 i3).tN⟩
    |false=>rw [if_neg (by simpa using hs2)];refine DY ?_;refine au (EC (g.new n05) hi) rfl ?_;rintro _ w7 ⟨rfl,n7⟩;(repeat' (refine aa5 ?_));refine aJ (u:=.int .u8 8) (b6'.chg n7 id) rfl (show (0:Nat)<3 by omega) rfl rfl fun w8 b8 c8=>?_;(repeat' (refine aa5 ?_));refine aJ (u:=vi (qC (uf (bnF N) (stF N) i))) b8 rfl (show (2:Nat)<3 by omega) rfl rfl fun w9 b9 c9=>?_;have c79:Chg (fun k=>k=w3.heap.size) w7 w9:=Chg.trans c8 c9 i3;refine DY ?_;refine cO ⟨⟨rfl,rfl,trivial⟩,(b45.chg n7 id).chg c79 (fun e=>by omega),?_,(Chg.trans (New.trans n05 n7).any c79 i3).tN⟩;cases hw:uf (bnF N) (stF N) i<;>(rw [hw] at b9;exact b9)
 ·rintro F w6 ⟨hF,h4,h6,n6⟩;rw [<-qh hF];simp only [ql];clear hF;refine qq0 ?_;refine bD h6 rfl rfl ?_;refine aK (new:=rwC _) h4 rfl rfl rfl rfl zl3 (by intro c hc;simp at hc;rcases hc with rfl|rfl|rfl<;>rfl) fun w7 h4' c7 s7=>?_;refine qq1 ?_;exact kM (hu:=⟨underlying92⟩) (sz:=3) rfl rfl rfl h4' rfl rfl ⟨_,rfl,rfl,(Chg.trans n6.any c7 i3).tN⟩
end
section
variable {P:Program} {n:Nat} {ds:List Deferred} {C:World->Prop} {K:Fr->Prop} {F:Fr} {ops rest:List Oper} {d:Nat} {ty:TypeId} {pos:String} {aft:Array Edge}
theorem kW {x i:Operand} {t k e:TypeId} {sz bytes:Nat} {agg:Bool} {z:Value} {b:Nat} {l:List (Value×Value)} {key:Value} {q:Lit} [ht:Und P t (.map k e)] [he:ElT P e sz bytes agg z] (Kd:Maps.Keyed P k) (hC: ∀w',C w'->sK P k w' b l) (hu: ∀r r',(key,r)∈l->(key,r')∈l->r=r') (hq:keyOf P k key=some q)
 (hx:ev n F x=.map (some b)) (hi:ev n F i=key) (c1: ∀r,(key,r)∈l->Wq P n ds C K ops rest (upd F d r)) (c2:(∀p∈l,p.1≠key)->Wq P n ds C K ops rest (upd F d z)):
 Wq P n ds C K ops (⟨some d,.lookup t x i false,ty,pos,aft,none⟩::rest) F:=by
 by_cases hin: ∃r,(key,r)∈l
 ·obtain ⟨u0,hin⟩:=hin;refine Wq.val (v:=u0) (fun w hw=>?_) (c1 u0 hin);obtain ⟨r,hr,hp|⟨_,hp⟩⟩:=AV ht.h he Kd (hC w hw) hq
  ·rw [hu _ _ hp hin] at hr;simp only [execOp,hx,hi,Sem.run_bind,hr,Result.andThen_ok,Sem.run_pure]
  ·exact absurd rfl (hp _ hin)
 ·have hno: ∀p∈l,p.1≠key:=fun p hp e=>hin ⟨p.2,e▸hp⟩;refine Wq.val (v:=z) (fun w hw=>?_) (c2 hno);obtain ⟨r,hr,hp|⟨rfl,hp⟩⟩:=AV ht.h he Kd (hC w hw) hq
  ·exact absurd rfl (hno _ hp)
  ·simp only [execOp,hx,hi,Sem.run_bind,hr,Result.andThen_ok,Sem.run_pure]
end
section
variable {β γ:Type} {f:β->List Value} {g:β->Value} {xs:β->List γ} {h:γ->Value} {te e sz:Nat} {Pb:Nat->Prop} {w w':World} {v:Value} {bs:List β}
theorem Wk.LLs.put (H:LLs f g xs h te e sz Pb w v bs) {i:Nat} {b b':β} (hi:bs[i]? =some b) (hg:g b'=g b) (hx:xs b'=xs b) (hr:oP (flat f) te sz Pb (fun _=>False) w' v (bs.set i b')) (c:Chg (fun k=>v.ownBlock=some k) w w'):LLs f g xs h te e sz Pb w' v (bs.set i b'):=
 H.set hi (w1:=w) (by rw [hg,hx];exact H.el b (apD hi)) (aB _ _) (.inl (by rw [hg])) hr c
end
def flF (L:List (Nm×Int)) (s:Nm):Bool:=L.any fun p=>decide (p.1=s/\0<p.2)
theorem I8: ∀ {L:List (Nm×Int)},(L.map (·.1)).Nodup-> ∀ {s:Nm} {a b:Int},(s,a)∈L->(s,b)∈L->a=b
 | [],_,s,a,b,h,_=>by cases h
 |p::r,hn,s,a,b,h1,h2=>by
  rw [acK,List.nodup_cons] at hn;rcases List.mem_cons.1 h1 with e1|h1<;>rcases List.mem_cons.1 h2 with e2|h2
  ·rw [<-e1] at e2;cases e2;rfl
  ·exact absurd (List.mem_map.2 ⟨_,h2,by rw [<-e1]⟩) hn.1
  ·exact absurd (List.mem_map.2 ⟨_,h1,by rw [<-e2]⟩) hn.1
  ·exact I8 hn.2 h1 h2
theorem Vt {L:List (Nm×Int)} (hn:(L.map (·.1)).Nodup) {s:Nm} {c:Int} (h:(s,c)∈L):flF L s=decide (0<c):=by
 unfold flF;by_cases hc:0<c
 ·rw [decide_eq_true hc];exact List.any_eq_true.2 ⟨_,h,decide_eq_true ⟨rfl,hc⟩⟩
 ·rw [decide_eq_false hc];refine List.any_eq_false.2 fun p hp e=>?_;have e:=of_decide_eq_true e;obtain ⟨ps,pc⟩:=p;obtain rfl:ps=s:=e.1;rw [I8 hn h hp] at hc;exact hc e.2
theorem ac2 {L:List (Nm×Int)} {s:Nm} (h: ∀p∈L,p.1≠s):flF L s=false:=
 List.any_eq_false.2 fun p hp e=>h p hp (of_decide_eq_true e).1
section
variable {Pb:Nat->Prop} {bw bm:Nat} {N:List Nb} {ord:List Nat} {fl:List (Nm×Int)} {nv ov:Value} {W W':World}
theorem abk {i s:Nat} {x:Nb} (hx:N[i]? =some x):bnF (N.set i {x with st:=s})=bnF N:=by
 funext k;unfold bnF;rw [apJ,apJ,apo];by_cases e:i=k
 ·subst e;rw [if_pos rfl,if_pos (List.getElem?_eq_some_iff.1 hx).1,hx];rfl
 ·rw [if_neg e]
theorem abl {i s:Nat} {x:Nb} (hx:N[i]? =some x):stF (N.set i {x with st:=s})=fun k=>if k=i then s else stF N k:=by
 funext k;unfold stF;rw [apJ,apJ,apo];by_cases e:i=k
 ·subst e;rw [if_pos rfl,if_pos (List.getElem?_eq_some_iff.1 hx).1,if_pos rfl];rfl
 ·rw [if_neg e,if_neg (fun h=>e h.symm)]
theorem WkM.chg {M:Nat->Prop} (g:WkM Pb bw bm N ord fl nv ov W) (c:Chg M W W') (h: ∀k,Pb k-> ¬M k):WkM Pb bw bm N ord fl nv ov W':=
 ⟨g.b.chg c (h bw g.lo2.1),g.nd.chg c h,g.od.chg (oJ _) c fun k hk=>h k (g.od.lt hk).1,g.mp.chg c (h bm g.lo2.2),g.so,g.win,g.nl,g.fn,g.lo2⟩
theorem WkM.mono {Pb':Nat->Prop} (g:WkM Pb bw bm N ord fl nv ov W) (h: ∀b,b<W.heap.size->Pb b->Pb' b):WkM Pb' bw bm N ord fl nv ov W:=
 ⟨g.b,g.nd.mono h,g.od.mono (pq _) h i3,g.mp,g.so,g.win,g.nl,g.fn,⟨h _ g.b.lt g.lo2.1,h _ g.mp.lt g.lo2.2⟩⟩
theorem WkM.put (g:WkM Pb bw bm N ord fl nv ov W) {i s:Nat} {x:Nb} (hx:N[i]? =some x) (hr:oP (flat nbC) 130 9 Pb NoB W' nv (N.set i {x with st:=s})) (c:Chg (fun k=>nv.ownBlock=some k) W W'):WkM Pb bw bm (N.set i {x with st:=s}) ord fl nv ov W':=by
 have hm: ∀y∈N.set i {x with st:=s}, ∃z∈N,y.bn=z.bn/\y.wv=z.wv:=fun y hy=>by
  rcases arM hy with hy|rfl
  ·exact ⟨y,hy,rfl,rfl⟩
  ·exact ⟨x,apD hx,rfl,rfl⟩
 refine ⟨g.b.chg c fun e=>g.nd.row.pR g.b rfl e rfl,g.nd.put hx rfl rfl hr c,g.od.chg (oJ _) c fun k hk e=>g.od.tK g.nd.row rfl k hk e,g.mp.chg c (fun e=>g.nd.row.rZ g.mp e rfl),fun y hy=>?_,fun y hy k hk=>?_,by rw [aqY];exact g.nl,⟨g.fn.1,fun y hy=>?_⟩,g.lo2⟩
 ·obtain ⟨z,hz,_,e⟩:=hm y hy;rw [e];exact g.so z hz
 ·obtain ⟨z,hz,e,_⟩:=hm y hy;rw [e] at hk;rw [aqY];exact g.win z hz k hk
 ·obtain ⟨z,hz,e,_⟩:=hm y hy;rw [e];exact g.fn.2 z hz
def QR (Pb:Nat->Prop) (bw bm:Nat) (N:List Nb) (ord:List Nat) (fl:List (Nm×Int)) (nv ov:Value) (i:Nat) (w w':World):Prop:=
 ∃N',WkM Pb bw bm N' ord fl nv ov w'/\N'.length=N.length/\bnF N'=bnF N/\stF N'=(sS (bnF N) (flF fl) (stF N) i).getD (stF N)/\Chg (fun k=>nv.ownBlock=some k) w w'
theorem Xf {i:Nat} (g:WkM Pb bw bm N ord fl nv ov W) (hi:i<N.length) (hst:stF N i<=2):
 Calls prog 67 #[pT bw,vi i] W (Ret fun r w'=>r=.bool (sS (bnF N) (flF fl) (stF N) i).isSome/\QR Pb bw bm N ord fl nv ov i W w'):=by
 have hnl:=g.nl;obtain ⟨x,hx⟩:=pz N hi;have hxN:=apD hx;have hne0:N≠ []:=by intro e;rw [e] at hi;simp at hi
 obtain ⟨ng,nc,rfl,aj9,akb,akc⟩:=g.nd.row.blk hne0;have hbx:=uF hx;have hsx:=zo hx;rw [hsx] at hst;have hpl:=g.fn.2 x hxN;have hno: ∀w',New W w'->sS (bnF N) (flF fl) (stF N) i=none->(Value.bool false=.bool (sS (bnF N) (flF fl) (stF N) i).isSome/\QR Pb bw bm N ord fl (.slice (some ⟨ng,0,none⟩) N.length nc) ov i W w'):=fun w' n e=>by rw [e];exact ⟨rfl,N,g.new n,rfl,rfl,by rw [e];rfl,n.any⟩
 have abm: ∀w',New W w'->At w' ng (0+(i:Int).toNat*9) (nbC x):=fun w' n=>by rw [acL,ao3];exact (g.new n).nd.row.at rfl rfl hx
 have hlk:sS (bnF N) (flF fl) (stF N) i=if x.bn.reason=0/\x.st=0/\uf (bnF N) (stF N) i=none then some (fun k=>if k=i then (if x.bn.device&&flF fl x.bn.path then 2 else 1) else stF N k) else none:=by unfold sS;rw [hbx,hsx]
 refine oI func67 rfl ntmps67 rfl ?_;refine qq4 ?_;refine ah (u:=.slice (some ⟨ng,0,none⟩) N.length nc) rfl (g.b.cell (o:=0) rfl) ?_;(repeat' (refine aa1 ?_));refine dB rfl rfl (by omega) (by omega) ?_;refine qq4 ?_;refine ah (u:=.int .u8 x.bn.reason) rfl ((abm W (aB _ _)).get 3 rfl) ?_;(repeat' (first|refine qq4 ?_|refine aa4 (fun _=>?_) (fun _=>?_)))
 ·have hr:x.bn.reason≠0:=by omega
  obtain ⟨h1,h2⟩:=hno W (aB _ _) (by rw [hlk,if_neg (fun e=>hr e.1)]);exact ay rfl rfl ⟨_,rfl,h1,h2⟩
 have hr:x.bn.reason=0:=by omega
 refine ah (u:=.bool (x.st == 1)) rfl ((abm W (aB _ _)).get 7 rfl) ?_;cases hs1:(x.st == 1) with
 |true=>
  have hs1':x.st=1:=by simpa using hs1
  obtain ⟨h1,h2⟩:=hno W (aB _ _) (by rw [hlk,if_neg (fun e=>by have:=e.2.1;omega)]);refine qq5 ?_;exact ay rfl rfl ⟨_,rfl,h1,h2⟩
 |false=>
 have hs1':x.st≠1:=by simpa using hs1
 refine qq5 ?_;refine ah (u:=.bool (x.st == 2)) rfl ((abm W (aB _ _)).get 8 rfl) ?_;cases hs2:(x.st == 2) with
 |true=>
  have hs2':x.st=2:=by simpa using hs2
  obtain ⟨h1,h2⟩:=hno W (aB _ _) (by rw [hlk,if_neg (fun e=>by have:=e.2.1;omega)]);refine qq5 ?_;exact ay rfl rfl ⟨_,rfl,h1,h2⟩
 |false=>
 have hs2':x.st≠2:=by simpa using hs2
 have hs0:x.st=0:=by omega
 refine qq5 ?_;refine au (EC g hi) rfl ?_;rintro _ w1 ⟨rfl,n1⟩;cases hw:uf (bnF N) (stF N) i with
 |some k=>rw [show qC (some k)=(k:Int) from rfl];obtain ⟨h1,h2⟩:=hno w1 n1 (by rw [hlk,if_neg (fun e=>by rw [hw] at e;cases e.2.2)]);(repeat' (first|refine qq4 ?_|(refine aV rfl rfl (fun _=>?_) (fun _=>?_)<;>(first|(exfalso;omega)|skip))));exact ay rfl rfl ⟨_,rfl,h1,h2⟩
 |none=>
 rw [show qC none= -1 from rfl];rw [if_pos ⟨hr,hs0,hw⟩] at hlk;clear hno;have g1:=g.new n1;obtain ⟨q,hq⟩:=N9 (s:=x.bn.path) (by omega);(repeat' (first|refine ak ?_|refine aQ rfl rfl ?_|refine aa9 ?_|refine aT ?_|refine Wc.skip ?_|refine dm rfl ?_|(refine aV rfl rfl (fun _=>?_) (fun _=>?_)<;>(first|(exfalso;omega)|skip))));refine eX (fun F w3=> ∃fb:Bool,agrees F [(0,pT bw),(1,vi i),(5,.pointer (some ⟨ng,i*9,none⟩))]/\fb=(x.bn.device&&flF fl x.bn.path)/\WkM Pb bw bm (N.set i {x with st:=if fb=true then 2 else 0}) ord fl (.slice (some ⟨ng,0,none⟩) N.length nc) ov w3/\Chg (fun k=>(Value.slice (some (⟨ng,0,none⟩:Addr)) N.length nc).ownBlock=some k) W w3) ?_ ?_
 ·refine aX rfl (by kernel_rfl) (fun w'=>New w1 w') (Chg.drew _ _) ?_;intro w2 n2;have afa: ∀w',New w1 w'->At w' ng (0+(i:Int).toNat*9) (nbC x):=fun w' n=>abm w' (New.trans n1 n);refine tJ ?_;refine aa0 (ax (u:=.bool x.bn.device) rfl (fun w' hw=>(afa w' hw).get 1 rfl) (af ?_));cases hd:x.bn.device with
  |false=>(repeat' (first|refine tJ ?_|refine gq rfl rfl (by assumption) ?_));refine Wt.last rfl (eF (f:=nbC) (sz:=9) (p:=x) (q:={x with st:=if false=true then 2 else 0}) (j:=i) (o:=8) (cap:=nc) (u:=.bool false) (fun _=>rfl) (show (8:Nat)<9 by omega) rfl hx (by rw [show nbC x=[vs x.bn.path,.bool x.bn.device,.int .u8 x.bn.level,.int .u8 x.bn.reason,vi (qC x.bn.card),vi x.bn.why,svV x.wv,.bool (x.st == 1),.bool (x.st == 2)] from rfl,hs1];rfl) (g1.new n2).nd.row rfl (by show Value.pointer (some ⟨ng,0+(i:Int).toNat*9+6+2,none⟩)=_;rw [acL,ao3]) rfl fun w3 o3 c3=>?_);exact ak (cO ⟨false,⟨rfl,rfl,by show Value.pointer (some ⟨ng,0+(i:Int).toNat*9,none⟩)=_;rw [acL,ao3],trivial⟩,by rw [aqg],(g1.new n2).put hx o3 c3,Chg.trans (New.trans n1 n2).any c3 i3⟩)
  |true=>
   refine tJ ?_;refine aa0 (ax (u:=.map (some bm)) rfl (fun w' hw=>(g1.b.chg hw id).cell (o:=2) rfl) (af ?_));refine tJ ?_;refine aa0 (ax (u:=vs x.bn.path) rfl (fun w' hw=>(afa w' hw).get 0 rfl) (af ?_));(repeat' (refine bM rfl rfl ?_));refine aa0 (kW (Maps.string_keyed underlying9) (fun w' hw=>g1.mp.chg hw id) (fun r r' h1 h2=>?_) hq rfl rfl (fun r hr2=>af ?_) (fun hr2=>af ?_))
   ·obtain ⟨⟨a,b⟩,hm,e⟩:=List.mem_map.1 h1;obtain ⟨⟨a',b'⟩,hm',e'⟩:=List.mem_map.1 h2;simp only [Prod.mk.injEq] at e e';obtain ⟨e1,rfl⟩:=e;obtain ⟨e1',rfl⟩:=e';obtain rfl:=yA e1;obtain rfl:=yA e1';rw [I8 g.fn.1 hm hm']
   ·obtain ⟨⟨s',c⟩,hm,e⟩:=List.mem_map.1 hr2;simp only [Prod.mk.injEq] at e;obtain ⟨e1,rfl⟩:=e;obtain rfl:=yA e1;have hf:=Vt g.fn.1 hm;by_cases hc:0<c
    ·rw [decide_eq_true hc] at hf;(repeat' (first|refine bM rfl rfl ?_|refine aa0 (dI rfl (by conv=>{lhs;whnf}) (af ?_))|refine aa0 (fO rfl (af ?_))|refine aa0 (aa6 (af ?_))|(refine aa0 (fV rfl rfl (fun _=>af ?_) (fun _=>af ?_))<;>(first|(exfalso;omega)|skip))));refine Wt.last rfl (eF (f:=nbC) (sz:=9) (p:=x) (q:={x with st:=if true=true then 2 else 0}) (j:=i) (o:=8) (cap:=nc) (u:=.bool true) (fun _=>rfl) (show (8:Nat)<9 by omega) rfl hx (by rw [show nbC x=[vs x.bn.path,.bool x.bn.device,.int .u8 x.bn.level,.int .u8 x.bn.reason,vi (qC x.bn.card),vi x.bn.why,svV x.wv,.bool (x.st == 1),.bool (x.st == 2)] from rfl,hs1];rfl) (g1.new n2).nd.row rfl (by show Value.pointer (some ⟨ng,0+(i:Int).toNat*9+6+2,none⟩)=_;rw [acL,ao3]) rfl fun w3 o3 c3=>?_);exact ak (cO ⟨true,⟨rfl,rfl,by show Value.pointer (some ⟨ng,0+(i:Int).toNat*9,none⟩)=_;rw [acL,ao3],trivial⟩,by rw [hf];rfl,(g1.new n2).put hx o3 c3,Chg.trans (New.trans n1 n2).any c3 i3⟩)
    ·rw [decide_eq_false hc] at hf;(repeat' (first|refine bM rfl rfl ?_|refine aa0 (dI rfl (by conv=>{lhs;whnf}) (af ?_))|refine aa0 (fO rfl (af ?_))|refine aa0 (aa6 (af ?_))|(refine aa0 (fV rfl rfl (fun _=>af ?_) (fun _=>af ?_))<;>(first|(exfalso;omega)|skip))));refine Wt.last rfl (eF (f:=nbC) (sz:=9) (p:=x) (q:={x with st:=if false=true then 2 else 0}) (j:=i) (o:=8) (cap:=nc) (u:=.bool false) (fun _=>rfl) (show (8:Nat)<9 by omega) rfl hx (by rw [show nbC x=[vs x.bn.path,.bool x.bn.device,.int .u8 x.bn.level,.int .u8 x.bn.reason,vi (qC x.bn.card),vi x.bn.why,svV x.wv,.bool (x.st == 1),.bool (x.st == 2)] from rfl,hs1];rfl) (g1.new n2).nd.row rfl (by show Value.pointer (some ⟨ng,0+(i:Int).toNat*9+6+2,none⟩)=_;rw [acL,ao3]) rfl fun w3 o3 c3=>?_);exact ak (cO ⟨false,⟨rfl,rfl,by show Value.pointer (some ⟨ng,0+(i:Int).toNat*9,none⟩)=_;rw [acL,ao3],trivial⟩,by rw [hf];rfl,(g1.new n2).put hx o3 c3,Chg.trans (New.trans n1 n2).any c3 i3⟩)
   ·have hf:flF fl x.bn.path=false:=ac2 fun p hp e=>hr2 (vs p.1,vi p.2) (List.mem_map.2 ⟨p,hp,rfl⟩) (by rw [e]);(repeat' (first|refine bM rfl rfl ?_|refine aa0 (dI rfl (by conv=>{lhs;whnf}) (af ?_))|refine aa0 (fO rfl (af ?_))|refine aa0 (aa6 (af ?_))|(refine aa0 (fV rfl rfl (fun _=>af ?_) (fun _=>af ?_))<;>(first|(exfalso;omega)|skip))));refine Wt.last rfl (eF (f:=nbC) (sz:=9) (p:=x) (q:={x with st:=if false=true then 2 else 0}) (j:=i) (o:=8) (cap:=nc) (u:=.bool false) (fun _=>rfl) (show (8:Nat)<9 by omega) rfl hx (by rw [show nbC x=[vs x.bn.path,.bool x.bn.device,.int .u8 x.bn.level,.int .u8 x.bn.reason,vi (qC x.bn.card),vi x.bn.why,svV x.wv,.bool (x.st == 1),.bool (x.st == 2)] from rfl,hs1];rfl) (g1.new n2).nd.row rfl (by show Value.pointer (some ⟨ng,0+(i:Int).toNat*9+6+2,none⟩)=_;rw [acL,ao3]) rfl fun w3 o3 c3=>?_);exact ak (cO ⟨false,⟨rfl,rfl,by show Value.pointer (some ⟨ng,0+(i:Int).toNat*9,none⟩)=_;rw [acL,ao3],trivial⟩,by rw [hf];rfl,(g1.new n2).put hx o3 c3,Chg.trans (New.trans n1 n2).any c3 i3⟩)
 ·rintro F w3 ⟨fb,hF,hfb,g3,c3⟩;rw [<-qh hF];simp only [ql];clear hF;have hil:=(List.getElem?_eq_some_iff.1 hx).1;have hx':(N.set i {x with st:=if fb=true then 2 else 0})[i]? =some {x with st:=if fb=true then 2 else 0}:=by rw [apo,if_pos rfl,if_pos hil]
  have hset: ∀y:Nb,(N.set i {x with st:=if fb=true then 2 else 0}).set i y=N.set i y:=fun y=>List.set_set ..;have hat:At w3 ng (i*9) (nbC {x with st:=if fb=true then 2 else 0}):=g3.nd.row.at rfl rfl hx';have hfs:((if fb=true then 2 else 0) == 2)=fb:=by cases fb<;>rfl
  have hlen':(N.set i {x with st:=if fb=true then 2 else 0}).length=N.length:=by rw [aqY]
  refine qq4 ?_;refine ah (u:=.bool fb) rfl (by have:=hat.get 8 rfl;rw [hfs] at this;exact this) ?_;refine qq5 ?_;refine eF (f:=nbC) (sz:=9) (p:={x with st:=if fb=true then 2 else 0}) (q:={x with st:=if fb=true then 2 else 1}) (j:=i) (o:=7) (cap:=nc) (u:=.bool (!fb)) (fun _=>rfl) (show (7:Nat)<9 by omega) rfl hx' (by cases fb<;>rfl) g3.nd.row (by rw [hlen']) rfl rfl fun w4 o4 c4=>?_;refine qq1 ?_;have g4:=g3.put hx' (s:=if fb=true then 2 else 1) o4 c4;rw [hset] at g4;refine ay rfl rfl ⟨_,rfl,by rw [hlk];rfl,N.set i {x with st:=if fb=true then 2 else 1},g4,by rw [aqY],abk hx,?_,Chg.trans c3 c4 i3⟩;rw [abl hx,hlk,aqB,hfb]
end
theorem ac3:rF (flat rwC) 3:=rC _ (fun _=>rfl) fun x c hc=>by simp at hc;rcases hc with rfl|rfl|rfl<;>rfl
abbrev Rws:Type:=Nat×Option Nat×Int
def rowsOf (N:Nat->Bn) (S:Nat->Nat) (n:Nat):List Rws:=(abS n).map (rowOf N S)
theorem Kz (n:Nat):abS (n+1)=abS n++ [n]:=arz
section
variable {Pb:Nat->Prop} {bw bm:Nat} {N:List Nb} {ord:List Nat} {fl:List (Nm×Int)} {nv ov:Value} {W W':World}
theorem Xg (g:WkM Pb bw bm N ord fl nv ov W):
 Calls prog 42 #[pT bw] W (Ret fun r w'=>oP (flat rwC) 92 3 (fun b=>W.heap.size<=b) NoB w' r (rowsOf (bnF N) (stF N) N.length)/\New W w'):=by
 have hnl:=g.nl;obtain ⟨na,nc,rfl,_,_⟩:=g.nd.row.form;refine oI func42 rfl ntmps42 rfl ?_;refine qq2 ?_;refine gZ rfl rfl ?_;refine qq4 ?_;refine ah (u:=.slice na N.length nc) rfl (g.b.cell (o:=0) rfl) ?_;refine qq6 ?_;refine aC (σ:=Nat×Value) (fun q=>[(0,pT bw),(3,q.2),(11,vi N.length),(12,vi q.1)]) (fun q w'=>q.1<=N.length/\oP (flat rwC) 92 3 (fun b=>W.heap.size<=b) NoB w' q.2 (rowsOf (bnF N) (stF N) q.1)/\New W w') (fun q=>N.length-q.1) (0,.slice none 0 0) (sl rfl) ⟨aoZ _,aN,aB _ _⟩ ?_;rintro ⟨k,rv⟩ G w1 ⟨hk,own,n1⟩;dsimp only at hk own n1;simp only [ql];have hrl:(rowsOf (bnF N) (stF N) k).length=k:=by unfold rowsOf;rw [aqt,arE]
 obtain ⟨ra,rc,rfl,_,_⟩:=own.form;(repeat' (first|refine qq2 ?_|refine aa2 (fun _=>?_) (fun _=>?_)))
 ·refine au (Zf (g.new n1) (i:=k) (by omega)) rfl ?_;rintro _ w2 ⟨rfl,n2⟩;have n02:=New.trans n1 n2;have hz2:=n02.size;refine bZ (R:=flat rwC) (y:=rowOf (bnF N) (stF N) k) ac3 (own.new (oH rwC) n2) rfl rfl rfl rfl rfl (by omega) (by omega) (by simp only [maxLen];omega) (by omega) rfl rfl fun v3 w3 p xX c3 lie=>?_;have hsn:rowsOf (bnF N) (stF N) k++ [rowOf (bnF N) (stF N) k]=rowsOf (bnF N) (stF N) (k+1):=by unfold rowsOf;rw [Kz,aqn];rfl
  rw [hsn] at xX;refine qq4 ?_;exact aA (k+1,v3) (sl rfl) ⟨by dsimp only;omega,xX.mono (oU rwC) (fun b _ e=>by rcases e with e|e;exact e;omega) i3,(Chg.trans n02.any c3 i3).toNew fun j hj e=>by have h9:W.heap.size<=j:=(own.lt e).1;omega⟩ (by dsimp only;omega)
 ·obtain rfl:k=N.length:=by omega
  exact ay rfl rfl ⟨_,rfl,own,n1⟩
theorem QS {N:Nat->Bn} {fl:Nm->Bool} {S:Nat->Nat} {i:Nat} (h: ∀k,S k<=2): ∀k,((sS N fl S i).getD S) k<=2:=by
 intro k;unfold sS;split
 ·dsimp only [aqB];split
  ·split<;>omega
  ·exact h k
 ·exact h k
abbrev wtC (p:Nat×Nat):List Value:=[vi p.1,vi p.2]
theorem TU:rF (flat wtC) 2:=rC _ (fun _=>rfl) fun x c hc=>by simp at hc;rcases hc with rfl|rfl<;>rfl
theorem uV (N:Nat->Bn) (fl:Nm->Bool) (i:Nat) (r:List Nat) (S:St):qi N fl (i::r) S=if S i≠0 then qi N fl r S else match sS N fl S i with
 |some S'=>let q:=qi N fl r S';(⟨i::q.1.tried,q.1.waits⟩,q.2)
 |none=>let q:=qi N fl r S;(⟨q.1.tried,(i,(uf N S i).getD 0)::q.1.waits⟩,q.2):=by rw [qi]<;>rfl
theorem TV (g:WkM Pb bw bm N ord fl nv ov W) (ho: ∀i∈ord,i<N.length/\(bnF N i).reason=0) (hst: ∀i,stF N i<=2) (hol:ord.length<=512):
 Calls prog 41 #[pT bw] W (Ret fun r w'=> ∃N' tv wv,r=.agg #[tv,wv]/\WkM Pb bw bm N' ord fl nv ov w'/\N'.length=N.length/\bnF N'=bnF N/\stF N'=(qi (bnF N) (flF fl) ord (stF N)).2/\oP (Wk.one viN) 3 1 (fun b=>W.heap.size<=b) NoB w' tv (qi (bnF N) (flF fl) ord (stF N)).1.tried/\oP (flat wtC) 169 2 (fun b=>W.heap.size<=b) NoB w' wv (qi (bnF N) (flF fl) ord (stF N)).1.waits/\Chg (fun k=>nv.ownBlock=some k) W w'):=by
 have hnl:=g.nl;replace g:=g.mono (Pb':=fun b=>Pb b/\b<W.heap.size) fun b hb e=>⟨e,hb⟩;obtain ⟨na,nc,rfl,_,_⟩:=g.nd.row.form;obtain ⟨oa,oc,rfl,_,_⟩:=g.od.form;have KA: ∀k,(Value.slice na N.length nc).ownBlock=some k->k<W.heap.size:=fun k hk=>(g.nd.row.lt hk).2;refine oI func41 rfl ntmps41 rfl ?_;refine qq0 ?_;refine Wl.alloc fun w1 b2 n1 s1=>?_;replace b2:Bk w1 W.heap.size 122 [.slice none 0 0,.slice none 0 0]:=b2;refine qq2 ?_;refine Wl.alloc fun w2 b3 n2 s2=>?_;replace b3:Bk w2 w1.heap.size 122 [.slice none 0 0,.slice none 0 0]:=b3;have n02:=New.trans n1 n2;have g2:=g.new n02;replace b2:=b2.chg n2 id;refine qq4 ?_;refine ah (u:=.slice oa ord.length oc) rfl (g2.b.cell (o:=1) rfl) ?_;refine qq6 ?_;refine aC (σ:=Nat×List Nb×Value×Value×List Nat×List (Nat×Nat)) (fun q=>[(0,pT bw),(2,pT W.heap.size),(3,pT w1.heap.size),(10,.slice oa ord.length oc),(11,vi ord.length),(12,vi q.1)]) (fun q w'=>q.1<=ord.length/\WkM (fun b=>Pb b/\b<W.heap.size) bw bm q.2.1 ord fl (.slice na N.length nc) (.slice oa ord.length oc) w'/\q.2.1.length=N.length/\bnF q.2.1=bnF N/\(∀j,stF q.2.1 j<=2)/\qi (bnF N) (flF fl) ord (stF N)=(⟨q.2.2.2.2.1++(qi (bnF N) (flF fl) (ord.drop q.1) (stF q.2.1)).1.tried,q.2.2.2.2.2++(qi (bnF N) (flF fl) (ord.drop q.1) (stF q.2.1)).1.waits⟩,(qi (bnF N) (flF fl) (ord.drop q.1) (stF q.2.1)).2)/\Bk w' w1.heap.size 122 [q.2.2.1,q.2.2.2.1]/\Bk w' W.heap.size 122 [.slice none 0 0,.slice none 0 0]/\oP (Wk.one viN) 3 1 (fun b=>w2.heap.size<=b) NoB w' q.2.2.1 q.2.2.2.2.1/\oP (flat wtC) 169 2 (fun b=>w2.heap.size<=b) NoB w' q.2.2.2.1 q.2.2.2.2.2/\q.2.2.2.2.1.length+q.2.2.2.2.2.length<=q.1/\w2.heap.size<=w'.heap.size/\Chg (fun k=>(Value.slice na N.length nc).ownBlock=some k) W w') (fun q=>ord.length-q.1) (0,N,.slice none 0 0,.slice none 0 0,[],[]) (sl rfl) ⟨aoZ _,g2,rfl,rfl,hst,rfl,b3,b2,aN,aN,aat _,aat _,n02.any⟩ ?_;have hz1:=n1.size;have hz2:=n2.size;have Zg:=b2.lt;have ac4:=b3.lt;clear g2 b2 b3 n02;rintro ⟨k,N',tv,wv,T,Q⟩ G w3 ⟨hk,g3,hN,hbn,hs3,hgo,b3,b2,oT,oQ,hTQ,hz3,c3⟩;dsimp only at hk g3 hN hbn hs3 hgo b3 b2 oT oQ hTQ hz3 c3;simp only [ql];obtain ⟨ta,tc,rfl,_,_⟩:=oT.form;obtain ⟨qa,qc,rfl,_,_⟩:=oQ.form;have hod:=g3.od.rd qQ.mo;have hrd:=g3.nd.row.rd (oU nbC);(repeat' (first|refine qq2 ?_|refine aa2 (fun _=>?_) (fun _=>?_)))
 ·obtain ⟨j,hj⟩:=pz ord (k:=k) (by omega);obtain ⟨hjl,hjr⟩:=ho j (apD hj);obtain ⟨x,hx⟩:=pz N' (k:=j) (by omega);have hsx:=zo hx;have hx2:=hs3 j;rw [hsx] at hx2;rw [drop_cons hj,uV,hsx] at hgo;refine bC hod rfl rfl (by omega) hj fun b o hcell=>?_;refine ah (u:=vi j) rfl hcell ?_;refine qq4 ?_;refine ah (u:=.slice na N.length nc) rfl (g3.b.cell (o:=0) rfl) ?_;(repeat' (refine aa1 ?_));refine aO hrd rfl rfl (by omega) hx fun b o cs hl hR hat=>?_;obtain rfl:cs=nbC x:=hR;refine aS hat rfl rfl ?_;clear hat;refine Wl.alloc fun w4 b5 n4 s4=>?_;refine aK (new:=nbC x) b5 rfl rfl rfl rfl zl9 (Zd x) fun w5 b5' c5 s5=>?_;replace b5':Bk w5 w3.heap.size 130 (nbC x):=b5';have n35:New w3 w5:=(Chg.trans n4.any c5 i3).tN
  clear b5 n4 c5;have g5:=g3.new n35;have b35:=b3.chg n35 id;have b25:=b2.chg n35 id;have oT5:=oT.new (oJ _) n35;have oQ5:=oQ.new (oH wtC) n35;have hz5:=n35.size;have c05:=Chg.trans c3 (n35.any (M:=fun k=>(Value.slice na N.length nc).ownBlock=some k)) i3;clear g3 b3 b2 oT oQ c3 hod hrd;refine qq2 ?_;refine ah (u:=.bool (x.st == 1)) rfl (b5'.cell (o:=7) rfl) ?_;have hsame:x.st≠0->(k+1<=ord.length/\WkM (fun b=>Pb b/\b<W.heap.size) bw bm N' ord fl (.slice na N.length nc) (.slice oa ord.length oc) w5/\N'.length=N.length/\bnF N'=bnF N/\(∀j,stF N' j<=2)/\qi (bnF N) (flF fl) ord (stF N)=(⟨T++(qi (bnF N) (flF fl) (ord.drop (k+1)) (stF N')).1.tried,Q++(qi (bnF N) (flF fl) (ord.drop (k+1)) (stF N')).1.waits⟩,(qi (bnF N) (flF fl) (ord.drop (k+1)) (stF N')).2)/\Bk w5 w1.heap.size 122 [.slice ta T.length tc,.slice qa Q.length qc]/\Bk w5 W.heap.size 122 [.slice none 0 0,.slice none 0 0]/\oP (Wk.one viN) 3 1 (fun b=>w2.heap.size<=b) NoB w5 (.slice ta T.length tc) T/\oP (flat wtC) 169 2 (fun b=>w2.heap.size<=b) NoB w5 (.slice qa Q.length qc) Q/\T.length+Q.length<=k+1/\w2.heap.size<=w5.heap.size/\Chg (fun k=>(Value.slice na N.length nc).ownBlock=some k) W w5):=fun e=>by rw [if_pos e] at hgo;exact ⟨by omega,g5,hN,hbn,hs3,hgo,b35,b25,oT5,oQ5,by omega,by omega,c05⟩
  cases hs1:(x.st == 1) with
  |true=>
   have hs1':x.st=1:=by simpa using hs1
   refine qq4 ?_;exact aA (k+1,N',_,_,T,Q) (sl rfl) (hsame (by omega)) (by dsimp only;omega)
  |false=>
  have hs1':x.st≠1:=by simpa using hs1
  refine qq5 ?_;refine ah (u:=.bool (x.st == 2)) rfl (b5'.cell (o:=8) rfl) ?_;cases hs2:(x.st == 2) with
  |true=>
   have hs2':x.st=2:=by simpa using hs2
   refine qq4 ?_;exact aA (k+1,N',_,_,T,Q) (sl rfl) (hsame (by omega)) (by dsimp only;omega)
  |false=>
  have hs2':x.st≠2:=by simpa using hs2
  have hs0:x.st=0:=by omega
  clear hsame b5';rw [if_neg (fun e=>e hs0)] at hgo;refine qq4 ?_;refine au (Xf g5 (i:=j) (by omega) (hs3 j)) rfl ?_;rintro _ w6 ⟨rfl,N2,g6,hl6,hb6,hs6,c6⟩;have afb:N2.length=N.length:=by omega
  have Lc:bnF N2=bnF N:=hb6.trans hbn;have hs62: ∀q,stF N2 q<=2:=by rw [hs6];exact QS hs3
  have hz6:=c6.size;have b36:=b35.chg c6 fun e=>by have:=KA _ e;omega
  have b26:=b25.chg c6 fun e=>by have:=KA _ e;omega
  have oT6:=oT5.chg (oJ _) c6 fun q hq e=>by have h9:w2.heap.size<=q:=(oT5.lt hq).1;have:=KA q e;omega
  have oQ6:=oQ5.chg (oH wtC) c6 fun q hq e=>by have h9:w2.heap.size<=q:=(oQ5.lt hq).1;have:=KA q e;omega
  have c06:=Chg.trans c05 c6 i3;clear g5 b35 b25 oT5 oQ5 c05 c6;rw [<-hbn] at hgo;cases hlk:sS (bnF N') (flF fl) (stF N') j with
  |some S'=>rw [hlk] at hgo hs6;rw [hbn] at hgo;replace hs6:stF N2=S':=hs6;rw [<-hs6] at hgo;dsimp only at hgo;refine qq4 ?_;refine ah (u:=.slice ta T.length tc) rfl (b36.cell (o:=0) rfl) ?_;(repeat' (refine aa1 ?_));refine bZ (R:=Wk.one viN) (y:=j) qQ oT6 rfl rfl rfl rfl rfl (by omega) (by omega) (by simp only [maxLen];omega) (by omega) rfl rfl fun v7 w7 p o7 c7 lie=>?_;have b37:=b36.chg c7 fun e=>oT6.pR b36 rfl e rfl;have hz7:=c7.size;(repeat' (refine aa5 ?_));refine aJ (u:=v7) b37 rfl (show (0:Nat)<2 by omega) rfl (by obtain ⟨_,_,rfl,_⟩:=o7.form;rfl) fun w8 b38 c8=>?_;have hz8:=c8.size;refine qq4 ?_;refine aA (k+1,N2,v7,_,T++ [j],Q) (sl rfl) ⟨by dsimp only;omega,(g6.chg c7 fun q hq e=>by have h9:w2.heap.size<=q:=(oT6.lt e).1;have:=hq.2;omega).chg c8 fun q hq e=>(by have:=hq.2;omega),afb,Lc,hs62,?_,b38,(b26.chg c7 fun e=>oT6.pR b26 rfl e rfl).chg c8 fun e=>(by omega),(o7.mono (pq _) (fun b _ e=>by rcases e with e|e;exact e;omega) i3).chg (oJ _) c8 fun q hq e=>o7.pR b37 rfl hq e,(oQ6.chg (oH wtC) c7 fun q hq e=>oQ6.tK oT6 rfl q hq e).chg (oH wtC) c8 fun q hq e=>oQ6.pR b36 rfl hq e,by dsimp only;rw [adL,apm];omega,by omega,Chg.trans (Chg.trans c06 c7 fun q hq e=>by have h9:w2.heap.size<=q:=(oT6.lt e).1;omega) c8 fun q hq e=>by omega⟩ (by dsimp only;omega);dsimp only;rw [hgo];simp
  |none=>
   rw [hlk] at hgo hs6;rw [hbn] at hgo;replace hs6:stF N2=stF N':=hs6;have hwm: ∃m,uf (bnF N) (stF N') j=some m:=by
    cases hw:uf (bnF N) (stF N') j with
    |some m=>exact ⟨m,rfl⟩
    |none=>unfold sS at hlk;rw [hbn,hjr,hsx,hs0,if_pos ⟨rfl,rfl,hw⟩] at hlk;cases hlk
   obtain ⟨m,hwm⟩:=hwm;rw [hwm,aqB] at hgo;dsimp only at hgo;refine qq8 ?_;refine aX rfl (by kernel_rfl) (fun w'=>Chg (fun q=>(Value.slice qa Q.length qc).ownBlock=some q) w6 w') (Chg.drew _ _) ?_;intro w7 n7;(repeat' (refine aa0 (aa6 (af ?_))));refine aa0 (ax (u:=.slice qa Q.length qc) rfl (fun w' hw=>(b36.chg hw fun e=>oQ6.pR b36 rfl e rfl).cell (o:=1) rfl) (af ?_));(repeat' (refine aa0 (aa3 (af ?_))));refine aH rfl (au (EC (g6.new n7) (i:=j) (by omega)) rfl ?_);rintro _ w8 ⟨rfl,n8⟩;have n68:=n7.trans n8;rw [Lc,hs6,hwm,show qC (some m)=(m:Int) from rfl];refine ak ⟨rfl,n68.any,?_⟩;refine aH rfl (bJ (ps:=[(0,.tmp 25),(1,.tmp 28)]) (parts:=[(0,vi j),(1,vi m)]) rfl rfl (by simp [Value.cells]) (ak ⟨rfl,n68.any,?_⟩));refine aH rfl (bF (R:=flat wtC) (Pe:=NoB) (y:=(j,m)) TU rfl rfl rfl rfl (by omega) (by omega) fun v9 w9 o9 n9 s9 e9=>?_);have n69:=n68.trans n9;refine ak ⟨rfl,n69.any,?_⟩;refine aH rfl (bI TU (oQ6.new (oH wtC) n69) (o9.rd TU.mo) (fun y cs hy=>hy) rfl rfl (by omega) (by simp only [maxLen,apm];omega) (by simp only [apm];omega) fun v10 w10 o10 c10 lie _=>?_);have akd:=n69.size;have GX:Chg (fun q=>(Value.slice qa Q.length qc).ownBlock=some q) w6 w10:=Chg.trans n69.any c10 i3;refine ak ⟨rfl,GX,?_⟩;have afc:=b36.chg GX fun e=>oQ6.pR b36 rfl e rfl;have YO:=GX.size;(repeat' (refine aa0 (aa6 (af ?_))));refine Wt.last rfl (aJ (u:=v10) afc rfl (show (1:Nat)<2 by omega) rfl (by obtain ⟨_,_,rfl,_⟩:=o10.form;rfl) fun w11 Oa c11=>?_);have Tn:=c11.size;refine ak ?_;refine qq4 ?_;refine aA (k+1,N2,_,v10,T,Q++ [(j,m)]) (sl rfl) ⟨by dsimp only;omega,(g6.chg GX fun q hq e=>by have h9:w2.heap.size<=q:=(oQ6.lt e).1;have:=hq.2;omega).chg c11 fun q hq e=>(by have:=hq.2;omega),afb,Lc,hs62,?_,Oa,(b26.chg GX fun e=>oQ6.pR b26 rfl e rfl).chg c11 fun e=>(by omega),(oT6.chg (oJ _) GX fun q hq e=>oT6.tK oQ6 rfl q hq e).chg (oJ _) c11 fun q hq e=>oT6.pR b36 rfl hq e,(o10.mono (oU wtC) (fun b _ e=>by rcases e with e|e;exact e;omega) i3).chg (oH wtC) c11 fun q hq e=>o10.pR afc rfl hq e,by dsimp only;rw [adL,apm];omega,by omega,Chg.trans (Chg.trans c06 GX fun q hq e=>by have h9:w2.heap.size<=q:=(oQ6.lt e).1;omega) c11 fun q hq e=>by omega⟩ (by dsimp only;omega);dsimp only;rw [hgo,hs6];simp
 ·obtain rfl:k=ord.length:=by omega
  rw [aqi,qi] at hgo;simp only [aqJ] at hgo;refine bD b3 rfl rfl ?_;refine aK (new:=[.slice ta T.length tc,.slice qa Q.length qc]) b2 rfl rfl rfl rfl zl2 (by intro c hc;simp at hc;rcases hc with rfl|rfl<;>rfl) fun w4 b4 c4 s4=>?_;replace b4:Bk w4 W.heap.size 122 [.slice ta T.length tc,.slice qa Q.length qc]:=b4;refine qq1 ?_;refine eY (yG (a:=.cell 2 122) rfl (rY rfl rfl b4 rfl)) ⟨_,rfl,N',.slice ta T.length tc,.slice qa Q.length qc,rfl,(g3.chg c4 fun q hq e=>by have:=hq.2;omega).mono fun b _ e=>e.1,hN,hbn,by rw [hgo],?_,?_,Chg.trans c3 c4 fun q hq e=>by omega⟩
  ·rw [hgo];exact (oT.chg (oJ _) c4 fun q hq e=>oT.pR b2 rfl hq e).mono (pq _) (fun b _ e=>by have h9:w2.heap.size<=b:=e;omega) i3
  ·rw [hgo];exact (oQ.chg (oH wtC) c4 fun q hq e=>oQ.pR b2 rfl hq e).mono (oU wtC) (fun b _ e=>by have h9:w2.heap.size<=b:=e;omega) i3
end
section
variable {bw:Nat} {N:List Nb} {ov:Value} {w:World}
theorem Xh {a c b8:Nat} {na:Option Addr} {nc:Nat} {mv:Value} {Pr:Nat->Prop} (hnl:N.length<=512) (gb:Bk w bw 128 [.slice na N.length nc,ov,mv]) (hrd:RdS (flat nbC) 9 Pr w (.slice na N.length nc) N) (h8:Bk w b8 80 [pT bw]) (ha:a<N.length) (hc:c<N.length):
 Calls prog 63 #[vi a,vi c,.pointer (some ⟨b8,0,none⟩)] w (Ret fun r w'=>r=vi (sH (fun i=>(bnF N i).level) (fun i=>(bnF N i).path) a c)/\Grw w w'):=by
 obtain ⟨x,hx⟩:=pz N ha;obtain ⟨y,hy⟩:=pz N hc;have hkey:sH (fun i=>(bnF N i).level) (fun i=>(bnF N i).path) a c=orM [zN x.bn.level y.bn.level,Fg x.bn.path y.bn.path]:=by rw [<-uF hx, <-uF hy, <-UU]
 rw [hkey];refine oI func63 rfl ntmps63 rfl ?_;refine qq1 ?_;refine iy [0,1,2,3,4,5,6,7,8,9,10,11,12,13,14,15,17,18,19,20,21,22,23,24,25,26,27,28,29,30,31,32] [16,33,34,35,36] rfl (by kernel_rfl) (by simp only [pick,aq4,aq5];rfl) (by simp only [pick,aq4,aq5];rfl) (Grw w) (Grw.drew w) ?_;refine ax (u:=pT bw) rfl (fun w' hw=>(h8.chg hw.new id).cell (o:=0) rfl) ?_;refine qq7 ?_;refine ax (u:=.slice na N.length nc) rfl (fun w' hw=>(gb.chg hw.new id).cell (o:=0) rfl) ?_;(repeat' (refine aa3 ?_));refine aY hrd (fun w' hw=>hw.new.keep) rfl rfl (by omega) hx fun bb off cs' hcl hR hat=>?_;obtain rfl:cs'=nbC x:=hR;(repeat' (refine aa6 ?_));refine ax (u:=.int .u8 x.bn.level) rfl (fun w' hw=>(hat w' hw).get 2 rfl) ?_;clear hat;refine ax (u:=pT bw) rfl (fun w' hw=>(h8.chg hw.new id).cell (o:=0) rfl) ?_;refine qq7 ?_;refine ax (u:=.slice na N.length nc) rfl (fun w' hw=>(gb.chg hw.new id).cell (o:=0) rfl) ?_;(repeat' (refine aa3 ?_));refine aY hrd (fun w' hw=>hw.new.keep) rfl rfl (by omega) hy fun bb off cs' hcl hR hat=>?_;obtain rfl:cs'=nbC y:=hR;(repeat' (refine aa6 ?_));refine ax (u:=.int .u8 y.bn.level) rfl (fun w' hw=>(hat w' hw).get 2 rfl) ?_;clear hat;refine ax (u:=pT bw) rfl (fun w' hw=>(h8.chg hw.new id).cell (o:=0) rfl) ?_;refine qq7 ?_;refine ax (u:=.slice na N.length nc) rfl (fun w' hw=>(gb.chg hw.new id).cell (o:=0) rfl) ?_;(repeat' (refine aa3 ?_));refine aY hrd (fun w' hw=>hw.new.keep) rfl rfl (by omega) hx fun bb off cs' hcl hR hat=>?_;obtain rfl:cs'=nbC x:=hR;(repeat' (refine aa6 ?_));refine ax (u:=vs x.bn.path) rfl (fun w' hw=>(hat w' hw).get 0 rfl) ?_;clear hat;refine ax (u:=pT bw) rfl (fun w' hw=>(h8.chg hw.new id).cell (o:=0) rfl) ?_;refine qq7 ?_;refine ax (u:=.slice na N.length nc) rfl (fun w' hw=>(gb.chg hw.new id).cell (o:=0) rfl) ?_;(repeat' (refine aa3 ?_));refine aY hrd (fun w' hw=>hw.new.keep) rfl rfl (by omega) hy fun bb off cs' hcl hR hat=>?_;obtain rfl:cs'=nbC y:=hR;(repeat' (refine aa6 ?_));refine ax (u:=vs y.bn.path) rfl (fun w' hw=>(hat w' hw).get 0 rfl) ?_;clear hat;refine qq7 ?_;refine dH ?_;refine au (zO (a:=x.bn.level) (b:=y.bn.level)) rfl ?_;rintro _ _ ⟨rfl,rfl⟩;refine ak ⟨rfl,Grw.drew w,?_⟩;refine dH ?_;refine au (xW (a:=x.bn.path) (b:=y.bn.path)) rfl ?_;rintro _ _ ⟨rfl,rfl⟩;refine ak ⟨rfl,Grw.drew w,?_⟩;refine dH ?_;refine jI (us:=[zN x.bn.level y.bn.level,Fg x.bn.path y.bn.path]) rfl rfl (by simp) (by simp) fun v o own=>?_;obtain ⟨va,aeF,rfl,_,_⟩:=own.form;have hgr:Grw w (w.drew.alloc o):=(Grw.drew w).alloc o;refine ak ⟨rfl,hgr,?_⟩;refine dH ?_;refine au (Nw (own.rd (pq _))) rfl ?_;rintro _ _ ⟨rfl,rfl⟩;refine ak ⟨rfl,hgr,?_⟩;refine Wch.last ?_;refine qq6 ?_;exact ay rfl rfl ⟨_,rfl,rfl,hgr⟩
end
structure RdG (Pb:Nat->Prop) (w:World) (g:Giv) (tv cv fv gv:Value):Prop where
 t:RdS rNd 3 Pb w tv g.tree
 c:RdS rCd 7 Pb w cv g.cards
 f:RdS (Wk.one vs) 1 Pb w fv g.fails
 g:RdS (Wk.one vs) 1 Pb w gv g.gone
theorem RdG.keep {Pb:Nat->Prop} {w w':World} {g:Giv} {tv cv fv gv:Value} (h:RdG Pb w g tv cv fv gv) (hk:Keep Pb w w') (sc:Stable rCd):RdG Pb w' g tv cv fv gv:=
 ⟨h.t.keep pU hk,h.c.keep sc hk,h.f.keep (pF _) hk,h.g.keep (pF _) hk⟩
noncomputable def pY (g:Giv) (i:Nat):Bn:=if i<g.tree.length then Aj g i else default
def Vu (g:Giv) (lo:Nat) (r:Value) (w':World):Prop:= ∃bw bm N fl nv ov,r=.tuple #[pT bw,vi 0]/\WkM (fun b=>lo<=b) bw bm N (qJ (pY g) g.tree.length) fl nv ov w'/\N.length=g.tree.length/\bnF N=pY g/\(∀i,stF N i=0)/\ ∀s,flF fl s=g.fails.contains s
def rRd:Rel Rnd:=fun Pb w r cs=> ∃tv wv,cs=[tv,wv]/\oP (Wk.one viN) 3 1 Pb NoB w tv r.tried/\oP (flat wtC) 169 2 Pb NoB w wv r.waits
theorem Zh:Stable rRd:=fun _ _ _ _ _ hk ⟨tv,wv,e,h1,h2⟩=>⟨tv,wv,e,h1.keep (pF _) hk (fun _ e=>e.elim),h2.keep (pI wtC) hk (fun _ e=>e.elim)⟩
theorem Ob:BR rRd:=fun _ _ _ _ _ hP ⟨tv,wv,e,h1,h2⟩=>⟨tv,wv,e,h1.mono (pq _) hP i3,h2.mono (oU wtC) hP i3⟩
theorem ED:rF rRd 2:=⟨Zh,Ob,fun Pb w x cs ⟨tv,wv,e,h1,h2⟩ _ c hc=>by
 obtain ⟨_,_,rfl,_,_⟩:=h1.form;obtain ⟨_,_,rfl,_,_⟩:=h2.form;subst e;simp at hc;rcases hc with rfl|rfl<;>rfl⟩
structure RdR (Pb:Nat->Prop) (w:World) (rw:List Rws) (rs:List Rnd) (us ds:List Ed) (a b c d:Value):Prop where
 rows:oP (flat rwC) 92 3 Pb NoB w a rw
 rounds:oP rRd 122 2 Pb Pb w b rs
 used:RdS rEd 6 Pb w c us
 drop:RdS rEd 6 Pb w d ds
def QT (g:Giv) (lo:Nat) (r:Value) (w':World):Prop:= ∃a b c d bw bm N fl nv ov,r=.tuple #[.agg #[a,b,c,d],pT bw,vi 0]/\
 RdR (fun b=>lo<=b) w' (rowsOf (pY g) (wL (pY g) g.fails.contains g.tree.length).2 g.tree.length) (wL (pY g) g.fails.contains g.tree.length).1 (Kr g.tree fun k=>(wL (pY g) g.fails.contains g.tree.length).2 k == 1).1 (Kr g.tree fun k=>(wL (pY g) g.fails.contains g.tree.length).2 k == 1).2 a b c d/\
 WkM (fun b=>lo<=b) bw bm N (qJ (pY g) g.tree.length) fl nv ov w'/\N.length=g.tree.length/\bnF N=pY g/\(∀i,i<g.tree.length->stF N i=(wL (pY g) g.fails.contains g.tree.length).2 i)/\ ∀s,flF fl s=g.fails.contains s
theorem CV (N:Nat->Bn) (fl:Nm->Bool) (order:List Nat) (f:Nat) (S:St):doneGo N fl order (f+1) S=if (qi N fl order S).1.tried=[] then ((if (qi N fl order S).1.tried=[]/\(qi N fl order S).1.waits=[] then [] else [(qi N fl order S).1]),(qi N fl order S).2) else ((if (qi N fl order S).1.tried=[]/\(qi N fl order S).1.waits=[] then [] else [(qi N fl order S).1])++(doneGo N fl order f (qi N fl order S).2).1,(doneGo N fl order f (qi N fl order S).2).2):=by
 rw [doneGo]
end Go.Proofs.YtfbnfhhmiiahnaaGreatDoor
namespace Go.Proofs.YtfbnfhhmiiahnaaGreatDoor
open Go Wk
open Go.RowKit (Below)
abbrev imP (L:List (Nat×Int)):List (Value×Value):=L.map fun p=>(vi p.1,vi p.2)
def ImL (W:World) (b:Nat) (f:Nat->Option Int):Prop:= ∃L:List (Nat×Int),(L.map (·.1)).Nodup/\sK prog 3 W b (imP L)/\ ∀i v,f i=some v↔(i,v)∈L
theorem abn:Maps.Keyed prog 3:=Maps.int_keyed underlying3
theorem abo {i:Nat} (h:i<9223372036854775808):keyOf prog 3 (vi i)=some (.int .i64 i):=
 Maps.keyOf_int_mk underlying3 (by simp [Lit.wf,IntKind.min,IntKind.max,IntKind.signed,IntKind.bits];omega)
section
variable {W W':World} {b:Nat} {f:Nat->Option Int} {M:Nat->Prop}
theorem ImL.chg (h:ImL W b f) (c:Chg M W W') (hb: ¬M b):ImL W' b f:=by
 obtain ⟨L,h1,h2,h3⟩:=h;exact ⟨L,h1,h2.chg c hb,h3⟩
theorem kX (h:sK prog 3 W b []):ImL W b (fun _=>none):=⟨[],by simp,h,fun i v=>by simp⟩
def FU (f:Nat->Option Int) (k:Nat) (u:Int):Nat->Option Int:=fun i=>if i=k then some u else f i
theorem ac5 {L:List (Nat×Int)} {j k:Nat} {v u:Int} (hn:(L.map (·.1)).Nodup) (hj:L[j]? =some (k,v)):((L.set j (k,u)).map (·.1)).Nodup/\ ∀i x,(i,x)∈L.set j (k,u)↔(i=k/\x=u)∨(i≠k/\(i,x)∈L):=by
 have hjl:=(List.getElem?_eq_some_iff.1 hj).1;have e1:(L.set j (k,u)).map (·.1)=L.map (·.1):=by
  apply List.ext_getElem?;intro m;rw [apF,apF,apo];by_cases e:j=m
  ·subst e;rw [if_pos rfl,if_pos hjl,hj];rfl
  ·rw [if_neg e]
 have key: ∀(m:Nat) (p:Nat×Int),L[m]? =some p->p.1=k->m=j:=by intro m p hm e;have hml:=(List.getElem?_eq_some_iff.1 hm).1;refine ((ar9 (by simpa using hml) hn).1 ?_);rw [apF,apF,hm,hj];simp [e]
 refine ⟨by rw [e1];exact hn,fun i x=>?_⟩;rw [List.mem_iff_getElem?];constructor
 ·rintro ⟨m,hm⟩;rw [apo] at hm;by_cases e:j=m
  ·rw [if_pos e,if_pos (by omega)] at hm;cases hm;exact .inl ⟨rfl,rfl⟩
  ·rw [if_neg e] at hm;refine .inr ⟨fun e2=>e (key m _ hm e2).symm,apD hm⟩
 ·rintro (⟨rfl,rfl⟩|⟨h1,h2⟩)
  ·exact ⟨j,by rw [apo,if_pos rfl,if_pos hjl]⟩
  ·obtain ⟨m,hm⟩:=List.mem_iff_getElem?.1 h2;refine ⟨m,?_⟩;rw [apo,if_neg]
   ·exact hm
   ·intro e;subst e;rw [hj] at hm;cases hm;exact h1 rfl
end
section
variable {n:Nat} {ds:List Deferred} {Q:Po} {F:Fr} {w w':World} {ops rest:List Oper} {d:Nat} {ty:TypeId} {pos:String} {aft:Array Edge}
theorem jm {x i y:Operand} {t e:TypeId} {b k:Nat} {u:Int} {f:Nat->Option Int} [ht:Und prog t (.map 3 e)] (h:ImL w b f) (hk:k<9223372036854775808)
 (hx:ev n F x=.map (some b)) (hi:ev n F i=vi k) (hy:ev n F y=vi u) (c: ∀w',ImL w' b (FU f k u)->Chg (fun j=>j=b) w w'->w'.heap.size=w.heap.size->Wl prog n ds Q ops rest F w'):
 Wl prog n ds Q ops (⟨none,.mapUpdate t x i y,ty,pos,aft,none⟩::rest) F w:=by
 obtain ⟨L,h1,h2,h3⟩:=h;by_cases hin: ∃v,(k,v)∈L
 ·obtain ⟨v,hv⟩:=hin;have hvm:((vi k,vi v):Value×Value)∈imP L:=List.mem_map.2 ⟨_,hv,rfl⟩;refine kL abn h2 (abo hk) hvm hx hi hy fun w' j v' hj m c' s=>c w' ?_ c' s;rw [apF] at hj;obtain ⟨⟨k',v2⟩,hj1,hj2⟩:=Option.map_eq_some_iff.1 hj;simp only [Prod.mk.injEq,Value.int.injEq,true_and] at hj2;obtain rfl:k'=k:=by omega
  obtain ⟨q1,q2⟩:=ac5 (u:=u) h1 hj1;refine ⟨L.set j (k',u),q1,?_,fun i x=>?_⟩
  ·rw [imP,List.map_set];exact m
  ·rw [q2];unfold FU;by_cases e:i=k'
   ·rw [if_pos e];simp [e];exact eq_comm
   ·rw [if_neg e,h3];simp [e]
 ·have hno: ∀p∈imP L,p.1≠vi k:=by
   intro p hp e;obtain ⟨⟨k',v⟩,hm,rfl⟩:=List.mem_map.1 hp;simp only [Value.int.injEq,true_and] at e;obtain rfl:k'=k:=by omega
   exact hin ⟨v,hm⟩
  refine iq abn h2 (abo hk) hno hx hi hy fun w' m c' s=>c w' ⟨L++ [(k,u)],?_,?_,fun i x=>?_⟩ c' s
  ·rw [aqn,ar4];refine ⟨h1,by simp,fun a ha b hb e=>?_⟩;simp at hb;obtain ⟨p,hp,rfl⟩:=List.mem_map.1 ha;refine hin ⟨p.2,?_⟩;rw [<-hb, <-e];exact hp
  ·rw [imP,aqn];exact m
  ·unfold FU;by_cases e:i=k
   ·rw [if_pos e,ars];subst e;constructor
    ·intro q;cases q;simp
    ·rintro (q|q)
     ·exact absurd ⟨x,q⟩ hin
     ·simp at q;rw [q]
   ·rw [if_neg e,h3,ars];simp [e]
theorem Wk.Wl.ake {x i:Operand} {t e:TypeId} {b k:Nat} {bytes:Nat} {f:Nat->Option Int} [ht:Und prog t (.map 3 e)] [he:ElT prog e 1 bytes false (vi 0)] (h:ImL w b f) (hk:k<9223372036854775808)
 (hx:ev n F x=.map (some b)) (hi:ev n F i=vi k) (c:Wl prog n ds Q ops rest (upd F d (.tuple #[vi ((f k).getD 0),.bool (f k).isSome])) w):
 Wl prog n ds Q ops (⟨some d,.lookup t x i true,ty,pos,aft,none⟩::rest) F w:=by
 obtain ⟨L,h1,h2,h3⟩:=h;refine kK abn h2 (abo hk) hx hi (fun r hr=>?_) (fun hr=>?_)
 ·obtain ⟨⟨k',v⟩,hm,e⟩:=List.mem_map.1 hr;simp only [Prod.mk.injEq,Value.int.injEq,true_and] at e;obtain ⟨e1,rfl⟩:=e;obtain rfl:k'=k:=by omega
  rw [(h3 _ _).2 hm] at c;exact c
 ·have:f k=none:=by
   cases hf:f k with
   |none=>rfl
   |some v=>exact absurd rfl (hr _ (List.mem_map.2 ⟨_,(h3 _ _).1 hf,rfl⟩))
  rw [this] at c;exact c
end
end Go.Proofs.YtfbnfhhmiiahnaaGreatDoor
namespace Go.Proofs.YtfbnfhhmiiahnaaGreatDoor
open Go Wk
open Go.RowKit (Below)
attribute [local irreducible] Go.Calls
theorem TW {g:Giv} (hok:pM g.tree=true) {i:Nat} (hi:i<g.tree.length):wC g i=if g.gone.contains (pX g.tree i)=true then some i else if i=0 then none else wC g (par g.tree i):=by
 unfold wC;by_cases h0:i=0
 ·subst h0;rw [Dl,aoQ,asa,if_pos rfl];cases g.gone.contains (pX g.tree 0)<;>rfl
 ·rw [Dn hok h0 hi,List.cons_append,asa,if_neg h0];cases g.gone.contains (pX g.tree i)<;>rfl
section
variable {Pb:Nat->Prop} {bw bm:Nat} {N:List Nb} {ord:List Nat} {fl:List (Nm×Int)} {nv ov:Value} {W W':World}
theorem QU {b2 i:Nat} (g:WkM Pb bw bm N ord fl nv ov W) (h2:Bk W b2 80 [pT bw]) (hi:i<N.length):
 Calls prog 91 #[vi i,pT b2] W (Ret fun r w'=>r=.tuple #[.bool ((bnF N i).device&&(bnF N i).card.isNone),vi (-1)]/\w'=W):=by
 have hnl:=g.nl;obtain ⟨na,nc,rfl,_,_⟩:=g.nd.row.form;have hrd:=g.nd.row.rd (oU nbC);obtain ⟨x,hx⟩:=pz N hi;rw [uF hx];refine oI func91 rfl ntmps91 rfl ?_;refine qq1 ?_;refine ah (u:=pT bw) rfl (h2.cell (o:=0) rfl) ?_;refine qq5 ?_;refine ah (u:=.slice na N.length nc) rfl (g.b.cell (o:=0) rfl) ?_;(repeat' (refine aa1 ?_));refine aO hrd rfl rfl (by omega) hx fun b o cs hl hR hat=>?_;obtain rfl:cs=nbC x:=hR;(repeat' (refine aa5 ?_));refine ah (u:=.bool x.bn.device) rfl (hat.get 1 rfl) ?_;cases hd:x.bn.device with
 |false=>refine qq4 ?_;exact aG rfl rfl rfl ⟨_,rfl,rfl,rfl⟩
 |true=>
  refine qq5 ?_;refine ah (u:=pT bw) rfl (h2.cell (o:=0) rfl) ?_;refine qq5 ?_;refine ah (u:=.slice na N.length nc) rfl (g.b.cell (o:=0) rfl) ?_;refine qq5 ?_;refine aO hrd rfl rfl (by omega) hx fun b o cs hl hR hat=>?_;obtain rfl:cs=nbC x:=hR;refine qq5 ?_;refine ah (u:=vi (qC x.bn.card)) rfl (hat.get 4 rfl) ?_;clear hat;cases hc:x.bn.card with
  |none=>rw [show qC none= -1 from rfl];(repeat' (first|refine qq6 ?_|(refine aa2 (fun _=>?_) (fun _=>?_)<;>(first|(exfalso;omega)|skip))));exact aG rfl rfl rfl ⟨_,rfl,rfl,rfl⟩
  |some k=>rw [show qC (some k)=(k:Int) from rfl];(repeat' (first|refine qq6 ?_|(refine aa2 (fun _=>?_) (fun _=>?_)<;>(first|(exfalso;omega)|skip))));exact aG rfl rfl rfl ⟨_,rfl,rfl,rfl⟩
theorem Oc {b2 b4 bq i m r:Nat} {mc:List Value} {f:Nat->Option Int} (g:WkM Pb bw bm N ord fl nv ov W) (h2:Bk W b2 80 [pT bw]) (h4:Bk W b4 193 mc) (hq:Bk W bq 5 [.int .u8 r]) (hr:r<7) (hm:mc[r]? =some (.map (some m))) (hf:ImL W m f) (hi:i<N.length):
 Calls prog 90 #[vi i,pT b4,pT bq,pT b2] W (Ret fun v w'=>v=.tuple #[.bool ((f i).isSome&&(bnF N i).device),vi ((f i).getD 0)]/\w'=W):=by
 have hnl:=g.nl;obtain ⟨na,nc,rfl,_,_⟩:=g.nd.row.form;have hrd:=g.nd.row.rd (oU nbC);obtain ⟨x,hx⟩:=pz N hi;rw [uF hx];refine oI func90 rfl ntmps90 rfl ?_;refine qq1 ?_;refine ah (u:=.int .u8 r) rfl (hq.cell (o:=0) rfl) ?_;refine iM rfl rfl (by omega) (by omega) ?_;refine ah (u:=.map (some m)) rfl (h4.cell (o:=r) hm) ?_;(repeat' (refine aa1 ?_));refine Wl.ake hf (by omega) rfl rfl ?_;refine qq5 ?_;cases hs:f i with
 |none=>rw [show (none:Option Int).isSome=false from rfl];refine qq4 ?_;exact aG rfl rfl rfl ⟨_,rfl,rfl,rfl⟩
 |some u=>rw [show (some u).isSome=true from rfl];(repeat' (refine aQ rfl rfl ?_));refine ah (u:=pT bw) rfl (h2.cell (o:=0) rfl) ?_;refine qq5 ?_;refine ah (u:=.slice na N.length nc) rfl (g.b.cell (o:=0) rfl) ?_;refine qq5 ?_;refine aO hrd rfl rfl (by omega) hx fun b o cs hl hR hat=>?_;obtain rfl:cs=nbC x:=hR;refine qq5 ?_;refine ah (u:=.bool x.bn.device) rfl (hat.get 1 rfl) ?_;refine qq6 ?_;exact aG rfl rfl rfl ⟨_,rfl,rfl,rfl⟩
theorem CW {b2 b4 r:Nat}:Calls prog 89 #[.int .u8 r,pT b4,pT b2] W (Ret fun v w'=> ∃bq,v=.agg #[.int .u8 r,.func (.func 90) #[] #[pT b4,pT bq,pT b2]]/\W.heap.size<=bq/\Bk w' bq 5 [.int .u8 r]/\New W w'):=by
 refine oI func89 rfl ntmps89 rfl ?_;refine qq0 ?_;refine Wl.box rfl fun w1 b1 n1 s1=>?_;replace b1:Bk w1 W.heap.size 5 [.int .u8 r]:=b1;refine Wl.alloc fun w2 h2 n2 s2=>?_;replace h2:Bk w2 w1.heap.size 208 [.int .u8 0,.nilFunc]:=h2;refine qq2 ?_;refine ah (u:=.int .u8 r) rfl ((b1.chg n2 id).cell (o:=0) rfl) ?_;refine dw (f1:=[]) (c1:=[pT b4,pT W.heap.size,pT b2]) rfl rfl ?_;refine bJ (ps:=[(0,.tmp 5),(1,.tmp 6)]) (parts:=[(0,.int .u8 r),(1,.func (.func 90) #[] #[pT b4,pT W.heap.size,pT b2])]) rfl rfl (by simp [Value.cells]) ?_;refine aK (new:=[.int .u8 r,.func (.func 90) #[] #[pT b4,pT W.heap.size,pT b2]]) h2 rfl rfl rfl rfl zl2 (by intro c hc;simp at hc;rcases hc with rfl|rfl<;>rfl) fun w3 b3 c3 s3=>?_;refine qq1 ?_;have hz:=n1.size;have hb1:=b1.lt;refine eY (yG rfl (rY rfl rfl b3 rfl)) ⟨_,rfl,W.heap.size,rfl,aat _,(b1.chg n2 id).chg c3 fun e=>by omega,(Chg.trans (M:=fun k=>k=w1.heap.size) (New.trans n1 n2).any c3 fun k _ e=>e).tN⟩
theorem QV {b1 b2 b3 gm i:Nat} {L:List (Nm×Int)} {G:Giv} {tv cv fv gv:Value} {Pt:Nat->Prop} (g:WkM Pb bw bm N ord fl nv ov W) (h1:Bk W b1 126 [.map (some gm)]) (h2:Bk W b2 80 [pT bw]) (h3:Bk W b3 28 [tv,cv,fv,gv]) (ht:RdS rNd 3 Pt W tv G.tree) (mp:sK prog 9 W gm (Le L)) (cn:Cnt G.gone L)
 (hok:pM G.tree=true) (hN:N.length=G.tree.length) (hp: ∀k,k<N.length->(bnF N k).path=pX G.tree k) (hi:i<N.length):
 Calls prog 92 #[vi i,pT b1,pT b2,pT b3] W (Ret fun v w'=>v=.tuple #[.bool (wC G i).isSome,vi (qC (wC G i))]/\New W w'):=by
 have hnl:=g.nl;obtain ⟨na,nc,rfl,_,_⟩:=g.nd.row.form;have hrd:=g.nd.row.rd (oU nbC);obtain ⟨ta,tc,rfl,_,_⟩:=ht.form;refine oI func92 rfl ntmps92 rfl ?_;refine qq2 ?_;refine aC (σ:=Option Nat) (fun q=>[(0,vi (qC q)),(1,pT b1),(2,pT b2),(3,pT b3)]) (fun q w'=>(∀k,q=some k->k<N.length/\wC G i=wC G k)/\(q=none->wC G i=none)/\New W w') (fun q=>(qC q+1).toNat) (some i) (sl rfl) ⟨fun k e=>by cases e;exact ⟨hi,rfl⟩,fun e=>(by cases e),aB _ _⟩ ?_;rintro q F w1 ⟨hs,hno,n1⟩;simp only [ql];cases q with
 |none=>rw [hno rfl,show qC none= -1 from rfl];refine qq0 ?_;refine fG rfl (by kernel_rfl) ?_;(repeat' (first|refine qq7 ?_|(refine iY rfl rfl (fun _=>?_) (fun _=>?_)<;>(first|(exfalso;omega)|skip))));intro w2 n2;(repeat' (first|refine qq1 ?_|(refine aV rfl rfl (fun _=>?_) (fun _=>?_)<;>(first|(exfalso;omega)|skip))));exact aG rfl rfl rfl ⟨_,rfl,rfl,New.trans n1 n2⟩
 |some k=>
  obtain ⟨hk,he⟩:=hs k rfl;rw [he,TW hok (by omega)];rw [show qC (some k)=(k:Int) from rfl];obtain ⟨x,hx⟩:=pz N hk;have hxp:x.bn.path=pX G.tree k:=by rw [<-uF hx];exact hp k hk
  have hpl:=g.fn.2 x (apD hx);obtain ⟨qk,hqk⟩:=N9 (s:=x.bn.path) (by omega);obtain ⟨y,hy⟩:=pz G.tree (k:=k) (by omega);have hyk:=rQ hok hy;have hya:ndA G.tree k=y:=by unfold ndA;rw [apJ,hy];rfl
  refine qq0 ?_;refine fG rfl (by kernel_rfl) ?_;(repeat' (first|refine aa3 ?_|refine bY rfl rfl ?_|(refine iY rfl rfl (fun _=>?_) (fun _=>?_)<;>(first|(exfalso;omega)|skip))));refine ax (u:=.map (some gm)) rfl (fun w' hw=>(h1.chg (New.trans n1 hw) id).cell (o:=0) rfl) ?_;(repeat' (refine bY rfl rfl ?_));refine ax (u:=pT bw) rfl (fun w' hw=>(h2.chg (New.trans n1 hw) id).cell (o:=0) rfl) ?_;refine qq7 ?_;refine ax (u:=.slice na N.length nc) rfl (fun w' hw=>(g.b.chg (New.trans n1 hw) id).cell (o:=0) rfl) ?_;(repeat' (first|refine aa3 ?_|refine bY rfl rfl ?_));refine aY hrd (fun w' hw=>(New.trans n1 hw).keep) rfl rfl (by omega) hx fun b o cs hl hR hat=>?_;obtain rfl:cs=nbC x:=hR;refine qq7 ?_;refine ax (u:=vs x.bn.path) rfl (fun w' hw=>(hat w' hw).get 0 rfl) ?_;clear hat;(repeat' (refine bY rfl rfl ?_));refine kW (l:=Le L) (Maps.string_keyed underlying9) (fun w' hw=>mp.chg (New.trans n1 hw) id) (fun r r' m1 m2=>?_) hqk rfl rfl (fun r hr=>?_) (fun hr=>?_)
  ·obtain ⟨⟨s1,c1⟩,q1,e1⟩:=List.mem_map.1 m1;obtain ⟨⟨s2,c2⟩,q2,e2⟩:=List.mem_map.1 m2;simp only [Prod.mk.injEq] at e1 e2;obtain rfl:=yA e1.1;obtain rfl:=yA e2.1;rw [<-e1.2, <-e2.2,I8 cn.nd q1 q2]
  ·obtain ⟨⟨s1,c1⟩,q1,e1⟩:=List.mem_map.1 hr;simp only [Prod.mk.injEq] at e1;obtain ⟨e1,rfl⟩:=e1;obtain rfl:=yA e1;have hc:=cn.mem _ q1;dsimp only at hc;(repeat' (first|refine qq7 ?_|(refine gY rfl rfl (fun _=>?_) (fun _=>?_)<;>(first|(exfalso;omega)|skip))));intro w2 n2;rw [if_pos (List.contains_iff_mem.2 (hxp▸hc.2.2))];(repeat' (first|refine qq1 ?_|(refine aV rfl rfl (fun _=>?_) (fun _=>?_)<;>(first|(exfalso;omega)|skip))));exact aG rfl rfl rfl ⟨_,rfl,rfl,New.trans n1 n2⟩
  ·have hcn: ¬G.gone.contains (pX G.tree k)=true:=fun e=>by obtain ⟨c,hc⟩:=cn.all _ (List.contains_iff_mem.1 e);exact hr _ (List.mem_map.2 ⟨_,hc,rfl⟩) (by rw [hxp])
   (repeat' (first|refine qq7 ?_|(refine gY rfl rfl (fun _=>?_) (fun _=>?_)<;>(first|(exfalso;omega)|skip))));intro w2 n2;rw [if_neg hcn];have n12:=New.trans n1 n2;refine qq2 ?_;refine ah (u:=.slice ta G.tree.length tc) rfl ((h3.chg n12 id).cell (o:=0) rfl) ?_;(repeat' (refine aa1 ?_));refine aO (ht.keep pU n12.keep) rfl rfl (by omega) hy fun b o cs hl hR hat=>?_;obtain ⟨pvn,rfl,hpv⟩:=hR;(repeat' (refine aa5 ?_));refine ah (u:=vi y.parent) rfl (hat.get 0 rfl) ?_;clear hat;refine qq0 ?_;by_cases h0:k=0
   ·subst h0;rw [(hyk.root rfl).1];refine aA none (sl rfl) ⟨fun k e=>(by cases e),fun _=>?_,n12⟩ (by simp [qC]);exact if_pos rfl
   ·have hpar:=vM hok h0 (by omega);rw [hya] at hpar;rw [hpar.2];rw [if_neg h0];exact aA (some (par G.tree k)) (sl rfl) ⟨fun j e=>by cases e;exact ⟨by omega,rfl⟩,fun e=>(by cases e),n12⟩ (by simp only [qC];omega)
end
end Go.Proofs.YtfbnfhhmiiahnaaGreatDoor
namespace Go.Proofs.YtfbnfhhmiiahnaaGreatDoor
open Go Wk
def qM (g:Giv):Int:=if pM g.tree=false then 40 else if vG g.cards=false then 70 else if 512<g.fails.length∨512<g.gone.length then 1 else 0
theorem zq {g:Giv}:qM g=0↔pM g.tree=true/\vG g.cards=true/\g.fails.length<=512/\g.gone.length<=512:=by
 unfold qM;cases pM g.tree<;>cases vG g.cards<;>simp
theorem Ak {g:Giv} {i:Nat} (h:i<g.tree.length):pY g i=Aj g i:=if_pos h
theorem Zi {g:Giv} {i:Nat} (h: ¬i<g.tree.length):pY g i=default:=if_neg h
theorem zu (g:Giv) (i:Nat):(Aj g i).wants=(if 0<i then [par g.tree i] else [])++CU g.tree i:=rfl
theorem G6 {t:List Nd} {i k:Nat}:k∈CU t i↔ ∃e∈pK t,e.src=i/\e.soft=false/\su t i=true/\e.dst=some k:=by
 unfold CU;rw [List.mem_filterMap];constructor
 ·rintro ⟨e,he,h⟩;split at h
  ·rename_i hc;exact ⟨e,he,hc.1,hc.2.1,hc.2.2,h⟩
  ·cases h
 ·rintro ⟨e,he,h1,h2,h3,h4⟩;exact ⟨e,he,by rw [if_pos ⟨h1,h2,h3⟩];exact h4⟩
theorem Xi {g:Giv} (hok:pM g.tree=true):InN (Aj g) g.tree.length:=by
 intro i hi k hk;rw [zu] at hk;rcases List.mem_append.1 hk with hk|hk
 ·split at hk
  ·rename_i h0
   rw [List.mem_singleton.1 hk];have:=(vM hok (by omega) hi).1;omega
  ·cases hk
 ·obtain ⟨e,he,_,_,_,h4⟩:=G6.1 hk;exact (uU e he).2 k h4
theorem MJ {g:Giv} (hok:pM g.tree=true):InN (pY g) g.tree.length:=by
 intro i hi k hk;rw [Ak hi] at hk;exact Xi hok i hi k hk
theorem MK {g:Giv} (hok:pM g.tree=true) (fl:Nm->Bool) {i:Nat} (hi:i<g.tree.length):
 (rowOf (pY g) (wL (pY g) fl g.tree.length).2 i).1=0↔Bnd (pY g) fl i:=by
 obtain ⟨v,f⟩:=MI (pY g) fl g.tree.length;rw [QO];constructor
 ·exact fun h=>v.b i h.2
 ·exact fun h=>⟨h.inv.1,f.bnd v (MJ hok) h hi⟩
end Go.Proofs.YtfbnfhhmiiahnaaGreatDoor
namespace Go.Proofs.YtfbnfhhmiiahnaaGreatDoor
open Go Wk
open Go.RowKit (Below)
attribute [local irreducible] Go.Calls
def yL (G:Giv) (es:List Ed) (i:Nat):Bn:=
 {path:=pX G.tree i,device:=su G.tree i,level:=match (if su G.tree i=true then sD G.cards G.tree i else none) with|some k=>(G.cards.getD k default).level|none=>0,
  reason:=if onM G.tree i=false then 1 else 0,card:=if su G.tree i=true then sD G.cards G.tree i else none,why:= -1,
  wants:=(if 0<i then [par G.tree i] else [])++es.filterMap fun e=>if e.src=i/\e.soft=false/\su G.tree i=true then e.dst else none}
def yM (G:Giv) (es:List Ed) (i:Nat):Bn:=if i<G.tree.length then yL G es i else default
abbrev cnts (t:List Nd) (e:Ed):Bool:= !e.soft&&su t e.src
def wM (t:List Nd) (es:List Ed) (i:Nat):Option Int:=if es.any (fun e=>decide (e.src=i)&&(cnts t e&&e.dst.isNone))=true then some (-1) else none
theorem TY (t:List Nd) (es:List Ed) (e:Ed):wM t (es++ [e])=if (cnts t e&&e.dst.isNone)=true then FU (wM t es) e.src (-1) else wM t es:=by
 funext i;unfold wM;rw [List.any_append,List.any_cons,List.any_nil,ar5];cases hc:(cnts t e&&e.dst.isNone) with
 |false=>rw [if_neg (by decide: ¬false=true),Bool.and_false,ar5]
 |true=>
  rw [if_pos rfl,asb];unfold FU;by_cases hi:i=e.src
  ·rw [if_pos hi,if_pos];simp [hi]
  ·rw [if_neg hi];have:decide (e.src=i)=false:=decide_eq_false fun h=>hi h.symm;rw [this,ar5]
theorem Ua (G:Giv) (es:List Ed) (e:Ed) (i:Nat):yL G (es++ [e]) i=if i=e.src/\cnts G.tree e=true then (match e.dst with|some d=>{yL G es i with wants:=(yL G es i).wants++ [d]}|none=>yL G es i) else yL G es i:=by
 unfold yL;rw [asc];by_cases hi:i=e.src/\cnts G.tree e=true
 ·rw [if_pos hi];obtain ⟨rfl,hc⟩:=hi;simp only [cnts,ao0,Bool.not_eq_true'] at hc;cases hd:e.dst with
  |none=>simp [hc.1,hc.2,hd]
  |some d=>simp [hc.1,hc.2,hd]
 ·rw [if_neg hi];have: ¬(e.src=i/\e.soft=false/\su G.tree i=true):=fun h=>hi ⟨h.1.symm,by rw [<-h.1] at h;simp [cnts,h.2.1,h.2.2]⟩;rw [ar6,if_neg this];simp
theorem Ub (G:Giv) (es:List Ed) (e:Ed):yM G (es++ [e])=if cnts G.tree e=true/\e.src<G.tree.length then (match e.dst with|some d=>fun i=>if i=e.src then {yM G es i with wants:=(yM G es i).wants++ [d]} else yM G es i|none=>yM G es) else yM G es:=by
 funext i;unfold yM;rw [Ua];by_cases hc:cnts G.tree e=true/\e.src<G.tree.length
 ·rw [if_pos hc];cases e.dst with
  |none=>by_cases hl:i<G.tree.length<;>simp [hl]
  |some d=>
   dsimp only;by_cases hi:i=e.src
   ·subst hi;simp [hc.1,hc.2]
   ·simp [hi]
 ·rw [if_neg hc];by_cases hl:i<G.tree.length
  ·rw [if_pos hl,if_pos hl,if_neg];rintro ⟨rfl,h⟩;exact hc ⟨h,hl⟩
  ·rw [if_neg hl,if_neg hl]
def zy (rs:List (List Nat)) (i:Nat):Option Int:=(Kv rs i).map fun k=>(k:Int)
theorem Uc (rs:List (List Nat)) (l:List Nat) (i:Nat):zy (rs++ [l]) i=if i∈l then some ((l.headD 0:Nat):Int) else zy rs i:=by
 unfold zy Kv;rw [ase,aqk,asf];split<;>rfl
theorem Xj (rs:List Rfs) (r:Rfs):Ku (rs++ [r])=FU (Ku rs) r.node r.by_:=by
 funext i;unfold Ku FU;rw [ase,aqk,asf];by_cases h:i=r.node
 ·rw [if_pos h,if_pos h.symm]
 ·rw [if_neg h,if_neg fun e=>h e.symm]
noncomputable def BL (G:Giv) (i:Nat):Nat->Option Int
 |0=>if su G.tree i=true/\sD G.cards G.tree i=none then some (-1) else none
 |1=>if su G.tree i=true then Ku (rX G.cards G.tree).2 i else none
 |2=>if su G.tree i=true then wM G.tree (pK G.tree) i else none
 |3=>if su G.tree i=true then zy (uD G.tree) i else none
 |_=>(wC G i).map fun k=>(k:Int)
def CX (p:Nat×Int) (r:Nat) (o:Option Int):Nat×Int:=if p.1=0 then (match o with|some y=>(r,y)|none=>p) else p
noncomputable def EF (G:Giv) (i:Nat):Nat->Nat×Int
 |0=>(if onM G.tree i=false then 1 else 0, -1)
 |m+1=>CX (EF G i m) (m+2) (BL G i m)
theorem Xk {t:List Nd} {i:Nat} (hd:su t i=true):wM t (pK t) i=if (∃e∈pK t,e.src=i/\e.soft=false/\e.dst=none) then some (-1) else none:=by
 unfold wM;by_cases h: ∃e∈pK t,e.src=i/\e.soft=false/\e.dst=none
 ·rw [if_pos h,if_pos];obtain ⟨e,he,h1,h2,h3⟩:=h;refine List.any_eq_true.2 ⟨e,he,?_⟩;simp [cnts,h1,h2,h3,hd]
 ·rw [if_neg h,if_neg];intro e;obtain ⟨x,hx,h1⟩:=List.any_eq_true.1 e;simp [cnts] at h1;exact h ⟨x,hx,h1.1,h1.2.1.1,h1.2.2⟩
theorem Ud (G:Giv) (i:Nat):EF G i 5=firstM G i:=by
 have hd0:onM G.tree i=false->su G.tree i=false:=fun h=>by unfold su;rw [h];simp
 simp only [EF];unfold firstM;dsimp only;by_cases h1:onM G.tree i=false
 ·rw [if_pos h1,if_pos h1];rfl
 rw [if_neg h1,if_neg h1];by_cases h2:su G.tree i=true/\sD G.cards G.tree i=none
 ·rw [if_pos h2];simp only [BL,if_pos h2];rfl
 rw [if_neg h2];simp only [BL,if_neg h2];cases hd:su G.tree i with
 |false=>simp only [apq,if_false,false_and];cases wC G i<;>rfl
 |true=>
  simp only [if_true,true_and,Xk hd];cases Ku (rX G.cards G.tree).2 i with
  |some b=>rfl
  |none=>
   by_cases h3: ∃e∈pK G.tree,e.src=i/\e.soft=false/\e.dst=none
   ·simp only [if_pos h3];rfl
   ·simp only [if_neg h3];unfold zy;cases Kv (uD G.tree) i with
    |some k=>rfl
    |none=>cases wC G i<;>rfl
noncomputable def Am (G:Giv) (m i:Nat):Bn:={yL G (pK G.tree) i with reason:=(EF G i m).1,why:=(EF G i m).2}
theorem Xl (G:Giv) (i:Nat):Am G 5 i=Aj G i:=by
 unfold Am yL Aj CU;rw [Ud];rfl
theorem Ue (G:Giv) (i:Nat):Am G 0 i=yL G (pK G.tree) i:=rfl
theorem Oe {N:List Nb} {i:Nat} {y:Nb} (hi:i<N.length):bnF (N.set i y)=fun k=>if k=i then y.bn else bnF N k:=by
 funext k;unfold bnF;rw [apJ,apJ,apo];by_cases e:i=k
 ·subst e;rw [if_pos rfl,if_pos hi,if_pos rfl];rfl
 ·rw [if_neg e,if_neg fun h=>e h.symm]
theorem Og {N:List Nb} {i:Nat} {y:Nb} (h: ∀k,stF N k=0) (hy:y.st=0): ∀k,stF (N.set i y) k=0:=by
 intro k;have:=h k;unfold stF at this ⊢;rw [apJ] at this ⊢;rw [apo];split
 ·split
  ·exact hy
  ·rfl
 ·exact this
section
variable {Pb:Nat->Prop} {bw bm:Nat} {N:List Nb} {fl:List (Nm×Int)} {nv:Value} {W W':World}
theorem WkM.want (g:WkM Pb bw bm N [] fl nv (.slice none 0 0) W) {i d:Nat} {x:Nb} {w1:World} {v':SV} (hx:N[i]? =some x) (hd:d<N.length) (ho:oP (Wk.one viN) 3 1 Pb NoB w1 (svV v') (x.bn.wants++ [d])) (c1:Chg (fun k=>(svV x.wv).ownBlock=some k) W w1) (lie:(svV v').ownBlock=(svV x.wv).ownBlock∨ ∀k,(svV v').ownBlock=some k->W.heap.size<=k)
 (hr:oP (flat nbC) 130 9 Pb NoB W' nv (N.set i {x with wv:=v',bn:={x.bn with wants:=x.bn.wants++ [d]}})) (c2:Chg (fun k=>nv.ownBlock=some k) w1 W'):WkM Pb bw bm (N.set i {x with wv:=v',bn:={x.bn with wants:=x.bn.wants++ [d]}}) [] fl nv (.slice none 0 0) W':=by
 have hxm:=apD hx;have hel:=g.nd.el x hxm;have b1:=g.b.chg c1 fun e=>hel.pR g.b rfl e rfl;have m1:=g.mp.chg c1 fun e=>hel.rZ g.mp e rfl;have hrow:=g.nd.row.chg (oH nbC) c1 fun k hk e=>g.nd.wG x hxm k e hk;refine ⟨b1.chg c2 fun e=>hrow.pR b1 rfl e rfl,g.nd.set hx ho c1 lie hr c2,aN,m1.chg c2 fun e=>hrow.rZ m1 e rfl,fun y hy k e1 e2=>(by cases e2),fun y hy k hk=>?_,by rw [aqY];exact g.nl,⟨g.fn.1,fun y hy=>?_⟩,g.lo2⟩
 ·rw [aqY];rcases arM hy with hy|rfl
  ·exact g.win y hy k hk
  ·rcases List.mem_append.1 hk with hk|hk
   ·exact g.win x hxm k hk
   ·rw [List.mem_singleton.1 hk];exact hd
 ·rcases arM hy with hy|rfl
  ·exact g.fn.2 y hy
  ·exact g.fn.2 x hxm
theorem WkM.afe (g:WkM Pb bw bm N [] fl nv (.slice none 0 0) W) {i:Nat} {x y:Nb} (hx:N[i]? =some x) (hw:y.wv=x.wv) (hn:y.bn.wants=x.bn.wants) (hp:y.bn.path=x.bn.path) (hr:oP (flat nbC) 130 9 Pb NoB W' nv (N.set i y)) (c:Chg (fun k=>nv.ownBlock=some k) W W'):WkM Pb bw bm (N.set i y) [] fl nv (.slice none 0 0) W':=by
 have hxm:=apD hx;refine ⟨g.b.chg c fun e=>g.nd.row.pR g.b rfl e rfl,g.nd.put hx (by rw [hw]) hn hr c,aN,g.mp.chg c fun e=>g.nd.row.rZ g.mp e rfl,fun z hz k e1 e2=>(by cases e2),fun z hz k hk=>?_,by rw [aqY];exact g.nl,⟨g.fn.1,fun z hz=>?_⟩,g.lo2⟩
 ·rw [aqY];rcases arM hz with hz|rfl
  ·exact g.win z hz k hk
  ·rw [hn] at hk;exact g.win x hxm k hk
 ·rcases arM hz with hz|rfl
  ·exact g.fn.2 z hz
  ·rw [hp];exact g.fn.2 x hxm
end
structure JdE (bw b2 b3 b4:Nat) (mb:List Nat) (ff:Nat->Nat->Option Int) (tv cv fv gv:Value) (W:World):Prop where
 h2:Bk W b2 80 [pT bw]
 h3:Bk W b3 28 [tv,cv,fv,gv]
 h4:Bk W b4 193 (mb.map fun b=>.map (some b))
 im: ∀(r b:Nat),mb[r]? =some b->ImL W b (ff r)
 ml:mb.length=7
 nd:mb.Nodup
section
variable {bw b2 b3 b4:Nat} {mb:List Nat} {ff:Nat->Nat->Option Int} {tv cv fv gv:Value} {W W':World} {M:Nat->Prop}
theorem JdE.chg (e:JdE bw b2 b3 b4 mb ff tv cv fv gv W) (c:Chg M W W') (n2: ¬M b2) (n3: ¬M b3) (n4: ¬M b4) (nm: ∀b∈mb, ¬M b):JdE bw b2 b3 b4 mb ff tv cv fv gv W':=
 ⟨e.h2.chg c n2,e.h3.chg c n3,e.h4.chg c n4,fun r b h=>(e.im r b h).chg c (nm b (apD h)),e.ml,e.nd⟩
theorem JdE.new (e:JdE bw b2 b3 b4 mb ff tv cv fv gv W) (c:New W W'):JdE bw b2 b3 b4 mb ff tv cv fv gv W':=e.chg c id id id i3
theorem ImL.ml {b:Nat} {f:Nat->Option Int} (h:ImL W b f): ∃l,sK prog 3 W b l:=by obtain ⟨L,_,h,_⟩:=h;exact ⟨_,h⟩
theorem JdE.own (e:JdE bw b2 b3 b4 mb ff tv cv fv gv W) {α:Type} {R:Rel α} {ty:TypeId} {sz:Nat} {Pb Pe:Nat->Prop} {v:Value} {xs:List α} (o:oP R ty sz Pb Pe W v xs) (c:Chg (fun k=>v.ownBlock=some k) W W') (n2:aoX ty 80=false) (n3:aoX ty 28=false) (n4:aoX ty 193=false):JdE bw b2 b3 b4 mb ff tv cv fv gv W':=
 e.chg c (fun h=>o.pR e.h2 n2 h rfl) (fun h=>o.pR e.h3 n3 h rfl) (fun h=>o.pR e.h4 n4 h rfl) fun b hb h=>by obtain ⟨r,hr⟩:=List.mem_iff_getElem?.1 hb;obtain ⟨l,hl⟩:=(e.im r b hr).ml;exact o.rZ hl h rfl
theorem JdE.put (e:JdE bw b2 b3 b4 mb ff tv cv fv gv W) {r b:Nat} {f:Nat->Option Int} (hr:mb[r]? =some b) (h:ImL W' b f) (c:Chg (fun k=>k=b) W W'):JdE bw b2 b3 b4 mb (fun s=>if s=r then f else ff s) tv cv fv gv W':=by
 obtain ⟨l,hl⟩:=(e.im r b hr).ml;refine ⟨e.h2.chg c fun q=>e.h2.rZ hl q,e.h3.chg c fun q=>e.h3.rZ hl q,e.h4.chg c fun q=>e.h4.rZ hl q,fun s d hs=>?_,e.ml,e.nd⟩;by_cases hsr:s=r
 ·subst hsr;rw [if_pos rfl];rw [hr] at hs;cases hs;exact h
 ·rw [if_neg hsr];refine (e.im s d hs).chg c fun q=>?_;subst q;refine hsr ?_;exact (ar9 (by have:=(List.getElem?_eq_some_iff.1 hs).1;exact this) e.nd).1 (hs.trans hr.symm)
end
abbrev Jd:=Nat×FuncId×List Value
abbrev jdC (e:Jd):List Value:=[.int .u8 e.1,.func (.func e.2.1) #[] e.2.2.toArray]
theorem Zj:rF (flat jdC) 2:=rC _ (fun _=>rfl) fun e c hc=>by
 simp at hc;rcases hc with rfl|rfl<;>rfl
def jdL (b2 b3 b4 q1 q2 q3 q6:Nat):List Jd:=[(2,91,[pT b2]),(3,90,[pT b4,pT q1,pT b2]),(4,90,[pT b4,pT q2,pT b2]),(5,90,[pT b4,pT q3,pT b2]),(6,92,[pT q6,pT b2,pT b3])]
structure JdF (G:Giv) (lo bw b2 b3 b4 q1 q2 q3 q6 gm:Nat) (mb:List Nat) (Lg:List (Nm×Int)) (tv cv fv gv:Value) (W:World):Prop where
 e:JdE bw b2 b3 b4 mb (fun s=>if s=3 then Ku (rX G.cards G.tree).2 else if s=4 then wM G.tree (pK G.tree) else if s=5 then zy (uD G.tree) else fun _=>none) tv cv fv gv W
 h1:Bk W q1 5 [.int .u8 (3:Nat)]
 h2:Bk W q2 5 [.int .u8 (4:Nat)]
 h3:Bk W q3 5 [.int .u8 (5:Nat)]
 h6:Bk W q6 126 [.map (some gm)]
 mp:sK prog 9 W gm (Le Lg)
 tr:RdS rNd 3 (fun b=>b<lo) W tv G.tree
section
variable {G:Giv} {lo bw b2 b3 b4 q1 q2 q3 q6 gm:Nat} {mb:List Nat} {Lg:List (Nm×Int)} {tv cv fv gv:Value} {W W':World}
theorem JdF.new (h:JdF G lo bw b2 b3 b4 q1 q2 q3 q6 gm mb Lg tv cv fv gv W) (c:New W W'):JdF G lo bw b2 b3 b4 q1 q2 q3 q6 gm mb Lg tv cv fv gv W':=
 ⟨h.e.new c,h.h1.chg c id,h.h2.chg c id,h.h3.chg c id,h.h6.chg c id,h.mp.chg c id,h.tr.keep pU c.keep⟩
theorem JdF.row (h:JdF G lo bw b2 b3 b4 q1 q2 q3 q6 gm mb Lg tv cv fv gv W) {Pb:Nat->Prop} {v:Value} {xs:List Nb} (o:oP (flat nbC) 130 9 Pb NoB W v xs) (hlo: ∀k,v.ownBlock=some k->lo<=k) (c:Chg (fun k=>v.ownBlock=some k) W W'):JdF G lo bw b2 b3 b4 q1 q2 q3 q6 gm mb Lg tv cv fv gv W':=
 ⟨h.e.own o c rfl rfl rfl,h.h1.chg c fun e=>o.pR h.h1 rfl e rfl,h.h2.chg c fun e=>o.pR h.h2 rfl e rfl,h.h3.chg c fun e=>o.pR h.h3 rfl e rfl,h.h6.chg c fun e=>o.pR h.h6 rfl e rfl,h.mp.chg c fun e=>o.rZ h.mp e rfl,
   h.tr.keep pU (c.keep fun b _ hb e=>by have:=hlo b e;have hb:b<lo:=hb;omega)⟩
theorem Uf {m:Nat} {e:Jd} (h:(jdL b2 b3 b4 q1 q2 q3 q6)[m]? =some e):oN prog e.2.1:=by
 unfold jdL at h
 match m with
 |0=>cases h;infer_instance
 |1=>cases h;infer_instance
 |2=>cases h;infer_instance
 |3=>cases h;infer_instance
 |4=>cases h;infer_instance
 |n+5=>cases h
theorem abp {Pb:Nat->Prop} {bm:Nat} {N:List Nb} {ord:List Nat} {fl:List (Nm×Int)} {nv ov:Value} {m k:Nat} {e:Jd} (h:JdF G lo bw b2 b3 b4 q1 q2 q3 q6 gm mb Lg tv cv fv gv W) (g:WkM Pb bw bm N ord fl nv ov W) (cn:Cnt G.gone Lg) (hok:pM G.tree=true) (hN:N.length=G.tree.length)
 (hp: ∀i,i<N.length->(bnF N i).path=pX G.tree i/\(bnF N i).device=su G.tree i/\(bnF N i).card=if su G.tree i=true then sD G.cards G.tree i else none) (hk:k<N.length) (he:(jdL b2 b3 b4 q1 q2 q3 q6)[m]? =some e):
 e.1=m+2/\Calls prog e.2.1 (vi k::e.2.2).toArray W (Ret fun v w'=>(∃y,v=.tuple #[.bool (BL G k m).isSome,vi y]/\ ∀u,BL G k m=some u->y=u)/\New W w'):=by
 obtain ⟨p1,p2,p3⟩:=hp k hk
 have am: ∀(q r:Nat),Bk W q 5 [.int .u8 r]->r<7-> ∀(o:Option Int),(if su G.tree k=true then (if r=3 then Ku (rX G.cards G.tree).2 else if r=4 then wM G.tree (pK G.tree) else if r=5 then zy (uD G.tree) else fun _=>none) k else none)=o->
  Calls prog 90 #[vi k,pT b4,pT q,pT b2] W (Ret fun v w'=>(∃y,v=.tuple #[.bool o.isSome,vi y]/\ ∀u,o=some u->y=u)/\New W w'):=by
  intro q r hq hr o ho;obtain ⟨mr,hm⟩:=pz mb (k:=r) (by rw [h.e.ml];exact hr);refine (Oc (m:=mr) (r:=r) g h.e.h2 h.e.h4 hq hr (by rw [apF,hm];rfl) (h.e.im r mr hm) hk).mono ?_;rintro _ w' ⟨_,rfl,rfl,rfl⟩;refine ⟨_,rfl,⟨((if r=3 then Ku (rX G.cards G.tree).2 else if r=4 then wM G.tree (pK G.tree) else if r=5 then zy (uD G.tree) else fun _=>none) k).getD 0,?_,fun u hu=>?_⟩,aB _ _⟩
  ·rw [p2, <-ho];cases su G.tree k with
   |false=>simp
   |true=>simp
  ·rw [<-ho] at hu;split at hu
   ·rw [hu];rfl
   ·cases hu
 unfold jdL at he
 match m with
 |0=>
  cases he;refine ⟨rfl,(QU g h.e.h2 hk).mono ?_⟩;rintro _ w' ⟨_,rfl,rfl,rfl⟩;refine ⟨_,rfl,⟨-1,?_,fun u hu=>?_⟩,aB _ _⟩
  ·rw [p2,p3];unfold BL;cases su G.tree k with
   |false=>simp
   |true=>cases sD G.cards G.tree k<;>simp
  ·have hu:(if su G.tree k=true/\sD G.cards G.tree k=none then some (-1) else none)=some u:=hu;split at hu
   ·cases hu;rfl
   ·cases hu
 |1=>cases he;exact ⟨rfl,am q1 3 h.h1 (by omega) _ rfl⟩
 |2=>cases he;exact ⟨rfl,am q2 4 h.h2 (by omega) _ rfl⟩
 |3=>cases he;exact ⟨rfl,am q3 5 h.h3 (by omega) _ rfl⟩
 |4=>
  cases he;refine ⟨rfl,(QV g h.h6 h.e.h2 h.e.h3 h.tr h.mp cn hok hN (fun i hi=>(hp i hi).1) hk).mono ?_⟩;rintro _ w' ⟨_,rfl,rfl,n⟩;refine ⟨_,rfl,⟨qC (wC G k),?_,fun u hu=>?_⟩,n⟩
  ·unfold BL;cases wC G k<;>rfl
  ·have hu:(wC G k).map (fun k=>(k:Int))=some u:=hu;cases hg:wC G k with
   |none=>rw [hg] at hu;cases hu
   |some j=>rw [hg] at hu;cases hu;rfl
 |n+5=>cases he
end
abbrev mpV (b:Nat):Value:=.map (some b)
theorem abq {L:List Nat} {m b:Nat} (hL:L.length<m):(L.map mpV++apW (m-L.length) (Value.map none)).set L.length (mpV b)=(L++ [b]).map mpV++apW (m-(L++ [b]).length) (Value.map none):=by
 obtain ⟨k,hk⟩: ∃k,m-L.length=k+1:=⟨m-L.length-1,by omega⟩;rw [hk,List.replicate_succ,List.set_append_right _ _ (by simp)];simp only [aqt,aq7,List.set_cons_zero,aqn,acK,afd,adI,List.singleton_append,adL,apm];congr 3;omega
theorem zA {W:Nat->List Nat} {order:List Nat}: ∀(l seen:List Nat),(ul W order seen l).length<=l.length/\ ∀c∈ul W order seen l, ∀i∈c,i∈order
 | [],seen=>by rw [ul];simp
 |i::r,seen=>by
  rw [FP];split
  ·obtain ⟨h1,h2⟩:=zA (W:=W) (order:=order) r seen;exact ⟨by rw [aph];omega,h2⟩
  ·obtain ⟨h1,h2⟩:=zA (W:=W) (order:=order) r (seen++order.filter (ru W i));refine ⟨by rw [aph,aph];omega,fun c hc k hk=>?_⟩;rcases List.mem_cons.1 hc with rfl|hc
   ·exact (List.mem_filter.1 hk).1
   ·exact h2 c hc k hk
theorem Aq {t:List Nd}: ∀(l:List Nat) (out:List Ei),(vg t out l).2.length<=l.length/\ ∀r∈(vg t out l).2,r.node∈l
 | [],out=>by rw [vg];simp
 |n::r,out=>by
  rw [vg];split
  ·obtain ⟨h1,h2⟩:=Aq (t:=t) r out;refine ⟨by simp only [aph];omega,fun x hx=>?_⟩;rcases List.mem_cons.1 hx with rfl|hx
   ·exact arK
   ·exact aqd _ (h2 x hx)
  ·split
   ·obtain ⟨h1,h2⟩:=Aq (t:=t) r out;refine ⟨by simp only [aph];omega,fun x hx=>?_⟩;rcases List.mem_cons.1 hx with rfl|hx
    ·exact arK
    ·exact aqd _ (h2 x hx)
   ·have h:=Aq (t:=t) r;exact ⟨by rw [aph];exact Nat.le_succ_of_le (h _).1,fun x hx=>aqd _ ((h _).2 x hx)⟩
theorem Ug (t:List Nd):(uD t).length<=t.length:=by
 have:=(zA (W:=qB t) (order:=qw t) (qw t) []).1;unfold uD;refine aru this ?_;unfold qw;rw [ard,arE];exact aat _
theorem Xm {t:List Nd}: ∀c∈uD t, ∀i∈c,i<t.length:=fun c hc i hi=>Ez.1 ((zA (W:=qB t) (order:=qw t) (qw t) []).2 c hc i hi)
noncomputable def Bq (G:Giv) (k m i:Nat):Bn:=if i<G.tree.length then (if i<k then Am G 5 i else if i=k then Am G m i else Am G 0 i) else default
theorem Xn (G:Giv):Bq G 0 0=yM G (pK G.tree):=by
 funext i;unfold Bq yM;split
 ·rw [if_neg (by omega)];split<;>exact Ue G i
 ·rfl
theorem Xo (G:Giv) (k:Nat):Bq G k 5=Bq G (k+1) 0:=by
 funext i;unfold Bq;split
 ·by_cases h1:i<k
  ·rw [if_pos h1,if_pos (by omega)]
  ·rw [if_neg h1];by_cases h2:i=k
   ·rw [if_pos h2,if_pos (by omega)]
   ·rw [if_neg h2,if_neg (by omega)];split<;>rfl
 ·rfl
theorem Zk (G:Giv):Bq G G.tree.length 0=pY G:=by
 funext i;unfold Bq pY;split
 ·exact Xl G i
 ·rfl
theorem Zl (G:Giv) (k m:Nat) {i:Nat} (h:i<G.tree.length):(Bq G k m i).path=pX G.tree i/\(Bq G k m i).device=su G.tree i/\(Bq G k m i).card=if su G.tree i=true then sD G.cards G.tree i else none:=by
 unfold Bq;rw [if_pos h];split
 ·exact ⟨rfl,rfl,rfl⟩
 split<;>exact ⟨rfl,rfl,rfl⟩
theorem Vx (G:Giv) {k m:Nat} (h:k<G.tree.length):Bq G k m k=Am G m k:=by
 unfold Bq;rw [if_pos h,if_neg (by omega),if_pos rfl]
theorem ML (G:Giv) {k m:Nat} (h:k<G.tree.length):Bq G k (m+1)=fun i=>if i=k then Am G (m+1) k else Bq G k m i:=by
 funext i;unfold Bq;by_cases hi:i=k
 ·subst hi;rw [if_pos h,if_neg (by omega),if_pos rfl,if_pos rfl]
 ·rw [if_neg hi,if_neg hi,if_neg hi]
theorem Uh {G:Giv} {k m:Nat} (h:CX (EF G k m) (m+2) (BL G k m)=EF G k m):Am G (m+1) k=Am G m k:=by
 unfold Am;rw [show EF G k (m+1)=CX (EF G k m) (m+2) (BL G k m) from rfl,h]
section
variable {w:World} {G:Giv} {lo bw bm:Nat} {N:List Nb} {fl:List (Nm×Int)} {nv tv cv fv gv:Value}
theorem Ui {Pb:Nat->Prop} (hlo: ∀b,Pb b->lo<=b) (hbig: ∀b,w.heap.size<=b->Pb b) (hok:pM G.tree=true) (hco:vG G.cards=true) (hgl: ∀x∈G.gone,x.length<=100000000) (r:RdG (fun b=>b<lo) w G tv cv fv gv) (g:WkM Pb bw bm N [] fl nv (.slice none 0 0) w) (hN:N.length=G.tree.length) (hb:bnF N=yM G []) (hst: ∀k,stF N k=0):
 Calls prog 61 #[pT bw,.agg #[tv,cv,fv,gv]] w (Ret fun _ w'=> ∃N',WkM Pb bw bm N' [] fl nv (.slice none 0 0) w'/\N'.length=G.tree.length/\bnF N'=pY G/\(∀k,stF N' k=0)/\Chg Pb w w'):=by
 have hlen:=qo hok;have hpos:=uM hok;have hlw:lo<=w.heap.size:=hlo _ (hbig _ (aat _));have hE:(pK G.tree).length<=10240*G.tree.length:=vT hok G.tree.length (aat _);obtain ⟨ta,tc,rfl,_,_⟩:=r.t.form;obtain ⟨ca,cc,rfl,_,_⟩:=r.c.form;obtain ⟨fa,fc,rfl,_,_⟩:=r.f.form;obtain ⟨ga,gc,rfl,_,_⟩:=r.g.form;obtain ⟨ng,nc,rfl,aj9,akb,akc⟩:=g.nd.row.blk (by intro e;rw [e] at hN;simp at hN;omega);refine oI func61 rfl ntmps61 rfl ?_;refine qq0 ?_;refine Wl.box rfl fun w1 b2 n1 s1=>?_;replace b2:Bk w1 w.heap.size 80 [pT bw]:=b2;refine Wl.box rfl fun w2 b3 n2 s2=>?_;replace b3:Bk w2 w1.heap.size 28 [.slice ta G.tree.length tc,.slice ca G.cards.length cc,.slice fa G.fails.length fc,.slice ga G.gone.length gc]:=b3;refine qq2 ?_;refine Wl.alloc fun w3 b4 n3 s3=>?_;replace b4:Bk w3 w2.heap.size 193 (List.map mpV []++apW 7 (.map none)):=b4;have n03:=New.trans n1 (New.trans n2 n3);have hz1:=n1.size;have hz2:=n2.size;have hz3:=n3.size;replace b2:=b2.chg (New.trans n2 n3) id;replace b3:=b3.chg n3 id;have Zg:=b2.lt;have ac4:=b3.lt;have abr:=b4.lt;replace g:=(g.mono (Pb':=fun b=>Pb b/\b<w.heap.size) fun b hb e=>⟨e,hb⟩).new n03;refine qq4 ?_;refine aC (σ:=List Nat) (fun L=>[(2,pT w.heap.size),(3,pT w1.heap.size),(4,pT w2.heap.size),(31,vi L.length)]) (fun L W=>L.length<=7/\Bk W w2.heap.size 193 (L.map mpV++apW (7-L.length) (.map none))/\(∀b∈L,w3.heap.size<=b/\sK prog 3 W b [])/\L.Nodup/\Chg (fun k=>k=w2.heap.size) w3 W) (fun L=>7-L.length) [] (sl rfl) ⟨by simp,b4,by simp,ash,aB _ _⟩ ?_;clear b4;rintro L F W ⟨hL,b4,hm,hnd,cW⟩;simp only [ql];(repeat' (first|refine qq2 ?_|refine aa2 (fun _=>?_) (fun _=>?_)))
 ·refine fZ (k:=3) fun w4 m4 n4 s4=>?_;refine iM rfl rfl (by omega) (by omega) ?_;have hWs:=cW.size;refine aJ (u:=mpV W.heap.size) (b4.chg n4 id) rfl (show ((L.length:Nat):Int).toNat<(L.map mpV++apW (7-L.length) (Value.map none)).length by simp only [adL,aqt,arC];omega) rfl rfl fun w5 b5 c5=>?_;rw [ao3,abq (m:=7) (by omega)] at b5;refine qq4 ?_;refine aA (L++ [W.heap.size]) ⟨rfl,rfl,rfl,by rw [adL,apm];rfl,trivial⟩ ⟨by rw [adL,apm];omega,b5,fun b hb=>?_,?_,Chg.trans (Chg.trans cW n4.any i3) c5 i3⟩ (by rw [adL,apm];omega)
  ·rcases List.mem_append.1 hb with hb|hb
   ·exact ⟨(hm b hb).1,((hm b hb).2.chg n4 id).chg c5 fun e=>by have:=(hm b hb).1;omega⟩
   ·rw [List.mem_singleton.1 hb];exact ⟨hWs,m4.chg c5 fun e=>by omega⟩
  ·rw [ar4];refine ⟨hnd,by simp,fun a ha b hb e=>?_⟩;rw [List.mem_singleton.1 hb] at e;have:=(hm a ha).2.lt;omega
 ·have hL7:L.length=7:=by omega
  rw [hL7,aq7,List.replicate_zero,aqJ] at b4;have hWs:=cW.size;have e0:JdE bw w.heap.size w1.heap.size w2.heap.size L (fun _ _=>none) (.slice ta G.tree.length tc) (.slice ca G.cards.length cc) (.slice fa G.fails.length fc) (.slice ga G.gone.length gc) W:= ⟨b2.chg cW fun e=>by omega,b3.chg cW fun e=>by omega,b4,fun s d h=>kX (hm d (apD h)).2,hL7,hnd⟩;replace g:=g.chg (M:=fun k=>k=w2.heap.size) cW (fun k hk e=>by have:=hk.2;omega);have hLr: ∀b∈L,w.heap.size<=b/\b<W.heap.size:=fun b hb=>⟨by have:=(hm b hb).1;omega,(hm b hb).2.lt⟩;clear b2 b3 b4 hm hnd;have cW0:Chg (fun k=>w.heap.size<=k) w W:=Chg.trans n03.any cW fun k _ e=>by omega
  have aoa:w3.heap.size<=W.heap.size:=hWs;clear cW n03 n1 n2 n3;generalize hb2:w.heap.size=b2 at*;generalize hb3:w1.heap.size=b3 at*;generalize hb4:w2.heap.size=b4 at*;refine ah (u:=.slice ta G.tree.length tc) rfl (e0.h3.cell (o:=0) rfl) ?_;refine au (Kq (r.t.keep pU (cW0.keep fun b _ hb=>by have hb:b<lo:=hb;omega)) hok) rfl ?_;rintro _ wB ⟨⟨q,rfl,hq⟩,nB⟩;obtain ⟨qa,qc,rfl,_,_⟩:=hq.form;have hzB:=nB.size;replace hq:=hq.mono (Pb':=fun b=>W.heap.size<=b/\b<wB.heap.size) rH fun b hb e=>⟨e,hb⟩;replace g:=(g.mono (Pb':=fun b=>Pb b/\ ¬(b2<=b/\b<wB.heap.size)) fun b hb e=>⟨e.1,by omega⟩).new nB;have eB:=e0.new nB;have cB:=Chg.trans cW0 nB.any (M':=fun _=>False) fun _ _ e=>e.elim;clear e0 cW0 nB;refine qq4 ?_;refine aC (σ:=Nat×List Nb×(Nat->Nat->Option Int)) (fun q=>[(2,pT b2),(3,pT b3),(4,pT b4),(44,.slice qa (pK G.tree).length qc),(45,vi (pK G.tree).length),(46,vi q.1)]) (fun q W'=>q.1<=(pK G.tree).length/\WkM (fun b=>Pb b/\ ¬(b2<=b/\b<wB.heap.size)) bw bm q.2.1 [] fl (.slice (some ⟨ng,0,none⟩) N.length nc) (.slice none 0 0) W'/\q.2.1.length=N.length/\bnF q.2.1=yM G ((pK G.tree).take q.1)/\(∀k,stF q.2.1 k=0)/\JdE bw b2 b3 b4 L q.2.2 (.slice ta G.tree.length tc) (.slice ca G.cards.length cc) (.slice fa G.fails.length fc) (.slice ga G.gone.length gc) W'/\q.2.2=(fun s=>if s=4 then wM G.tree ((pK G.tree).take q.1) else fun _=>none)/\RdS rEd 6 (fun b=>W.heap.size<=b/\b<wB.heap.size) W' (.slice qa (pK G.tree).length qc) (pK G.tree)/\wB.heap.size<=W'.heap.size/\Chg Pb w W') (fun q=>(pK G.tree).length-q.1) (0,N,fun _ _=>none) (sl rfl) ⟨aoZ _,g,rfl,hb,hst,eB,by funext s i;split<;>rfl,hq,aat _,cB.mono fun k _ e=>hbig k e⟩ ?_;clear g hb hst eB hq cB;rintro ⟨k,N1,ff⟩ F1 W1 ⟨hk,g,hN1,hb,hst,e1,hff,hq,ac6,c1⟩;dsimp only at hk g hN1 hb hst e1 hff hq ac6 c1;simp only [ql];(repeat' (first|refine qq2 ?_|refine aa2 (fun _=>?_) (fun _=>?_)))
  ·obtain ⟨x,hx⟩:=pz (pK G.tree) (k:=k) (by omega);have hxs:=(uU x (apD hx)).1;have hxd:=(uU x (apD hx)).2;refine aO hq rfl rfl (by omega) hx fun b o cs hl hR hat=>?_;obtain ⟨va,rfl,hva⟩:=hR;obtain ⟨xa,xc,rfl,_,_⟩:=hva.form;refine aS hat rfl rfl ?_;clear hat;refine Wl.alloc fun w5 b5 n5 s5=>?_;refine aK (new:=edC x (.slice xa x.args.length xc)) b5 rfl rfl rfl rfl zl6 P9 fun w6 b6 c6 s6=>?_;have n6:New W1 w6:=(Chg.trans n5.any c6 i3).tN
   replace b6:Bk w6 W1.heap.size 100 (edC x (.slice xa x.args.length xc)):=b6;clear b5 n5 c6;obtain ⟨y,hy⟩:=pz N1 (k:=x.src) (by omega);have hyb:=uF hy;have g6:=g.new n6;have e6:=e1.new n6;have hq6:=hq.keep tZ n6.keep;have c06:=Chg.trans c1 n6.any (M':=fun _=>False) fun _ _ e=>e.elim;clear g e1 hq c1;refine qq1 ?_;refine fG rfl (by kernel_rfl) ?_;refine ax (u:=pT bw) rfl (fun w' hw=>(e6.h2.chg hw id).cell (o:=0) rfl) ?_;refine qq7 ?_;refine ax (u:=.slice (some ⟨ng,0,none⟩) N.length nc) rfl (fun w' hw=>(g6.b.chg hw id).cell (o:=0) rfl) ?_;(repeat' (refine aa6 ?_));refine ax (u:=vi x.src) rfl (fun w' hw=>(b6.chg hw id).cell (o:=0) rfl) ?_;refine aa8 ?_;refine qq7 ?_;intro w7 n7;have g7:=g6.new n7;have e7:=e6.new n7;have hq7:=hq6.keep tZ n7.keep;have c07:=Chg.trans c06 n7.any (M':=fun _=>False) fun _ _ e=>e.elim;have b7:=b6.chg n7 id;have hz7:wB.heap.size<=w7.heap.size:=aru ac6 (aru n6.size n7.size);clear g6 e6 hq6 c06 b6 n6 n7;have akf:y.bn.device=su G.tree x.src:=by rw [<-hyb,hb];unfold yM;rw [if_pos hxs];rfl
   have hnx:=Ub G ((pK G.tree).take k) x;have hmx:=TY G.tree ((pK G.tree).take k) x;rw [<-take_snoc hx] at hnx hmx;have hsame:cnts G.tree x=false->yM G ((pK G.tree).take (k+1))=yM G ((pK G.tree).take k)/\wM G.tree ((pK G.tree).take (k+1))=wM G.tree ((pK G.tree).take k):=fun h=>by rw [hnx,hmx,h];exact ⟨if_neg fun e=>(by cases e.1),if_neg (by simp)⟩
   have hat:At w7 ng (x.src*9) (nbC y):=g7.nd.row.at rfl rfl hy;refine qq2 ?_;refine ah (u:=.bool x.soft) rfl (b7.cell (o:=3) rfl) ?_;cases hsf:x.soft with
   |true=>obtain ⟨h1,h2⟩:=hsame (by simp [cnts,hsf]);refine qq4 ?_;exact aA (k+1,N1,ff) (sl rfl) ⟨by dsimp only;omega,g7,hN1,by rw [h1];exact hb,hst,e7,by rw [h2];exact hff,hq7,hz7,c07⟩ (by dsimp only;omega)
   |false=>
    refine qq5 ?_;refine ah (u:=.bool y.bn.device) rfl (by have:=hat.get 1 rfl;simpa using this) ?_;rw [akf];cases hdv:su G.tree x.src with
    |false=>obtain ⟨h1,h2⟩:=hsame (by simp [cnts,hsf,hdv]);refine qq4 ?_;exact aA (k+1,N1,ff) (sl rfl) ⟨by dsimp only;omega,g7,hN1,by rw [h1];exact hb,hst,e7,by rw [h2];exact hff,hq7,hz7,c07⟩ (by dsimp only;omega)
    |true=>
     have hct:cnts G.tree x=true:=by simp [cnts,hsf,hdv]
     rw [hct] at hnx hmx;rw [if_pos ⟨rfl,hxs⟩] at hnx;rw [aqf] at hmx;clear hsame;refine qq4 ?_;refine ah (u:=vi (qC x.dst)) rfl (b7.cell (o:=1) rfl) ?_;cases hds:x.dst with
     |none=>
      rw [hds] at hnx hmx;dsimp only at hnx;simp only [Option.isNone_none,if_true] at hmx;obtain ⟨m4,hm4⟩:=pz L (k:=4) (by omega);rw [show qC none= -1 from rfl];(repeat' (first|refine qq4 ?_|(refine aa2 (fun _=>?_) (fun _=>?_)<;>(first|(exfalso;omega)|skip))));refine iM rfl rfl (by omega) (by omega) ?_;refine ah (u:=mpV m4) rfl (e7.h4.cell (o:=4) (by rw [apF,hm4];rfl)) ?_;(repeat' (refine aa5 ?_));refine ah (u:=vi x.src) rfl (b7.cell (o:=0) rfl) ?_;refine jm (e7.im 4 m4 hm4) (by omega) rfl rfl rfl fun w8 m8 c8 s8=>?_;have hmr:=hLr m4 (apD hm4);refine qq4 ?_;refine aA (k+1,N1,fun s=>if s=4 then FU (ff 4) x.src (-1) else ff s) (sl rfl) ⟨by dsimp only;omega,g7.chg c8 fun k hk e=>hk.2 (by omega),hN1,by rw [hnx];exact hb,hst,e7.put hm4 m8 c8,?_,hq7.keep tZ (c8.keep fun b _ hb e=>by have:=hb.1;omega),by have:=c8.size;omega,Chg.trans c07 c8 fun k _ e=>hbig k (by omega)⟩ (by dsimp only;omega);dsimp only;funext s;by_cases hs4:s=4
      ·subst hs4;rw [if_pos rfl,if_pos rfl,hmx,hff];rfl
      ·rw [if_neg hs4,if_neg hs4,hff];exact if_neg hs4
     |some d=>
      rw [hds] at hnx hmx;dsimp only at hnx;rw [if_neg (by simp)] at hmx;rw [show qC (some d)=(d:Int) from rfl];have hym:=apD hy;have hel:=g7.nd.el y hym;have hrow:=fun (w':World) (c:Chg (fun j=>(svV y.wv).ownBlock=some j) w7 w')=>g7.nd.row.chg (oH nbC) c fun k hk e=>g7.nd.wG y hym k e hk;have hwl:y.bn.wants.length<=1+k:=by
       rw [<-hyb,hb];unfold yM;rw [if_pos hxs];unfold yL;dsimp only;rw [adL];have h1:=List.length_filterMap_le (fun e:Ed=>if e.src=x.src/\e.soft=false/\su G.tree x.src=true then e.dst else none) ((pK G.tree).take k);have h2:=List.length_take_le k (pK G.tree);split
       ·rw [apm];omega
       ·rw [apK];omega
      (repeat' (first|refine qq8 ?_|(refine aa2 (fun _=>?_) (fun _=>?_)<;>(first|(exfalso;omega)|skip))));refine aX rfl (by kernel_rfl) (fun w'=>Chg (fun j=>(svV y.wv).ownBlock=some j) w7 w') (Chg.drew _ _) ?_;intro w8 m8;refine tJ ?_;refine aa0 (ax (u:=svV y.wv) rfl (fun w' c=>by have:=((hrow w' c).at rfl rfl hy).get 6 rfl;simpa using this) (af ?_));(repeat' (refine aa0 (aa6 (af ?_))));refine aa0 (ax (u:=vi d) rfl (fun w' c=>(b7.chg c fun e=>hel.pR b7 rfl e rfl).cell (o:=1) (by show some (vi (qC x.dst))=_;rw [hds];rfl)) (af ?_));refine aH rfl (bF (R:=Wk.one viN) (Pe:=NoB) (y:=d) qQ rfl rfl rfl rfl (by omega) (by omega) fun v6 w9 o9 n9 s9 e9=>?_);have m9:=New.trans m8 n9;refine ak ⟨rfl,m9.any,?_⟩;refine aH rfl (bI (R:=Wk.one viN) qQ (hel.new (oJ _) m9) (o9.rd qQ.mo) (fun z cs hz=>hz) rfl rfl (by omega) (by simp only [maxLen,apm];omega) (by simp only [apm];omega) fun u' w10 o10 c10 lie _=>?_);have KZ:Chg (fun j=>(svV y.wv).ownBlock=some j) w7 w10:=Chg.trans m9.any c10 i3;refine ak ⟨rfl,KZ,?_⟩;refine tJ ?_;obtain ⟨ua,uc,rfl,_,_⟩:=o10.form;have hz9:=m9.size;have YO:=KZ.size;refine Wt.last rfl (eF (f:=nbC) (sz:=9) (p:=y) (q:={y with wv:=(ua,(y.bn.wants++ [d]).length,uc),bn:={y.bn with wants:=y.bn.wants++ [d]}}) (j:=x.src) (o:=6) (cap:=nc) (u:=.slice ua (y.bn.wants++ [d]).length uc) (fun _=>rfl) (show (6:Nat)<9 by omega) rfl hy rfl (hrow w10 KZ) (by rw [hN1]) (by show Value.pointer (some ⟨ng,0+(x.src:Int).toNat*9+6,none⟩)=_;rw [acL,ao3]) rfl fun w11 o11 c11=>?_);refine ak ?_;have Tn:=c11.size;have g11:=g7.want hy (d:=d) (by have:=hxd d hds;omega) (v':=(ua,(y.bn.wants++ [d]).length,uc)) (o10.mono (pq _) (fun b _ e=>by rcases e with e|e;exact e;exact ⟨hbig b (by omega),fun h=>by omega⟩) i3) KZ (by rcases lie with l1|l1;exact .inl l1;exact .inr fun k hk=>by have:=l1 k hk;omega) o11 c11;have Zm:=(g7.nd.row.lt (k:=ng) rfl).1;have e11:=(e7.own hel KZ rfl rfl rfl).own (hrow w10 KZ) c11 rfl rfl rfl;refine qq4 ?_;refine aA (k+1,N1.set x.src _,ff) (sl rfl) ⟨by dsimp only;omega,g11,by dsimp only;rw [aqY];exact hN1,?_,Og hst (by rw [<-zo hy];exact hst _),e11,by rw [hmx];exact hff,(hq7.keep tZ (KZ.keep fun b _ hb e=>(hel.lt e).1.2 ⟨by have:=hb.1;omega,hb.2⟩)).keep tZ (c11.keep fun b _ hb e=>by have e1:ng=b:=(by cases e;rfl);have h1:=hb.1;have h2:=hb.2;have h3:=Zm.2;omega),by omega,Chg.trans (Chg.trans c07 KZ fun k _ e=>(hel.lt e).1.1) c11 fun k _ e=>by cases e;exact Zm.1⟩ (by dsimp only;omega);dsimp only;rw [Oe (by omega),hnx];funext i;by_cases hi:i=x.src
      ·rw [if_pos hi,if_pos hi,hi, <-hb,hyb]
      ·rw [if_neg hi,if_neg hi,hb]
  ·obtain rfl:k=(pK G.tree).length:=by omega
   rw [apZ] at hb hff;clear hq;subst hff;refine ah (u:=.slice ta G.tree.length tc) rfl (e1.h3.cell (o:=0) rfl) ?_;refine au (TM (r.t.keep pU (c1.keep fun b _ hb e=>by have hb:b<lo:=hb;have:=hlo b e;omega)) hok) rfl ?_;rintro _ w2 ⟨⟨rq,rs,rfl,LR,hrs⟩,n2⟩;obtain ⟨ra,rc,rfl,_,_⟩:=LR.row.form;have g2:=g.new n2;have e2:=e1.new n2;have c2:=Chg.trans c1 n2.any (M':=fun _=>False) fun _ _ e=>e.elim;have hz2:wB.heap.size<=w2.heap.size:=aru ac6 n2.size;have hrl:rs.length<=G.tree.length:=by have h1:=congrArg aq0 hrs;rw [aqt] at h1;rw [h1];exact Ug G.tree
   clear g e1 c1 n2;refine qq4 ?_;refine aC (σ:=Nat×(Nat->Nat->Option Int)) (fun q=>[(2,pT b2),(3,pT b3),(4,pT b4),(93,.slice ra rs.length rc),(94,vi rs.length),(95,vi q.1)]) (fun q W'=>q.1<=rs.length/\WkM (fun b=>Pb b/\ ¬(b2<=b/\b<wB.heap.size)) bw bm N1 [] fl (.slice (some ⟨ng,0,none⟩) N.length nc) (.slice none 0 0) W'/\JdE bw b2 b3 b4 L q.2 (.slice ta G.tree.length tc) (.slice ca G.cards.length cc) (.slice fa G.fails.length fc) (.slice ga G.gone.length gc) W'/\q.2=(fun s=>if s=4 then wM G.tree (pK G.tree) else if s=5 then zy ((rs.map (·.2)).take q.1) else fun _=>none)/\RgL W1.heap.size W' (.slice ra rs.length rc) rs/\Chg Pb w W') (fun q=>rs.length-q.1) (0,fun s=>if s=4 then wM G.tree (pK G.tree) else fun _=>none) (sl rfl) ⟨aoZ _,g2,e2,by funext s;dsimp only;split;rfl;split<;>rfl,LR,c2⟩ ?_;clear g2 e2 LR c2;rintro ⟨k,ff⟩ F2 W2 ⟨hk,g2,e2,hff,LR,c2⟩;dsimp only at hk g2 e2 hff LR c2;simp only [ql];obtain ⟨m5,hm5⟩:=pz L (k:=5) (by omega);have aob:=hLr m5 (apD hm5);(repeat' (first|refine qq2 ?_|refine aa2 (fun _=>?_) (fun _=>?_)))
   ·obtain ⟨x,hx⟩:=pz rs (k:=k) (by omega);have hel:=LR.el x (apD hx);obtain ⟨xa,xc,hxv,hxm,akg⟩:=hel.form;have aoc:x.2.length<=9223372036854775807:=by unfold maxLen at akg;omega
    refine aO (LR.row.rd (oU _)) rfl rfl (by omega) hx fun b o cs hl hR hat=>?_;obtain rfl:cs=wrC x:=hR;refine ah (u:=.slice xa x.2.length xc) rfl (by rw [<-hxv];exact hat.get 0 rfl) ?_;clear hat;refine qq4 ?_;refine aC (σ:=Nat×(Nat->Nat->Option Int)) (fun q=>[(2,pT b2),(3,pT b3),(4,pT b4),(14,.slice xa x.2.length xc),(93,.slice ra rs.length rc),(94,vi rs.length),(95,vi k),(99,.slice xa x.2.length xc),(100,vi x.2.length),(101,vi q.1)]) (fun q W'=>q.1<=x.2.length/\WkM (fun b=>Pb b/\ ¬(b2<=b/\b<wB.heap.size)) bw bm N1 [] fl (.slice (some ⟨ng,0,none⟩) N.length nc) (.slice none 0 0) W'/\JdE bw b2 b3 b4 L q.2 (.slice ta G.tree.length tc) (.slice ca G.cards.length cc) (.slice fa G.fails.length fc) (.slice ga G.gone.length gc) W'/\q.2=(fun s=>if s=4 then wM G.tree (pK G.tree) else if s=5 then (fun i=>if i∈x.2.take q.1 then some ((x.2.headD 0:Nat):Int) else zy ((rs.map (·.2)).take k) i) else fun _=>none)/\RgL W1.heap.size W' (.slice ra rs.length rc) rs/\Chg Pb w W') (fun q=>x.2.length-q.1) (0,ff) (sl rfl) ⟨aoZ _,g2,e2,by rw [hff];funext s;dsimp only;split;rfl;split;(funext i;simp);rfl,LR,c2⟩ ?_;clear g2 e2 hff LR c2 hel;rintro ⟨m,ff⟩ F3 W3 ⟨hm,g3,e3,hff,LR,c3⟩;dsimp only at hm g3 e3 hff LR c3;simp only [ql];(repeat' (first|refine qq0 ?_|refine aa2 (fun _=>?_) (fun _=>?_)))
    ·have hel:=LR.el x (apD hx);rw [hxv] at hel;obtain ⟨y,hy⟩:=pz x.2 (k:=m) (by omega);obtain ⟨h0,hh0⟩:=pz x.2 (k:=0) (by omega);have hh:x.2.headD 0=h0:=by
      cases hx2:x.2 with
      |nil=>rw [hx2] at hh0;cases hh0
      |cons a l=>rw [hx2] at hh0;cases hh0;rfl
     have hyn:y<9223372036854775808:=by
      have h1:x.2∈uD G.tree:=by rw [<-hrs];exact List.mem_map.2 ⟨x,apD hx,rfl⟩
      have:=Xm _ h1 y (apD hy);omega
     refine bC (hel.rd qQ.mo) rfl rfl (by omega) hy fun b o hcell=>?_;refine ah (u:=vi y) rfl hcell ?_;refine qq8 ?_;refine aX rfl (by kernel_rfl) (fun w'=>New W3 w') (Chg.drew _ _) ?_;intro w4 n4;refine aa0 (kR rfl rfl (by omega) (by omega) (af ?_));refine aa0 (ax (u:=mpV m5) rfl (fun w' c=>(e3.h4.chg c id).cell (o:=5) (by rw [apF,hm5];rfl)) (af ?_));(repeat' (refine aa0 (aa3 (af ?_))));refine aa0 (dD (hel.rd qQ.mo) (fun w' c=>c.keep) rfl rfl (by omega) hh0 fun b o hcell=>af ?_);refine aa0 (ax (u:=vi h0) rfl (fun w' c=>hcell w' c) (af ?_));refine Wt.last rfl (jm ((e3.new n4).im 5 m5 hm5) hyn rfl rfl rfl fun w5 i5 c5 s5=>?_);refine ak ?_;have hz4:=n4.size;refine qq4 ?_;refine aA (m+1,fun s=>if s=5 then FU (ff 5) y h0 else ff s) (sl rfl) ⟨by dsimp only;omega,(g3.new n4).chg c5 fun k hk e=>hk.2 (by omega),(e3.new n4).put hm5 i5 c5,?_,(LR.new n4).chg c5 fun b hb e=>by have hb:W1.heap.size<=b:=hb;omega,Chg.trans (Chg.trans c3 n4.any (M':=fun _=>False) fun _ _ e=>e.elim) c5 fun k _ e=>hbig k (by omega)⟩ (by dsimp only;omega);dsimp only;rw [take_snoc hy,hff];funext s;by_cases h5:s=5
     ·subst h5;show FU (fun i=>if i∈x.2.take m then some ((x.2.headD 0:Nat):Int) else zy ((rs.map (·.2)).take k) i) y h0=fun i=>if i∈x.2.take m++ [y] then some ((x.2.headD 0:Nat):Int) else zy ((rs.map (·.2)).take k) i;funext i;unfold FU;by_cases hi:i=y
      ·rw [if_pos hi,if_pos (by rw [hi];simp),hh]
      ·rw [if_neg hi];dsimp only;have:i∈x.2.take m++ [y]↔i∈x.2.take m:=by simp [hi]
       by_cases h6:i∈x.2.take m
       ·rw [if_pos h6,if_pos (this.2 h6)]
       ·rw [if_neg h6,if_neg fun e=>h6 (this.1 e)]
     ·rw [if_neg h5];dsimp only;rw [if_neg h5,if_neg h5]
    ·obtain rfl:m=x.2.length:=by omega
     refine aA (k+1,ff) (sl rfl) ⟨by dsimp only;omega,g3,e3,?_,LR,c3⟩ (by dsimp only;omega);dsimp only;rw [hff,apZ,take_snoc (show (rs.map (·.2))[k]? =some x.2 by rw [apF,hx];rfl)];funext s;split
     ·rfl
     split
     ·funext i;rw [Uc]
     ·rfl
   ·obtain rfl:k=rs.length:=by omega
    rw [List.take_of_length_le (by rw [aqt];exact aat _),hrs] at hff;clear LR hrs;subst hff;refine ah (u:=.slice ca G.cards.length cc) rfl (e2.h3.cell (o:=1) rfl) ?_;(repeat' (refine aa5 ?_));refine ah (u:=.slice ta G.tree.length tc) rfl (e2.h3.cell (o:=0) rfl) ?_;have kp2:Keep (fun b=>b<lo) w W2:=c2.keep fun b _ hb e=>by have hb:b<lo:=hb;have:=hlo b e;omega
    refine au (Qw (r.c.keep rG kp2) (r.t.keep pU kp2) hco hok) rfl ?_;rintro _ w3 ⟨⟨dv,uv,rfl,_,ou⟩,n3⟩;obtain ⟨ua,uc,rfl,_,_⟩:=ou.form;have g3:=g2.new n3;have e3:=e2.new n3;have c3:=Chg.trans c2 n3.any (M':=fun _=>False) fun _ _ e=>e.elim;clear g2 e2 c2 kp2 n3;have hul:(rX G.cards G.tree).2.length<=G.tree.length:=aru (Aq (E9 G.cards G.tree) []).1 (Md _ _);refine qq4 ?_;refine aC (σ:=Nat×(Nat->Nat->Option Int)) (fun q=>[(2,pT b2),(3,pT b3),(4,pT b4),(122,.slice ua (rX G.cards G.tree).2.length uc),(123,vi (rX G.cards G.tree).2.length),(124,vi q.1)]) (fun q W'=>q.1<=(rX G.cards G.tree).2.length/\WkM (fun b=>Pb b/\ ¬(b2<=b/\b<wB.heap.size)) bw bm N1 [] fl (.slice (some ⟨ng,0,none⟩) N.length nc) (.slice none 0 0) W'/\JdE bw b2 b3 b4 L q.2 (.slice ta G.tree.length tc) (.slice ca G.cards.length cc) (.slice fa G.fails.length fc) (.slice ga G.gone.length gc) W'/\q.2=(fun s=>if s=3 then Ku ((rX G.cards G.tree).2.take q.1) else if s=4 then wM G.tree (pK G.tree) else if s=5 then zy (uD G.tree) else fun _=>none)/\oP (flat BP) 205 5 (fun b=>W2.heap.size<=b) NoB W' (.slice ua (rX G.cards G.tree).2.length uc) (rX G.cards G.tree).2/\Chg Pb w W') (fun q=>(rX G.cards G.tree).2.length-q.1) (0,fun s=>if s=4 then wM G.tree (pK G.tree) else if s=5 then zy (uD G.tree) else fun _=>none) (sl rfl) ⟨aoZ _,g3,e3,?_,ou,c3⟩ ?_
    ·dsimp only;funext s;by_cases h3:s=3
     ·subst h3;rfl
     ·rw [if_neg h3]
    clear g3 e3 ou c3;rintro ⟨k,ff⟩ F3 W3 ⟨hk,g3,e3,hff,ou,c3⟩;dsimp only at hk g3 e3 hff ou c3;simp only [ql];(repeat' (first|refine qq2 ?_|refine aa2 (fun _=>?_) (fun _=>?_)))
    ·obtain ⟨x,hx⟩:=pz (rX G.cards G.tree).2 (k:=k) (by omega);have hxn:x.node<9223372036854775808:=by have:=Qv _ ((Aq (t:=G.tree) (E9 G.cards G.tree) []).2 x (apD hx));omega
     obtain ⟨m3,hm3⟩:=pz L (k:=3) (by omega);have aod:=hLr m3 (apD hm3);refine aO (ou.rd (oU _)) rfl rfl (by omega) hx fun b o cs hl hR hat=>?_;obtain rfl:cs=BP x:=hR;refine aS hat rfl rfl ?_;clear hat;refine Wl.alloc fun w5 b5 n5 s5=>?_;refine aK (new:=BP x) b5 rfl rfl rfl rfl zl5 (zk.oc (fun _=>True) w5 x (BP x) rfl rfl) fun w6 b6 c6 s6=>?_;have n6:New W3 w6:=(Chg.trans n5.any c6 i3).tN
     replace b6:Bk w6 W3.heap.size 205 (BP x):=b6;clear b5 n5 c6;have hz6:=n6.size;refine qq2 ?_;refine iM rfl rfl (by omega) (by omega) ?_;refine ah (u:=mpV m3) rfl ((e3.new n6).h4.cell (o:=3) (by rw [apF,hm3];rfl)) ?_;(repeat' (refine aa5 ?_));refine ah (u:=vi x.node) rfl (b6.cell (o:=0) rfl) ?_;(repeat' (refine aa5 ?_));refine ah (u:=vi x.by_) rfl (b6.cell (o:=4) rfl) ?_;refine jm ((e3.new n6).im 3 m3 hm3) hxn rfl rfl rfl fun w7 i7 c7 s7=>?_;refine qq4 ?_;refine aA (k+1,fun s=>if s=3 then FU (ff 3) x.node x.by_ else ff s) (sl rfl) ⟨by dsimp only;omega,(g3.new n6).chg c7 fun k hk e=>hk.2 (by omega),(e3.new n6).put hm3 i7 c7,?_,(ou.new (oH _) n6).chg (oH _) c7 fun b hb e=>by obtain ⟨l3,hl3⟩:=((e3.new n6).im 3 m3 hm3).ml;exact (ou.new (oH _) n6).rZ hl3 hb e,Chg.trans (Chg.trans c3 n6.any (M':=fun _=>False) fun _ _ e=>e.elim) c7 fun k _ e=>hbig k (by omega)⟩ (by dsimp only;omega);dsimp only;rw [take_snoc hx,Xj,hff];funext s;by_cases h3:s=3
     ·subst h3;rfl
     ·rw [if_neg h3];dsimp only;rw [if_neg h3,if_neg h3]
    ·obtain rfl:k=(rX G.cards G.tree).2.length:=by omega
     rw [apZ] at hff;subst hff;clear ou;refine ah (u:=.slice ga G.gone.length gc) rfl (e3.h3.cell (o:=3) rfl) ?_;have kp3:Keep (fun b=>b<lo) w W3:=c3.keep fun b _ hb e=>by have hb:b<lo:=hb;have:=hlo b e;omega
     refine au (FT (r.g.keep (pF _) kp3) hgl) rfl ?_;rintro _ w4 ⟨⟨gm,Lg,rfl,_,mpg,cn⟩,n4⟩;refine Wl.alloc fun w5 b5 n5 s5=>?_;refine aJ (u:=.map (some gm)) b5 rfl (show (0:Nat)<1 by omega) rfl rfl fun w6 b6 c6=>?_;replace b6:Bk w6 w4.heap.size 126 [.map (some gm)]:=b6;have n46:New w4 w6:=(Chg.trans n5.any c6 i3).tN
     clear b5 n5 c6;generalize hq6:w4.heap.size=q6 at*;refine qq2 ?_;refine dw (f1:=[]) (c1:=[pT b4,pT b2]) rfl rfl ?_;refine qq1 ?_;refine dw (f1:=[]) (c1:=[pT b2]) rfl rfl ?_;refine bJ (ps:=[(0,.const (.int .u8 2)),(1,.tmp 139)]) (parts:=[(0,.int .u8 2),(1,.func (.func 91) #[] #[pT b2])]) rfl rfl (by simp [Value.cells]) ?_;(repeat' (refine aa1 ?_));refine bU (f:=89) (first:= #[]) (cap:= #[pT b4,pT b2]) (vs:=[.int .u8 (3:Nat),pT b4,pT b2]) rfl (CW (b2:=b2) (b4:=b4) (r:=3)) rfl ?_;rintro _ w7 ⟨q1,rfl,_,bq1,n7⟩;(repeat' (refine aa1 ?_));refine bU (f:=89) (first:= #[]) (cap:= #[pT b4,pT b2]) (vs:=[.int .u8 (4:Nat),pT b4,pT b2]) rfl (CW (b2:=b2) (b4:=b4) (r:=4)) rfl ?_;rintro _ w8 ⟨q2,rfl,_,bq2,n8⟩;(repeat' (refine aa1 ?_));refine bU (f:=89) (first:= #[]) (cap:= #[pT b4,pT b2]) (vs:=[.int .u8 (5:Nat),pT b4,pT b2]) rfl (CW (b2:=b2) (b4:=b4) (r:=5)) rfl ?_;rintro _ w9 ⟨q3,rfl,_,bq3,n9⟩;refine dw (f1:=[]) (c1:=[pT q6,pT b2,pT b3]) rfl rfl ?_;refine bJ (ps:=[(0,.const (.int .u8 6)),(1,.tmp 147)]) (parts:=[(0,.int .u8 6),(1,.func (.func 92) #[] #[pT q6,pT b2,pT b3])]) rfl rfl (by simp [Value.cells]) ?_;refine jh (R:=flat jdC) (N:=5) (ps:=[(0,.tmp 140),(1,.tmp 142),(2,.tmp 144),(3,.tmp 146),(4,.tmp 148)]) (xs:=jdL b2 b3 b4 q1 q2 q3 q6) (us:=(jdL b2 b3 b4 q1 q2 q3 q6).map fun e=>.agg (jdC e).toArray) (Pe:=NoB) Zj rfl rfl ⟨rfl,rfl,rfl,rfl,rfl,rfl,rfl,rfl,rfl,rfl,trivial⟩ (by show 0<10;omega) (by show 10<=16777216;omega) fun jv w10 oj n10 s10 aoe=>?_;have n49:=New.trans n46 (New.trans n7 (New.trans n8 n9));have nW:=New.trans (New.trans n4 n49) n10;have gJ:=g3.new nW;have eJ:JdF G lo bw b2 b3 b4 q1 q2 q3 q6 gm L Lg (.slice ta G.tree.length tc) (.slice ca G.cards.length cc) (.slice fa G.fails.length fc) (.slice ga G.gone.length gc) w10:= ⟨e3.new nW,bq1.chg (New.trans n8 (New.trans n9 n10)) id,bq2.chg (New.trans n9 n10) id,bq3.chg n10 id,b6.chg (New.trans n7 (New.trans n8 (New.trans n9 n10))) id,mpg.chg (New.trans n49 n10) id,(r.t.keep pU kp3).keep pU nW.keep⟩;have cJ:=Chg.trans c3 nW.any (M':=fun _=>False) fun _ _ e=>e.elim;obtain ⟨ja,jc,rfl,_,_⟩:=oj.form;clear e3 g3 c3 kp3 n4 n46 n7 n8 n9 n10 n49 nW bq1 bq2 bq3 b6 mpg;rw [<-Xn] at hb;refine qq1 ?_;refine ah (u:=pT bw) rfl (eJ.e.h2.cell (o:=0) rfl) ?_;refine qq5 ?_;refine ah (u:=.slice (some ⟨ng,0,none⟩) N.length nc) rfl (gJ.b.cell (o:=0) rfl) ?_;refine qq6 ?_;refine aC (σ:=Nat×List Nb) (fun q=>[(2,pT b2),(3,pT b3),(4,pT b4),(24,.slice ja 5 jc),(154,vi N.length),(155,vi q.1)]) (fun q W'=>q.1<=N.length/\WkM (fun b=>Pb b/\ ¬(b2<=b/\b<wB.heap.size)) bw bm q.2 [] fl (.slice (some ⟨ng,0,none⟩) N.length nc) (.slice none 0 0) W'/\q.2.length=N.length/\bnF q.2=Bq G q.1 0/\(∀k,stF q.2 k=0)/\JdF G lo bw b2 b3 b4 q1 q2 q3 q6 gm L Lg (.slice ta G.tree.length tc) (.slice ca G.cards.length cc) (.slice fa G.fails.length fc) (.slice ga G.gone.length gc) W'/\oP (flat jdC) 208 2 (fun b=>b=w9.heap.size) NoB W' (.slice ja 5 jc) (jdL b2 b3 b4 q1 q2 q3 q6)/\Chg Pb w W') (fun q=>N.length-q.1) (0,N1) (sl rfl) ⟨aoZ _,gJ,hN1,hb,hst,eJ,oj,cJ⟩ ?_;clear gJ hN1 hb hst eJ oj cJ;rintro ⟨k,N2⟩ F4 W4 ⟨hk,g,hN2,hb,hst,eJ,oj,cJ⟩;dsimp only at hk g hN2 hb hst eJ oj cJ;simp only [ql];(repeat' (first|refine qq2 ?_|refine aa2 (fun _=>?_) (fun _=>?_)))
     ·refine ah (u:=pT bw) rfl (eJ.e.h2.cell (o:=0) rfl) ?_;refine qq5 ?_;refine ah (u:=.slice (some ⟨ng,0,none⟩) N.length nc) rfl (g.b.cell (o:=0) rfl) ?_;(repeat' (refine aa1 ?_));refine dB rfl rfl (by omega) (by omega) ?_;refine qq4 ?_;refine aC (σ:=Nat×List Nb) (fun q=>[(2,pT b2),(3,pT b3),(4,pT b4),(24,.slice ja 5 jc),(25,vi k),(26,.pointer (some ⟨ng,k*9,none⟩)),(154,vi N.length),(155,vi k),(164,.slice ja 5 jc),(165,vi 5),(166,vi q.1)]) (fun q W'=>q.1<=5/\WkM (fun b=>Pb b/\ ¬(b2<=b/\b<wB.heap.size)) bw bm q.2 [] fl (.slice (some ⟨ng,0,none⟩) N.length nc) (.slice none 0 0) W'/\q.2.length=N.length/\bnF q.2=Bq G k q.1/\(∀k,stF q.2 k=0)/\JdF G lo bw b2 b3 b4 q1 q2 q3 q6 gm L Lg (.slice ta G.tree.length tc) (.slice ca G.cards.length cc) (.slice fa G.fails.length fc) (.slice ga G.gone.length gc) W'/\oP (flat jdC) 208 2 (fun b=>b=w9.heap.size) NoB W' (.slice ja 5 jc) (jdL b2 b3 b4 q1 q2 q3 q6)/\Chg Pb w W') (fun q=>5-q.1) (0,N2) ⟨rfl,rfl,rfl,rfl,rfl,by show Value.pointer (some ⟨ng,0+(k:Int).toNat*9,none⟩)=_;rw [acL,ao3],rfl,rfl,rfl,rfl,rfl,trivial⟩ ⟨aoZ _,g,hN2,hb,hst,eJ,oj,cJ⟩ ?_;clear g hN2 hb hst eJ oj cJ;rintro ⟨m,N2⟩ F5 W5 ⟨hm,g,hN2,hb,hst,eJ,oj,cJ⟩;dsimp only at hm g hN2 hb hst eJ oj cJ;simp only [ql];(repeat' (first|refine qq0 ?_|refine aa2 (fun _=>?_) (fun _=>?_)))
      ·obtain ⟨e,he⟩:=pz (jdL b2 b3 b4 q1 q2 q3 q6) (k:=m) (by show m<5;omega);obtain ⟨x,hx⟩:=pz N2 (k:=k) (by omega);have hxb:=uF hx;refine aO (oj.rd (oU _)) rfl rfl (by omega) he fun b o cs hl hR hat=>?_;obtain rfl:cs=jdC e:=hR;refine aS hat rfl rfl ?_;clear hat;refine Wl.alloc fun w5 b5 n5 s5=>?_;refine aK (new:=jdC e) b5 rfl rfl rfl rfl zl2 (Zj.oc (fun _=>True) w5 e (jdC e) rfl rfl) fun w6 b6 c6 s6=>?_;have n6:New W5 w6:=(Chg.trans n5.any c6 i3).tN
       replace b6:Bk w6 W5.heap.size 208 (jdC e):=b6;clear b5 n5 c6;refine qq2 ?_;refine ah (u:=.func (.func e.2.1) #[] e.2.2.toArray) rfl (b6.cell (o:=1) rfl) ?_;(repeat' (refine aa1 ?_));obtain ⟨he1,hcl⟩:=abp (eJ.new n6) (g.new n6) cn hok (by omega) (fun i hi=>by rw [hb];exact Zl G k m (by omega)) (k:=k) (by omega) he
       haveI:=Uf he
       refine bU (f:=e.2.1) (first:= #[]) (cap:=e.2.2.toArray) (vs:=vi k::e.2.2) rfl hcl rfl ?_;rintro _ w7 ⟨⟨y,rfl,hy⟩,n7⟩;have n67:=New.trans n6 n7;have g7:=g.new n67;have eJ7:=eJ.new n67;have oj7:=oj.new (oH _) n67;have cJ7:=Chg.trans cJ n67.any (M':=fun _=>False) fun _ _ e=>e.elim;have b7:=b6.chg n7 id;clear g eJ oj cJ n67 n6 n7 b6 hcl;have hkt:k<G.tree.length:=by omega
       have hxr:x.bn=Am G m k:=by rw [<-hxb,hb];exact Vx G hkt
       have hsame:CX (EF G k m) (m+2) (BL G k m)=EF G k m->bnF N2=Bq G k (m+1):=fun h=>by
        rw [hb,ML G hkt,Uh h];funext i;by_cases hi:i=k
        ·rw [if_pos hi,hi,Vx G hkt]
        ·rw [if_neg hi]
       cases hh:BL G k m with
       |none=>rw [show (none:Option Int).isSome=false from rfl];refine qq4 ?_;exact aA (m+1,N2) (sl rfl) ⟨by dsimp only;omega,g7,hN2,hsame (by rw [hh];unfold CX;split<;>rfl),hst,eJ7,oj7,cJ7⟩ (by dsimp only;omega)
       |some u=>
        obtain rfl:=hy u hh;rw [show (some y).isSome=true from rfl];have hat:At w7 ng (k*9) (nbC x):=g7.nd.row.at rfl rfl hx;refine qq5 ?_;refine ah (u:=.int .u8 x.bn.reason) rfl (hat.get 3 rfl) ?_;(repeat' (first|refine qq4 ?_|refine bH rfl rfl (fun _=>?_) (fun _=>?_)))
        ·have h0:x.bn.reason=0:=by omega
         have hr0:(EF G k m).1=0:=by rw [hxr] at h0;exact h0
         refine ah (u:=.int .u8 e.1) rfl (b7.cell (o:=0) rfl) ?_;refine qq5 ?_;refine eF (f:=nbC) (sz:=9) (p:=x) (q:={x with bn:={x.bn with reason:=e.1}}) (j:=k) (o:=3) (cap:=nc) (u:=.int .u8 e.1) (fun _=>rfl) (show (3:Nat)<9 by omega) rfl hx rfl g7.nd.row (by rw [hN2]) rfl rfl fun w8 o8 c8=>?_;have g8:=g7.afe hx (y:={x with bn:={x.bn with reason:=e.1}}) rfl rfl rfl o8 c8;have Zm:=(g7.nd.row.lt (k:=ng) rfl).1;have eJ8:=eJ7.row g7.nd.row (fun k e=>hlo k (g7.nd.row.lt e).1.1) c8;have oj8:=oj7.chg (oH _) c8 fun k h1 h2=>oj7.tK g7.nd.row rfl k h1 h2;have cJ8:=Chg.trans cJ7 c8 fun k _ e=>by cases e;exact Zm.1
         have hx8:(N2.set k {x with bn:={x.bn with reason:=e.1}})[k]? =some {x with bn:={x.bn with reason:=e.1}}:=by rw [apo,if_pos rfl,if_pos (by omega)]
         refine qq5 ?_;refine eF (f:=nbC) (sz:=9) (p:={x with bn:={x.bn with reason:=e.1}}) (q:={x with bn:={x.bn with reason:=e.1,why:=y}}) (j:=k) (o:=5) (cap:=nc) (u:=vi y) (fun _=>rfl) (show (5:Nat)<9 by omega) rfl hx8 rfl g8.nd.row (by rw [aqY,hN2]) rfl rfl fun w9' o9 c9=>?_;have g9:=g8.afe hx8 (y:={x with bn:={x.bn with reason:=e.1,why:=y}}) rfl rfl rfl o9 c9;have eJ9:=eJ8.row g8.nd.row (fun k e=>hlo k (g8.nd.row.lt e).1.1) c9;have oj9:=oj8.chg (oH _) c9 fun k h1 h2=>oj8.tK g8.nd.row rfl k h1 h2;have cJ9:=Chg.trans cJ8 c9 fun k _ e=>by cases e;exact Zm.1
         refine qq4 ?_;refine aA (m+1,_) (sl rfl) ⟨by dsimp only;omega,g9,by dsimp only;rw [aqY,aqY];exact hN2,?_,Og (Og hst (by rw [<-zo hx];exact hst _)) (by show x.st=0;rw [<-zo hx];exact hst _),eJ9,oj9,cJ9⟩ (by dsimp only;omega);dsimp only;rw [Oe (by rw [aqY];omega),Oe (by omega),ML G hkt];funext i;by_cases hi:i=k
         ·rw [if_pos hi,if_pos hi,hxr,he1];unfold Am;rw [show EF G k (m+1)=CX (EF G k m) (m+2) (BL G k m) from rfl,hh];unfold CX;rw [if_pos hr0]
         ·rw [if_neg hi,if_neg hi];dsimp only;rw [if_neg hi,hb]
        ·have hr0:(EF G k m).1≠0:=by
          have h0:x.bn.reason≠0:=by omega
          rw [hxr] at h0;exact h0
         exact aA (m+1,N2) (sl rfl) ⟨by dsimp only;omega,g7,hN2,hsame (by unfold CX;rw [if_neg hr0]),hst,eJ7,oj7,cJ7⟩ (by dsimp only;omega)
      ·obtain rfl:m=5:=by omega
       rw [Xo] at hb;exact aA (k+1,N2) (sl rfl) ⟨by dsimp only;omega,g,hN2,hb,hst,eJ,oj,cJ⟩ (by dsimp only;omega)
     ·obtain rfl:k=N.length:=by omega
      rw [hN,Zk] at hb;exact dh rfl ⟨_,rfl,N2,g.mono fun b _ hb=>hb.1,by omega,hb,hst,cJ⟩
end
class Wk.xE (Q:Po):Prop where
 out: ∀F w, ¬Q .outgrown F w
instance {L D:Nat} {W0:World} {I:World->Prop} {Ix:Code->World->Prop}:xE (Qrd L D W0 I Ix):=⟨Qrd.out⟩
instance {K:Fr->World->Prop}:xE (Qas K):=⟨Qas.out⟩
instance {P:Program} {n:Nat} {r:Option Nat} {b:Code} {Q:Po} [h:xE Q]:xE (Qsr P n r b Q):=⟨Qsr.out h.out⟩
instance {id:Nat} {Q:Po} [h:xE Q]:xE (qH id Q):=⟨qH.out h.out⟩
theorem gG {P:Program} {n:Nat} {r:Option Nat} {Q:Po} {F:Fr} {w:World} {a b:Code} (M:Fr->World->Prop) (h1:Wr P n r (Qas M) a F w) (h2: ∀F w,M F w->Wr P n r Q b F w):Wr P n r Q (.seq a b) F w:=by
 refine di ?_;unfold Wr at h1 ⊢;refine wpIn_mono h1 ?_;rintro e a' w' ⟨F',rfl,hq⟩;refine ⟨F',rfl,?_⟩;cases e with
 |normal=>unfold Qsr;exact h2 F' w' hq
 |_=>exact hq.elim
theorem Wk.Wd.frame {P:Program} {n:Nat} {Q:Pd} {ds:List Deferred} {c:Code} {F:Fr} {w:World} (l:List (Nat×Value)) (hF:agrees F l) (h: ∀G,Wd P n Q c ds (ql G l) w):Wd P n Q c ds F w:=by
 have:=h F
 rwa [qh hF] at this
theorem Lh {w:World}:(Instr.build 92 #[(1,vi (-1)),(2,vi (-1))]).run prog w=.ok (.agg #[.int .u8 0,vi (-1),vi (-1)]) w:=by
 kernel_rfl
theorem Lj {w:World} {s:List UInt8} {d:Bool}:(Instr.build 130 #[(0,vs s),(1,.bool d),(3,.agg #[.int .u8 0,vi (-1),vi (-1)])]).run prog w=.ok (.agg #[vs s,.bool d,.int .u8 0,.int .u8 0,vi (-1),vi (-1),.slice none 0 0,.bool false,.bool false]) w:=by
 kernel_rfl
abbrev ndV (p:Nm) (d:Bool) (lv:Int) (rs:Nat) (c:Int) (wv:Value):List Value:=[vs p,.bool d,.int .u8 lv,.int .u8 rs,vi c,vi (-1),wv,.bool false,.bool false]
theorem akh (p:Nm) (d:Bool) (lv:Int) (rs:Nat) (c:Int) {a:Option Addr} {l m:Nat}: ∀x∈ndV p d lv rs c (.slice a l m),x.oneCell'=true:=by
 intro x hx;simp at hx;rcases hx with rfl|rfl|rfl|rfl|rfl|rfl|rfl|rfl<;>rfl
theorem Wk.LLs.DW {P:Program} {β γ:Type} {f:β->List Value} {g:β->Value} {xs:β->List γ} {h:γ->Value} {te e sz:Nat} {Pb:Nat->Prop} {w w':World} {v:Value} {bs:List β} (H:LLs f g xs h te e sz Pb w v bs) {b:Nat} {T:TypeId} {cs:List Value} (hb:Bk w b T cs) (n1:aoX te T=false) (n2:aoX e T=false) (c:Chg (fun k=>k=b) w w'):LLs f g xs h te e sz Pb w' v bs:=
 ⟨H.row.chg (oH f) c fun k hk e=>H.row.pR hb n1 hk e,fun x hx=>(H.el x hx).chg (oJ h) c fun k hk e=>(H.el x hx).pR hb n2 hk e,H.wG,H.sep⟩
theorem MN {α:Type} (l:List α) (y d:α) (i:Nat):(l++ [y]).getD i d=if i=l.length then y else l.getD i d:=by
 rw [apJ,apJ];by_cases h:i=l.length
 ·rw [if_pos h,h];simp
 ·rw [if_neg h];by_cases h2:i<l.length
  ·rw [List.getElem?_append_left h2]
  ·rw [aoS (by simp;omega),aoS (by omega)]
theorem Zo (N:List Nb) (y:Nb) (i:Nat):bnF (N++ [y]) i=if i=N.length then y.bn else bnF N i:=by
 unfold bnF;rw [MN];split<;>rfl
theorem Zp (N:List Nb) (y:Nb) (i:Nat):stF (N++ [y]) i=if i=N.length then y.st else stF N i:=by
 unfold stF;rw [MN];split<;>rfl
theorem WkM.abt {Pb:Nat->Prop} {bw bm:Nat} {N:List Nb} {ord aff:List Nat} {fl:List (Nm×Int)} {nv ov ov':Value} {W W1 W':World} (g:WkM Pb bw bm N ord fl nv ov W) (od:oP (Wk.one viN) 3 1 Pb NoB W1 ov' aff) (c1:Chg (fun k=>ov.ownBlock=some k) W W1) (lie:ov'.ownBlock=ov.ownBlock∨ ∀k,ov'.ownBlock=some k->W.heap.size<=k) (b':Bk W' bw 128 [nv,ov',.map (some bm)]) (c2:Chg (fun k=>k=bw) W1 W'):WkM Pb bw bm N aff fl nv ov' W':=by
 have b1:=g.b.chg c1 fun e=>g.od.pR g.b rfl e rfl;have m1:=g.mp.chg c1 fun e=>g.od.rZ g.mp e rfl;have nd1:LLs nbC (fun x=>svV x.wv) (fun x=>x.bn.wants) viN 130 3 9 Pb W1 nv N:= ⟨g.nd.row.chg (oH nbC) c1 fun k hk e=>g.nd.row.tK g.od rfl k hk e,fun x hx=>(g.nd.el x hx).chg (oJ _) c1 fun k hk e=>g.so x hx k hk e,g.nd.wG,g.nd.sep⟩;refine ⟨b',nd1.DW (P:=prog) b1 rfl rfl c2,od.chg (oJ _) c2 fun k hk e=>od.pR b1 rfl hk e,m1.chg c2 fun e=>b1.rZ m1 e.symm,fun x hx k h1 h2=>?_,g.win,g.nl,g.fn,g.lo2⟩;rcases lie with e|e
 ·exact g.so x hx k h1 (e▸h2)
 ·have:=e k h2;have:=((g.nd.el x hx).lt h1).2;omega
def lvC (G:Giv) (c:Option Nat):Int:=match c with|some j=>(G.cards.getD j default).level|none=>0
def Zq (G:Giv) (k i:Nat):Bn:=if i<k then yL G [] i else default
section
variable {w:World} {G:Giv} {tv cv fv gv:Value} {Pg:Nat->Prop}
theorem QW (r:RdG Pg w G tv cv fv gv) (hfl: ∀x∈G.fails,x.length<=100000000) (hgl: ∀x∈G.gone,x.length<=100000000):
 Calls prog 40 #[.agg #[tv,cv,fv,gv]] w (Ret fun v w'=>(if qM G=0 then Vu G w.heap.size v w' else v=.tuple #[.pointer none,vi (qM G)])/\New w w'):=by
 obtain ⟨ta,tc,rfl,_,_⟩:=r.t.form;obtain ⟨ca,cc,rfl,_,_⟩:=r.c.form;obtain ⟨fa,fc,rfl,_,_⟩:=r.f.form;obtain ⟨ga,gc,rfl,_,_⟩:=r.g.form;refine xB func40 rfl ntmps40 rfl ?_;refine Az ?_;refine Wl.box rfl fun w1 b1 n1 s1=>?_;replace b1:Bk w1 w.heap.size 28 [.slice ta G.tree.length tc,.slice ca G.cards.length cc,.slice fa G.fails.length fc,.slice ga G.gone.length gc]:=b1;refine DF ?_;refine ah (u:=.slice ta G.tree.length tc) rfl (b1.cell (o:=0) rfl) ?_;refine au (wS (r.t.keep pU n1.keep)) rfl ?_;rintro _ w2 ⟨rfl,n2⟩;have n02:=New.trans n1 n2;have b12:=b1.chg n2 id;unfold H9;cases hok:pM G.tree with
 |false=>
  have hE:qM G=40:=by unfold qM;rw [hok];rfl
  rw [show (if false=true then (0:Int) else 40)=40 from rfl];(repeat' (first|refine aa1 ?_|refine aa7 ?_|refine ak ?_|refine dX rfl rfl ?_|refine dV ?_|refine gQ rfl ?_|refine dJ ?_|refine gU ?_|refine eU ?_|refine gX ?_|(refine aa4 (fun _=>?_) (fun _=>?_)<;>(first|(exfalso;omega)|skip))));exact dL (rO rfl (qy rfl) (qy rfl)) ⟨_,rfl,by rw [hE,if_neg (by decide)];rfl,n02⟩
 |true=>
 rw [show (if true=true then (0:Int) else 40)=0 from rfl];(repeat' (first|refine DF ?_|(refine aa4 (fun _=>?_) (fun _=>?_)<;>(first|(exfalso;omega)|skip))));refine ah (u:=.slice ca G.cards.length cc) rfl (b12.cell (o:=1) rfl) ?_;refine au (Ii (r.c.keep rG n02.keep)) rfl ?_;rintro _ w3 ⟨⟨ck,rfl⟩,n3⟩;have n03:=New.trans n02 n3;have b13:=b12.chg n3 id;unfold JP;cases hco:vG G.cards with
 |false=>
  have hE:qM G=70:=by unfold qM;rw [hok,hco];rfl
  rw [show (if false=true then (0:Int) else 70)=70 from rfl];(repeat' (first|refine aa1 ?_|refine aa7 ?_|refine ak ?_|refine dX rfl rfl ?_|refine dV ?_|refine gQ rfl ?_|refine dJ ?_|refine gU ?_|refine eU ?_|refine gX ?_|(refine aa4 (fun _=>?_) (fun _=>?_)<;>(first|(exfalso;omega)|skip))));exact dL (rO rfl (qy rfl) (qy rfl)) ⟨_,rfl,by rw [hE,if_neg (by decide)];rfl,n03⟩
 |true=>
 rw [show (if true=true then (0:Int) else 70)=0 from rfl];(repeat' (first|refine DF ?_|(refine aa4 (fun _=>?_) (fun _=>?_)<;>(first|(exfalso;omega)|skip))));refine ah (u:=.slice fa G.fails.length fc) rfl (b13.cell (o:=2) rfl) ?_;have hlo:512<G.fails.length∨512<G.gone.length->qM G=1:=fun h=>by unfold qM;rw [hok,hco,if_neg (by decide),if_neg (by decide),if_pos h]
 have hE0: ¬512<G.fails.length-> ¬512<G.gone.length->qM G=0:=fun h1 h2=>by unfold qM;rw [hok,hco,if_neg (by decide),if_neg (by decide),if_neg fun h=>h.elim h1 h2]
 (repeat' (first|refine aa1 ?_|refine aa7 ?_|refine ak ?_|refine aQ rfl rfl ?_|refine dG rfl rfl ?_|refine dN rfl (by conv=>{lhs;whnf}) ?_|refine cu rfl ?_|refine dV ?_|refine gQ rfl ?_|refine dJ ?_|refine gU ?_|refine eU ?_|refine gX ?_|refine aa5 ?_|refine aW rfl rfl (fun _=>?_) (fun _=>?_)))
 ·have hE:=hlo (.inl (by omega));exact dL (rO rfl (qy rfl) (qy rfl)) ⟨_,rfl,by rw [hE,if_neg (by decide)];rfl,n03⟩
 refine ah (u:=.slice ga G.gone.length gc) rfl (b13.cell (o:=3) rfl) ?_;(repeat' (first|refine AA ?_|refine aW rfl rfl (fun _=>?_) (fun _=>?_)))
 ·have hE:=hlo (.inr (by omega));exact dL (rO rfl (qy rfl) (qy rfl)) ⟨_,rfl,by rw [hE,if_neg (by decide)];rfl,n03⟩
 have hE:=hE0 (by omega) (by omega);clear hlo hE0;refine ah (u:=.slice fa G.fails.length fc) rfl (b13.cell (o:=2) rfl) ?_;refine au (FT (r.f.keep (pF _) n03.keep) hfl) rfl ?_;rintro _ w4 ⟨⟨bm,L,rfl,hbm,mpL,cn⟩,n4⟩;refine bJ (ps:=[(2,.tmp 48)]) (parts:=[(2,.map (some bm))]) rfl rfl (by simp [Value.cells]) ?_;refine Wl.box rfl fun w5 b5 n5 s5=>?_;replace b5:Bk w5 w4.heap.size 128 [.slice none 0 0,.slice none 0 0,.map (some bm)]:=b5;refine Wl.alloc fun w6 b6 n6 s6=>?_;refine aJ (u:=pT w4.heap.size) b6 rfl (show (0:Nat)<1 by omega) rfl rfl fun w7 b7 c7=>?_;replace b7:Bk w7 w5.heap.size 80 [pT w4.heap.size]:=b7;have n57:New w5 w7:=(Chg.trans n6.any c7 i3).tN
 have hz1:=n1.size;have hz2:=n2.size;have hz3:=n3.size;have hz4:=n4.size;have hz5:=n5.size;have acX:=n57.size;have aof:=mpL.lt;have g0:WkM (fun b=>w.heap.size<=b/\b<w5.heap.size) w4.heap.size bm [] [] L (.slice none 0 0) (.slice none 0 0) w7:= ⟨b5.chg n57 id,jk,aN,mpL.chg (New.trans n5 n57) id,by simp,by simp,by simp,⟨cn.nd,by simp⟩,⟨by omega,by have:=b5.lt;omega⟩,⟨by omega,by omega⟩⟩;have n07:=New.trans n03 (New.trans n4 (New.trans n5 n57));have b17:=b13.chg (New.trans n4 (New.trans n5 n57)) id;clear b6 n6 c7 n57 n5 b5 n4 mpL b1 b12 b13 n1 n2 n3 n02 n03;generalize hbw:w4.heap.size=bw at*;generalize hb8:w5.heap.size=b8 at*;refine AA ?_;refine ah (u:=.slice ca G.cards.length cc) rfl (b17.cell (o:=1) rfl) ?_;(repeat' (refine aa5 ?_));refine ah (u:=.slice ta G.tree.length tc) rfl (b17.cell (o:=0) rfl) ?_;refine au (PX (r.c.keep rG n07.keep) (r.t.keep pU n07.keep) hco hok) rfl ?_;rintro _ w8 ⟨⟨mv,rfl,om⟩,n8⟩;obtain ⟨ma,mc,rfl,_,_⟩:=om.form;refine DF ?_;refine Wl.alloc fun w9 b9 n9 s9=>?_;refine aJ (u:=.slice ma (allM G.cards G.tree).length mc) b9 rfl (show (0:Nat)<1 by omega) rfl rfl fun w10 b10 c10=>?_;replace b10:Bk w10 w8.heap.size 154 [.slice ma (allM G.cards G.tree).length mc]:=b10;have Ll:New w8 w10:=(Chg.trans n9.any c10 i3).tN
 generalize hb9:w8.heap.size=b9' at*;refine DF ?_;refine ah (u:=.slice ta G.tree.length tc) rfl ((b17.chg (New.trans n8 Ll) id).cell (o:=0) rfl) ?_;have n0a:=New.trans n07 (New.trans n8 Ll);refine au (GR (r.t.keep pU n0a.keep) hok) rfl ?_;rintro _ w11 ⟨⟨bq,sv,rfl,hbq,hq⟩,n11⟩;have n0b:=New.trans n0a n11;have hz8:=n8.size;have ank:=Ll.size;have Tn:=n11.size;have anl:=b17.lt;have ae8:=b7.lt;have afg:=b10.lt;have aeY:=hq.1.lt;have htl:=qo hok;have hpl:=wU G.tree;have hal:=PW G.cards G.tree;obtain ⟨D,hD⟩: ∃D,D=w11.heap.size:=⟨_,rfl⟩;have NS:=New.trans n8 (New.trans Ll n11);have b1a:=b17.chg NS id;have b8a:=b7.chg NS id;have b9a:=b10.chg n11 id;have oma:=(om.new (oH _) (New.trans Ll n11)).mono (Pb':=fun b=>b<D) (oU _) (fun b hb _=>by show b<D;omega) i3;have g0a:=(g0.new NS).mono (Pb':=fun b=>w.heap.size<=b/\b≠D/\b≠D+1/\b≠b8) fun b hb e=>⟨e.1,by have:=e.2;omega,by have:=e.2;omega,by have:=e.2;omega⟩;clear b17 b7 b10 om g0 n8 Ll n11 n07 n0a NS;let I:Nat->World->Prop:=fun k W=>New w W/\D+2<=W.heap.size/\SqW (fun b=>w10.heap.size<=b/\b<D) bq sv (qx G.tree) W/\Bk W w.heap.size 28 [.slice ta G.tree.length tc,.slice ca G.cards.length cc,.slice fa G.fails.length fc,.slice ga G.gone.length gc]/\Bk W b8 80 [pT bw]/\Bk W b9' 154 [.slice ma (allM G.cards G.tree).length mc]/\oP SI JQ 2 (fun b=>b<D) NoB W (.slice ma (allM G.cards G.tree).length mc) (allM G.cards G.tree)/\ ∃N nv,WkM (fun b=>w.heap.size<=b/\b≠D/\b≠D+1/\b≠b8) bw bm N [] L nv (.slice none 0 0) W/\N.length=k/\bnF N=Zq G k/\(∀j,stF N j=0)/\ ∀j,nv.ownBlock=some j->D<=j;refine Az ?_;refine Wd.frame [(1,pT w.heap.size),(8,pT b8),(9,pT b9'),(61,.func (.func 46) #[] #[pT bq])] ⟨rfl,rfl,rfl,rfl,trivial⟩ fun G0=>?_;simp only [ql];refine iC (gf:=46) (lb:= #[pT bq]) rfl (fun args _=>rE inferInstance args) (iter_walk (Pb:=fun b=>w10.heap.size<=b/\b<D) (bs:=bq) (v:=sv) (l:=qx G.tree)) (fun k=>rfl) I (fun _ _=>False) ?_ ?_ ?_ ?_ ?_ ?_ ?_ ?_ ?_
 ·exact fun k W h=>h.2.2.1
 ·rintro k W W' ⟨h1,h2,h3,h4,h5,h6,h7,N,nv,h8,h9⟩ n;exact ⟨h1.trans n,aru h2 n.size,h3.new n,h4.chg n id,h5.chg n id,h6.chg n id,h7.new (oH _) n,N,nv,h8.new n,h9⟩
 ·rintro k W r1 r2 ⟨h1,h2,h3,h4,h5,h6,h7,N,nv,h8,h9⟩ hL;have z:=n0b.size;have nL:NoC W (w11.heap.size+1):=.loop hL;exact ⟨h1.put _ (by omega),by simpa using h2,h3.put _ nL (by omega),h4.put _ nL,h5.put _ nL,h6.put _ nL,h7.put _ (oH _) nL,N,nv,h8.chg (Chg.putObj W _ _) (fun k hk e=>hk.2.2.1 (by omega)),h9⟩
 ·exact fun _ _ _ _ h=>h.elim
 ·intro r1;have n:=iD (w:=w11) (.deferred (some [])) (.loop r1);exact ⟨n0b.trans n,by rw [hD];simp,(hD▸hq).new n,b1a.chg n id,b8a.chg n id,b9a.chg n id,oma.new (oH _) n,[],.slice none 0 0,g0a.new n,rfl,by funext i;unfold Zq bnF;rw [if_neg (Nat.not_lt_zero i)];rfl,fun j=>rfl,fun j e=>by cases e⟩
 ·rintro k W r1 hk ⟨h1,h2,h3,h4,h5,h6,h7,N,nv,g,hN,hb,hst,hnv⟩ hL hDf;subst hD;have hkt:k<G.tree.length:=by omega
  have hgk:(qx G.tree).getD k []=pX G.tree k:=by rw [apJ,uo hkt];rfl
  show Wr _ _ _ _ _ (upd (upd _ 62 (vs ((qx G.tree).getD k []))) 63 (vi k)) W;rw [hgk];(repeat' (first|refine aa7 ?_|refine ak ?_|refine bQ ?_|refine di ?_|refine bP rfl (by repeat' (first|exact Qfn.out (by rintro _ ⟨⟨_,e⟩,_⟩;cases e)|exact Qrd.out|exact Qas.out|refine Qsr.out ?_|refine oZ.out ?_|refine Qsc.out ?_|refine qH.out ?_)) ?_));refine ⟨aB _ _,fun r'=>?_⟩;have nL:NoC W (w11.heap.size+1):=.loop hL;have hLt:=nL.lt;have z0:=n0b.size;have q1:New w (W.putObj (w11.heap.size+1) (.loop r')):=h1.put _ (by omega);have q2:w11.heap.size+2<=(W.putObj (w11.heap.size+1) (.loop r')).heap.size:=by simpa using h2
  have q3:=h3.put (.loop r') nL (by omega);have q4:=h4.put (.loop r') nL;have q5:=h5.put (.loop r') nL;have q6:=h6.put (.loop r') nL;have q7:=h7.put (.loop r') (oH _) nL;have qg:=g.chg (Chg.putObj W (w11.heap.size+1) (.loop r')) (fun k hk e=>hk.2.2.1 e);have qL:NoC (W.putObj (w11.heap.size+1) (.loop r')) (w11.heap.size+1):=.loop (World.putObj_heap_same hLt);have qD:NoC (W.putObj (w11.heap.size+1) (.loop r')) w11.heap.size:=.mark ((World.putObj_heap_other (by omega)).trans hDf);generalize W.putObj (w11.heap.size+1) (.loop r')=W3 at*;clear h1 h2 h3 h4 h5 h6 h7 g hL hDf nL hLt;have afh:=qL.lt;refine Wr.block ?_;refine gG (fun F W=>agrees F [(1,pT w.heap.size),(8,pT b8),(9,pT b9'),(11,vs (pX G.tree k)),(12,vi k),(13,.bool (onM G.tree k))]/\New W3 W) ?_ ?_
  ·(repeat' (first|refine bP rfl Wk.xE.out ?_|refine aa5 ?_));refine ah (u:=.slice ta G.tree.length tc) rfl (q4.cell (o:=0) rfl) ?_;(repeat' (refine aa1 ?_));refine au (Fb (i:=k) (r.t.keep pU q1.keep) hok hkt) rfl ?_;rintro _ W4 ⟨rfl,n4⟩;(repeat' (first|refine aa1 ?_|refine aa7 ?_|refine ak ?_|refine dX rfl rfl ?_));exact ⟨⟨rfl,rfl,rfl,rfl,rfl,rfl,trivial⟩,n4⟩
  rintro F W4 ⟨hF,n4⟩;rw [<-qh hF];simp only [ql];clear hF;refine gG (fun F W=>agrees F [(1,pT w.heap.size),(8,pT b8),(9,pT b9'),(11,vs (pX G.tree k)),(12,vi k),(13,.bool (onM G.tree k)),(15,.bool (Eh G.tree k))]/\New W4 W) ?_ ?_
  ·(repeat' (first|refine bP rfl Wk.xE.out ?_|refine aa5 ?_));refine ah (u:=.slice ta G.tree.length tc) rfl ((q4.chg n4 id).cell (o:=0) rfl) ?_;(repeat' (refine aa1 ?_));refine au (SA (i:=k) (r.t.keep pU (New.trans q1 n4).keep) hok hkt) rfl ?_;rintro _ W5 ⟨rfl,n5⟩;(repeat' (first|refine aa1 ?_|refine aa7 ?_|refine ak ?_|refine dX rfl rfl ?_));exact ⟨⟨rfl,rfl,rfl,rfl,rfl,rfl,rfl,trivial⟩,n5⟩
  rintro F W5 ⟨hF,n5⟩;rw [<-qh hF];simp only [ql];clear hF;have n35:=New.trans n4 n5;have aeT:=n35.size;refine gG (fun F W=>agrees F [(1,pT w.heap.size),(8,pT b8),(9,pT b9'),(11,vs (pX G.tree k)),(12,vi k),(13,.bool (onM G.tree k)),(17,pT W5.heap.size)]/\Bk W W5.heap.size 130 (ndV (pX G.tree k) (su G.tree k) 0 0 (-1) (.slice none 0 0))/\New W5 W) ?_ ?_
  ·have hdv:su G.tree k=(decide (0<k)&&(onM G.tree k&& !Eh G.tree k)):=rfl;obtain ⟨d,hd⟩: ∃d,su G.tree k=d:=⟨_,rfl⟩;have hd2:=hd.symm.trans hdv;rw [hd];clear hd hdv;cases hon:onM G.tree k<;>cases hpn:Eh G.tree k<;>by_cases hk0:0<k<;>rw [hon,hpn] at hd2<;>simp [hk0] at hd2<;>subst hd2<;>
   (
   (repeat' (first|refine aa1 ?_|refine aQ rfl rfl ?_|refine dG rfl rfl ?_|refine dN rfl (by conv=>{lhs;whnf}) ?_|refine aa9 ?_|refine dn rfl ?_|refine bP rfl Wk.xE.out ?_|(refine aW rfl rfl (fun _=>?_) (fun _=>?_)<;>(first|(exfalso;omega)|skip))));refine eG (ps:=[(1,.const (vi (-1))),(2,.const (vi (-1)))]) (parts:=[(1,vi (-1)),(2,vi (-1))]) rfl Lh ?_;refine eG (ps:=[(0,.tmp 78),(1,.tmp 87),(3,.tmp 88)]) (parts:=[(0,vs (pX G.tree k)),(1,.bool _),(3,.agg #[.int .u8 0,vi (-1),vi (-1)])]) rfl Lj ?_;refine Wl.alloc fun W6 b6 n6 s6=>?_;refine aK (new:=ndV (pX G.tree k) _ 0 0 (-1) (.slice none 0 0)) b6 rfl rfl rfl rfl zl9 (akh _ _ _ _ _) fun W7 b7 c7 s7=>?_;(repeat' (refine ak ?_));exact ⟨⟨rfl,rfl,rfl,rfl,rfl,rfl,rfl,trivial⟩,b7,(Chg.trans n6.any c7 i3).tN⟩)
  rintro F W6 ⟨hF,b17,n6⟩;rw [<-qh hF];simp only [ql];clear hF;refine gG (fun F W=>agrees F [(1,pT w.heap.size),(8,pT b8),(9,pT b9'),(11,vs (pX G.tree k)),(12,vi k),(13,.bool (onM G.tree k)),(17,pT W5.heap.size)]/\Bk W W5.heap.size 130 (ndV (pX G.tree k) (su G.tree k) 0 0 (qC (if su G.tree k=true then sD G.cards G.tree k else none)) (.slice none 0 0))/\New W5 W) ?_ ?_
  ·(repeat' (first|refine di ?_|refine bP rfl Wk.xE.out ?_|refine aa5 ?_));refine ah (u:=.bool (su G.tree k)) rfl (b17.cell (o:=1) rfl) ?_;cases hd:su G.tree k with
   |false=>rw [hd] at b17;(repeat' (first|refine ak ?_|refine bQ ?_|refine Wr.skip ?_|refine eP rfl ?_));exact ⟨⟨rfl,rfl,rfl,rfl,rfl,rfl,rfl,trivial⟩,b17,n6⟩
   |true=>
    rw [hd] at b17;have n36:=New.trans n35 n6;have hm0:(zQ (yD G.cards (uj G.tree k)))[0]? =some (vi (qC (sD G.cards G.tree k))):=by unfold sD;cases yD G.cards (uj G.tree k)<;>rfl
    have hme:(allM G.cards G.tree)[k]? =some (yD G.cards (uj G.tree k)):=by unfold allM;rw [apF,List.getElem?_range hkt];rfl
    (repeat' (first|refine ak ?_|refine bQ ?_|refine bP rfl Wk.xE.out ?_|refine eH rfl ?_));refine ah (u:=.slice ma (allM G.cards G.tree).length mc) rfl ((q6.chg n36 id).cell (o:=0) rfl) ?_;(repeat' (refine aa1 ?_));refine aO ((q7.new (oH _) n36).rd (oU _)) rfl rfl (by omega) hme fun b o cs hl hR hat=>?_;obtain rfl:cs=zQ _:=hR;(repeat' (refine aa5 ?_));refine ah (u:=vi (qC (sD G.cards G.tree k))) rfl (hat.get 0 hm0) ?_;clear hat;(repeat' (refine aa5 ?_));refine aJ (u:=vi (qC (sD G.cards G.tree k))) b17 rfl (show (4:Nat)<9 by omega) rfl rfl fun W7 b7 c7=>?_;(repeat' (refine ak ?_));exact ⟨⟨rfl,rfl,rfl,rfl,rfl,rfl,rfl,trivial⟩,b7,(Chg.trans n6.any c7 i3).tN⟩
  clear b17 n6;rintro F W6 ⟨hF,b17,n6⟩;rw [<-qh hF];simp only [ql];clear hF;have hcl: ∀j,(if su G.tree k=true then sD G.cards G.tree k else none)=some j->j<G.cards.length:=fun j hj=>by
   split at hj
   ·unfold sD at hj;cases hf:yD G.cards (uj G.tree k) with
    |none=>rw [hf] at hj;cases hj
    |some p=>rw [hf] at hj;cases hj;exact (Ph (i:=p.1) (k:=p.2) hf).1
   ·cases hj
  obtain ⟨c,hc⟩: ∃c,(if su G.tree k=true then sD G.cards G.tree k else none)=c:=⟨_,rfl⟩;rw [hc] at b17 hcl;refine gG (fun F W=>agrees F [(1,pT w.heap.size),(8,pT b8),(9,pT b9'),(11,vs (pX G.tree k)),(12,vi k),(13,.bool (onM G.tree k)),(17,pT W5.heap.size)]/\Bk W W5.heap.size 130 (ndV (pX G.tree k) (su G.tree k) (lvC G c) 0 (qC c) (.slice none 0 0))/\New W5 W) ?_ ?_
  ·(repeat' (first|refine di ?_|refine bP rfl Wk.xE.out ?_|refine aa5 ?_));refine ah (u:=vi (qC c)) rfl (b17.cell (o:=4) rfl) ?_;cases c with
   |none=>rw [show qC none= -1 from rfl];(repeat' (first|refine ak ?_|refine bQ ?_|refine Wr.skip ?_|refine eP rfl ?_|(refine aV rfl rfl (fun _=>?_) (fun _=>?_)<;>(first|(exfalso;omega)|skip))));exact ⟨⟨rfl,rfl,rfl,rfl,rfl,rfl,rfl,trivial⟩,b17,n6⟩
   |some j=>have hjl:=hcl j rfl;obtain ⟨x,hx⟩:=pz G.cards hjl;have n36:=New.trans n35 n6;have hkp:=(New.trans q1 n36).keep (Pb:=Pg);rw [show qC (some j)=(j:Int) from rfl];(repeat' (first|refine ak ?_|refine bQ ?_|refine bP rfl Wk.xE.out ?_|refine eH rfl ?_|refine aa5 ?_|(refine aV rfl rfl (fun _=>?_) (fun _=>?_)<;>(first|(exfalso;omega)|skip))));refine ah (u:=.slice ca G.cards.length cc) rfl ((q4.chg n36 id).cell (o:=1) rfl) ?_;(repeat' (refine aa5 ?_));refine ah (u:=vi j) rfl (b17.cell (o:=4) rfl) ?_;refine aO (r.c.keep rG hkp) rfl rfl (by omega) hx fun b o cs hl hR hat=>?_;obtain ⟨va,rfl,_⟩:=hR;(repeat' (refine aa5 ?_));refine ah (u:=.int .u8 x.level) rfl (hat.get 2 rfl) ?_;clear hat;(repeat' (refine aa5 ?_));refine aJ (u:=.int .u8 x.level) b17 rfl (show (2:Nat)<9 by omega) rfl rfl fun W7 b7 c7=>?_;(repeat' (refine ak ?_));exact ⟨⟨rfl,rfl,rfl,rfl,rfl,rfl,rfl,trivial⟩,by unfold lvC;dsimp only;rw [apJ,hx];exact b7,(Chg.trans n6.any c7 i3).tN⟩
  clear b17 n6;rintro F W6 ⟨hF,b17,n6⟩;rw [<-qh hF];simp only [ql];clear hF;refine gG (fun F W=> ∃wv:SV,agrees F [(1,pT w.heap.size),(8,pT b8),(9,pT b9'),(11,vs (pX G.tree k)),(12,vi k),(13,.bool (onM G.tree k)),(17,pT W5.heap.size)]/\Bk W W5.heap.size 130 (ndV (pX G.tree k) (su G.tree k) (lvC G c) 0 (qC c) (svV wv))/\oP (Wk.one viN) 3 1 (fun b=>W3.heap.size<=b) NoB W (svV wv) (if 0<k then [par G.tree k] else [])/\New W5 W) ?_ ?_
  ·have afi:=New.trans n35 n6;have hkp:=(New.trans q1 afi).keep (Pb:=Pg);by_cases hk0:0<k
   ·rw [if_pos hk0];have hpar:=vM hok (i:=k) (by omega) hkt;(repeat' (first|refine aa1 ?_|refine ak ?_|refine bQ ?_|refine di ?_|refine bP rfl Wk.xE.out ?_|refine eH rfl ?_|refine aa5 ?_|(refine aW rfl rfl (fun _=>?_) (fun _=>?_)<;>(first|(exfalso;omega)|skip))));refine ah (u:=.slice ta G.tree.length tc) rfl ((q4.chg afi id).cell (o:=0) rfl) ?_;(repeat' (refine aa1 ?_));refine aO (r.t.keep pU hkp) rfl rfl (by omega) (IJ hkt) fun b o cs hl hR hat=>?_;obtain ⟨pvn,rfl,_⟩:=hR;(repeat' (refine aa5 ?_));refine ah (u:=vi (par G.tree k)) rfl (by rw [<-hpar.2];exact hat.get 0 rfl) ?_;clear hat;refine bF (R:=Wk.one viN) (Pe:=NoB) (y:=par G.tree k) qQ rfl rfl rfl rfl (by omega) (by omega) fun v7 W7 o7 n7 s7 e7=>?_;obtain ⟨xa,xc,rfl,_,_⟩:=o7.form;(repeat' (refine aa5 ?_));have hz6:=n6.size;refine aJ (u:=.slice xa [par G.tree k].length xc) (b17.chg n7 id) rfl (show (6:Nat)<9 by omega) rfl rfl fun W8 b8' c8=>?_;(repeat' (refine ak ?_));exact ⟨(xa,[par G.tree k].length,xc),⟨rfl,rfl,rfl,rfl,rfl,rfl,rfl,trivial⟩,b8',(o7.chg (oJ _) c8 fun j h e=>by have h9:W6.heap.size<=j:=(o7.lt h).1;have:=b17.lt;omega).mono (pq _) (fun b _ e=>by have e:W6.heap.size<=b:=e;show W3.heap.size<=b;omega) i3,(Chg.trans (New.trans n6 n7).any c8 i3).tN⟩
   ·rw [if_neg hk0];(repeat' (first|refine aa1 ?_|refine ak ?_|refine bQ ?_|refine di ?_|refine bP rfl Wk.xE.out ?_|refine Wr.skip ?_|refine eP rfl ?_|(refine aW rfl rfl (fun _=>?_) (fun _=>?_)<;>(first|(exfalso;omega)|skip))));exact ⟨(none,0,0),⟨rfl,rfl,rfl,rfl,rfl,rfl,rfl,trivial⟩,b17,aN,n6⟩
  clear b17 n6;rintro F W6 ⟨hwv,hF,b17,owv,n6⟩;rw [<-qh hF];simp only [ql];clear hF;refine gG (fun F W=>agrees F [(1,pT w.heap.size),(8,pT b8),(9,pT b9'),(11,vs (pX G.tree k)),(12,vi k),(17,pT W5.heap.size)]/\Bk W W5.heap.size 130 (ndV (pX G.tree k) (su G.tree k) (lvC G c) (if onM G.tree k=false then 1 else 0) (qC c) (svV hwv))/\oP (Wk.one viN) 3 1 (fun b=>W3.heap.size<=b) NoB W (svV hwv) (if 0<k then [par G.tree k] else [])/\New W5 W) ?_ ?_
  ·cases hon:onM G.tree k with
   |true=>(repeat' (first|refine aa1 ?_|refine ak ?_|refine dn rfl ?_|refine bQ ?_|refine di ?_|refine bP rfl Wk.xE.out ?_|refine Wr.skip ?_|refine eP rfl ?_));exact ⟨⟨rfl,rfl,rfl,rfl,rfl,rfl,trivial⟩,b17,owv,n6⟩
   |false=>(repeat' (first|refine aa1 ?_|refine ak ?_|refine dn rfl ?_|refine bQ ?_|refine di ?_|refine bP rfl Wk.xE.out ?_|refine eH rfl ?_|refine aa5 ?_));refine aJ (u:=.int .u8 1) b17 rfl (show (3:Nat)<9 by omega) rfl rfl fun W8 b8' c8=>?_;(repeat' (refine ak ?_));exact ⟨⟨rfl,rfl,rfl,rfl,rfl,rfl,trivial⟩,b8',owv.chg (oJ _) c8 fun j h e=>owv.pR b17 rfl h e,(Chg.trans n6.any c8 i3).tN⟩
  clear b17 owv n6;rintro F W6 ⟨hF,b17,owv,n6⟩;rw [<-qh hF];simp only [ql];clear hF;have n36:=New.trans n35 n6;have aog:=n36.size;have g6:=qg.new n36;have q56:=q5.chg n36 id;obtain ⟨na,nc,rfl,_,_⟩:=g6.nd.row.form;obtain ⟨Y,hY⟩: ∃Y:Nb,Y=⟨yL G [] k,hwv,0⟩:=⟨_,rfl⟩;have hYc:nbC Y=ndV (pX G.tree k) (su G.tree k) (lvC G c) (if onM G.tree k=false then 1 else 0) (qC c) (svV hwv):=by rw [hY, <-hc];rfl
  have hYw:Y.bn.wants=if 0<k then [par G.tree k] else []:=by rw [hY];unfold yL;simp
  rw [<-hYc] at b17;rw [<-hYw] at owv;have hYv:Y.wv=hwv:=by rw [hY]
  rw [<-hYv] at owv;have Lc: ∀W',Chg (fun j=>(Value.slice na N.length nc).ownBlock=some j) W6 W'->Bk W' b8 80 [pT bw]:=fun W' c=>q56.chg c fun e=>g6.nd.row.pR q56 rfl e rfl;have abu: ∀W',Chg (fun j=>(Value.slice na N.length nc).ownBlock=some j) W6 W'->Bk W' bw 128 [.slice na N.length nc,.slice none 0 0,.map (some bm)]:=fun W' c=>g6.b.chg c fun e=>g6.nd.row.pR g6.b rfl e rfl;have afj: ∀W',Chg (fun j=>(Value.slice na N.length nc).ownBlock=some j) W6 W'->Bk W' W5.heap.size 130 (nbC Y):=fun W' c=>b17.chg c fun e=>by have:=hnv _ e;have:=(qg.nd.row.lt e).2;omega
  refine iE rfl xE.out rfl (by kernel_rfl) (fun W'=>Chg (fun j=>(Value.slice na N.length nc).ownBlock=some j) W6 W') (Chg.drew _ _) ?_;intro W7 m7;refine aa0 (ax (u:=pT bw) rfl (fun W' c=>(Lc W' c).cell (o:=0) rfl) (af ?_));refine aa0 (ax (u:=pT bw) rfl (fun W' c=>(Lc W' c).cell (o:=0) rfl) (af ?_));refine tJ ?_;refine aa0 (ax (u:=.slice na N.length nc) rfl (fun W' c=>(abu W' c).cell (o:=0) rfl) (af ?_));refine aa0 (bK (fun W' c=>(afj W' c).at) rfl rfl (af ?_));refine aH rfl (bF (R:=flat nbC) (Pe:=NoB) (y:=Y) Ze rfl rfl rfl rfl (by omega) (by omega) fun v8 W8 o8 n8 s8 e8=>?_);have m8:=New.trans m7 n8;refine ak ⟨rfl,m8.any,?_⟩;refine aH rfl (bI (R:=flat nbC) Ze (g6.nd.row.new (oH _) m8) (o8.rd (oU _)) (fun z cs hz=>hz) rfl rfl (by omega) (by simp only [maxLen,apm];omega) (by simp only [apm];omega) fun u' W9 o9 c9 lie _=>?_);have c69:Chg (fun j=>(Value.slice na N.length nc).ownBlock=some j) W6 W9:=Chg.trans m8.any c9 i3;refine ak ⟨rfl,c69,?_⟩;refine tJ ?_;obtain ⟨ua,uc,rfl,_,_⟩:=o9.form;refine Wt.last rfl (aJ (u:=.slice ua (N++ [Y]).length uc) (abu W9 c69) rfl (show (0:Nat)<3 by omega) rfl rfl fun W10 ac7 DJ=>?_);refine ak ?_;have afk:=m8.size;have akd:=c69.size;have afl:=DJ.size;have NZ:(Value.slice ua (N++ [Y]).length uc).ownBlock=(Value.slice na N.length nc).ownBlock∨ ∀k,(Value.slice ua (N++ [Y]).length uc).ownBlock=some k->W6.heap.size<=k:=lie.imp id fun h k hk=>by have:=h k hk;omega
  have KA: ∀j,(Value.slice na N.length nc).ownBlock=some j->j<W3.heap.size:=fun j e=>(qg.nd.row.lt e).2;have ab8:=g6.nd.snoc (b:=Y) (o9.mono (Pb':=fun b=>w.heap.size<=b/\b≠w11.heap.size/\b≠w11.heap.size+1/\b≠b8) (oU _) (fun b _ e=>by rcases e with e|e;exact e;exact ⟨by omega,by omega,by omega,by omega⟩) i3) c69 NZ (owv.mono (Pb':=fun b=>w.heap.size<=b/\b≠w11.heap.size/\b≠w11.heap.size+1/\b≠b8) (pq _) (fun b _ e=>by have e:W3.heap.size<=b:=e;exact ⟨by omega,by omega,by omega,by omega⟩) i3) (fun j e1 e2=>by have h9:W3.heap.size<=j:=(owv.lt e1).1;have:=KA j e2;omega) (fun x hx j e1 e2=>by have h9:W3.heap.size<=j:=(owv.lt e1).1;have:=((qg.nd.el x hx).lt e2).2;omega);have aki:=abu W9 c69;have QX:Chg (fun j=>j=bw∨(Value.slice na N.length nc).ownBlock=some j) W6 W10:=Chg.trans (c69.mono fun _ _ e=>.inr e) DJ fun _ _ e=>.inl e;have hnN:(N++ [Y]).length=k+1:=by rw [adL,apm,hN]
  have gN:WkM (fun b=>w.heap.size<=b/\b≠w11.heap.size/\b≠w11.heap.size+1/\b≠b8) bw bm (N++ [Y]) [] L (.slice ua (N++ [Y]).length uc) (.slice none 0 0) W10:=by
   refine ⟨ac7,ab8.DW (P:=prog) aki rfl rfl DJ,aN,((g6.mp.chg c69 fun e=>g6.nd.row.rZ g6.mp e rfl).chg DJ fun e=>g6.b.rZ g6.mp e.symm),fun x hx j e1 e2=>(by cases e2),fun x hx j hj=>?_,by omega,⟨g6.fn.1,fun x hx=>?_⟩,g6.lo2⟩
   ·rw [hnN];rcases List.mem_append.1 hx with hx|hx
    ·have:=g6.win x hx j hj;omega
    ·rw [List.mem_singleton.1 hx,hYw] at hj;split at hj
     ·rw [List.mem_singleton.1 hj];have:=(vM hok (i:=k) (by omega) hkt).1;omega
     ·cases hj
   ·rcases List.mem_append.1 hx with hx|hx
    ·exact g6.fn.2 x hx
    ·rw [List.mem_singleton.1 hx,hY];have:=Yt hok hkt;show (pX G.tree k).length<=1000000;omega
  have hown: ∀j,(Value.slice ua (N++ [Y]).length uc).ownBlock=some j->w11.heap.size<=j:=fun j e=>by
   rcases NZ with l1|l1
   ·exact hnv j (l1▸e)
   ·have:=l1 j e;omega
  have aoh:=g6.lo2.1;have hY0:Y.st=0:=by rw [hY]
  have hYb:Y.bn=yL G [] k:=by rw [hY]
  have qL6:NoC W6 (w11.heap.size+1):=by obtain ⟨o,h1,h2⟩:=qL;exact ⟨o,(n36.block _ (Array.getElem?_eq_some_iff.1 h1).1 id).trans h1,h2⟩
  have qD6:NoC W6 w11.heap.size:=by obtain ⟨o,h1,h2⟩:=qD;exact ⟨o,(n36.block _ (Array.getElem?_eq_some_iff.1 h1).1 id).trans h1,h2⟩
  clear afj abu Lc b17 owv o8 o9 ab8;(repeat' (refine dM ?_));refine ⟨(QX.block _ qL6.lt ?_).trans (n36.block _ qL.lt id),(QX.block _ qD6.lt ?_).trans (n36.block _ qD.lt id),Chg.trans (New.trans q1 n36) QX fun j hj e=>?_,by omega,(q3.new n36).chg QX ?_ ?_,(q4.chg n36 id).chg QX ?_,q56.chg QX ?_,(q6.chg n36 id).chg QX ?_,(q7.new (oH _) n36).chg (oH _) QX fun j h1 h2=>?_,N++ [Y],_,gN,hnN,?_,?_,hown⟩
  ·rintro (e|e)
   ·omega
   ·exact g6.nd.row.nl qL6 e rfl
  ·rintro (e|e)
   ·omega
   ·exact g6.nd.row.nl qD6 e rfl
  ·rcases e with e|e
   ·omega
   ·have:=hnv j e;omega
  ·rintro (e|e)
   ·omega
   ·have:=hnv _ e;omega
  ·rintro j hj (e|e)
   ·omega
   ·have:=hnv _ e;omega
  ·rintro (e|e)
   ·omega
   ·have:=hnv _ e;omega
  ·rintro (e|e)
   ·omega
   ·have:=hnv _ e;omega
  ·rintro (e|e)
   ·omega
   ·have:=hnv _ e;omega
  ·rcases h2 with e|e
   ·exact (q7.new (oH _) n36).pR g6.b rfl h1 e
   ·have h9:j<w11.heap.size:=(q7.lt h1).1;have:=hnv _ e;omega
  ·funext i;rw [Zo,hb,hN,hYb];unfold Zq;by_cases hi:i=k
   ·rw [if_pos hi,if_pos (by omega),hi]
   ·rw [if_neg hi];by_cases h2:i<k
    ·rw [if_pos h2,if_pos (by omega)]
    ·rw [if_neg h2,if_neg (by omega)]
  ·intro j;rw [Zp];split
   ·exact hY0
   ·exact hst j
 ·rintro W ⟨h1,h2,h3,h4,h5,h6,h7,N,nv,g,hN,hb,hst,hnv⟩ hDf;subst hD;clear h3 h6 h7 oma g0a b1a b8a b9a hq;rw [hpl] at hN hb;clear I;have z0:=n0b.size;have rW:RdG (fun b=>b<w.heap.size) W G (.slice ta G.tree.length tc) (.slice ca G.cards.length cc) (.slice fa G.fails.length fc) (.slice ga G.gone.length gc):= RdG.keep ⟨r.t.mono Ce fun b hb _=>hb,r.c.mono SG fun b hb _=>hb,r.f.mono (pq _) fun b hb _=>hb,r.g.mono (pq _) fun b hb _=>hb⟩ h1.keep rG;(repeat' (first|refine dJ ?_|refine fM ?_));refine gy ?_;refine aP ?_;(repeat' (refine aU ?_));refine ah (u:=pT bw) rfl (h5.cell (o:=0) rfl) ?_;refine bD h4 rfl rfl ?_;refine au (Ui (lo:=w.heap.size) (Pb:=fun b=>w.heap.size<=b/\b≠w11.heap.size/\b≠w11.heap.size+1/\b≠b8) (fun b hb=>hb.1) (fun b hb=>⟨by omega,by omega,by omega,by omega⟩) hok hco hgl rW g hN hb hst) rfl ?_;rintro _ W1 ⟨N1,g1,hN1,hb1,hst1,c1⟩;have h51:=h5.chg c1 fun e=>e.2.2.2 rfl;have hD1:=(c1.block _ (Array.getElem?_eq_some_iff.1 hDf).1 fun e=>e.2.1 rfl).trans hDf;have n1':New w W1:=(Chg.trans (M:=fun k=>w.heap.size<=k) h1.any c1 fun k _ e=>e.1).tN
  clear h1 h4 h5 g hb hst hnv hDf c1 rW;generalize hD0:w11.heap.size=D at*;obtain ⟨na,nc,rfl,_,_⟩:=g1.nd.row.form;have hnl:=g1.nl;refine qq2 ?_;refine ah (u:=pT bw) rfl (h51.cell (o:=0) rfl) ?_;refine qq5 ?_;refine ah (u:=.slice na N1.length nc) rfl (g1.b.cell (o:=0) rfl) ?_;refine qq6 ?_;refine aC (σ:=Nat×Value) (fun q=>[(8,pT b8),(142,.slice na N1.length nc),(143,vi N1.length),(144,vi q.1)]) (fun q W'=>q.1<=N1.length/\WkM (fun b=>w.heap.size<=b/\b≠D/\b≠D+1/\b≠b8) bw bm N1 ((abS q.1).filter fun i=>decide ((pY G i).reason=0)) L (.slice na N1.length nc) q.2 W'/\Bk W' b8 80 [pT bw]/\W'.heap[D]? =some (.deferred (some []))/\New w W') (fun q=>N1.length-q.1) (0,.slice none 0 0) (sl rfl) ⟨aoZ _,g1,h51,hD1,n1'⟩ ?_;clear g1 h51 hD1 n1';rintro ⟨k,ov⟩ G2 W2 ⟨hk,g2,h52,hD2,n2⟩;dsimp only at hk g2 h52 hD2 n2;simp only [ql];have Y8:=(Array.getElem?_eq_some_iff.1 hD2).1;obtain ⟨oa,oc,rfl,hol,aoi⟩:=g2.od.form;(repeat' (first|refine qq2 ?_|refine aa2 (fun _=>?_) (fun _=>?_)))
  ·obtain ⟨x,hx⟩:=pz N1 (k:=k) (by omega);have hxb:=uF hx;rw [hb1] at hxb;refine aO (g2.nd.row.rd (oU nbC)) rfl rfl (by omega) hx fun b o cs hl hR hat=>?_;obtain rfl:cs=nbC x:=hR;refine aS hat rfl rfl ?_;clear hat;refine Wl.alloc fun w5' b5' n5' s5'=>?_;(repeat' (refine aa7 ?_));refine aK (new:=nbC x) b5' rfl rfl rfl rfl zl9 (Zd x) fun w6' b6' c6' s6'=>?_;have n6':New W2 w6':=(Chg.trans n5'.any c6' i3).tN
   replace b6':Bk w6' W2.heap.size 130 (nbC x):=b6';clear b5' n5' c6';have g6:=g2.new n6';have h56:=h52.chg n6' id;have hz6:=n6'.size;refine qq2 ?_;refine ah (u:=.int .u8 x.bn.reason) rfl (b6'.cell (o:=3) rfl) ?_;have hnx:(abS (k+1)).filter (fun i=>decide ((pY G i).reason=0))=(abS k).filter (fun i=>decide ((pY G i).reason=0))++if x.bn.reason=0 then [k] else []:=by
    rw [arz,arF,ar0,List.filter_nil,hxb];by_cases h0:x.bn.reason=0
    ·rw [if_pos h0,if_pos (decide_eq_true h0)]
    ·rw [if_neg h0,if_neg (by rw [decide_eq_false h0];decide)]
   have hrl:((abS k).filter fun i=>decide ((pY G i).reason=0)).length<=k:=aru (arD _ _) (by rw [arE];exact aat _);(repeat' (first|refine qq3 ?_|refine bH rfl rfl (fun _=>?_) (fun _=>?_)))
   ·rw [if_pos (by omega)] at hnx;have ac8: ∀W',Chg (fun j=>(Value.slice oa ((abS k).filter fun i=>decide ((pY G i).reason=0)).length oc).ownBlock=some j) w6' W'->Bk W' b8 80 [pT bw]:=fun W' c=>h56.chg c fun e=>g6.od.pR h56 rfl e rfl;have afm: ∀W',Chg (fun j=>(Value.slice oa ((abS k).filter fun i=>decide ((pY G i).reason=0)).length oc).ownBlock=some j) w6' W'->Bk W' bw 128 [.slice na N1.length nc,.slice oa ((abS k).filter fun i=>decide ((pY G i).reason=0)).length oc,.map (some bm)]:=fun W' c=>g6.b.chg c fun e=>g6.od.pR g6.b rfl e rfl;refine aX rfl (by kernel_rfl) (fun W'=>Chg (fun j=>(Value.slice oa ((abS k).filter fun i=>decide ((pY G i).reason=0)).length oc).ownBlock=some j) w6' W') (Chg.drew _ _) ?_;intro W7 m7;refine aa0 (ax (u:=pT bw) rfl (fun W' c=>(ac8 W' c).cell (o:=0) rfl) (af ?_));refine aa0 (ax (u:=pT bw) rfl (fun W' c=>(ac8 W' c).cell (o:=0) rfl) (af ?_));refine tJ ?_;refine aa0 (ax (u:=.slice oa ((abS k).filter fun i=>decide ((pY G i).reason=0)).length oc) rfl (fun W' c=>(afm W' c).cell (o:=1) rfl) (af ?_));(repeat' (refine aa0 (aa3 (af ?_))));refine aH rfl (bF (R:=Wk.one viN) (Pe:=NoB) (y:=k) qQ rfl rfl rfl rfl (by omega) (by omega) fun v8 W8 o8 n8 s8 e8=>?_);have m8:=New.trans m7 n8;refine ak ⟨rfl,m8.any,?_⟩;refine aH rfl (bI (R:=Wk.one viN) qQ (g6.od.new (oJ _) m8) (o8.rd qQ.mo) (fun z cs hz=>hz) rfl rfl (by omega) (by simp only [maxLen,apm];omega) (by simp only [apm];omega) fun u' W9 o9 c9 lie _=>?_);have c69:Chg (fun j=>(Value.slice oa ((abS k).filter fun i=>decide ((pY G i).reason=0)).length oc).ownBlock=some j) w6' W9:=Chg.trans m8.any c9 i3;refine ak ⟨rfl,c69,?_⟩;refine tJ ?_;rw [<-hnx] at o9;obtain ⟨ua,uc,rfl,_,_⟩:=o9.form;refine Wt.last rfl (aJ (u:=.slice ua _ uc) (afm W9 c69) rfl (show (1:Nat)<3 by omega) rfl rfl fun W10 ac7 DJ=>?_);refine ak ?_;have afk:=m8.size;have gN:=g6.abt (o9.mono (Pb':=fun b=>w.heap.size<=b/\b≠D/\b≠D+1/\b≠b8) (pq _) (fun b _ e=>by rcases e with e|e;exact e;exact ⟨by omega,by omega,by omega,by omega⟩) i3) c69 (lie.imp id fun h k hk=>by have:=h k hk;omega) ac7 DJ;have akj:=ac8 W9 c69;have hDo: ∀j,(Value.slice oa ((abS k).filter fun i=>decide ((pY G i).reason=0)).length oc).ownBlock=some j->w.heap.size<=j/\j≠D:=fun j e=>⟨(g2.od.lt e).1.1,(g2.od.lt e).1.2.1⟩;have ac9:=g2.lo2.1;refine qq4 ?_;refine aA (k+1,_) (sl rfl) ⟨by dsimp only;omega,gN,akj.chg DJ fun e=>ac9.2.2.2 e.symm,?_,?_⟩ (by dsimp only;omega)
    ·rw [DJ.block _ (by have:=c69.size;omega) fun e=>ac9.2.1 e.symm,c69.block _ (by omega) fun e=>(hDo _ e).2 rfl,n6'.block _ Y8 id];exact hD2
    ·exact (Chg.trans (M:=fun k=>w.heap.size<=k) (Chg.trans (M:=fun k=>w.heap.size<=k) (New.trans n2 n6').any c69 fun k _ e=>(hDo k e).1) DJ fun k _ e=>by have:=ac9.1;omega).tN
   ·rw [if_neg (by omega),aqJ] at hnx;refine aA (k+1,_) (sl rfl) ⟨by dsimp only;omega,by rw [hnx];exact g6,h56,(n6'.block _ Y8 id).trans hD2,New.trans n2 n6'⟩ (by dsimp only;omega)
  ·obtain rfl:k=N1.length:=by omega
   have hrl:((abS N1.length).filter fun i=>decide ((pY G i).reason=0)).length<=N1.length:=aru (arD _ _) (by rw [arE];exact aat _);have hmem: ∀i∈(abS N1.length).filter (fun i=>decide ((pY G i).reason=0)),i<N1.length:=fun i hi=>List.mem_range.1 (List.mem_filter.1 hi).1;have hpt: ∀i,i<N1.length->(pY G i).path=pX G.tree i:=fun i hi=>by rw [Ak (by omega)];rfl
   refine ah (u:=pT bw) rfl (h52.cell (o:=0) rfl) ?_;refine qq5 ?_;refine ah (u:=.slice oa ((abS N1.length).filter fun i=>decide ((pY G i).reason=0)).length oc) rfl (g2.b.cell (o:=1) rfl) ?_;refine dw (f1:=[]) (c1:=[pT b8]) rfl rfl ?_;refine au (Ej (g:=63) (cb:= #[pT b8]) (lv:=fun i=>(pY G i).level) (pt:=fun i=>(pY G i).path) g2.od (fun x hx y hy e=>GI hok (by have:=hmem x hx;omega) (by have:=hmem y hy;omega) (by rw [<-hpt x (hmem x hx), <-hpt y (hmem y hy)];exact e)) (by omega) fun w' hw x hx y hy=>?_) rfl ?_
   ·refine (Xh (N:=N1) (a:=x) (c:=y) (b8:=b8) (bw:=bw) (na:=na) (nc:=nc) (mv:=.map (some bm)) hnl (g2.b.chg hw fun e=>g2.od.pR g2.b rfl e rfl) ((g2.nd.row.chg (oH nbC) hw fun k hk e=>g2.nd.row.tK g2.od rfl k hk e).rd (oU nbC)) (h52.chg hw fun e=>g2.od.pR h52 rfl e rfl) (hmem x hx) (hmem y hy)).mono ?_;rintro _ w'' ⟨_,rfl,rfl,h⟩;rw [hb1];exact ⟨rfl,h⟩
   rintro _ W3 ⟨os,c3⟩;have g3:=g2.abt os c3 (.inl rfl) (g2.b.chg c3 fun e=>g2.od.pR g2.b rfl e rfl) (aB _ _);have h53:=h52.chg c3 fun e=>g2.od.pR h52 rfl e rfl;have hD3:=(c3.block _ Y8 fun e=>(g2.od.lt e).1.2.1 rfl).trans hD2;have n3:New w W3:=(Chg.trans (M:=fun k=>w.heap.size<=k) n2.any c3 fun k _ e=>(g2.od.lt e).1.1).tN
   refine qq2 ?_;refine ah (u:=pT bw) rfl (h53.cell (o:=0) rfl) ?_;refine qq6 ?_;refine Qdn.e ?_;refine gB (by simp) hD3 ?_;refine dL (rO rfl (qy rfl) (qy rfl)) ⟨_,rfl,?_,n3.put _ (by omega)⟩;rw [if_pos hE];refine ⟨bw,bm,N1,L,.slice na N1.length nc,.slice oa ((abS N1.length).filter fun i=>decide ((pY G i).reason=0)).length oc,rfl,?_,by omega,hb1,hst1,fun s=>?_⟩
   ·have:=(g3.chg (Chg.putObj W3 D (.deferred none)) fun k hk e=>hk.2.1 e).mono (Pb':=fun b=>w.heap.size<=b) fun b _ e=>e.1;unfold qJ;rw [<-hN1];exact this
   ·cases hf:flF L s with
    |true=>obtain ⟨p,hp,e⟩:=List.any_eq_true.1 hf;have e:=(of_decide_eq_true e).1;exact (List.contains_iff_mem.2 (e▸(cn.mem p hp).2.2)).symm
    |false=>
     cases hc:G.fails.contains s with
     |false=>rfl
     |true=>obtain ⟨c,hcm⟩:=cn.all s (List.contains_iff_mem.1 hc);have h1:=(cn.mem _ hcm).1;rw [Vt cn.nd hcm,decide_eq_true (by dsimp only at h1;omega)] at hf;cases hf
 ·exact fun _ h=>h.elim
 ·exact fun _ _ h=>h.elim
end
end Go.Proofs.YtfbnfhhmiiahnaaGreatDoor
namespace Go.Proofs.YtfbnfhhmiiahnaaGreatDoor
open Go Wk
theorem Uj {N:Nat->Bn} {fl:Nm->Bool} {S S':St} {i:Nat} (h:sS N fl S i=some S'):S i=0/\S' i≠0/\ ∀k,S k≠0->S' k≠0:=by
 unfold sS at h;split at h
 ·rename_i hc
  cases h;refine ⟨hc.2.1,?_,fun k hk=>?_⟩
  ·dsimp only;rw [if_pos rfl];split<;>omega
  ·dsimp only;split
   ·split<;>omega
   ·exact hk
 ·cases h
theorem xY {N:Nat->Bn} {fl:Nm->Bool}: ∀(l:List Nat) (S:St),(∀k,S k≠0->(qi N fl l S).2 k≠0)/\ ∀j∈(qi N fl l S).1.tried,j∈l/\S j=0/\(qi N fl l S).2 j≠0
 | [],S=>⟨fun k h=>by rw [qi];exact h,fun j hj=>by rw [qi] at hj;cases hj⟩
 |i::r,S=>by
  rw [uV];by_cases h0:S i≠0
  ·rw [if_pos h0];obtain ⟨h1,h2⟩:=xY (N:=N) (fl:=fl) r S;exact ⟨h1,fun j hj=>⟨aqd _ (h2 j hj).1,(h2 j hj).2⟩⟩
  ·rw [if_neg h0];cases hl:sS N fl S i with
   |none=>obtain ⟨h1,h2⟩:=xY (N:=N) (fl:=fl) r S;exact ⟨h1,fun j hj=>⟨aqd _ (h2 j hj).1,(h2 j hj).2⟩⟩
   |some S'=>
    obtain ⟨h1,h2⟩:=xY (N:=N) (fl:=fl) r S';obtain ⟨k0,k1,k2⟩:=Uj hl;refine ⟨fun k hk=>h1 k (k2 k hk),fun j hj=>?_⟩;rcases List.mem_cons.1 hj with e|hj
    ·subst e;exact ⟨arK,k0,h1 _ k1⟩
    ·obtain ⟨a1,a2,a3⟩:=h2 j hj;refine ⟨aqd _ a1,?_,a3⟩;exact arG fun e=>k2 j e a2
theorem zB {N:Nat->Bn} {fl:Nm->Bool}: ∀(l:List Nat) (S:St),(qi N fl l S).1.tried.length+(qi N fl l S).1.waits.length<=l.length
 | [],S=>by rw [qi];simp
 |i::r,S=>by
  rw [uV];by_cases h0:S i≠0
  ·rw [if_pos h0];have:=zB (N:=N) (fl:=fl) r S;rw [aph];omega
  ·rw [if_neg h0];cases hl:sS N fl S i with
   |none=>have:=zB (N:=N) (fl:=fl) r S;simp only [aph];omega
   |some S'=>have:=zB (N:=N) (fl:=fl) r S';simp only [aph];omega
theorem Bv {N:Nat->Bn} {fl:Nm->Bool}: ∀(l:List Nat) (S:St),(∀k,S k<=2)-> ∀k,(qi N fl l S).2 k<=2
 | [],S,h,k=>by rw [qi];exact h k
 |i::r,S,h,k=>by
  rw [uV];by_cases h0:S i≠0
  ·rw [if_pos h0];exact Bv r S h k
  ·rw [if_neg h0];cases hl:sS N fl S i with
   |none=>exact Bv r S h k
   |some S'=>have:=QS (N:=N) (fl:=fl) (i:=i) h;rw [hl] at this;exact Bv r S' this k
def left0 (l:List Nat) (S:St):Nat:=(l.filter fun i=>S i == 0).length
theorem filter_lt {α:Type} {p q:α->Bool}: ∀ {l:List α},(∀x∈l,q x=true->p x=true)->(∃x∈l,p x=true/\q x=false)->(l.filter q).length<(l.filter p).length
 | [],_,h=>by obtain ⟨x,hx,_⟩:=h;cases hx
 |a::r,hs,h=>by
  have hr:(r.filter q).length<=(r.filter p).length:=by
   have:r.filter q=(r.filter p).filter q:=by
    rw [aqR];apply asi;intro x hx;cases hq:q x with
    |false=>rfl
    |true=>rw [hs x (aqd _ hx) hq];rfl
   rw [this];exact arD _ _
  obtain ⟨x,hx,hp,hq⟩:=h;rcases List.mem_cons.1 hx with e|hx
  ·subst e;rw [ar0,ar0,hp,hq];simp only [apq,if_false,if_true,aph];omega
  ·have:=filter_lt (p:=p) (q:=q) (fun y hy=>hs y (aqd _ hy)) ⟨x,hx,hp,hq⟩;rw [ar0,ar0];cases hqa:q a with
   |false=>
    simp only [apq,if_false];split
    ·simp only [aph];omega
    ·exact this
   |true=>rw [hs a arK hqa];simp only [if_true,aph];omega
theorem Uk {N:Nat->Bn} {fl:Nm->Bool} {l:List Nat} {S:St} (h:(qi N fl l S).1.tried≠ []):left0 l (qi N fl l S).2<left0 l S:=by
 obtain ⟨h1,h2⟩:=xY (N:=N) (fl:=fl) l S;obtain ⟨j,hj⟩:=asj _ h;obtain ⟨a1,a2,a3⟩:=h2 j hj;refine filter_lt (fun x _ hx=>?_) ⟨j,a1,by simpa using a2,by simpa using a3⟩;have hx:=eq_of_beq hx;exact beq_iff_eq.2 (arG fun e=>h1 x e hx)
end Go.Proofs.YtfbnfhhmiiahnaaGreatDoor
namespace Go.Proofs.YtfbnfhhmiiahnaaGreatDoor
open Go Wk
open Go.RowKit (Below)
attribute [local irreducible] Go.Calls
theorem Wk.results3 {P:Program} {n:Nat} {F:Fr} {w:World} {fn:Func} {a b c:ResultVar} {u v x:Value} (h:fn.results= #[a,b,c]) (h1:(JJ (arr n F) a).run P w=.ok u w) (h2:(JJ (arr n F) b).run P w=.ok v w) (h3:(JJ (arr n F) c).run P w=.ok x w):(results fn (arr n F)).run P w=.ok (.tuple #[u,v,x]) w:=by
 rw [Eo,h];simp [h1,h2,h3]
section
variable {Pb:Nat->Prop} {w:World} {g:Giv} {tv cv fv gv:Value}
theorem Xp (h:RdG Pb w g tv cv fv gv) (hok:pM g.tree=true)
 (hnew: ∀w',New w w'->Calls prog 40 #[.agg #[tv,cv,fv,gv]] w' (Ret fun r w''=>Vu g w'.heap.size r w''/\New w' w'')):
 Calls prog 22 #[.agg #[tv,cv,fv,gv]] w (Ret fun r w'=>QT g w.heap.size r w'/\New w w'):=by
 obtain ⟨ta,tc,rfl,_,_⟩:=h.t.form;obtain ⟨ca,cc,rfl,_,_⟩:=h.c.form;obtain ⟨fa,fc,rfl,_,_⟩:=h.f.form;obtain ⟨ga,gc,rfl,_,_⟩:=h.g.form;refine oI func22 rfl ntmps22 rfl ?_;refine qq0 ?_;refine Wl.box rfl fun w1 b1 n1 s1=>?_;replace b1:Bk w1 w.heap.size 28 [.slice ta g.tree.length tc,.slice ca g.cards.length cc,.slice fa g.fails.length fc,.slice ga g.gone.length gc]:=b1;refine Wl.alloc fun w2 b2 n2 s2=>?_;replace b2:Bk w2 w1.heap.size 34 [.slice none 0 0,.slice none 0 0,.slice none 0 0,.slice none 0 0]:=b2;refine qq1 ?_;refine bD (b1.chg n2 id) rfl rfl ?_;refine au (hnew w2 (New.trans n1 n2)) rfl ?_;rintro _ w3 ⟨⟨bw,bm,N,fl,nv,ov,rfl,gW,hN,hbn,hst,hfl⟩,n3⟩;(repeat' (first|refine qq4 ?_|(refine aa4 (fun _=>?_) (fun _=>?_)<;>(first|(exfalso;omega)|skip))));refine Wl.alloc fun w4 b7 n4 s4=>?_;replace b7:Bk w4 w3.heap.size 34 [.slice none 0 0,.slice none 0 0,.slice none 0 0,.slice none 0 0]:=b7;have hz1:=n1.size;have hz2:=n2.size;have hz3:=n3.size;have n04:=New.trans (New.trans n1 n2) (New.trans n3 n4);have b1':=b1.chg (New.trans n2 (New.trans n3 n4)) id;have b2':=b2.chg (New.trans n3 n4) id;have hb1:=b1.lt;have hb2:=b2.lt;have hb7:=b7.lt;have gW4:=(gW.mono (Pb':=fun b=>w2.heap.size<=b/\b<w3.heap.size) fun b hb e=>⟨e,hb⟩).new n4;have hol:(qJ (pY g) g.tree.length).length<=g.tree.length:=by unfold qJ;rw [ard];exact aru (arD _ _) (by rw [arE];exact aat _)
 have hin: ∀i∈qJ (pY g) g.tree.length,i<g.tree.length/\(pY g i).reason=0:=fun i hi=>by have:=List.mem_filter.1 (List.mem_mergeSort.1 hi);exact ⟨List.mem_range.1 this.1,of_decide_eq_true this.2⟩
 have htl:g.tree.length<=512:=by rw [<-hN];exact gW4.nl
 have afn:stF N=S0:=by funext i;exact hst i
 obtain ⟨DG,hDG⟩: ∃x,x=doneGo (pY g) (flF fl) (qJ (pY g) g.tree.length) (g.tree.length+1) S0:=⟨_,rfl⟩;(repeat' (first|refine ak ?_|refine aT ?_));refine aP ?_;refine Wc.block ?_
 refine aC (σ:=Nat×List Nb×List Rnd×Value) (fun q=>[(1,pT w.heap.size),(2,pT w1.heap.size),(5,pT bw),(7,pT w3.heap.size)])
  (fun q w'=>WkM (fun b=>w2.heap.size<=b/\b<w3.heap.size) bw bm q.2.1 (qJ (pY g) g.tree.length) fl nv ov w'/\q.2.1.length=g.tree.length/\bnF q.2.1=pY g/\(∀i,stF q.2.1 i<=2)/\left0 (qJ (pY g) g.tree.length) (stF q.2.1)<q.1/\q.2.2.1.length+q.1<=g.tree.length+1/\DG=(q.2.2.1++(doneGo (pY g) (flF fl) (qJ (pY g) g.tree.length) q.1 (stF q.2.1)).1,(doneGo (pY g) (flF fl) (qJ (pY g) g.tree.length) q.1 (stF q.2.1)).2)/\Bk w' w3.heap.size 34 [.slice none 0 0,q.2.2.2,.slice none 0 0,.slice none 0 0]/\oP rRd 122 2 (fun b=>w4.heap.size<=b) (fun b=>w4.heap.size<=b) w' q.2.2.2 q.2.2.1/\Bk w' w.heap.size 28 [.slice ta g.tree.length tc,.slice ca g.cards.length cc,.slice fa g.fails.length fc,.slice ga g.gone.length gc]/\Bk w' w1.heap.size 34 [.slice none 0 0,.slice none 0 0,.slice none 0 0,.slice none 0 0]/\w4.heap.size<=w'.heap.size/\New w w') (fun q=>q.1)
  (g.tree.length+1,N,[],.slice none 0 0) (sl rfl) ⟨gW4,hN,hbn,fun i=>by rw [hst i];omega,by have:left0 (qJ (pY g) g.tree.length) (stF N)<=(qJ (pY g) g.tree.length).length:=arD _ _;show left0 (qJ (pY g) g.tree.length) (stF N)<g.tree.length+1;omega,by simp,by rw [hDG,afn];rfl,b7,aN,b1',b2',aat _,n04⟩ ?_
 clear gW4 gW b7 b1' b2' hst afn n04 hN hbn;rintro ⟨f,N1,acc,bv⟩ G w5 ⟨g5,hN,hbn,hst,hlf,hal,hgo,b7,ob,b1',b2',hz5,n05⟩;dsimp only at g5 hN hbn hst hlf hal hgo b7 ob b1' b2' hz5 n05;simp only [ql];obtain ⟨f,rfl⟩: ∃k,f=k+1:=⟨f-1,by omega⟩;rw [CV] at hgo;obtain ⟨ba,bc,rfl,_,_⟩:=ob.form;refine qq0 ?_;refine au (TV g5 (fun i hi=>by rw [hN,hbn];exact hin i hi) hst (by omega)) rfl ?_;rintro _ w6 ⟨N2,tr,wr,rfl,g6,hl6,hb6,hs6,ot,ow,c6⟩;rw [hbn] at hs6 ot ow;have n56:New w w6:=Chg.trans n05 c6 fun k hk e=>by have h1:=(g5.nd.row.lt e).1.1;omega
 have hnv: ∀k,nv.ownBlock=some k->w2.heap.size<=k/\k<w3.heap.size:=fun k e=>(g5.nd.row.lt e).1;have b76:=b7.chg c6 fun e=>by have:=hnv _ e;omega
 have b16:=b1'.chg c6 fun e=>by have:=hnv _ e;omega
 have b26:=b2'.chg c6 fun e=>by have:=hnv _ e;omega
 have ob6:=ob.xA ED c6 (fun k hk e=>by have h9:w4.heap.size<=k:=(ob.lt hk).1;have:=hnv _ e;omega) (fun k hk _ e=>by have h9:w4.heap.size<=k:=hk;have:=hnv _ e;omega);have ada: ∀k,(Value.slice ba acc.length bc).ownBlock=some k->k<w5.heap.size:=fun k hk=>(ob.lt hk).2;have hz6:=c6.size;clear g5 b7 b1' b2' ob n05 c6;have hrl:=zB (N:=pY g) (fl:=flF fl) (qJ (pY g) g.tree.length) (stF N1);have hle:=Bv (N:=pY g) (fl:=flF fl) (qJ (pY g) g.tree.length) (stF N1) hst;have hrs:=Uk (N:=pY g) (fl:=flF fl) (l:=qJ (pY g) g.tree.length) (S:=stF N1);rw [<-hs6] at hgo hrs hle;generalize hR:(qi (pY g) (flF fl) (qJ (pY g) g.tree.length) (stF N1)).1=R at*;obtain ⟨ra,rc,rfl,_,_⟩:=ot.form;obtain ⟨ua,uc,rfl,_,_⟩:=ow.form;refine Wl.alloc fun w7 b8 n7 s7=>?_;refine aK (new:=[.slice ra R.tried.length rc,.slice ua R.waits.length uc]) b8 rfl rfl rfl rfl zl2 (by intro c hc;simp at hc;rcases hc with rfl|rfl<;>rfl) fun w8 b8' c8 s8=>?_;replace b8':Bk w8 w6.heap.size 122 [.slice ra R.tried.length rc,.slice ua R.waits.length uc]:=b8';have n68:New w6 w8:=(Chg.trans n7.any c8 i3).tN
 clear b8 n7 c8;(repeat' (first|refine ak ?_|refine aT ?_));have hz8:=n68.size;have g8:=g6.new n68;have b78:=b76.chg n68 id;have b18:=b16.chg n68 id;have b28:=b26.chg n68 id;have ob8:=ob6.xA ED n68 i3 (fun _ _ _ e=>e);have ot8:=ot.new (oJ _) n68;have ow8:=ow.new (oH wtC) n68;have n08:=New.trans n56 n68;clear g6 b76 b16 b26 ob6 ot ow n56 n68;refine eX (fun F W=> ∃bv',agrees F [(1,pT w.heap.size),(2,pT w1.heap.size),(5,pT bw),(7,pT w3.heap.size),(8,pT w6.heap.size)]/\WkM (fun b=>w2.heap.size<=b/\b<w3.heap.size) bw bm N2 (qJ (pY g) g.tree.length) fl nv ov W/\Bk W w6.heap.size 122 [.slice ra R.tried.length rc,.slice ua R.waits.length uc]/\Bk W w3.heap.size 34 [.slice none 0 0,bv',.slice none 0 0,.slice none 0 0]/\oP rRd 122 2 (fun b=>w4.heap.size<=b) (fun b=>w4.heap.size<=b) W bv' (acc++if R.tried=[]/\R.waits=[] then [] else [R])/\Bk W w.heap.size 28 [.slice ta g.tree.length tc,.slice ca g.cards.length cc,.slice fa g.fails.length fc,.slice ga g.gone.length gc]/\Bk W w1.heap.size 34 [.slice none 0 0,.slice none 0 0,.slice none 0 0,.slice none 0 0]/\w4.heap.size<=W.heap.size/\New w W) ?_ ?_
 ·(repeat' (first|refine aP ?_|refine aU ?_|refine aa5 ?_));refine ah (u:=.slice ra R.tried.length rc) rfl (b8'.cell (o:=0) rfl) ?_;(repeat' (first|refine cu rfl ?_|refine aa5 ?_));refine ah (u:=.slice ua R.waits.length uc) rfl (b8'.cell (o:=1) rfl) ?_;(repeat' (first|refine ak ?_|refine cu rfl ?_|refine aT ?_|refine aU ?_|refine Wc.skip ?_|refine bT rfl ?_|refine dm rfl ?_|refine aa5 ?_|refine Wl.add rfl rfl (by omega) (by omega) ?_|refine aW rfl rfl (fun _=>?_) (fun _=>?_)))
  ·have hne: ¬(R.tried=[]/\R.waits=[]):=fun e=>by have e1:=congrArg aq0 e.1;have e2:=congrArg aq0 e.2;simp only [apK] at e1 e2;omega
   refine ah (u:=.slice ba acc.length bc) rfl (b78.cell (o:=1) rfl) ?_;refine bD b8' rfl rfl ?_;refine bZ (R:=rRd) (y:=R) ED ob8 rfl rfl rfl rfl ⟨_,_,rfl,ot8.mono (pq _) (fun b hb e=>?_) i3,ow8.mono (oU wtC) (fun b hb e=>?_) i3⟩ (by omega) (by omega) (by simp only [maxLen];omega) (by omega) rfl rfl fun v9 w9 p o9 c9 lie=>?_
   ·have h9:w5.heap.size<=b:=e;exact ⟨by omega,fun h=>by have:=ada b h;omega⟩
   ·have h9:w5.heap.size<=b:=e;exact ⟨by omega,fun h=>by have:=ada b h;omega⟩
   have hz9:=c9.size;have hab: ∀k,(Value.slice ba acc.length bc).ownBlock=some k->w4.heap.size<=k:=fun k hk=>(ob8.lt hk).1;have b79:=b78.chg c9 fun e=>by have:=hab _ e;omega
   (repeat' (refine aa5 ?_));refine aJ (u:=v9) b79 rfl (show (1:Nat)<4 by omega) rfl (by obtain ⟨_,_,rfl,_⟩:=o9.form;rfl) fun w10 b10 c10=>?_;have YO:=c10.size;refine DY ?_;refine cO ⟨v9,⟨rfl,rfl,rfl,rfl,rfl,trivial⟩,(g8.chg c9 fun k hk e=>by have:=hab k e;have:=hk.2;omega).chg c10 (fun k hk e=>by have:=hk.2;omega),(b8'.chg c9 fun e=>by have:=ada _ e;omega).chg c10 (fun e=>by omega),b10,?_,(b18.chg c9 fun e=>by have:=hab _ e;omega).chg c10 (fun e=>by omega),(b28.chg c9 fun e=>by have:=hab _ e;omega).chg c10 (fun e=>by omega),by omega,(Chg.trans (Chg.trans (M:=fun k=>w4.heap.size<=k∨k=w3.heap.size) n08.any c9 fun k _ e=>.inl (hab k e)) c10 fun k _ e=>.inr e).tN⟩;rw [if_neg hne];exact (o9.mono Ob (fun b _ e=>by rcases e with e|e;exact e;omega) i3).xA ED c10 (fun k hk e=>by rcases (o9.lt hk).1 with h|h<;>omega) (fun k hk _ e=>by have h9:w4.heap.size<=k:=hk;omega)
  ·have h1:R.tried=[]:=List.length_eq_zero_iff.1 (by omega);have h2:R.waits=[]:=List.length_eq_zero_iff.1 (by omega);exact cO ⟨_,⟨rfl,rfl,rfl,rfl,rfl,trivial⟩,g8,b8',b78,by rw [if_pos ⟨h1,h2⟩,aqJ];exact ob8,b18,b28,by omega,n08⟩
 ·rintro F W ⟨bv',hF,gW,b8,b7,ob',b1',b2',hzW,nW⟩;rw [<-qh hF];simp only [ql];clear hF;refine qq4 ?_;refine ah (u:=.slice ra R.tried.length rc) rfl (b8.cell (o:=0) rfl) ?_;(repeat' (first|refine qq3 ?_|refine bH rfl rfl (fun _=>?_) (fun _=>?_)))
  ·have hR0:R.tried=[]:=List.length_eq_zero_iff.1 (by omega);rw [if_pos hR0] at hgo;refine au (Xg gW) rfl ?_;rintro rv w11 ⟨orw,n11⟩;have Tn:=n11.size;have orv: ∃a c,rv=.slice a (rowsOf (bnF N2) (stF N2) N2.length).length c:=by obtain ⟨a,c,e,_⟩:=orw.form;exact ⟨a,c,e⟩
   obtain ⟨rwa,rwc,rfl⟩:=orv;(repeat' (refine aa5 ?_));refine aJ (u:=.slice rwa (rowsOf (bnF N2) (stF N2) N2.length).length rwc) (b7.chg n11 id) rfl (show (0:Nat)<4 by omega) rfl rfl fun w12 b12 c12=>?_;have YP:=c12.size;have g12:=(gW.new n11).chg c12 fun k hk e=>by have:=hk.2;omega
   have hN2:N2.length=g.tree.length:=by omega
   obtain ⟨na,nc,rfl,_,_⟩:=g12.nd.row.form;refine qq4 ?_;refine ah (u:=.slice na N2.length nc) rfl (g12.b.cell (o:=0) rfl) ?_;(repeat' (refine cu rfl ?_));refine fF (f:=vbo) (y0:=false) (Pe:=NoB) rfl rfl rfl (by omega) (by omega) (by omega) fun dv w13 o13 n13=>?_;rw [ao3] at o13;have adb:=n13.size;have g13:=g12.new n13;have afo:oP (Wk.one vbo) 4 1 (fun b=>w12.heap.size<=b) NoB w13 dv (apW N2.length false):=o13;obtain ⟨da,dc,hdv,_,_⟩:=afo.form;rw [arC] at hdv;subst hdv;refine qq4 ?_;refine ah (u:=.slice na N2.length nc) rfl (g13.b.cell (o:=0) rfl) ?_;refine qq6 ?_;refine aC (σ:=Nat×List Bool) (fun q=>[(1,pT w.heap.size),(2,pT w1.heap.size),(5,pT bw),(7,pT w3.heap.size),(9,.slice da N2.length dc),(53,.slice na N2.length nc),(54,vi N2.length),(55,vi q.1)]) (fun q W'=>q.1<=N2.length/\q.2.length=N2.length/\(∀k,k<q.1->q.2[k]? =some (stF N2 k == 1))/\oP (Wk.one vbo) 4 1 (fun b=>w12.heap.size<=b) NoB W' (.slice da N2.length dc) q.2/\Chg (fun k=>(Value.slice da N2.length dc).ownBlock=some k) w13 W') (fun q=>N2.length-q.1) (0,apW N2.length false) (sl rfl) ⟨aoZ _,by simp,fun k hk=>by omega,afo,aB _ _⟩ ?_;rintro ⟨k,B⟩ G2 w14 ⟨hk,hBl,hB,oB,c14⟩;dsimp only at hk hBl hB oB c14;simp only [ql];have hdb: ∀j,(Value.slice da N2.length dc).ownBlock=some j->w12.heap.size<=j:=fun j e=>(oB.lt e).1;have g14:=g13.chg c14 fun j hj e=>by have:=hdb j e;have:=hj.2;omega
   (repeat' (first|refine qq2 ?_|refine aa2 (fun _=>?_) (fun _=>?_)))
   ·obtain ⟨x,hx⟩:=pz N2 (k:=k) (by omega);have hne:B≠ []:=by intro e;rw [e] at hBl;simp at hBl;omega
    obtain ⟨dg,dc',hde,_,aoj,_⟩:=oB.blk hne;rw [hBl] at hde;cases hde;refine aO (g14.nd.row.rd (oU nbC)) rfl rfl (by omega) hx fun b o cs hl hR hat=>?_;obtain rfl:cs=nbC x:=hR;refine aS hat rfl rfl ?_;clear hat;refine Wl.alloc fun w15 b5 n15 s15=>?_;(repeat' (refine aa7 ?_));refine aK (new:=nbC x) b5 rfl rfl rfl rfl zl9 (Zd x) fun w16 b5' c16 s16=>?_;replace b5':Bk w16 w14.heap.size 130 (nbC x):=b5';have afp:New w14 w16:=(Chg.trans n15.any c16 i3).tN
    clear b5 n15 c16;refine qq2 ?_;refine ah (u:=.bool (x.st == 1)) rfl (b5'.cell (o:=7) rfl) ?_;refine dB rfl rfl (by omega) (by omega) ?_;refine dR (f:=vbo) (q:=(x.st == 1)) (j:=k) (cap:=dc) (oB.new (oJ _) afp) (by rw [hBl]) (by omega) (by show Value.pointer (some ⟨dg,0+(k:Int).toNat*1,none⟩)=_;simp) rfl rfl rfl fun w17 o17 c17=>?_;refine qq4 ?_;refine aA (k+1,B.set k (x.st == 1)) (sl rfl) ⟨by dsimp only;omega,by dsimp only;rw [aqY];exact hBl,fun j hj=>?_,o17,Chg.trans (Chg.trans c14 afp.any i3) c17 i3⟩ (by dsimp only;omega);dsimp only at hj ⊢;rw [apo];by_cases e:k=j
    ·subst e;rw [if_pos rfl,if_pos (by omega),zo hx]
    ·rw [if_neg e];exact hB j (by omega)
   ·obtain rfl:k=N2.length:=by omega
    have aok:w.heap.size<=w2.heap.size:=by omega
    have afq:New w w14:=(Chg.trans (Chg.trans (Chg.trans (M:=fun k=>k=w3.heap.size∨w12.heap.size<=k) (New.trans nW n11).any c12 fun k _ e=>.inl e) n13.any i3) c14 fun k _ e=>.inr (hdb k e)).tN
    have hWn:w3.heap.size<W.heap.size:=by omega
    have b1e:=((((b1'.chg n11 id).chg c12 fun e=>by omega).chg n13 id).chg c14 fun e=>by have:=hdb _ e;omega);refine ah (u:=.slice ta g.tree.length tc) rfl (b1e.cell (o:=0) rfl) ?_;(repeat' (refine aa1 ?_));have hBt: ∀k,thM B k=(stF N2 k == 1):=fun k=>by
     unfold thM;by_cases hk:k<N2.length
     ·rw [hB k hk];rfl
     ·rw [aoS (by omega)];unfold stF;rw [apJ,aoS (by omega)];rfl
    refine au (Xd (h.t.keep pU afq.keep) (oB.rd GU.mo) hok (by omega)) rfl ?_;rintro _ w18 ⟨⟨q1,q2,rfl,hq1,hq2⟩,n18⟩;obtain ⟨qa,qc,rfl,_,_⟩:=hq1.form;obtain ⟨ra2,rc2,rfl,_,_⟩:=hq2.form;have aeM:=c14.size;have b7e:=((b12.chg n13 id).chg c14 fun e=>by have:=hdb _ e;omega).chg n18 id;refine qq5 ?_;refine aJ (u:=.slice qa _ qc) b7e rfl (show (2:Nat)<4 by omega) rfl rfl fun w19 b19 c19=>?_;(repeat' (refine aa5 ?_));refine aJ (u:=.slice ra2 _ rc2) b19 rfl (show (3:Nat)<4 by omega) rfl rfl fun w20 b20 c20=>?_;refine qq2 ?_;refine bD b20 rfl rfl ?_;have b2e:=((((((b2'.chg n11 id).chg c12 fun e=>by omega).chg n13 id).chg c14 fun e=>by have:=hdb _ e;omega).chg n18 id).chg c19 fun e=>by omega).chg c20 fun e=>by omega
    (repeat' (refine aa1 ?_));refine aK (new:=[.slice rwa (rowsOf (bnF N2) (stF N2) N2.length).length rwc,bv',.slice qa _ qc,.slice ra2 _ rc2]) b2e rfl rfl rfl rfl zl4 (by obtain ⟨_,_,rfl,_,_⟩:=ob'.form;intro c hc;simp at hc;rcases hc with rfl|rfl|rfl|rfl<;>rfl) fun w21 b21 c21 s21=>?_;have anm:=n13.size;have aol:=n18.size;have c18:Chg (fun k=>k=w3.heap.size∨k=w1.heap.size) w18 w21:=Chg.trans (Chg.trans (c19.mono fun k _ e=>.inl e) c20 fun k _ e=>.inl e) c21 fun k _ e=>.inr e;have afr:Chg (fun k=>k=w3.heap.size∨k=w1.heap.size∨w12.heap.size<=k) w11 w14:=Chg.trans (Chg.trans (c12.mono fun k _ e=>.inl e) n13.any fun k _ e=>e) c14 fun k _ e=>.inr (.inr (hdb k e));have c11:Chg (fun k=>k=w3.heap.size∨k=w1.heap.size∨w12.heap.size<=k) w11 w21:=Chg.trans (Chg.trans afr n18.any fun k _ e=>e) c18 fun k _ e=>e.elim .inl fun e=>.inr (.inl e);have cW:Chg (fun k=>k=w3.heap.size∨k=w1.heap.size) W w21:=Chg.trans n11.any c11 fun k hk e=>by rcases e with e|e|e;exact .inl e;exact .inr e;omega
    have akk:flF fl=g.fails.contains:=funext hfl;have hDM:wL (pY g) g.fails.contains g.tree.length=DG:=by rw [<-akk,hDG];rfl
    have afs:bnF N2=pY g:=hb6.trans hbn;have hth:(fun k=>(wL (pY g) g.fails.contains g.tree.length).2 k == 1)=thM B:=funext fun k=>by rw [hBt k,hDM,hgo]
    have hrw:rowsOf (pY g) (wL (pY g) g.fails.contains g.tree.length).2 g.tree.length=rowsOf (bnF N2) (stF N2) N2.length:=by rw [hDM,hgo,afs,hN2]
    have ex: ∀k,(fun b=>w14.heap.size<=b) k-> ¬(k=w3.heap.size∨k=w1.heap.size):=fun k hk e=>by have hk:w14.heap.size<=k:=hk;omega
    refine qq6 ?_;refine eY (results3 rfl (rY rfl rfl b21 rfl) (qy rfl) (qy rfl)) ⟨_,rfl,⟨_,_,_,_,bw,bm,N2,fl,.slice na N2.length nc,ov,rfl,⟨?_,?_,?_,?_⟩,?_,hN2,afs,fun i _=>by rw [hDM,hgo],hfl⟩,?_⟩
    ·rw [hrw];exact (orw.chg (oH rwC) c11 fun k hk e=>by have h9:=orw.lt hk;have:W.heap.size<=k:=h9.1;omega).mono (oU rwC) (fun b _ e=>by have e:W.heap.size<=b:=e;show w.heap.size<=b;omega) i3
    ·rw [hDM,hgo];exact (ob'.xA ED cW (fun k hk e=>by have h9:w4.heap.size<=k:=(ob'.lt hk).1;omega) (fun k hk _ e=>by have h9:w4.heap.size<=k:=hk;omega)).mono Ob (fun b _ e=>by have e:w4.heap.size<=b:=e;show w.heap.size<=b;omega) (fun b _ e=>by have e:w4.heap.size<=b:=e;show w.heap.size<=b;omega)
    ·rw [hth];exact (hq1.keep tZ (c18.keep fun b _ hb=>ex b hb)).mono rH fun b _ e=>by have e:w14.heap.size<=b:=e;show w.heap.size<=b;omega
    ·rw [hth];exact (hq2.keep tZ (c18.keep fun b _ hb=>ex b hb)).mono rH fun b _ e=>by have e:w14.heap.size<=b:=e;show w.heap.size<=b;omega
    ·exact ((g14.new n18).chg c18 fun k hk e=>by have:=hk.1;have:=hk.2;omega).mono fun b _ e=>by have:=e.1;show w.heap.size<=b;omega
    ·exact (Chg.trans (M:=fun k=>w.heap.size<=k) (New.trans afq n18).any c18 fun k _ e=>by omega).tN
  ·have hR1:R.tried≠ []:=fun e=>by have:=congrArg aq0 e;simp only [apK] at this;omega
   rw [if_neg hR1] at hgo;have aom:=hrs hR1;refine aA (f,N2,acc++(if R.tried=[]/\R.waits=[] then [] else [R]),_) (sl rfl) ⟨gW,by dsimp only;omega,hb6.trans hbn,hle,by dsimp only;omega,?_,?_,b7,ob',b1',b2',hzW,nW⟩ (by dsimp only;omega)
   ·dsimp only;rw [adL];split
    ·rw [apK];omega
    ·rw [apm];omega
   ·dsimp only;rw [hgo,adI]
end
structure Ul (g:Giv):Prop where
 f: ∀x∈g.fails,x.length<=100000000
 g: ∀x∈g.gone,x.length<=100000000
noncomputable abbrev wE (g:Giv):List Rnd×St:=wL (pY g) g.fails.contains g.tree.length
noncomputable abbrev Ir (g:Giv):List Rws:=rowsOf (pY g) (wE g).2 g.tree.length
noncomputable abbrev sZ (g:Giv):List Ed×List Ed:=Kr g.tree fun k=>(wE g).2 k == 1
abbrev IX:List Value:=[.slice none 0 0,.slice none 0 0,.slice none 0 0,.slice none 0 0]
theorem Zr: ∀c∈IX,c.oneCell'=true:=by
 intro c hc;simp at hc;rw [hc];rfl
theorem Lm {w:World}:(Instr.build 34 #[]).run prog w=.ok (.agg IX.toArray) w:=by
 kernel_rfl
section
variable {Pb:Nat->Prop} {w:World} {g:Giv} {tv cv fv gv:Value}
theorem Zt (h:RdG Pb w g tv cv fv gv) (sh:Ul g) (he:qM g≠0):
 Calls prog 22 #[.agg #[tv,cv,fv,gv]] w (Ret fun r w'=>r=.tuple #[.agg IX.toArray,.pointer none,vi (qM g)]/\New w w'):=by
 obtain ⟨ta,tc,rfl,_,_⟩:=h.t.form;obtain ⟨ca,cc,rfl,_,_⟩:=h.c.form;obtain ⟨fa,fc,rfl,_,_⟩:=h.f.form;obtain ⟨ga,gc,rfl,_,_⟩:=h.g.form;refine oI func22 rfl ntmps22 rfl ?_;refine qq0 ?_;refine Wl.box rfl fun w1 b1 n1 s1=>?_;replace b1:Bk w1 w.heap.size 28 [.slice ta g.tree.length tc,.slice ca g.cards.length cc,.slice fa g.fails.length fc,.slice ga g.gone.length gc]:=b1;refine Wl.alloc fun w2 b2 n2 s2=>?_;replace b2:Bk w2 w1.heap.size 34 IX:=b2;have n02:=New.trans n1 n2;refine qq1 ?_;refine bD (b1.chg n2 id) rfl rfl ?_;refine au (QW (h.keep n02.keep rG) sh.f sh.g) rfl ?_;rintro _ w3 ⟨hr,n3⟩;rw [if_neg he] at hr;subst hr;have hz1:=n1.size;(repeat' (first|refine qq5 ?_|(refine aa4 (fun _=>?_) (fun _=>?_)<;>(first|(exfalso;omega)|skip))));refine eG (ps:=[]) (parts:=[]) rfl Lm ?_;(repeat' (refine aa1 ?_));refine aK (new:=IX) (b2.chg n3 id) rfl rfl rfl rfl zl4 Zr fun w4 b4 c4 s4=>?_;refine qq6 ?_;exact eY (results3 rfl (rY rfl rfl b4 rfl) (qy rfl) (qy rfl)) ⟨_,rfl,rfl,(Chg.trans (M:=fun k=>k=w1.heap.size) (New.trans n02 n3).any c4 fun k _ e=>e).tN⟩
theorem Xq (h:RdG Pb w g tv cv fv gv) (sh:Ul g):
 Calls prog 22 #[.agg #[tv,cv,fv,gv]] w (Ret fun r w'=>(if qM g=0 then QT g w.heap.size r w' else r=.tuple #[.agg IX.toArray,.pointer none,vi (qM g)])/\New w w'):=by
 by_cases he:qM g=0
 ·refine (Xp h (zq.1 he).1 fun w' n=>?_).mono ?_
  ·refine (QW (h.keep n.keep rG) sh.f sh.g).mono ?_;rintro _ w'' ⟨r,rfl,h1,h2⟩;rw [if_pos he] at h1;exact ⟨r,rfl,h1,h2⟩
  ·rintro _ w'' ⟨r,rfl,h1,h2⟩;exact ⟨r,rfl,by rw [if_pos he];exact h1,h2⟩
 ·refine (Zt h sh he).mono ?_;rintro _ w'' ⟨r,rfl,h1,h2⟩;exact ⟨r,rfl,by rw [if_neg he];exact h1,h2⟩
def CY (g:Giv) (lo:Nat) (r:Value) (w':World):Prop:=
 if qM g=0 then ∃a b c d,r=.tuple #[.agg #[a,b,c,d],vi 0]/\RdR (fun b=>lo<=b) w' (Ir g) (wE g).1 (sZ g).1 (sZ g).2 a b c d
 else r=.tuple #[.agg IX.toArray,vi (qM g)]
theorem RdR.form {Pb:Nat->Prop} {w:World} {rw:List Rws} {rs:List Rnd} {us ds:List Ed} {a b c d:Value} (h:RdR Pb w rw rs us ds a b c d):(∃p q,a=.slice p rw.length q)/\(∃p q,b=.slice p rs.length q)/\(∃p q,c=.slice p us.length q)/\ ∃p q,d=.slice p ds.length q:=by
 obtain ⟨p1,q1,e1,_⟩:=h.rows.form;obtain ⟨p2,q2,e2,_⟩:=h.rounds.form;obtain ⟨p3,q3,e3,_⟩:=h.used.form;obtain ⟨p4,q4,e4,_⟩:=h.drop.form;exact ⟨⟨_,_,e1⟩,⟨_,_,e2⟩,⟨_,_,e3⟩,⟨_,_,e4⟩⟩
theorem RdR.new {Pb:Nat->Prop} {w w':World} {rw:List Rws} {rs:List Rnd} {us ds:List Ed} {a b c d:Value} (h:RdR Pb w rw rs us ds a b c d) (n:New w w'):RdR Pb w' rw rs us ds a b c d:=
 ⟨h.rows.new (oH _) n,h.rounds.xA ED n i3 (fun _ _ _ e=>e),h.used.keep tZ n.keep,h.drop.keep tZ n.keep⟩
theorem RdR.mono {Pb Pb':Nat->Prop} {w:World} {rw:List Rws} {rs:List Rnd} {us ds:List Ed} {a b c d:Value} (h:RdR Pb w rw rs us ds a b c d) (hP: ∀b,b<w.heap.size->Pb b->Pb' b):RdR Pb' w rw rs us ds a b c d:=
 ⟨h.rows.mono (oU _) hP i3,h.rounds.mono Ob hP hP,h.used.mono rH hP,h.drop.mono rH hP⟩
theorem RdR.chg {Pb M:Nat->Prop} {w w':World} {rw:List Rws} {rs:List Rnd} {us ds:List Ed} {a b c d:Value} (h:RdR Pb w rw rs us ds a b c d) (n:Chg M w w') (hd: ∀k,Pb k-> ¬M k):RdR Pb w' rw rs us ds a b c d:=
 ⟨h.rows.chg (oH _) n fun k hk=>hd k (h.rows.lt hk).1,h.rounds.xA ED n (fun k hk=>hd k (h.rounds.lt hk).1) (fun k hk _=>hd k hk),h.used.keep tZ (n.keep fun b _ hb=>hd b hb),h.drop.keep tZ (n.keep fun b _ hb=>hd b hb)⟩
theorem Xr (h:RdG Pb w g tv cv fv gv) (sh:Ul g):
 Calls prog 7 #[.agg #[tv,cv,fv,gv]] w (Ret fun r w'=>CY g w.heap.size r w'/\New w w'):=by
 obtain ⟨ta,tc,rfl,_,_⟩:=h.t.form;obtain ⟨ca,cc,rfl,_,_⟩:=h.c.form;obtain ⟨fa,fc,rfl,_,_⟩:=h.f.form;obtain ⟨ga,gc,rfl,_,_⟩:=h.g.form;refine oI func7 rfl ntmps7 rfl ?_;refine qq0 ?_;refine Wl.box rfl fun w1 b1 n1 s1=>?_;replace b1:Bk w1 w.heap.size 28 [.slice ta g.tree.length tc,.slice ca g.cards.length cc,.slice fa g.fails.length fc,.slice ga g.gone.length gc]:=b1;refine Wl.alloc fun w2 b2 n2 s2=>?_;replace b2:Bk w2 w1.heap.size 34 IX:=b2;have n02:=New.trans n1 n2;have hz1:=n1.size;have hz2:=n2.size;refine qq1 ?_;refine bD (b1.chg n2 id) rfl rfl ?_;refine au (Xq (h.keep n02.keep rG) sh) rfl ?_;rintro _ w3 ⟨hr,n3⟩;have hz3:=n3.size;unfold CY;by_cases he:qM g=0
 ·rw [if_pos he] at hr;obtain ⟨a,b,c,d,bw,bm,N,fl,nv,ov,rfl,hR,_⟩:=hr;obtain ⟨⟨p1,q1,rfl⟩,⟨p2,q2,rfl⟩,⟨p3,q3,rfl⟩,⟨p4,q4,rfl⟩⟩:=hR.form;refine qq5 ?_;refine Wl.alloc fun w4 b4 n4 s4=>?_;refine aK (new:=[.slice p1 _ q1,.slice p2 _ q2,.slice p3 _ q3,.slice p4 _ q4]) b4 rfl rfl rfl rfl zl4 (by intro c hc;simp at hc;rcases hc with rfl|rfl|rfl|rfl<;>rfl) fun w5 b5 c5 s5=>?_;have n35:New w3 w5:=(Chg.trans n4.any c5 i3).tN
  refine qq1 ?_;refine bD b5 rfl rfl ?_;(repeat' (refine aa1 ?_));refine aK (new:=[.slice p1 _ q1,.slice p2 _ q2,.slice p3 _ q3,.slice p4 _ q4]) ((b2.chg n3 id).chg n35 id) rfl rfl rfl rfl zl4 (by intro c hc;simp at hc;rcases hc with rfl|rfl|rfl|rfl<;>rfl) fun w6 b6 c6 s6=>?_;have hb2:=b2.lt;refine qq6 ?_;refine eY (rO rfl (rY rfl rfl b6 rfl) (qy rfl)) ⟨_,rfl,?_,(Chg.trans (M:=fun k=>k=w1.heap.size) (New.trans (New.trans n02 n3) n35).any c6 fun k _ e=>e).tN⟩;rw [if_pos he];refine ⟨.slice p1 _ q1,.slice p2 _ q2,.slice p3 _ q3,.slice p4 _ q4,rfl,((hR.new n35).chg c6 fun k hk e=>?_).mono fun b _ e=>?_⟩
  ·have hk:w2.heap.size<=k:=hk;omega
  ·have e:w2.heap.size<=b:=e;show w.heap.size<=b;omega
 ·rw [if_neg he] at hr;subst hr;refine qq5 ?_;refine Wl.alloc fun w4 b4 n4 s4=>?_;refine aK (new:=IX) b4 rfl rfl rfl rfl zl4 Zr fun w5 b5 c5 s5=>?_;have n35:New w3 w5:=(Chg.trans n4.any c5 i3).tN
  refine qq1 ?_;refine bD b5 rfl rfl ?_;(repeat' (refine aa1 ?_));refine aK (new:=IX) ((b2.chg n3 id).chg n35 id) rfl rfl rfl rfl zl4 Zr fun w6 b6 c6 s6=>?_;have hb2:=b2.lt;refine qq6 ?_;refine eY (rO rfl (rY rfl rfl b6 rfl) (qy rfl)) ⟨_,rfl,?_,(Chg.trans (M:=fun k=>k=w1.heap.size) (New.trans (New.trans n02 n3) n35).any c6 fun k _ e=>e).tN⟩;rw [if_neg he];rfl
end
end Go.Proofs.YtfbnfhhmiiahnaaGreatDoor
namespace Go.Proofs.YtfbnfhhmiiahnaaGreatDoor
open Go Wk
theorem Rch.mono {W W':Nat->List Nat} {a b:Nat} (h:Rch W a b) (hW: ∀i k,k∈W i->k∈W' i):Rch W' a b:=by
 induction h with
 |one h1=>exact .one (hW _ _ h1)
 |more _ h1 ih=>exact .more ih (hW _ _ h1)
theorem Rch.last {W:Nat->List Nat} {a b:Nat} (h:Rch W a b): ∃c,b∈W c:=by
 cases h with
 |one h1=>exact ⟨_,h1⟩
 |more _ h1=>exact ⟨_,h1⟩
open Classical in
theorem oh {W:Nat->List Nat} {n:Nat} (hn: ∀i k,i<n->k∈W i->k<n): ∀(c i:Nat),i<n->((abS n).filter fun k=>decide (Rch W i k)).length=c->W i≠ []->(∀k,Rch W i k->W k≠ [])-> ∃k,(k=i∨Rch W i k)/\Rch W k k:=by
 intro c;induction c using Nat.strongRecOn with
 |ind c ih=>
  intro i hi hc h0 hr;by_cases hii:Rch W i i
  ·exact ⟨i,.inl rfl,hii⟩
  ·obtain ⟨m,hm⟩:=asj _ h0;have h1:Rch W i m:=.one hm;have hmn:=hn _ _ hi hm;by_cases hmm:Rch W m m
   ·exact ⟨m,.inr h1,hmm⟩
   ·have hlt:((abS n).filter fun k=>decide (Rch W m k)).length<c:=by rw [<-hc];refine filter_lt (p:=fun k=>decide (Rch W i k)) (q:=fun k=>decide (Rch W m k)) (fun x _ hx=>?_) ⟨m,List.mem_range.2 hmn,decide_eq_true h1,decide_eq_false hmm⟩;exact decide_eq_true (Rch.trans h1 (of_decide_eq_true hx))
    obtain ⟨k,h2,h3⟩:=ih _ hlt m hmn rfl (hr m h1) (fun k hk=>hr k (Rch.trans h1 hk));refine ⟨k,.inr ?_,h3⟩;rcases h2 with e|e
    ·rw [e];exact h1
    ·exact Rch.trans h1 e
theorem Xt {g:Giv} {i k:Nat} (h:k∈(Aj g i).wants):k∈qB g.tree i:=by
 rw [zu] at h;unfold qB;rcases List.mem_append.1 h with h|h
 ·exact ap0 _ h
 ·obtain ⟨e,he,h1,h2,h3,h4⟩:=G6.1 h;exact ar1 _ (List.mem_filterMap.2 ⟨e,he,by rw [if_pos ⟨h1,h2⟩];exact h4⟩)
section
variable (N:Nat->Bn) (c:Nat->Option Nat) (fl:Nm->Bool)
abbrev wc (N:Nat->Bn) (c:Nat->Option Nat):Nat->Bn:=fun i=>{N i with card:=c i}
theorem KC (S:St): ∀(l:List Nat) (b:Option Nat),sW (wc N c) S b l=sW N S b l
 | [],b=>rfl
 |n::r,b=>by rw [sW,sW];exact KC S r _
theorem Xu (S:St) (i:Nat):uf (wc N c) S i=uf N S i:=KC N c S _ _
theorem Zu (S:St) (i:Nat):(rowOf (wc N c) S i).1=(rowOf N S i).1/\(rowOf (wc N c) S i).2.2=(rowOf N S i).2.2/\(rowOf (wc N c) S i).2.1=c i/\(rowOf N S i).2.1=(N i).card:=by
 unfold rowOf;rw [Xu];split
 ·exact ⟨rfl,rfl,rfl,rfl⟩
 split
 ·exact ⟨rfl,rfl,rfl,rfl⟩
 ·exact ⟨rfl,rfl,rfl,rfl⟩
end
end Go.Proofs.YtfbnfhhmiiahnaaGreatDoor
namespace Go.Proofs.YtfbnfhhmiiahnaaGreatDoor
open Go
noncomputable def Zv (g:Giv) (i:Nat) (e:Ed):Option Nat:=if e.src=i/\e.soft=false/\(pY g i).card≠none then e.dst else none
noncomputable def lwM (g:Giv) (i:Nat):List Nat:=DK g.tree i++(pK g.tree).filterMap (Zv g i)
theorem abv {g:Giv} {i:Nat} (hi:i<g.tree.length): ∀k∈lwM g i,k∈(pY g i).wants:=by
 intro k hk;unfold lwM at hk;have hN:pY g i=Aj g i:=by unfold pY;rw [if_pos hi]
 rw [hN,zu];rcases List.mem_append.1 hk with h|h
 ·exact ap0 _ h
 ·refine ar1 _ (G6.2 ?_);obtain ⟨e,he,h2⟩:=List.mem_filterMap.1 h;unfold Zv at h2;split at h2
  ·rename_i hc
   refine ⟨e,he,hc.1,hc.2.1,?_,h2⟩;have h3:=hc.2.2;rw [hN] at h3;unfold Aj at h3;dsimp only at h3;by_cases hd:su g.tree i=true
   ·exact hd
   ·rw [if_neg hd] at h3;exact absurd rfl h3
  ·cases h2
theorem Rch.add {H H':Nat->List Nat} {s d:Nat} (hs: ∀i k,k∈H' i->k∈H i∨(i=s/\k=d)) {a b:Nat} (h:Rch H' a b):Rch H a b∨((a=s∨Rch H a s)/\(b=d∨Rch H d b)):=by
 induction h with
 |one h=>
  rcases hs _ _ h with h|⟨rfl,rfl⟩
  ·exact .inl (.one h)
  ·exact .inr ⟨.inl rfl,.inl rfl⟩
 |more h h2 ih=>
  rcases hs _ _ h2 with h2|⟨rfl,rfl⟩
  ·rcases ih with ih|⟨h3,h4⟩
   ·exact .inl (.more ih h2)
   ·refine .inr ⟨h3,.inr ?_⟩;rcases h4 with rfl|h4
    ·exact .one h2
    ·exact .more h4 h2
  ·rcases ih with ih|⟨h3,h4⟩
   ·exact .inr ⟨.inr ih,.inl rfl⟩
   ·exact .inr ⟨h3,.inl rfl⟩
def Acy (H:Nat->List Nat):Prop:= ∀i, ¬Rch H i i
theorem Acy.add {H H':Nat->List Nat} {s d:Nat} (ha:Acy H) (hs: ∀i k,k∈H' i->k∈H i∨(i=s/\k=d)) (hn:d≠s) (hr: ¬Rch H d s):Acy H':=by
 intro i hi;rcases hi.add hs with h|⟨h1,h2⟩
 ·exact ha i h
 ·rcases h1 with rfl|h1
  ·rcases h2 with e|h2
   ·exact hn e.symm
   ·exact hr h2
  ·rcases h2 with rfl|h2
   ·exact hr h1
   ·exact hr (h2.trans h1)
theorem KD: ∀(l:List Ed) (W H:Nat->List Nat),(∀i k,k∈H i->k∈W i)->Acy H->(∀e∈l,e.dst.getD 0≠e.src)->Acy fun i=>H i++((uP W l).1.filter fun e=>decide (e.src=i)).map fun e=>e.dst.getD 0
 | [],W,H,_,ha,_=>by intro i hi;refine ha i (hi.mono fun i k hk=>?_);simpa [uP] using hk
 |e::r,W,H,hs,ha,hd=>by
  unfold uP;split
  ·exact KD r W H hs ha fun e he=>hd e (aqd _ he)
  ·rename_i hr
   dsimp only;have ha':Acy fun i=>if i=e.src then H i++ [e.dst.getD 0] else H i:=by
    refine ha.add (s:=e.src) (d:=e.dst.getD 0) (fun i k hk=>?_) (hd e arK) fun h=>hr (h.mono hs);split at hk
    ·rename_i hi
     rcases List.mem_append.1 hk with hk|hk
     ·exact .inl hk
     ·rw [ar2] at hk;exact .inr ⟨hi,hk⟩
    ·exact .inl hk
   have ih:=KD r (fun i=>if i=e.src then W i++ [e.dst.getD 0] else W i) _ (fun i k hk=>?_) ha' fun e he=>hd e (aqd _ he)
   ·intro i hi;refine ih i (hi.mono fun i k hk=>?_);rw [ar0] at hk;by_cases h:e.src=i
    ·rw [if_pos h.symm];rw [if_pos (by simpa using h),acK] at hk;simp only [ars,List.mem_cons,List.not_mem_nil,or_false] at hk ⊢;rcases hk with hk|hk|hk
     ·exact .inl (.inl hk)
     ·exact .inl (.inr hk)
     ·exact .inr hk
    ·rw [if_neg (fun e=>h e.symm)];rw [if_neg (by simpa using h)] at hk;exact hk
   ·split
    ·rename_i hi
     rw [if_pos hi] at hk;rcases List.mem_append.1 hk with hk|hk
     ·exact ap0 _ (hs i k hk)
     ·exact ar1 _ hk
    ·rename_i hi
     rw [if_neg hi] at hk;exact hs i k hk
theorem abw {N:Nat->Bn} {fl:Nm->Bool} {i:Nat} (h:Bnd N fl i): ¬Rch (fun i=>(N i).wants) i i:=by
 have hcl: ∀ {a b:Nat},Rch (fun i=>(N i).wants) a b->Bnd N fl a->Bnd N fl b:=by
  intro a b hr ha;induction hr with
  |one h=>exact ha.inv.2.2 _ h
  |more _ h ih=>exact ih.inv.2.2 _ h
 induction h with
 |mk i h1 h2 h3 ih=>
  intro hr;have hfirst: ∀ {a b:Nat},Rch (fun i=>(N i).wants) a b->b∈(N a).wants∨ ∃c∈(N a).wants,Rch (fun i=>(N i).wants) c b:=by
   intro a b h;induction h with
   |one h=>exact .inl h
   |more h h2 ih=>
    rcases ih with ih|⟨c,hc,hcb⟩
    ·exact .inr ⟨_,ih,.one h2⟩
    ·exact .inr ⟨c,hc,.more hcb h2⟩
  rcases hfirst hr with h|⟨c,hc,hcb⟩
  ·exact ih i h (.one h)
  ·exact ih c hc (hcb.trans (.one hc))
noncomputable def rU (g:Giv) (i:Nat):Bool:=decide (i<g.tree.length)&&((rowOf (pY g) (wE g).2 i).1 == 0)
noncomputable def Vy (g:Giv):List (Nat×Nat):=
 ((abS g.tree.length).filterMap fun i=>if 0<i then some (i,par g.tree i) else none)++
 ((pK g.tree).filterMap fun e=>if e.soft=false/\(rowOf (pY g) (wE g).2 e.src).2.1≠none then e.dst.map fun d=>(e.src,d) else none)++
 (sZ g).1.map fun e=>(e.src,e.dst.getD 0)
noncomputable def CZ (g:Giv):List (Nat×Nat):=(Vy g).filter fun p=>rU g p.1
noncomputable def uw (g:Giv) (i:Nat):List Nat:=((CZ g).filter fun p=>decide (p.1=i)).map fun p=>p.2
noncomputable def xF (g:Giv) (i:Nat):List Nat:=((CZ g).filter fun p=>decide (p.2=i)).map fun p=>p.1
section
variable {n:Nat} {b:Nat->Bool} {path:Nat->Nm} {h o:Nat->List Nat}
def uZ (b:Nat->Bool) (path:Nat->Nm) (L:Nat->Int):Option Nat->List Nat->Option Nat
 |a,[]=>a
 |a,i::r=>uZ b path L (if b i=true/\L i=0/\(∀j,a=some j->path i<path j) then some i else a) r
def Ar (n:Nat) (b:Nat->Bool) (path:Nat->Nm) (L:Nat->Int):Option Nat:=uZ b path L none (abS n)
theorem Iu {L:Nat->Int}: ∀(l:List Nat) (a:Option Nat) (k:Nat),uZ b path L a l=some k->a=some k∨(k∈l/\b k=true/\L k=0)
 | [],a,k,e=>.inl e
 |i::r,a,k,e=>by
  rw [uZ] at e;rcases Iu r _ k e with e|⟨e1,e2⟩
  ·split at e
   ·rename_i hc
    cases e;exact .inr ⟨arK,hc.1,hc.2.1⟩
   ·exact .inl e
  ·exact .inr ⟨aqd _ e1,e2⟩
theorem Iw {L:Nat->Int}: ∀(l:List Nat) (a:Option Nat),uZ b path L a l=none->a=none/\ ∀i∈l, ¬(b i=true/\L i=0)
 | [],a,e=>⟨e,fun i hi=>by cases hi⟩
 |i::r,a,e=>by
  rw [uZ] at e;obtain ⟨e1,e2⟩:=Iw r _ e;split at e1
  ·cases e1
  ·rename_i hc
   subst e1;refine ⟨rfl,fun j hj=>?_⟩;rcases List.mem_cons.1 hj with rfl|hj
   ·exact fun q=>hc ⟨q.1,q.2,fun k hk=>by cases hk⟩
   ·exact e2 j hj
theorem EG {L:Nat->Int} {k:Nat} (e:Ar n b path L=some k):k<n/\b k=true/\L k=0:=by
 rcases Iu _ _ _ e with e|⟨e1,e2⟩
 ·cases e
 ·exact ⟨List.mem_range.1 e1,e2⟩
theorem Um {L:Nat->Int} (e:Ar n b path L=none): ∀i,i<n->b i=true->L i≠0:=fun i hi hb hl=>(Iw _ _ e).2 i (List.mem_range.2 hi) ⟨hb,hl⟩
def QY (o:Nat->List Nat) (L:Nat->Int) (k:Nat):Nat->Int:=fun i=>(if i=k then-1 else L i)-((o k).count i:Nat)
def yN (n:Nat) (b:Nat->Bool) (path:Nat->Nm) (o:Nat->List Nat):Nat->(Nat->Int)->List Nat
 |0,_=>[]
 |f+1,L=>match Ar n b path L with
  |none=>[]
  |some k=>k::yN n b path o f (QY o L k)
def FV (n:Nat) (b:Nat->Bool) (path:Nat->Nm) (h o:Nat->List Nat):List Nat:=yN n b path o (n+1) fun i=>((h i).length:Nat)
structure WkI (n:Nat) (b:Nat->Bool) (h:Nat->List Nat) (O:List Nat) (L:Nat->Int):Prop where
 l: ∀k,L k=if k∈O then-1 else (((h k).countP fun j=>decide (j∉O):Nat):Int)
 cl: ∀k∈O, ∀j∈h k,j∈O
 nd:O.Nodup
 bn: ∀k∈O,k<n/\b k=true
theorem KE {l O:List Nat} {x:Nat} (hx:x∉O):l.countP (fun j=>decide (j∉O))=l.count x+l.countP (fun j=>decide (j∉O++ [x])):=by
 induction l with
 |nil=>rfl
 |cons y r ih=>
  rw [arY,arY,List.count_cons,ih];by_cases e:y=x
  ·subst e;have h1:decide (y∉O)=true:=by simpa using hx
   have h2:decide (y∉O++ [y])=false:=by simp
   rw [h1,h2];simp;omega
  ·have h1:decide (y∉O++ [x])=decide (y∉O):=by simp [e]
   rw [h1];have h2:(y == x)=false:=by simpa using e
   rw [h2];simp;omega
theorem WkI.step {O:List Nat} {L:Nat->Int} {k:Nat} (I:WkI n b h O L) (hc: ∀j k,(o j).count k=(h k).count j) (hp:Ar n b path L=some k):k∉O/\(∀j∈h k,j∈O)/\WkI n b h (O++ [k]) (QY o L k):=by
 obtain ⟨hk,hbk,hl⟩:=EG hp;have hkO:k∉O:=fun e=>by rw [I.l k,if_pos e] at hl;omega
 have hh: ∀j∈h k,j∈O:=by
  rw [I.l k,if_neg hkO] at hl;have h0:(h k).countP (fun j=>decide (j∉O))=0:=by omega
  rw [List.countP_eq_zero] at h0;intro j hj;have:=h0 j hj;simpa using this
 refine ⟨hkO,hh,⟨fun i=>?_,fun i hi j hj=>?_,?_,fun i hi=>?_⟩⟩
 ·unfold QY;rw [hc];by_cases e:i=k
  ·subst e;rw [if_pos rfl,if_pos (ar1 _ (List.mem_singleton.2 rfl))];have:(h i).count i=0:=List.count_eq_zero.2 fun e=>hkO (hh i e);rw [this];rfl
  ·rw [if_neg e,I.l i];by_cases e2:i∈O
   ·rw [if_pos e2,if_pos (ap0 _ e2)];have:(h i).count k=0:=List.count_eq_zero.2 fun e=>hkO (I.cl i e2 k e);rw [this];rfl
   ·rw [if_neg e2,if_neg (by simp [e2,e]),KE hkO];omega
 ·rcases List.mem_append.1 hi with hi|hi
  ·exact ap0 _ (I.cl i hi j hj)
  ·rw [ar2] at hi;subst hi;exact ap0 _ (hh j hj)
 ·rw [ar4];exact ⟨I.nd,by simp,fun a ha c hc e=>by rw [ar2] at hc;subst hc;subst e;exact hkO ha⟩
 ·rcases List.mem_append.1 hi with hi|hi
  ·exact I.bn i hi
  ·rw [ar2] at hi;subst hi;exact ⟨hk,hbk⟩
theorem WkI.full {O:List Nat} {L:Nat->Int} (I:WkI n b h O L) (hp:Ar n b path L=none) (hin: ∀k,b k=true-> ∀j∈h k,j<n/\b j=true) (ha:Acy h): ∀i,i<n->b i=true->i∈O:=by
 intro i hi hbi;refine arG fun hno=>?_;let W:Nat->List Nat:=fun k=>if k<n/\b k=true then (h k).filter fun j=>decide (j∉O) else [];have hne: ∀k,k<n->b k=true->k∉O->W k≠ []:=fun k hk hbk hkO e=>by
  have h0:=Um hp k hk hbk;rw [I.l k,if_neg hkO] at h0;have h1:(h k).filter (fun j=>decide (j∉O))=[]:=by have:W k=(h k).filter fun j=>decide (j∉O):=if_pos ⟨hk,hbk⟩;rw [<-this];exact e
  rw [List.countP_eq_length_filter,h1] at h0;exact h0 rfl
 have hW: ∀k j,j∈W k->j∈h k/\j∉O/\j<n/\b j=true:=fun k j hj=>by
  dsimp only [W] at hj;split at hj
  ·rename_i hk
   obtain ⟨h1,h2⟩:=List.mem_filter.1 hj;exact ⟨h1,by simpa using h2,hin k hk.2 j h1⟩
  ·cases hj
 obtain ⟨k,_,hk⟩:=oh (W:=W) (n:=n) (fun i k _ hk=>(hW i k hk).2.2.1) _ i hi rfl (hne i hi hbi hno) fun k hk=>by obtain ⟨c,hc⟩:=hk.last;obtain ⟨_,h2,h3,h4⟩:=hW c k hc;exact hne k h3 h4 h2
 exact ha k (hk.mono fun i j hj=>(hW i j hj).1)
theorem MO (hc: ∀j k,(o j).count k=(h k).count j) (hin: ∀k,b k=true-> ∀j∈h k,j<n/\b j=true) (ha:Acy h): ∀(f:Nat) (L:Nat->Int) (O:List Nat),WkI n b h O L->((abS n).countP fun i=>decide (i∉O))<f->
 let R:=O++yN n b path o f L
 R.Nodup/\(∀k∈R,k<n/\b k=true)/\(∀i,i<n->b i=true->i∈R)/\ ∀T i X,R=T++i::X->O.length<=T.length-> ∀j∈h i,j∈T
 |0,L,O,I,hf=>by omega
 |f+1,L,O,I,hf=>by
  rw [yN];cases hp:Ar n b path L with
  |none=>dsimp only;rw [aqJ];refine ⟨I.nd,I.bn,I.full hp hin ha,fun T i X e hl=>?_⟩;have:=congrArg aq0 e;simp at this;omega
  |some k=>
   dsimp only;obtain ⟨hkO,hh,I'⟩:=I.step hc hp;have hk:=EG hp;have hlt:((abS n).countP fun i=>decide (i∉O++ [k]))<((abS n).countP fun i=>decide (i∉O)):=by rw [KE hkO (l:=abS n)];have:0<(abS n).count k:=List.count_pos_iff.2 (List.mem_range.2 hk.1);omega
   have ih:=MO hc hin ha f (QY o L k) (O++ [k]) I' (by omega);rw [adI] at ih;obtain ⟨h1,h2,h3,h4⟩:=ih;refine ⟨h1,h2,h3,fun T i X e hl=>?_⟩;by_cases e2:O.length=T.length
   ·have he:=List.append_inj e e2;have:k=i:=by have:=he.2;simp at this;exact this.1
    subst this;rw [<-he.1];exact hh
   ·refine h4 T i X e ?_;rw [adL,apm];omega
theorem Zw (hc: ∀j k,(o j).count k=(h k).count j) (hin: ∀k,b k=true-> ∀j∈h k,j<n/\b j=true) (ha:Acy h):
 (FV n b path h o).Nodup/\(∀k∈FV n b path h o,k<n/\b k=true)/\(∀i,i<n->b i=true->i∈FV n b path h o)/\ ∀T i X,FV n b path h o=T++i::X-> ∀j∈h i,j∈T:=by
 have I0:WkI n b h [] fun i=>((h i).length:Nat):=⟨fun k=>by rw [if_neg (by simp)];simp,fun k hk=>(by cases hk),ash,fun k hk=>(by cases hk)⟩;have:=MO (path:=path) hc hin ha (n+1) _ [] I0 (by refine Nat.lt_succ_of_le (aru List.countP_le_length ?_);rw [arE];exact aat _);obtain ⟨h1,h2,h3,h4⟩:=this;exact ⟨h1,h2,h3,fun T i X e=>h4 T i X e (aoZ _)⟩
end
theorem KF (j k:Nat): ∀l:List (Nat×Nat),((l.filter fun p=>decide (p.2=j)).map fun p=>p.1).count k=((l.filter fun p=>decide (p.1=k)).map fun p=>p.2).count j
 | []=>rfl
 |(x,y)::r=>by
  have ih:=KF j k r;rw [ar0,ar0];dsimp only;by_cases h1:y=j
  ·subst h1;by_cases h2:x=k
   ·subst h2;rw [if_pos (by simp),if_pos (by simp),acK,acK,asl,asl,ih]
   ·rw [if_pos (by simp),if_neg (by simpa using h2),acK,asn h2,ih]
  ·by_cases h2:x=k
   ·subst h2;rw [if_neg (by simpa using h1),if_pos (by simp),acK,asn h1,ih]
   ·rw [if_neg (by simpa using h1),if_neg (by simpa using h2),ih]
theorem EH (g:Giv) (j k:Nat):(xF g j).count k=(uw g k).count j:=KF j k _
theorem EI: ∀(l:List Ed) (W:Nat->List Nat), ∀e∈(uP W l).1,e∈l
 | [],W,e,h=>by simp [uP] at h
 |x::r,W,e,h=>by
  unfold uP at h;split at h
  ·exact aqd _ (EI r _ e h)
  ·dsimp only at h;rcases List.mem_cons.1 h with rfl|h
   ·exact arK
   ·exact aqd _ (EI r _ e h)
theorem QZ {g:Giv} {e:Ed} (h:e∈(sZ g).1):e∈pK g.tree/\uY (fun k=>(wE g).2 k == 1) e=true:=by
 have h1:=EI _ _ e h;rw [arL,aoW] at h1;exact h1
theorem Vz {g:Giv} {e:Ed} (h:e∈(sZ g).1): ∃d,e.dst=some d/\d<g.tree.length/\d≠e.src/\(wE g).2 e.src=1/\(wE g).2 d=1:=by
 obtain ⟨h1,h2⟩:=QZ h;unfold uY at h2;simp only [ao0,beq_iff_eq] at h2;obtain ⟨_,h3,h4⟩:=h2;cases hd:e.dst with
 |none=>rw [hd] at h4;cases h4
 |some d=>rw [hd] at h4;simp only [ao0,beq_iff_eq,decide_eq_true_eq] at h4;exact ⟨d,rfl,(uU e h1).2 d hd,h4.2,h3,h4.1⟩
theorem yO {g:Giv} (hok:pM g.tree=true) {i:Nat}:rU g i=true↔i<g.tree.length/\Bnd (pY g) g.fails.contains i:=by
 unfold rU;rw [ao0,decide_eq_true_eq,beq_iff_eq];constructor
 ·rintro ⟨h1,h2⟩;exact ⟨h1,(MK hok _ h1).1 h2⟩
 ·rintro ⟨h1,h2⟩;exact ⟨h1,(MK hok _ h1).2 h2⟩
theorem Un {g:Giv} {i:Nat} (h:(wE g).2 i=1):Bnd (pY g) g.fails.contains i:=(MI (pY g) g.fails.contains g.tree.length).1.b i h
theorem KG {g:Giv} (hok:pM g.tree=true) {i k:Nat} (h:k∈uw g i):rU g i=true/\(k∈(pY g i).wants∨ ∃e∈(sZ g).1,e.src=i/\e.dst.getD 0=k):=by
 unfold uw CZ Vy at h;obtain ⟨⟨x,y⟩,hp0,rfl⟩:=List.mem_map.1 h;obtain ⟨hp1,hx⟩:=List.mem_filter.1 hp0;obtain ⟨hp,hb⟩:=List.mem_filter.1 hp1;clear hp0 hp1 h;have hx:x=i:=by simpa using hx
 subst hx;refine ⟨hb,?_⟩;have hin:=((yO hok).1 hb).1;have hN:pY g x=Aj g x:=by unfold pY;rw [if_pos hin]
 rcases List.mem_append.1 hp with hp|hp
 ·rcases List.mem_append.1 hp with hp|hp
  ·left;obtain ⟨j,hj,e⟩:=List.mem_filterMap.1 hp;split at e
   ·rename_i h0
    cases e;rw [hN,zu,if_pos h0];exact ap0 _ arK
   ·cases e
  ·left;obtain ⟨e,he,h2⟩:=List.mem_filterMap.1 hp;split at h2
   ·rename_i hc
    obtain ⟨d,hd,h3⟩:=Option.map_eq_some_iff.1 h2;cases h3;have hcd:(pY g e.src).card≠none:=by have h9:=(Zu (pY g) (fun i=>(pY g i).card) (wE g).2 e.src).2.2.2;have h8:=hc.2;rw [h9] at h8;exact h8
    exact abv hin _ (ar1 _ (List.mem_filterMap.2 ⟨e,he,by unfold Zv;rw [if_pos ⟨rfl,hc.1,hcd⟩];exact hd⟩))
   ·cases h2
 ·right;obtain ⟨e,he,h2⟩:=List.mem_map.1 hp;cases h2;exact ⟨e,he,rfl,rfl⟩
theorem abx {g:Giv} (hok:pM g.tree=true): ∀k,rU g k=true-> ∀j∈uw g k,j<g.tree.length/\rU g j=true:=by
 intro k _ j hj;obtain ⟨hb,h⟩:=KG hok hj;obtain ⟨hk,hB⟩:=(yO hok).1 hb;rcases h with h|⟨e,he,rfl,rfl⟩
 ·have hjn:=MJ hok k hk j h;exact ⟨hjn,(yO hok).2 ⟨hjn,hB.inv.2.2 j h⟩⟩
 ·obtain ⟨d,hd,hdn,_,_,h1⟩:=Vz he;rw [hd];exact ⟨hdn,(yO hok).2 ⟨hdn,Un h1⟩⟩
theorem Zx {g:Giv} (hok:pM g.tree=true):Acy (uw g):=by
 let H:Nat->List Nat:=fun i=>if rU g i=true then (pY g i).wants else [];have hH: ∀i k,k∈H i->rU g i=true/\k∈(pY g i).wants:=fun i k hk=>by
  dsimp only [H] at hk;split at hk
  ·rename_i hb;exact ⟨hb,hk⟩
  ·cases hk
 have hfirst: ∀ {a b:Nat},Rch H a b->rU g a=true:=by
  intro a b h;induction h with
  |one h=>exact (hH _ _ h).1
  |more _ _ ih=>exact ih
 have hA:Acy H:=fun i hi=>abw ((yO hok).1 (hfirst hi)).2 (hi.mono fun a b hab=>(hH a b hab).2);have hW: ∀i k,k∈H i->k∈qB g.tree i:=fun i k hk=>by obtain ⟨hb,h⟩:=hH i k hk;have hin:=((yO hok).1 hb).1;rw [Ak hin] at h;exact Xt h
 have hS:=KD ((((pK g.tree).filter (uY fun k=>(wE g).2 k == 1)).mergeSort fun x y=> !decide (pX g.tree y.src<pX g.tree x.src))) (qB g.tree) H hW hA fun e he=>by
  rw [arL,aoW] at he;have h2:=he.2;unfold uY at h2;simp only [ao0,beq_iff_eq] at h2;obtain ⟨_,_,h4⟩:=h2;cases hd:e.dst with
  |none=>rw [hd] at h4;cases h4
  |some d=>rw [hd] at h4;simp only [ao0,beq_iff_eq,decide_eq_true_eq] at h4;exact h4.2
 intro i hi;refine hS i (hi.mono fun a b hab=>?_);obtain ⟨hb,h⟩:=KG hok hab;rcases h with h|⟨e,he,h1,h2⟩
 ·refine ap0 _ ?_;dsimp only [H];rw [if_pos hb];exact h
 ·refine ar1 _ (List.mem_map.2 ⟨e,List.mem_filter.2 ⟨he,by simpa using h1⟩,h2⟩)
noncomputable def tN (g:Giv):List Nat:=FV g.tree.length (rU g) (pX g.tree) (uw g) (xF g)
theorem Bz {g:Giv} (hok:pM g.tree=true):(tN g).Nodup/\(∀k∈tN g,k<g.tree.length/\rU g k=true)/\(∀i,i<g.tree.length->rU g i=true->i∈tN g)/\ ∀T i X,tN g=T++i::X-> ∀j∈uw g i,j∈T:=
 Zw (EH g) (abx hok) (Zx hok)
abbrev As:=Nat->Bool
abbrev Stp:=Nat×Bool
def ve (A:As) (i:Nat) (v:Bool):As:=fun k=>if k=i then v else A k
theorem ug (A:As) (i:Nat) (v:Bool):ve A i v i=v:=if_pos rfl
theorem uG {A:As} {i k:Nat} {v:Bool} (h:k≠i):ve A i v k=A k:=if_neg h
theorem Xv {A:As} {i:Nat} {v u:Bool} (h:A i=u):ve (ve A i v) i u=A:=by
 funext k;unfold ve;by_cases e:k=i
 ·rw [if_pos e,e,h]
 ·rw [if_neg e,if_neg e]
def rP (A:As):List Stp->As
 | []=>A
 |(i,v)::r=>rP (ve A i v) r
theorem zD (A:As): ∀(l m:List Stp),rP A (l++m)=rP (rP A l) m
 | [],m=>rfl
 |(i,v)::r,m=>zD (ve A i v) r m
section
variable {g:Giv}
structure C9 (g:Giv) (A:As):Prop where
 s: ∀k j,j∈uw g k->A j=true->A k=true
 b: ∀k,A k=true->rU g k=true
def rJ (g:Giv):As->List Stp->Prop
 |_,[]=>True
 |A,(i,v)::r=>A i≠v/\rU g i=true/\C9 g (ve A i v)/\rJ g (ve A i v) r
theorem rJ.append: ∀ {A:As} {l m:List Stp},rJ g A l->rJ g (rP A l) m->rJ g A (l++m)
 |_,[],_,_,h=>h
 |A,(i,v)::r,m,⟨h1,h2,h3,h4⟩,h=>⟨h1,h2,h3,rJ.append h4 h⟩
theorem rJ.run: ∀ {A:As} {l:List Stp},C9 g A->rJ g A l->C9 g (rP A l)
 |_,[],h,_=>h
 |A,(i,v)::r,_,⟨_,_,h3,h4⟩=>rJ.run (A:=ve A i v) (l:=r) h3 h4
theorem jo: ∀ {A:As} {l:List Nat},C9 g A->rJ g A (l.map fun i=>(i,true))->rJ g (rP A (l.map fun i=>(i,true))) (l.reverse.map fun i=>(i,false))/\rP (rP A (l.map fun i=>(i,true))) (l.reverse.map fun i=>(i,false))=A
 |A,[],_,_=>⟨trivial,rfl⟩
 |A,i::r,hA,⟨h1,h2,h3,h4⟩=>by
  have hi:A i=false:=by simpa using h1
  obtain ⟨h5,h6⟩:=jo h3 h4;have hb:ve (ve A i true) i false=A:=Xv hi;simp only [acK,List.reverse_cons,aqn,afd,rP];refine ⟨h5.append ?_,?_⟩
  ·rw [h6];exact ⟨by rw [ug];decide,h2,by rw [hb];exact hA,trivial⟩
  ·rw [zD,h6];exact hb
def qG (stop:Nat->Option Nat->Option (Nat×Bool)):List Nat->As->List Nat->List Nat×Option (Nat×Bool)
 | [],_,sl=>(sl,stop sl.length none)
 |i::r,A,sl=>if A i=true then qG stop r A sl else match stop sl.length (some i) with
  |some x=>(sl,some x)
  |none=>qG stop r (ve A i true) (sl++ [i])
theorem zF (hok:pM g.tree=true) {stop:Nat->Option Nat->Option (Nat×Bool)}: ∀(r P:List Nat) (A:As) (sl:List Nat),(tN g).reverse=P++r->(∀k∈P,A k=true)->C9 g A->
 ∃l,(qG stop r A sl).1=sl++l/\rJ g A (l.map fun i=>(i,true))/\((qG stop r A sl).2=none-> ∀k∈tN g,rP A (l.map fun i=>(i,true)) k=true)
 | [],P,A,sl,hP,hA,hS=>by refine ⟨[],by simp [qG],trivial,fun _ k hk=>hA k ?_⟩;rw [aqJ] at hP;rw [<-hP,ar7];exact hk
 |i::r,P,A,sl,hP,hA,hS=>by
  rw [qG];have hP':(tN g).reverse=(P++ [i])++r:=by rw [hP];simp
  by_cases hi:A i=true
  ·rw [if_pos hi];refine zF hok r (P++ [i]) A sl hP' (fun k hk=>?_) hS;rcases List.mem_append.1 hk with hk|hk
   ·exact hA k hk
   ·rw [ar2] at hk;rw [hk];exact hi
  ·rw [if_neg hi];cases hs:stop sl.length (some i) with
   |some x=>exact ⟨[],by simp,trivial,fun e=>by cases e⟩
   |none=>
    dsimp only;obtain ⟨o1,o2,o3,o4⟩:=Bz hok;have him:i∈tN g:=by rw [<-ar7,hP];simp
    have hbi:=(o2 i him).2;have hov: ∀k,i∈uw g k->k∈P:=fun k hk=>by
     have hbk:=(KG hok hk).1;have hkm:=o3 k ((yO hok).1 hbk).1 hbk;obtain ⟨T,X,hT⟩:=ap4 hkm;have hiT:=o4 T k X hT i hk;have hkP:k∈P++i::r:=by rw [<-hP,ar7];exact hkm
     rcases List.mem_append.1 hkP with h|h
     ·exact h
     ·exfalso;obtain ⟨T2,X2,hT2⟩:=ap4 hiT;have e1:tN g=r.reverse++i::P.reverse:=by have:=congrArg List.reverse hP;rw [aso] at this;rw [this];simp
      have e2:tN g=T2++i::(X2++k::X):=by rw [hT,hT2];simp
      rw [e1] at o1 e2;have hnd:=o1;have hir:i∉r.reverse:=fun e=>(List.nodup_append.1 hnd).2.2 i e i arK rfl;have akl:i∉T2:=fun e=>by rw [e2] at hnd;exact (List.nodup_append.1 hnd).2.2 i e i arK rfl
      have hlen:r.reverse=T2/\i::P.reverse=i::(X2++k::X):=by
       have key: ∀(a b c d:List Nat),i∉a->i∉b->a++i::c=b++i::d->a=b/\i::c=i::d:=by
        intro a;induction a with
        |nil=>
         intro b c d _ hb e;cases b with
         |nil=>exact ⟨rfl,e⟩
         |cons y b=>simp at e;exact absurd (by rw [e.1];exact arK) hb
        |cons x a ih=>
         intro b c d ha hb e;cases b with
         |nil=>simp at e;exact absurd (by rw [e.1];exact arK) ha
         |cons y b=>simp at e;obtain ⟨h1,h2⟩:=ih b c d (fun q=>ha (aqd _ q)) (fun q=>hb (aqd _ q)) (by simpa using e.2);exact ⟨by rw [e.1,h1],h2⟩
       exact key _ _ _ _ hir akl e2
      have afu:k∈P.reverse:=by
       have:=hlen.2;injection this with _ h9
       rw [h9];simp
      rcases List.mem_cons.1 h with h|h
      ·subst h;exact absurd afu (List.nodup_cons.1 (List.nodup_append.1 hnd).2.1).1
      ·exact (List.nodup_append.1 hnd).2.2 k (List.mem_reverse.2 h) k (aqd _ afu) rfl
    have hS':C9 g (ve A i true):=by
     refine ⟨fun k j hj ha=>?_,fun k hk=>?_⟩
     ·by_cases e:k=i
      ·rw [e,ug]
      ·rw [uG e];by_cases e2:j=i
       ·subst e2;exact hA k (hov k hj)
       ·rw [uG e2] at ha;exact hS.s k j hj ha
     ·by_cases e:k=i
      ·rw [e];exact hbi
      ·rw [uG e] at hk;exact hS.b k hk
    obtain ⟨l,h1,h2,h3⟩:=zF hok (stop:=stop) r (P++ [i]) (ve A i true) (sl++ [i]) hP' (fun k hk=>by
     by_cases e:k=i
     ·rw [e,ug]
     ·rw [uG e];rcases List.mem_append.1 hk with hk|hk
      ·exact hA k hk
      ·exact absurd (List.mem_singleton.1 hk) e) hS'
    refine ⟨i::l,by rw [h1];simp,⟨fun e=>hi e,hbi,hS',h2⟩,h3⟩
theorem Uo {A:As} {i:Nat} (hS:C9 g A) (hb:rU g i=true) (h0:A i=false) (ho: ∀k∈xF g i,A k=true):rJ g A [(i,true)]:=by
 refine ⟨by rw [h0];decide,hb,⟨fun k j hj ha=>?_,fun k hk=>?_⟩,trivial⟩
 ·by_cases e:k=i
  ·rw [e,ug]
  ·rw [uG e];by_cases e2:j=i
   ·subst e2;have:0<(xF g j).count k:=by rw [EH];exact List.count_pos_iff.2 hj
    exact ho k (List.count_pos_iff.1 this)
   ·rw [uG e2] at ha;exact hS.s k j hj ha
 ·by_cases e:k=i
  ·rw [e];exact hb
  ·rw [uG e] at hk;exact hS.b k hk
def vz (In:Nat->Bool):List Nat->As->List Stp
 | [],_=>[]
 |k::r,A=>if In k=true/\A k=true then (k,false)::vz In r (ve A k false) else vz In r A
theorem EJ (hok:pM g.tree=true) {In:Nat->Bool} (hIn: ∀k,In k=true-> ∀j∈uw g k,In j=true): ∀(r T:List Nat) (A:As),tN g=T++r->(∀j∈T,In j=true->A j=false)->C9 g A->rJ g A (vz In r A)
 | [],T,A,_,_,_=>trivial
 |k::r,T,A,hT,hA,hS=>by
  rw [vz];have hT':tN g=(T++ [k])++r:=by rw [hT];simp
  split
  ·rename_i hc
   have hS':C9 g (ve A k false):=by
    refine ⟨fun x j hj ha=>?_,fun x hx=>?_⟩
    ·have hjk:j≠k:=fun e=>by rw [e,ug] at ha;cases ha
     rw [uG hjk] at ha;by_cases e:x=k
     ·subst e;have:=hA j ((Bz hok).2.2.2 T x r hT j hj) (hIn x hc.1 j hj);rw [this] at ha;cases ha
     ·rw [uG e];exact hS.s x j hj ha
    ·by_cases e:x=k
     ·rw [e,ug] at hx;cases hx
     ·rw [uG e] at hx;exact hS.b x hx
   refine ⟨by rw [hc.2];decide,hS.b k hc.2,hS',EJ hok hIn r (T++ [k]) _ hT' (fun j hj hji=>?_) hS'⟩;by_cases e:j=k
   ·rw [e,ug]
   ·rw [uG e];rcases List.mem_append.1 hj with hj|hj
    ·exact hA j hj hji
    ·exact absurd (List.mem_singleton.1 hj) e
  ·rename_i hc
   refine EJ hok hIn r (T++ [k]) A hT' (fun j hj hji=>?_) hS;rcases List.mem_append.1 hj with hj|hj
   ·exact hA j hj hji
   ·rw [ar2] at hj;subst hj;cases hv:A j with
    |false=>rfl
    |true=>exact absurd ⟨hji,hv⟩ hc
end
structure Bd where
 a:As
 pV:List Nat
 down:Bool
def bd0:Bd:=⟨fun _=>false,[],false⟩
abbrev Wkr:=Int×Nm
def FW:Nm:=[119,97,107,101,117,112,45,115,111,117,114,99,101]
def wV (t:List Nd) (i:Nat):Bool:=(uO t i FW).isSome
def atM (t:List Nd) (p:Nm):Option Nat:=(abS t.length).find? fun i=>pX t i == p
noncomputable def BA (g:Giv):List Wkr->Nat->Option Nat
 | [],_=>none
 |x::r,k=>match atM g.tree x.2 with
  |some i=>if x.1=k/\rU g i=true/\wV g.tree i=true then some i else BA g r k
  |none=>BA g r k
noncomputable def vC (g:Giv) (refuse:List Nm) (wakes:List Wkr) (k:Nat) (next:Option Nat):Option (Nat×Bool):=match BA g wakes k with
 |some i=>some (i,true)
 |none=>match next with
  |some i=>if refuse.contains (pX g.tree i)=true then some (i,false) else none
  |none=>none
def upS (l:List Nat):List Stp:=l.map fun i=>(i,true)
def dnS (l:List Nat):List Stp:=l.reverse.map fun i=>(i,false)
noncomputable def tq (g:Giv) (B:Bd) (refuse:List Nm) (wakes:List Wkr):(Bool×Bool×Int×List Stp)×Bd×Int:=
 if B.down=true then ((false,false,0,[]),B,5)
 else if 512<refuse.length∨512<wakes.length∨(∃x∈wakes,x.1<0) then ((false,false,0,[]),B,1)
 else
  let r:=qG (vC g refuse wakes) (tN g).reverse B.a []
  match r.2 with
  |some x=>((false,x.2,(x.1:Int),upS r.1++dnS r.1),B,0)
  |none=>((true,false, -1,upS r.1),⟨rP B.a (upS r.1),r.1,true⟩,0)
def BB (B:Bd):List Stp×Bd×Int:=if B.down=true then (dnS B.pV,⟨rP B.a (dnS B.pV),[],false⟩,0) else ([],B,5)
noncomputable def FX (g:Giv) (B:Bd) (i:Int) (v:Bool):Int:=
 if i<0∨(g.tree.length:Int)<=i∨rU g i.toNat=false then 1 else if B.down=true∨B.a i.toNat=v then 5 else 0
noncomputable def FY (g:Giv) (B:Bd) (i:Int):List Stp×Bd×Int:=
 if FX g B i true≠0 then ([],B,FX g B i true)
 else if (xF g i.toNat).all (fun k=>B.a k)=false then ([],B,240)
 else ([(i.toNat,true)],⟨ve B.a i.toNat true,B.pV,B.down⟩,0)
open Classical in
noncomputable def inM (g:Giv) (i k:Nat):Bool:=decide (k=i∨Rch (uw g) i k)
noncomputable def wkM (g:Giv) (B:Bd) (i:Int):List Stp×Bd×Int:=
 if FX g B i false≠0 then ([],B,FX g B i false)
 else let s:=vz (inM g i.toNat) (tN g) B.a;(s,⟨rP B.a s,B.pV,B.down⟩,0)
structure BdI (g:Giv) (B:Bd):Prop where
 s:C9 g B.a
 d:B.down=true-> ∃A,C9 g A/\rJ g A (upS B.pV)/\B.a=rP A (upS B.pV)
 u:B.down=false->B.pV=[]
theorem ade (g:Giv):BdI g bd0:=⟨⟨fun _ _ _ h=>(by cases h),fun _ h=>(by cases h)⟩,fun h=>(by cases h),fun _=>rfl⟩
def Xw (g:Giv) (B:Bd) (s:List Stp) (B':Bd):Prop:=rJ g B.a s/\BdI g B'/\B'.a=rP B.a s
theorem Xw.stay {g:Giv} {B:Bd} (h:BdI g B):Xw g B [] B:=⟨trivial,h,rfl⟩
theorem aby {g:Giv} (hok:pM g.tree=true) {B:Bd} (h:BdI g B) (refuse:List Nm) (wakes:List Wkr):Xw g B (tq g B refuse wakes).1.2.2.2 (tq g B refuse wakes).2.1:=by
 unfold tq;split
 ·exact .stay h
 ·rename_i hd
  split
  ·exact .stay h
  ·obtain ⟨l,h1,h2,h3⟩:=zF hok (stop:=vC g refuse wakes) (tN g).reverse [] B.a [] rfl (fun k hk=>by cases hk) h.s;rw [aoQ] at h1;dsimp only;rw [h1];have hb:=jo h.s h2;cases hx:(qG (vC g refuse wakes) (tN g).reverse B.a []).2 with
   |some x=>exact ⟨h2.append hb.1,h,by rw [show upS l++dnS l=upS l++dnS l from rfl,zD];exact hb.2.symm⟩
   |none=>exact ⟨h2,⟨rJ.run h.s h2,fun _=>⟨B.a,h.s,h2,rfl⟩,fun e=>by cases e⟩,rfl⟩
theorem adf {g:Giv} {B:Bd} (h:BdI g B):Xw g B (BB B).1 (BB B).2.1:=by
 unfold BB;split
 ·rename_i hd
  obtain ⟨A,hA,hs,hr⟩:=h.d hd;obtain ⟨h1,h2⟩:=jo hA hs;dsimp only;have hr2:rP B.a (dnS B.pV)=A:=by rw [hr];exact h2
  refine ⟨by rw [hr];exact h1,⟨by rw [hr2];exact hA,fun e=>(by cases e),fun _=>rfl⟩,rfl⟩
 ·exact .stay h
theorem Oh {g:Giv} {B:Bd} {i:Int} {v:Bool} (h:FX g B i v=0): ∃k:Nat,i=k/\k<g.tree.length/\rU g k=true/\B.down=false/\B.a k≠v:=by
 unfold FX at h;split at h
 ·cases h
 ·rename_i h1
  split at h
  ·cases h
  ·rename_i h2
   rw [not_or,not_or] at h1;rw [not_or] at h2;obtain ⟨k,rfl⟩:=aoR (show 0<=i by omega);rw [ao3] at h1 h2;exact ⟨k,rfl,by omega,by simpa using h1.2.2,by simpa using h2.1,h2.2⟩
theorem adg {g:Giv} {B:Bd} (h:BdI g B) (i:Int):Xw g B (FY g B i).1 (FY g B i).2.1:=by
 unfold FY;split
 ·exact .stay h
 ·rename_i hm
  split
  ·exact .stay h
  ·rename_i ho
   obtain ⟨k,rfl,hk,hb,hd,ha⟩:=Oh (by simpa using hm:FX g B i true=0);rw [ao3] at ho ⊢;have hov: ∀x∈xF g k,B.a x=true:=by
    have:(xF g k).all (fun k=>B.a k)=true:=by simpa using ho
    exact List.all_eq_true.1 this
   have hs:=Uo h.s hb (by simpa using ha) hov;exact ⟨hs,⟨rJ.run h.s hs,fun e=>(by rw [hd] at e;cases e),fun _=>h.u hd⟩,rfl⟩
open Classical in
theorem adh {g:Giv} {i k:Nat} (h:inM g i k=true): ∀j∈uw g k,inM g i j=true:=by
 intro j hj;unfold inM at h ⊢;rw [decide_eq_true_eq] at h ⊢;rcases h with rfl|h
 ·exact .inr (.one hj)
 ·exact .inr (.more h hj)
theorem afv {g:Giv} (hok:pM g.tree=true) {B:Bd} (h:BdI g B) (i:Int):Xw g B (wkM g B i).1 (wkM g B i).2.1:=by
 unfold wkM;split
 ·exact .stay h
 ·rename_i hm
  obtain ⟨k,rfl,hk,hb,hd,ha⟩:=Oh (by simpa using hm:FX g B i false=0);rw [ao3];dsimp only;have hs:=EJ hok (In:=inM g k) (fun x hx=>adh hx) (tN g) [] B.a rfl (fun j hj=>by cases hj) h.s;exact ⟨hs,⟨rJ.run h.s hs,fun e=>(by rw [hd] at e;cases e),fun _=>h.u hd⟩,rfl⟩
structure Mv where
 kind:Int
 i:Int
 refuse:List Nm
 wakes:List Wkr
noncomputable def VA (g:Giv) (B:Bd) (m:Mv):List Stp×Bd:=
 if m.kind=0 then ((tq g B m.refuse m.wakes).1.2.2.2,(tq g B m.refuse m.wakes).2.1)
 else if m.kind=1 then ((BB B).1,(BB B).2.1)
 else if m.kind=2 then ((FY g B m.i).1,(FY g B m.i).2.1)
 else ((wkM g B m.i).1,(wkM g B m.i).2.1)
theorem adi (l:List Nat):dnS l=((upS l).reverse).map fun p=>(p.1, !p.2):=by
 unfold dnS upS;rw [<-ar8,aqa];rfl
theorem Zy (l:List Nat):(upS l++dnS l).reverse=(upS l++dnS l).map fun p=>(p.1, !p.2):=by
 unfold upS dnS;rw [List.reverse_append,aqn, <-ar8,aso, <-ar8,aqa,aqa];rfl
theorem Zz {l:List Nat} {i:Nat} {p:Stp} (h:(upS l++dnS l)[i]? =some p):(upS l++dnS l)[(upS l++dnS l).length-1-i]? =some (p.1, !p.2):=by
 have hi:i<(upS l++dnS l).length:=(List.getElem?_eq_some_iff.1 h).1;rw [<-asq hi,Zy,apF,h];rfl
theorem ZA (l:List Nat):(upS l++dnS l).length=2*l.length:=by
 unfold upS dnS;rw [adL,aqt,aqt,List.length_reverse];omega
theorem VB {l:List Nat} {i:Nat} {p:Stp} (h:(upS l)[i]? =some p):(dnS l)[(upS l).length-1-i]? =some (p.1,false)/\p.2=true:=by
 have hi:i<(upS l).length:=(List.getElem?_eq_some_iff.1 h).1;have h2:p.2=true:=by unfold upS at h;rw [apF] at h;obtain ⟨x,_,rfl⟩:=Option.map_eq_some_iff.1 h;rfl
 refine ⟨?_,h2⟩;have h3:(upS l).reverse[(upS l).length-1-i]? =(upS l)[i]? :=by rw [asq (by omega)];congr 1;omega
 rw [adi,apF,h3,h];show some (p.1, !p.2)=_;rw [h2];rfl
section
variable {g:Giv}
theorem Ur (hok:pM g.tree=true) {B:Bd} (h:BdI g B) (hd:B.down=false) (refuse:List Nm) (wakes:List Wkr):
 (tq g B refuse wakes=((false,false,0,[]),B,1))∨
 (∃(l:List Nat) (x:Nat×Bool),tq g B refuse wakes=((false,x.2,(x.1:Int),upS l++dnS l),B,0))∨
 (∃(l:List Nat),tq g B refuse wakes=((true,false, -1,upS l),⟨rP B.a (upS l),l,true⟩,0)/\(∀k∈tN g,rP B.a (upS l) k=true)/\BB ⟨rP B.a (upS l),l,true⟩=(dnS l,⟨B.a,[],false⟩,0)):=by
 unfold tq;rw [if_neg (by rw [hd];decide)];split
 ·exact .inl rfl
 ·obtain ⟨l,h1,h2,h3⟩:=zF hok (stop:=vC g refuse wakes) (tN g).reverse [] B.a [] rfl (fun k hk=>by cases hk) h.s;rw [aoQ] at h1;dsimp only;rw [h1];cases hx:(qG (vC g refuse wakes) (tN g).reverse B.a []).2 with
  |some x=>exact .inr (.inl ⟨l,x,rfl⟩)
  |none=>refine .inr (.inr ⟨l,rfl,h3 hx,?_⟩);unfold BB;rw [if_pos rfl];dsimp only;have:=(jo h.s h2).2;rw [show rP (rP B.a (upS l)) (dnS l)=B.a from this]
theorem ZB (B:Bd):(BB B).2.1.down=false:=by
 unfold BB;split
 ·rfl
 ·rename_i h;simpa using h
theorem Q5 {i:Nat} (hi:i<g.tree.length):uw g i=if rU g i=true then (if 0<i then [par g.tree i] else [])++((pK g.tree).filterMap fun e=>if e.src=i/\e.soft=false/\(rowOf (pY g) (wE g).2 e.src).2.1≠none then e.dst else none)++(((sZ g).1.filter fun e=>decide (e.src=i)).map fun e=>e.dst.getD 0) else []:=by
 unfold uw CZ Vy;rw [aqR];by_cases hb:rU g i=true
 ·rw [if_pos hb];have hf: ∀l:List (Nat×Nat),l.filter (fun p=>decide (p.1=i)&&rU g p.1)=l.filter fun p=>decide (p.1=i):=fun l=>by
   apply asi;intro p _;by_cases e:p.1=i
   ·rw [e,hb,asb]
   ·rw [decide_eq_false e,aqg]
  rw [hf,arF,arF,aqn,aqn];congr 1
  ·congr 1
   ·
    have key: ∀m,m<=g.tree.length->(((abS m).filterMap fun i=>if 0<i then some (i,par g.tree i) else none).filter fun p=>decide (p.1=i)).map (fun p=>p.2)=if i<m/\0<i then [par g.tree i] else []:=by
     intro m;induction m with
     |zero=>intro _;simp
     |succ m ih=>
      intro hm;rw [Kz,asc,arF,aqn,ih (by omega)];by_cases e:m=i
      ·subst e;rw [if_neg (by omega)];by_cases h0:0<m
       ·rw [if_pos ⟨by omega,h0⟩];simp [h0]
       ·rw [if_neg (by omega)];simp [h0]
      ·have hne:(((([m]:List Nat).filterMap fun i=>if 0<i then some (i,par g.tree i) else none).filter fun p=>decide (p.1=i)).map fun p=>p.2)=[]:=by
        by_cases h0:0<m
        ·simp [h0,e]
        ·simp [h0]
       rw [hne,aqJ];by_cases h1:i<m/\0<i
       ·rw [if_pos h1,if_pos ⟨by omega,h1.2⟩]
       ·rw [if_neg h1,if_neg (by omega)]
    rw [key g.tree.length (aat _)];by_cases h0:0<i
    ·rw [if_pos ⟨hi,h0⟩,if_pos h0]
    ·rw [if_neg (fun e=>h0 e.2),if_neg h0]
   ·generalize pK g.tree=E;induction E with
    |nil=>rfl
    |cons e r ih=>
     rw [ar6,ar6];by_cases hc:e.soft=false/\(rowOf (pY g) (wE g).2 e.src).2.1≠none
     ·rw [if_pos hc];cases hd:e.dst with
      |none=>
       have:(if e.src=i/\e.soft=false/\(rowOf (pY g) (wE g).2 e.src).2.1≠none then (none:Option Nat) else none)=none:=by split<;>rfl
       rw [this];exact ih
      |some d=>
       dsimp only [Option.map_some];rw [ar0];by_cases he:e.src=i
       ·rw [if_pos (by simpa using he),if_pos ⟨he,hc⟩,acK,ih]
       ·rw [if_neg (by simpa using he),if_neg (fun q=>he q.1),ih]
     ·rw [if_neg hc,if_neg (fun q=>hc q.2)];exact ih
  ·generalize (sZ g).1=U;induction U with
   |nil=>rfl
   |cons e r ih=>
    rw [acK,ar0,ar0];by_cases he:e.src=i
    ·rw [if_pos (by simpa using he),if_pos (by simpa using he),acK,acK,ih]
    ·rw [if_neg (by simpa using he),if_neg (by simpa using he),ih]
 ·rw [if_neg hb];have: ∀l:List (Nat×Nat),l.filter (fun p=>decide (p.1=i)&&rU g p.1)=[]:=fun l=>by rw [List.filter_eq_nil_iff];intro p _ hp;simp only [ao0,decide_eq_true_eq] at hp;rw [hp.1] at hp;exact hb hp.2
  rw [this];rfl
end
end Go.Proofs.YtfbnfhhmiiahnaaGreatDoor
namespace Go.Proofs.YtfbnfhhmiiahnaaGreatDoor
open Go Wk
section
variable {β γ:Type} {f:β->List Value} {g g1 g2:β->Value} {xs x1 x2:β->List γ} {h:γ->Value} {te e sz:Nat} {Pb Pb' M:Nat->Prop} {w w':World} {v:Value} {bs:List β}
theorem Wk.LLs.akm (H:LLs f g xs h te e sz Pb w v bs) (c:Chg M w w') (hr: ∀k,v.ownBlock=some k-> ¬M k) (he: ∀b∈bs, ∀k,(g b).ownBlock=some k-> ¬M k):LLs f g xs h te e sz Pb w' v bs:=
 ⟨H.row.chg (oH f) c hr,fun b hb=>(H.el b hb).chg (oJ h) c (he b hb),H.wG,H.sep⟩
structure L2s (f:β->List Value) (g1 g2:β->Value) (x1 x2:β->List γ) (h:γ->Value) (te e sz:Nat) (Pb:Nat->Prop) (w:World) (v:Value) (bs:List β):Prop where
 a:LLs f g1 x1 h te e sz Pb w v bs
 b:LLs f g2 x2 h te e sz Pb w v bs
 x: ∀p∈bs, ∀q∈bs,Sep (g1 p) (g2 q)
theorem L2s.nil:L2s f g1 g2 x1 x2 h te e sz Pb w (.slice none 0 0) []:=⟨jk,jk,fun p hp=>by cases hp⟩
theorem L2s.chg (H:L2s f g1 g2 x1 x2 h te e sz Pb w v bs) (c:Chg M w w') (hd: ∀k,Pb k-> ¬M k):L2s f g1 g2 x1 x2 h te e sz Pb w' v bs:=⟨H.a.chg c hd,H.b.chg c hd,H.x⟩
theorem L2s.new (H:L2s f g1 g2 x1 x2 h te e sz Pb w v bs) (c:New w w'):L2s f g1 g2 x1 x2 h te e sz Pb w' v bs:=H.chg c i3
theorem L2s.mono (H:L2s f g1 g2 x1 x2 h te e sz Pb w v bs) (hP: ∀b,b<w.heap.size->Pb b->Pb' b):L2s f g1 g2 x1 x2 h te e sz Pb' w v bs:=⟨H.a.mono hP,H.b.mono hP,H.x⟩
theorem L2s.flip (H:L2s f g1 g2 x1 x2 h te e sz Pb w v bs):L2s f g2 g1 x2 x1 h te e sz Pb w v bs:=⟨H.b,H.a,fun p hp q hq=>(H.x q hq p hp).symm⟩
theorem L2s.ZC (H:L2s f g1 g2 x1 x2 h te e sz Pb w v bs) {b:β} {v':Value} (h1:g1 b=.slice none 0 0) (h2:g2 b=.slice none 0 0) (y1:x1 b=[]) (y2:x2 b=[]) (hr:oP (flat f) te sz Pb (fun _=>False) w' v' (bs++ [b])) (c:Chg (fun k=>v.ownBlock=some k) w w') (lie:v'.ownBlock=v.ownBlock∨ ∀k,v'.ownBlock=some k->w.heap.size<=k):
 L2s f g1 g2 x1 x2 h te e sz Pb w' v' (bs++ [b]):=by
 have n1: ∀u:Value,Sep (g1 b) u:=fun u k e=>by rw [h1] at e;cases e
 have n2: ∀u:Value,Sep (g2 b) u:=fun u k e=>by rw [h2] at e;cases e
 refine ⟨H.a.snoc hr c lie (by rw [h1,y1];exact aN) (n1 v) (fun c _=>n1 _),H.b.snoc hr c lie (by rw [h2,y2];exact aN) (n2 v) (fun c _=>n2 _),fun p hp q hq=>?_⟩;rcases List.mem_append.1 hp with hp|hp
 ·rcases List.mem_append.1 hq with hq|hq
  ·exact H.x p hp q hq
  ·rw [List.mem_singleton.1 hq];exact (n2 _).symm
 ·rw [List.mem_singleton.1 hp];exact n1 _
theorem L2s.set1 (H:L2s f g1 g2 x1 x2 h te e sz Pb w v bs) {i:Nat} {b b':β} {w1:World} (hi:bs[i]? =some b) (hg:g2 b'=g2 b) (hx:x2 b'=x2 b) (ho:oP (Wk.one h) e 1 Pb (fun _=>False) w1 (g1 b') (x1 b')) (c1:Chg (fun k=>(g1 b).ownBlock=some k) w w1)
 (lie:(g1 b').ownBlock=(g1 b).ownBlock∨ ∀k,(g1 b').ownBlock=some k->w.heap.size<=k) (hr:oP (flat f) te sz Pb (fun _=>False) w' v (bs.set i b')) (c2:Chg (fun k=>v.ownBlock=some k) w1 w'):L2s f g1 g2 x1 x2 h te e sz Pb w' v (bs.set i b'):=by
 have hb:=apD hi;have hB:=H.b.akm c1 (fun k e1 e2=>H.a.wG b hb k e2 e1) (fun q hq k e1 e2=>H.x b hb q hq k e2 e1);refine ⟨H.a.set hi ho c1 lie hr c2,hB.put hi hg hx hr c2,fun p hp q hq=>?_⟩;have old: ∀q∈bs.set i b', ∃q0∈bs,g2 q=g2 q0:=fun q hq=>by
  rcases arM hq with hq|rfl
  ·exact ⟨q,hq,rfl⟩
  ·exact ⟨b,hb,hg⟩
 obtain ⟨q0,hq0,eq⟩:=old q hq;rw [eq];rcases arM hp with hp|rfl
 ·exact H.x p hp q0 hq0
 ·intro k e1 e2;rcases lie with l|l
  ·exact H.x b hb q0 hq0 k (l▸e1) e2
  ·have h1:=l k e1;have h2:=((H.b.el q0 hq0).lt e2).2;omega
theorem L2s.set2 (H:L2s f g1 g2 x1 x2 h te e sz Pb w v bs) {i:Nat} {b b':β} {w1:World} (hi:bs[i]? =some b) (hg:g1 b'=g1 b) (hx:x1 b'=x1 b) (ho:oP (Wk.one h) e 1 Pb (fun _=>False) w1 (g2 b') (x2 b')) (c1:Chg (fun k=>(g2 b).ownBlock=some k) w w1)
 (lie:(g2 b').ownBlock=(g2 b).ownBlock∨ ∀k,(g2 b').ownBlock=some k->w.heap.size<=k) (hr:oP (flat f) te sz Pb (fun _=>False) w' v (bs.set i b')) (c2:Chg (fun k=>v.ownBlock=some k) w1 w'):L2s f g1 g2 x1 x2 h te e sz Pb w' v (bs.set i b'):=
 (H.flip.set1 hi hg hx ho c1 lie hr c2).flip
theorem L2s.put (H:L2s f g1 g2 x1 x2 h te e sz Pb w v bs) {i:Nat} {b b':β} (hi:bs[i]? =some b) (h1:g1 b'=g1 b) (y1:x1 b'=x1 b) (h2:g2 b'=g2 b) (y2:x2 b'=x2 b) (hr:oP (flat f) te sz Pb (fun _=>False) w' v (bs.set i b')) (c:Chg (fun k=>v.ownBlock=some k) w w'):L2s f g1 g2 x1 x2 h te e sz Pb w' v (bs.set i b'):=by
 refine ⟨H.a.put hi h1 y1 hr c,H.b.put hi h2 y2 hr c,fun p hp q hq=>?_⟩;have hb:=apD hi;have o1: ∃p0∈bs,g1 p=g1 p0:=by
  rcases arM hp with hp|rfl
  ·exact ⟨p,hp,rfl⟩
  ·exact ⟨b,hb,h1⟩
 have o2: ∃q0∈bs,g2 q=g2 q0:=by
  rcases arM hq with hq|rfl
  ·exact ⟨q,hq,rfl⟩
  ·exact ⟨b,hb,h2⟩
 obtain ⟨p0,hp0,e1⟩:=o1;obtain ⟨q0,hq0,e2⟩:=o2;rw [e1,e2];exact H.x p0 hp0 q0 hq0
end
end Go.Proofs.YtfbnfhhmiiahnaaGreatDoor
namespace Go.Proofs.YtfbnfhhmiiahnaaGreatDoor
open Go Wk
open Go.RowKit (Below)
attribute [local irreducible] Go.Calls
structure Sn where
 path:Nm
 bound:Bool
 yP:Bool
 hv:SV
 hl:List Nat
 ov:SV
 ol:List Nat
 asleep:Bool
deriving Inhabited
abbrev snC (x:Sn):List Value:=[vs x.path,.bool x.bound,.bool x.yP,svV x.hv,svV x.ov,.bool x.asleep]
theorem adk (x:Sn): ∀c∈snC x,c.oneCell'=true:=by
 intro c hc;simp at hc;rcases hc with rfl|rfl|rfl|rfl|rfl|rfl<;>rfl
theorem ZE:rF (flat snC) 6:=rC _ (fun _=>rfl) adk
structure BdM (Pb:Nat->Prop) (bb:Nat) (N:List Sn) (ord pV:List Nat) (down:Bool) (nv ov sv:Value) (W:World):Prop where
 b:Bk W bb 85 [nv,ov,sv,.bool down]
 nd:L2s snC (fun x=>svV x.hv) (fun x=>svV x.ov) (fun x=>x.hl) (fun x=>x.ol) viN 94 3 6 Pb W nv N
 od:oP (Wk.one viN) 3 1 Pb NoB W ov ord
 sl:oP (Wk.one viN) 3 1 Pb NoB W sv pV
 so: ∀x∈N,Sep (svV x.hv) ov/\Sep (svV x.ov) ov/\Sep (svV x.hv) sv/\Sep (svV x.ov) sv
 os:Sep ov sv
 win: ∀x∈N,(∀k∈x.hl,k<N.length)/\ ∀k∈x.ol,k<N.length
 nl:N.length<=512
 lo:Pb bb
section
variable {Pb Pb':Nat->Prop} {bb:Nat} {N:List Sn} {ord pV:List Nat} {down:Bool} {nv ov sv:Value} {W W':World}
theorem BdM.new (g:BdM Pb bb N ord pV down nv ov sv W) (c:New W W'):BdM Pb bb N ord pV down nv ov sv W':=
 ⟨g.b.chg c id,g.nd.new c,g.od.new (oJ _) c,g.sl.new (oJ _) c,g.so,g.os,g.win,g.nl,g.lo⟩
theorem BdM.chg {M:Nat->Prop} (g:BdM Pb bb N ord pV down nv ov sv W) (c:Chg M W W') (hd: ∀k,Pb k-> ¬M k):BdM Pb bb N ord pV down nv ov sv W':=
 ⟨g.b.chg c (hd bb g.lo),g.nd.chg c hd,g.od.chg (oJ _) c fun k hk=>hd k (g.od.lt hk).1,g.sl.chg (oJ _) c fun k hk=>hd k (g.sl.lt hk).1,g.so,g.os,g.win,g.nl,g.lo⟩
theorem BdM.mono (g:BdM Pb bb N ord pV down nv ov sv W) (hP: ∀b,b<W.heap.size->Pb b->Pb' b):BdM Pb' bb N ord pV down nv ov sv W:=
 ⟨g.b,g.nd.mono hP,g.od.mono (pq _) hP i3,g.sl.mono (pq _) hP i3,g.so,g.os,g.win,g.nl,hP _ g.b.lt g.lo⟩
end
def aF (N:List Sn) (i:Nat):Bool:=(N.getD i default).asleep
structure BdG (g:Giv) (N:List Sn):Prop where
 len:N.length=g.tree.length
 path: ∀i x,N[i]? =some x->x.path=pX g.tree i
 bound: ∀i x,N[i]? =some x->x.bound=rU g i
 yP: ∀i x,N[i]? =some x->x.yP=wV g.tree i
 hangs: ∀i x,N[i]? =some x->x.hl=uw g i
 over: ∀i x,N[i]? =some x->x.ol=xF g i
section
variable {P:Program} {n:Nat} {ds:List Deferred} {Q:Po} {F:Fr} {w:World} {ops rest:List Oper} {d:Nat} {ty:TypeId} {pos:String} {aft:Array Edge}
theorem Wk.Wl.adl {x y:Operand} {t t':TypeId} {a b:Bool} [ht:Und P t .bool] (hx:ev n F x=.bool a) (hy:ev n F y=.bool b) (c:Wl P n ds Q ops rest (upd F d (.bool (a == b))) w):Wl P n ds Q ops (⟨some d,.binOp .eql t x y t',ty,pos,aft,none⟩::rest) F w:=by
 refine Wl.val ?_ c;have h:(Op.equalIn 10000 t (.bool a) (.bool b)).run P w=.ok (a == b) w:=run_equalIn_bool' (P:=P) w 9999 t a b ht.h;have hb:(binOp .eql t (.bool a) (.bool b)).run P w=.ok (.bool (a == b)) w:=by simp only [binOp];simp [Op.equal,Op.maxDepth,h]
 simp only [execOp,hx,hy,Sem.run_bind,wP,Result.andThen_ok,hb,Sem.run_pure]
end
section
variable {Pb:Nat->Prop} {bb:Nat} {N:List Sn} {ord pV:List Nat} {down:Bool} {nv ov sv:Value} {W:World}
theorem BdM.put {i:Nat} {x:Sn} {v:Bool} {W':World} (g:BdM Pb bb N ord pV down nv ov sv W) (hi:N[i]? =some x) (hr:oP (flat snC) 94 6 Pb (fun _=>False) W' nv (N.set i {x with asleep:=v})) (c:Chg (fun k=>nv.ownBlock=some k) W W'):
 BdM Pb bb (N.set i {x with asleep:=v}) ord pV down nv ov sv W':=by
 have hx:=apD hi;refine ⟨g.b.chg c fun e=>g.nd.a.row.pR g.b rfl e rfl,g.nd.put hi rfl rfl rfl rfl hr c,g.od.chg (oJ _) c fun k hk e=>?_,g.sl.chg (oJ _) c fun k hk e=>?_,fun y hy=>?_,g.os,fun y hy=>?_,by rw [aqY];exact g.nl,g.lo⟩
 ·exact g.od.tK g.nd.a.row rfl k hk e
 ·exact g.sl.tK g.nd.a.row rfl k hk e
 ·rcases arM hy with hy|rfl
  ·exact g.so y hy
  ·exact g.so x hx
 ·rw [aqY];rcases arM hy with hy|rfl
  ·exact g.win y hy
  ·exact g.win x hx
theorem Q7 {i:Nat} {x:Sn} {v:Bool} (g:BdM Pb bb N ord pV down nv ov sv W) (hx:N[i]? =some x):
 Calls prog 29 #[pT bb,vi i,.bool v] W (Ret fun r w'=>r=.agg #[vi i,.bool v]/\BdM Pb bb (N.set i {x with asleep:=v}) ord pV down nv ov sv w'/\Chg (fun k=>nv.ownBlock=some k) W w'):=by
 have hnl:=g.nl;have hi:i<N.length:=(List.getElem?_eq_some_iff.1 hx).1;replace g:=g.mono (Pb':=fun b=>Pb b/\b<W.heap.size) fun b hb e=>⟨e,hb⟩;obtain ⟨gb,adm,hgv,hgp,hgl,hgo⟩:=g.nd.a.row.blk (by intro e;rw [e] at hi;simp at hi);subst hgv;refine oI func29 rfl ntmps29 rfl ?_;refine qq0 ?_;refine Wl.alloc fun w1 b6 n1 s1=>?_;replace b6:Bk w1 W.heap.size 64 [vi 0,.bool false]:=b6;have g1:=g.new n1;refine qq4 ?_;refine ah (u:=.slice (some ⟨gb,0,none⟩) N.length adm) rfl (g1.b.cell (o:=0) rfl) ?_;(repeat' (refine aa1 ?_));refine dB (b:=gb) (off:=0) (l:=N.length) (cap:=adm) rfl rfl (by omega) (by omega) ?_;(repeat' (refine aa5 ?_));refine eF (f:=snC) (sz:=6) (p:=x) (q:={x with asleep:=v}) (j:=i) (o:=5) (cap:=adm) (u:=.bool v) (fun _=>rfl) (show (5:Nat)<6 by omega) rfl hx rfl g1.nd.a.row rfl (by show Value.pointer (some ⟨gb,0+(i:Int).toNat*6+5,none⟩)=_;simp) rfl fun w2 o2 c2=>?_;have g2:=g1.put hx o2 c2;have hz1:=n1.size;have hb6:=b6.lt;have akn: ¬gb=W.heap.size:=by omega
 have b62:=b6.chg c2 fun e=>by injection e with e;exact akn e
 refine qq4 ?_;refine bJ (ps:=[(0,.tmp 15),(1,.tmp 16)]) (parts:=[(0,vi i),(1,.bool v)]) rfl rfl (by simp [Value.cells]) ?_;refine aK (new:=[vi i,.bool v]) b62 rfl rfl rfl rfl zl2 (by intro c hc;simp at hc;rcases hc with rfl|rfl<;>rfl) fun w3 b63 c3 s3=>?_;replace b63:Bk w3 W.heap.size 64 [vi i,.bool v]:=b63;have g3:=(g2.chg c3 fun k hk e=>by have:=hk.2;omega).mono (Pb':=Pb) fun b _ e=>e.1;refine qq1 ?_;exact eY (yG rfl (rY rfl rfl b63 rfl)) ⟨_,rfl,rfl,g3,Chg.trans (Chg.trans n1.any c2 fun k _ e=>e) c3 fun k hk e=>by omega⟩
theorem Q8 {i:Int} (g:BdM Pb bb N ord pV down nv ov sv W):
 Calls prog 13 #[pT bb,vi i] W (Ret fun r w'=>r=.bool (decide (0<=i/\i<N.length)&&aF N i.toNat)/\New W w'):=by
 have hnl:=g.nl;obtain ⟨na,nc,rfl,_,_⟩:=g.nd.a.row.form;have hrd:=g.nd.a.row.rd (oU snC);refine oI func13 rfl ntmps13 rfl ?_;refine qq2 ?_;refine jX rfl rfl ?_;(repeat' (first|refine qq4 ?_|refine aV rfl rfl (fun _=>?_) (fun _=>?_)))
 ·refine ah (u:=.slice na N.length nc) rfl (g.b.cell (o:=0) rfl) ?_;(repeat' (first|refine qq4 ?_|refine aa2 (fun _=>?_) (fun _=>?_)))
  ·obtain ⟨k,rfl⟩:=aoR (show 0<=i by omega);obtain ⟨x,hx⟩:=pz N (k:=k) (by omega);refine ah (u:=.slice na N.length nc) rfl (g.b.cell (o:=0) rfl) ?_;refine qq5 ?_;refine aO hrd rfl rfl (by omega) hx fun b o cs hl hR hat=>?_;obtain rfl:cs=snC x:=hR;refine qq5 ?_;refine ah (u:=.bool x.asleep) rfl (hat.get 5 rfl) ?_;clear hat;have ha:aF N k=x.asleep:=by unfold aF;rw [apJ,hx];rfl
   have hr:(decide (0<=(k:Int)/\(k:Int)<N.length)&&aF N (k:Int).toNat)=x.asleep:=by rw [ao3,ha,decide_eq_true (by omega),aqf]
   rw [hr];refine qq6 ?_;exact ay rfl rfl ⟨_,rfl,rfl,aB _ _⟩
  ·rw [decide_eq_false (by omega),aqg];exact ay rfl rfl ⟨_,rfl,rfl,aB _ _⟩
 ·rw [decide_eq_false (by omega),aqg];exact ay rfl rfl ⟨_,rfl,rfl,aB _ _⟩
theorem Xx (g:BdM Pb bb N ord pV down nv ov sv W):
 Calls prog 18 #[pT bb] W (Ret fun r w'=>r=.bool down/\New W w'):=by
 refine oI func18 rfl ntmps18 rfl ?_;refine qq2 ?_;refine jX rfl rfl ?_;refine qq5 ?_;refine ah (u:=.bool down) rfl (g.b.cell (o:=3) rfl) ?_;refine qq6 ?_;exact ay rfl rfl ⟨_,rfl,rfl,aB _ _⟩
def xZ (N:List Sn) (down:Bool) (i:Int) (v:Bool):Int:=
 if i<0∨(N.length:Int)<=i∨(N.getD i.toNat default).bound=false then 1 else if down=true∨aF N i.toNat=v then 5 else 0
theorem Q9 {i:Int} {v:Bool} (g:BdM Pb bb N ord pV down nv ov sv W):
 Calls prog 38 #[pT bb,vi i,.bool v] W (Ret fun r w'=>r=vi (xZ N down i v)/\New W w'):=by
 have hnl:=g.nl;obtain ⟨na,nc,rfl,_,_⟩:=g.nd.a.row.form;have hrd:=g.nd.a.row.rd (oU snC);have out:i<0∨(N.length:Int)<=i->xZ N down i v=1:=fun h=>by unfold xZ;rw [if_pos (h.imp id .inl)]
 refine oI func38 rfl ntmps38 rfl ?_;refine qq4 ?_;refine gZ rfl rfl ?_;(repeat' (first|refine qq4 ?_|refine aa2 (fun _=>?_) (fun _=>?_)))
 ·rw [out (.inl (by omega))];exact ay rfl rfl ⟨_,rfl,rfl,aB _ _⟩
 ·refine ah (u:=.slice na N.length nc) rfl (g.b.cell (o:=0) rfl) ?_;(repeat' (first|refine qq4 ?_|refine aV rfl rfl (fun _=>?_) (fun _=>?_)))
  ·rw [out (.inr (by omega))];exact ay rfl rfl ⟨_,rfl,rfl,aB _ _⟩
  ·obtain ⟨k,rfl⟩:=aoR (show 0<=i by omega);obtain ⟨x,hx⟩:=pz N (k:=k) (by omega);have hxd:N.getD k default=x:=by rw [apJ,hx];rfl
   have hm:xZ N down (k:Int) v=if x.bound=false then 1 else if down=true∨x.asleep=v then 5 else 0:=by
    unfold xZ aF;rw [ao3,hxd];by_cases hb:x.bound=false
    ·rw [if_pos (.inr (.inr hb)),if_pos hb]
    ·rw [if_neg (fun e=>e.elim (fun e=>by omega) fun e=>e.elim (fun e=>by omega) hb),if_neg hb]
   rw [hm];clear hm out;refine ah (u:=.slice na N.length nc) rfl (g.b.cell (o:=0) rfl) ?_;refine qq5 ?_;refine aO hrd rfl rfl (by omega) hx fun b o cs hl hR hat=>?_;obtain rfl:cs=snC x:=hR;refine qq5 ?_;refine ah (u:=.bool x.bound) rfl (hat.get 1 rfl) ?_;clear hat;cases x.bound with
   |false=>refine qq5 ?_;exact ay rfl rfl ⟨_,rfl,rfl,aB _ _⟩
   |true=>
    refine qq4 ?_;refine ah (u:=.bool down) rfl (g.b.cell (o:=3) rfl) ?_;cases down with
    |true=>refine qq5 ?_;exact ay rfl rfl ⟨_,rfl,rfl,aB _ _⟩
    |false=>
     refine qq5 ?_;refine ah (u:=.slice na N.length nc) rfl (g.b.cell (o:=0) rfl) ?_;refine qq5 ?_;refine aO hrd rfl rfl (by omega) hx fun b o cs hl hR hat=>?_;obtain rfl:cs=snC x:=hR;refine qq5 ?_;refine ah (u:=.bool x.asleep) rfl (hat.get 5 rfl) ?_;clear hat;refine qq5 ?_;refine Wl.adl rfl rfl ?_
     cases x.asleep<;>cases v<;>(
      refine qq4 ?_;exact ay rfl rfl ⟨_,rfl,rfl,aB _ _⟩)
end
end Go.Proofs.YtfbnfhhmiiahnaaGreatDoor
