/-
  Texts of this claim, one behind the other: C1, D1, C2, C3, BL, C4, Hk, SrksortC, Sc, C5, Qp, D2, S1, S2, S3, S4, S5, S6, S7, Lez, BG, C6, S8.
-/
import Derived.Test.YtfbnfhhmiiahnaaGreatDoorOb
import Derived.Laws.StructEq
import Derived.ChangeKeysEq
import Derived.Shelf.GgSortFunc.RowK
import Derived.Shelf.SlSortCmp.NoneTotal
import Derived.Ground.SlsfProg
import Derived.Test.YtfbnfhhmiiahnaaGreatDoorProg
set_option linter.all false
set_option maxHeartbeats 16000000
set_option maxRecDepth 8000
open List renaming length_append → am7,append_assoc → adK,mem_of_getElem? → aop,length_singleton → anM,range → ab8,length_take → anD,take_length → aon,append_nil → aoS,getElem?_append_right → anb,length_nil → an8,length_cons → anJ,length_drop → anS,getElem?_eq_none → anl,length_set → apn,length_map → aoR,drop_length → aoG,getElem?_eq_getElem → anv,getElem?_take → aaQ,take_of_length_le → anL,drop_drop → aoa,length → apq,getElem?_drop → ad6,ext_getElem? → anC,mem_filter → anj,mem_range → ano,flatMap_cons → aoH,map_append → aoN,mem_cons_of_mem → aoC,getElem?_map → an3,length_mergeSort → apu,nil_append → ang,drop_zero → anK,length_concat → apv,sublist_append_left → apw,sublist_append_right → apx,replicate → aok,filter_append → apy,map_cons → acd,drop → apA,lt_irrefl → apB,drop_of_length_le → apC,cons_append → am8,filter_sublist → anz,all_eq_true → apD,getElem?_append_left → anm,set_append_right → anw,getElem?_cons_succ → apl,getElem?_cons_zero → apm,drop_set_of_lt → apE,getElem?_set → anO,take_set_of_le → apF,flatMap_append → apI,drop_succ_cons → apJ,mem_of_mem_drop → apK,eq_nil_of_length_eq_zero → anf,lt_trans → apd,perm_append_comm → apM,mem_append → apN,pairwise_lt_range → anQ,length_filter_le → apO,length_range → apP,range_succ → apQ,map_map → aoz
open Nat renaming le_refl → aap,zero_add → ace,zero_le → anq,succ_mul → apo,add_sub_cancel → ao4,min_eq_right → apr,sub_self → aps,mul_comm → anZ,mod_lt → apt,zero_mul → anV,min_eq_left → anh,add_mul → aaR,add_zero → anN,eq_zero_or_pos → anY,div_lt_of_lt_mul → apG,div_add_mod → apH,mul_le_mul_right → aaw,add_sub_cancel_left → apL
open Int renaming toNat_natCast → ant
open Array renaming getElem?_eq_getElem → aaX,getD_eq_getD_getElem? → ab9,getElem?_toList → aoQ,getElem?_append_left → aoV,getElem?_modify → aoJ,replicate → anp,getElem?_replicate → anB
open Bool renaming and_eq_true → ann
open Option renaming isSome → apz,map_some → am6
open Go.Proofs.Tryz
namespace Go.Proofs.YtfbnfhhmiiahnaaGreatDoor
open Go Wk
open Go.RowKit (Below)
attribute [local irreducible] Go.Calls
section
variable {P:Program} {n:Nat} {ds:List Deferred} {Q:Po} {F:Fr} {w:World} {ops rest:List Oper} {d:Nat} {ty:TypeId} {pos:String} {aft:Array Edge}
theorem jX {α:Type} {f:α->Value} {N:Nat} {ps:List (Nat×Operand)} {t e:TypeId} {bytes:Nat} {agg:Bool} {z:Value} {us:List α} (hf: ∀x,(f x).oneCell'=true) [ht:Und P t (.slice e)] [he:ElT P e 1 bytes agg z] (hN:us.length=N) (hps:ps.map (fun p=>(p.1,ev n F p.2))=NI 0 (us.map f))
 (h0:0<us.length) (h1:us.length<=1000) (c: ∀v w',nP (Wk.one f) e 1 (fun b=>w.heap.size<=b) NoB w' v us->New w w'->Wl P n ds Q ops rest (upd F d v) w'):
 Wl P n ds Q ops (⟨some d,.buildSlice t N ps.toArray,ty,pos,aft,none⟩::rest) F w:=by
 subst hN;have hr:=wJ (P:=P) (w:=w) (us:=us.map f) ht.h he (by intro u hu;obtain ⟨x,_,rfl⟩:=List.mem_map.1 hu;have:=hf x;cases hx:f x<;>simp_all [Value.cells,Value.oneCell']) (by simpa using h0) (by simp;omega);have hfl: ∀us:List α,(us.map f).flatMap (fun u=>u.cells.toList)=us.map f:=by
  intro us;induction us with
  |nil=>rfl
  |cons x r ih=>
   have:(f x).cells= #[f x]:=by have:=hf x;cases hx:f x<;>simp_all [Value.cells,Value.oneCell']
   rw [acd,aoH,ih,this];rfl
 rw [hfl,aoR] at hr;refine Wl.val (w':=w.alloc (.cells (us.map f).toArray e)) ?_ (c (.slice (some ⟨w.heap.size,0,none⟩) us.length us.length) _ ?_ (Chg.alloc _ _ _))
 ·simp only [execOp,List.map_toArray,hps,Sem.run_bind,hr,Result.andThen_ok,Sem.run_pure]
 ·refine iC (m:=us.length) rfl ⟨by simp,.inr ⟨w.heap.size,us.length,(us.map f).toArray,rfl,aap _,heap_alloc_new w _,aap _,by simp only [maxLen];omega,by simp,by rw [Nat.mul_one];exact anL (by simp)⟩⟩
end
theorem ne4:(4:Int)≠0:=by decide
theorem ne6:(6:Int)≠0:=by decide
theorem Tq:(170:Int)≠0:=by decide
abbrev xQ (x:Win):List Value:=[w64 x.1,w64 x.2]
theorem yg:qH (flat xQ) 2:=qA _ (fun _=>rfl) fun x c hc=>by simp at hc;rcases hc with rfl|rfl<;>rfl
theorem GK {t:List Nd} {i:Nat} (hi:i<t.length):t[i]? =some (ndA t i):=by
 obtain ⟨x,hx⟩:=nT t hi;rw [yJ hx];exact hx
theorem Eh {t:List Nd} (ht:og t=true) {i:Nat} (hi:i<t.length): ∀nm v,val (ndA t i).pz nm=some v->v.length<=1024:=fun nm v e=>zU ht hi (nm:=nm) e
theorem Iy {w w':World} {r:Value} {o:Option (List (List Nat))} (h:Om w w' r o): ∃v e rs,r=.tuple #[v,vi e]/\RdS rRow 1 (fun b=>w.heap.size<=b) w' v rs/\(o=some rs/\e=0∨o=none/\rs=[]/\e=4):=by
 obtain ⟨v,e,rfl,h⟩:=h;cases o with
 |none=>obtain ⟨rfl,rfl⟩:=h;exact ⟨_,_,[],rfl,cZ,.inr ⟨rfl,rfl,rfl⟩⟩
 |some rs=>obtain ⟨rfl,h⟩:=h;exact ⟨_,_,rs,rfl,h,.inl ⟨rfl,rfl⟩⟩
theorem xe {ps:List Pr} {a s:Nat} (h:wK ps=some (a,s)):1<=a/\a<=2/\s<=2:=by
 have key: ∀nm least dflt n,dflt<=2->least<=dflt->La ps nm least dflt=some n->least<=n/\n<=2:=by
  intro nm least dflt n h2 h3 h;unfold La at h;split at h
  ·cases h;exact ⟨h3,h2⟩
  ·split at h
   ·split at h
    ·rename_i hc;cases h;exact hc
    ·cases h
   ·cases h
 unfold wK at h;split at h
 ·rename_i h1 h2
  simp only [Option.some.injEq,Prod.mk.injEq] at h;obtain ⟨rfl,rfl⟩:=h;have k1:=key _ _ _ _ (by decide) (by decide) h1;have k2:=key _ _ _ _ (by decide) (by decide) h2;omega
 ·cases h
def Iz (w w':World) (r:Value) (o:Option (List Win)):Prop:= ∃v e,r=.tuple #[v,vi e]/\match o with
 |none=>e≠0
 |some ws=>e=0/\nP (flat xQ) 300 2 (fun b=>w.heap.size<=b) NoB w' v ws
theorem Oo {α:Type} {p:α->Bool} {l:List α} {k:Nat} {x:α} (hx:l[k]? =some x) (h: ∀y∈l.take k,p y=true) (hp:p x=true): ∀y∈l.take (k+1),p y=true:=by
 rw [take_snoc hx];intro y hy;rcases List.mem_append.1 hy with hy|hy
 ·exact h y hy
 ·rw [List.mem_singleton.1 hy];exact hp
theorem Xd {Pb:Nat->Prop} {w:World} {v:Value} {l:List Nd} {i:Nat} (h:RdS rNd 3 Pb w v l) (hok:og l=true) (h0:i≠0) (hi:i<l.length):
 Calls prog 186 #[v,vi i] w (Ret fun r w'=>Iz w w' r (UM l i)/\New w w'):=by
 obtain ⟨a,cap,rfl,hc1,hc2⟩:=h.form;have hlen:=pF hok;have hp:=uK hok h0 hi;have hx:=GK hi;have hy:=GK (t:=l) (i:=par l i) (by omega);unfold UM;refine nM func186 rfl ntmps186 rfl ?_;refine qq4 ?_;refine aK h rfl rfl (by omega) hx fun b o cs hl hR hat=>?_;obtain ⟨pv,rfl,hpv⟩:=hR;(repeat' (refine aa5 ?_));refine ah (u:=vi (ndA l i).parent) rfl (hat.get 0 rfl) ?_;clear hat;refine aK h rfl rfl (by omega) (by rw [hp.2,ant];exact hy) fun b o cs hl hR hat=>?_;obtain ⟨pv2,rfl,hpv2⟩:=hR;refine aS hat rfl rfl ?_;refine aj (Dh (x:=ndA l (par l i)) hpv2 (Eh hok (by omega))) rfl ?_;clear hat;rintro _ w1 ⟨rfl,n1⟩;cases hsp:wK (ndA l (par l i)).pz with
 |none=>(repeat' (first|refine qq5 ?_|(refine aa4 (fun _=>?_) (fun _=>?_)<;>(first|(exfalso;omega)|skip))));exact aB rfl rfl rfl ⟨_,rfl,⟨_,_,rfl,ne4⟩,n1⟩
 |some q=>
  obtain ⟨sa,ss⟩:=q;have hsl:=xe hsp;dsimp only;(repeat' (first|refine qq2 ?_|(refine aa4 (fun _=>?_) (fun _=>?_)<;>(first|(exfalso;omega)|skip))));refine aK (h.keep oh n1.keep) rfl rfl (by omega) hx fun b o cs hl hR hat=>?_;obtain ⟨pv3,rfl,aaM⟩:=hR;refine aS hat rfl rfl ?_;clear hat;refine aj (AZ (x:=ndA l i) (nm:=[114,101,103]) aaM) rfl ?_;rintro _ w2 ⟨rfl,n2⟩;have n02:=New.trans n1 n2;have hvl:((tX l i [114,101,103]).getD []).length<=1024:=yX hok hi;have ev: ∀o:Option (List UInt8),Ld o=.tuple #[vs (o.getD []),.bool o.isSome]:=fun o=>by cases o<;>rfl
  rw [ev];generalize hvv:(tX l i [114,101,103]).getD []=txt at hvl;have ah1:(val (ndA l i).pz [114,101,103]).getD []=txt:=hvv;rw [ah1];refine qq5 ?_;refine jX (f:=viN) (us:=[sa,ss]) (fun _=>rfl) rfl rfl (by simp) (by simp) fun vw w3 ow n3=>?_;have n03:=New.trans n02 n3;refine aj (J7 (s:=txt) (ow.rd (nV _)) hvl (by intro x hx;simp at hx;omega) (by simp;omega) (by simp)) rfl ?_;rintro _ w4 ⟨hrp,n4⟩;obtain ⟨vr,e,rs,rfl,hrs,hcase⟩:=Iy hrp;have n04:=New.trans n03 n4;obtain ⟨ra,rc,rfl,_,_⟩:=hrs.form;replace hrs:=hrs.mono (Pb':=fun b=>b<w4.heap.size) x9 fun b hb _=>hb;have hlt: ∀r∈rs,(r.length=2/\ ∀x∈r,x<18446744073709551616):=by
   rcases hcase with ⟨h1,_⟩|⟨_,rfl,_⟩
   ·exact (y7 (ws:=[sa,ss]) (by intro x hx;simp at hx;omega) h1).1
   ·intro r hr;simp at hr
  have hrl:rs.length<=1024:=by
   rcases hcase with ⟨h1,_⟩|⟨_,rfl,_⟩
   ·have:=(y7 (ws:=[sa,ss]) (by intro x hx;simp at hx;omega) h1).2;omega
   ·simp
  refine qq2 ?_;refine aA (σ:=Nat×Value) (fun q=>[(8,vi e),(12,q.2),(47,.slice ra rs.length rc),(48,vi rs.length),(49,vi q.1)]) (fun q W=>q.1<=rs.length/\(∀r∈rs.take q.1,fitsW (r.getD 0 0) (r.getD 1 0)=true)/\nP (flat xQ) 300 2 (fun b=>w4.heap.size<=b) NoB W q.2 ((rs.take q.1).map fun r=>(r.getD 0 0,r.getD 1 0))/\New w4 W) (fun q=>rs.length-q.1) (0,.slice none 0 0) (sl rfl) ⟨anq _,by simp,aI,ay _ _⟩ ?_;rintro ⟨k,vo⟩ G W ⟨hk,hall,own,nW⟩;dsimp only at hk hall own nW;simp only [pq];obtain ⟨oa,oc,rfl,_,_⟩:=own.form;have hz4:=n04.size;(repeat' (first|refine qq4 ?_|refine aa2 (fun _=>?_) (fun _=>?_)))
  ·obtain ⟨r,hr⟩:=nT rs (k:=k) (by omega);obtain ⟨hr2,hrx⟩:=hlt r (aop hr);obtain ⟨p,q,rfl⟩: ∃p q,r=[p,q]:=by
    match r,hr2 with
    | [p,q],_=>exact ⟨p,q,rfl⟩
   have hpl:=hrx p (by simp);have hql:=hrx q (by simp);refine aK (hrs.keep BJ nW.keep) rfl rfl (by omega) hr fun b o cs hl hR hat=>?_;obtain ⟨vr,rfl,hvr⟩:=hR;have hdj: ∀b,b<W.heap.size->b<w4.heap.size-> ¬w4.heap.size<=b:=fun b _ h1 h2=>by omega
   obtain ⟨qa,qc,rfl,_,_⟩:=hvr.form;refine ah (u:=.slice qa 2 qc) rfl (hat.get 0 rfl) ?_;clear hat;refine qq4 ?_;refine aV rfl (by kernel_rfl) (fun w'=>New W w') (Chg.drew _ _) ?_;intro w5 n5;(repeat' (refine aa0 (aa3 (af ?_))));refine aa0 (dD (y:=p) hvr (fun w' hw=>hw.keep) rfl rfl (by omega) rfl fun b o hcell=>af ?_);refine aa0 (au (u:=w64 p) rfl hcell (af ?_));(repeat' (refine aa0 (aa3 (af ?_))));refine aa0 (dD (y:=q) hvr (fun w' hw=>hw.keep) rfl rfl (by omega) rfl fun b o hcell=>af ?_);refine aa0 (au (u:=w64 q) rfl hcell (af ?_));refine aC rfl (aj (Di hpl hql) rfl ?_);rintro _ _ ⟨rfl,rfl⟩;refine ai ⟨rfl,n5,?_⟩;(repeat' (first|refine bH ?_|refine aa0 (dM rfl (af ?_))));have hfi:fitsW (([p,q]:List Nat).getD 0 0) (([p,q]:List Nat).getD 1 0)=fitsW p q:=rfl;cases hf:fitsW p q
   ·have hno: ¬(rs.all (fun r=>fitsW (r.getD 0 0) (r.getD 1 0))=true):=by rw [apD];intro e;have:=e _ (aop hr);rw [hfi,hf] at this;cases this
    refine qq3 ?_;refine aB rfl rfl rfl ⟨_,rfl,⟨_,_,rfl,?_⟩,New.trans n04 (New.trans nW n5)⟩;rcases hcase with ⟨h1,rfl⟩|⟨h1,rfl,rfl⟩
    ·rw [h1];dsimp only;rw [if_neg hno];exact ne4
    ·simp at hr
   ·refine qq6 ?_;refine aV rfl (by kernel_rfl) (fun w'=>Chg (fun k=>w4.heap.size<=k) w5 w') (Chg.drew _ _) ?_;intro w6 n6;(repeat' (refine aa0 (aa3 (af ?_))));refine aa0 (dD (y:=p) hvr (fun w' hw=>(Chg.trans n5.any hw fun k _ e=>e).keep hdj) rfl rfl (by omega) rfl fun b o hcell=>af ?_);refine aa0 (au (u:=w64 p) rfl hcell (af ?_));(repeat' (refine aa0 (aa3 (af ?_))));refine aa0 (dD (y:=q) hvr (fun w' hw=>(Chg.trans n5.any hw fun k _ e=>e).keep hdj) rfl rfl (by omega) rfl fun b o hcell=>af ?_);refine aa0 (au (u:=w64 q) rfl hcell (af ?_));refine aC rfl (aX (ps:=[(0,.tmp 64),(1,.tmp 67)]) (parts:=[(0,w64 p),(1,w64 q)]) rfl rfl (by simp [Value.cells]) (ai ⟨rfl,n6.any,?_⟩));refine aC rfl (bC (R:=flat xQ) (y:=(p,q)) (Pe:=NoB) yg rfl rfl rfl rfl (by omega) (by omega) fun vt w7 ot n7 s7 Oq=>?_);have n67:=New.trans n6 n7;refine ai ⟨rfl,n67.any,?_⟩;have nW7:=New.trans n5 n67;refine aC rfl (bY yg (own.new (nK xQ) nW7) (ot.rd yg.mo) (fun y cs hy=>hy) rfl rfl (by omega) (by simp only [maxLen,anM,aoR,anD];omega) (by simp only [anM,aoR,anD];omega) fun v8 w8 o8 c8 lie _=>?_);have hz:=nW.size;have hz7:=nW7.size;have n48:New w4 w8:=(Chg.trans (M:=fun k=>w4.heap.size<=k) (New.trans nW nW7).any c8 fun k hk e=>(own.lt e).1).tN
    have c58:Chg (fun k=>w4.heap.size<=k) w5 w8:=Chg.trans n67.any c8 fun k hk e=>(own.lt e).1;refine ai ⟨rfl,c58,?_⟩;(repeat' (first|refine bH ?_|refine aa0 (fA (by conv=>{lhs;whnf}) (af ?_))));refine qq6 ?_;refine ax (k+1,v8) (sl rfl) ⟨by dsimp only;omega,Oo hr hall (by rw [hfi];exact hf),?_,n48⟩ (by dsimp only;omega);rw [take_snoc hr,aoN];exact o8.mono yg.mo (fun b _ e=>by rcases e with e|e;exact e;omega) i3
  ·obtain rfl:k=rs.length:=by omega
   rw [aon] at hall;have hmt:rs.map (fun r=>(r.getD 0 0,r.getD 1 0))=(rs.take rs.length).map fun r=>(r.getD 0 0,r.getD 1 0):=by rw [aon]
   refine aB rfl rfl rfl ⟨_,rfl,⟨_,_,rfl,?_⟩,New.trans n04 nW⟩;rcases hcase with ⟨h1,rfl⟩|⟨h1,rfl,rfl⟩
   ·rw [h1];dsimp only;rw [if_pos (List.all_eq_true.2 hall)];rw [hmt];exact ⟨rfl,own.mono yg.mo (fun b hb e=>by have:w4.heap.size<=b:=e;omega) i3⟩
   ·rw [h1];exact ne4
theorem Ei: ∀(l:List Nd) (m:List (Nat×Nat)) (i:Nat),(m.map (·.1)).Nodup->((wL m i l).map (·.1)).Nodup
 | [],m,_,h=>h
 |x::r,m,i,h=>by
  rw [wL];refine Ei r _ (i+1) ?_;split
  ·rename_i hc
   rw [aoN,List.nodup_append];refine ⟨h,by simp,fun a ha b hb=>?_⟩;simp at hb;subst hb;obtain ⟨p,hp,rfl⟩:=List.mem_map.1 ha;have:=List.all_eq_true.1 hc.2 p hp;simpa using this
  ·exact h
theorem Bc (t:List Nd):((qX t).map (·.1)).Nodup:=Ei t [] 0 (by simp)
abbrev Be (m:List (Nat×Nat)):List (Value×Value):=m.map fun p=>(.int .u32 p.1,vi p.2)
theorem Ej: ∀ {m:List (Nat×Nat)} {h k:Nat},(m.map (·.1)).Nodup->(h,k)∈m->m.find? (fun p=>decide (p.1=h))=some (h,k)
 | [],h,k,_,hm=>by simp at hm
 |p::r,h,k,hn,hm=>by
  rw [acd,List.nodup_cons] at hn;rcases List.mem_cons.1 hm with rfl|hm
  ·rw [List.find?_cons_of_pos (by simp)]
  ·rw [List.find?_cons_of_neg,Ej hn.2 hm];intro e;rw [decide_eq_true_eq] at e;exact hn.1 (List.mem_map.2 ⟨(h,k),hm,e.symm⟩)
theorem Y5 {t:List Nd} {h:Nat} {r:Value} (e:((.int .u32 h:Value),r)∈Be (qX t)): ∃k:Nat,r=vi k/\AX t h=some k:=by
 obtain ⟨⟨a,b⟩,hm,e⟩:=List.mem_map.1 e;simp only [Prod.mk.injEq,Value.int.injEq,true_and] at e;obtain ⟨e1,rfl⟩:=e;obtain rfl:a=h:=by omega
 refine ⟨b,rfl,?_⟩;unfold AX;rw [Ej (Bc t) hm];rfl
theorem Xe {t:List Nd} {h:Nat} (e: ∀p∈Be (qX t),p.1≠ .int .u32 h):AX t h=none:=by
 unfold AX;rw [Option.map_eq_none_iff,List.find?_eq_none];intro p hp;have:=e _ (List.mem_map.2 ⟨p,hp,rfl⟩);simp only [ne_eq,Value.int.injEq,true_and] at this;simp only [decide_eq_true_eq];omega
theorem Xf {m:List (Nat×Nat)} (hn:(m.map (·.1)).Nodup) {key r r':Value} (h1:(key,r)∈Be m) (h2:(key,r')∈Be m):r=r':=by
 obtain ⟨⟨a,b⟩,hm,e⟩:=List.mem_map.1 h1;obtain ⟨⟨c,d⟩,hm2,e2⟩:=List.mem_map.1 h2;simp only [Prod.mk.injEq] at e e2;obtain ⟨rfl,rfl⟩:=e;obtain ⟨e3,rfl⟩:=e2;simp only [Value.int.injEq,true_and] at e3;obtain rfl:c=a:=by omega
 have f1:=Ej hn hm;have f2:=Ej hn hm2;rw [f1] at f2;cases f2;rfl
theorem kU:Maps.Keyed prog 181:=Maps.int_keyed underlying181
theorem aaN {i:Nat} (h:i<4294967296):keyOf prog 181 (.int .u32 i)=some (.int .u32 i):=
 Maps.keyOf_int_mk underlying181 (by simp [Lit.wf,IntKind.min,IntKind.max,IntKind.signed,IntKind.bits];omega)
def edC (e:Ed) (v:Value):List Value:=[vi e.src,vi (pU e.dst),.int .u8 e.kind,.bool e.soft,vi e.place,v]
def rEd:Rel Ed:=fun Pb w e cs=> ∃v,cs=edC e v/\RdS (Wk.one zQ) 1 Pb w v e.args
theorem sG:Stable rEd:=fun _ _ _ _ _ hk ⟨v,e,h⟩=>⟨v,e,h.keep (nZ _) hk⟩
theorem qI:CO rEd:=fun _ _ _ _ _ hP ⟨v,e,h⟩=>⟨v,e,h.mono (nV _) hP⟩
theorem Ot {e:Ed} {a:Option Addr} {l c:Nat}: ∀x∈edC e (.slice a l c),x.oneCell'=true:=fun x hx=>by
 simp [edC] at hx;rcases hx with rfl|rfl|rfl|rfl|rfl|rfl<;>rfl
theorem qf:qH rEd 6:=⟨sG,qI,fun Pb w x cs ⟨v,e,h⟩ _ c hc=>by
 subst e;obtain ⟨a,cap,rfl,_⟩:=h.form;exact Ot c hc⟩
theorem Ou {Pb:Nat->Prop} {w:World} {v:Value} {l:List Int} (h:RdS (Wk.one zQ) 1 Pb w v l) (hl:l.length<=2000000):
 Calls prog 110 #[v] w (Ret fun r w'=>nP (Wk.one zQ) 181 1 (fun b=>w.heap.size<=b) NoB w' r l/\New w w'):=by
 obtain ⟨a,cap,rfl,hc1,hc2⟩:=h.form;refine nM func110 rfl ntmps110 rfl ?_;refine qq4 ?_;refine iR rfl rfl ?_;cases a with
 |none=>
  have e:l=[]:=by
   rcases h with ⟨_,rfl⟩|⟨_,_,e,_⟩|⟨_,_,_,_,_,_,e,_⟩
   ·rfl
   ·cases e
   ·cases e
  subst e;refine qq3 ?_;exact ak rfl rfl ⟨_,rfl,aI,ay _ _⟩
 |some a=>refine qq2 ?_;refine jg (R:=Wk.one zQ) (Pe:=NoB) fun v1 w1 o1 n1=>?_;(repeat' (refine aa1 ?_));refine bY EO o1 (h.keep (nZ _) n1.keep) (fun y cs hy=>hy) rfl rfl (by omega) (by simp only [maxLen,an8];omega) (by simp only [an8];omega) fun v2 w2 o2 c2 lie _=>?_;refine qq3 ?_;refine ak rfl rfl ⟨_,rfl,?_,Chg.trans n1 c2 fun k hk e=>by have:=(o1.lt e).1;omega⟩;have hs:=n1.size;exact o2.mono (nV _) (fun b _ hb=>by rcases hb with hb|hb;exact hb;omega) i3
theorem Ov {Pb:Nat->Prop} {w:World} {v:Value} {l:List Nat} (h:RdS (Wk.one viN) 1 Pb w v l) (hl:l.length<=2000000):
 Calls prog 37 #[v] w (Ret fun r w'=>nP (Wk.one viN) 3 1 (fun b=>w.heap.size<=b) NoB w' r l/\New w w'):=by
 obtain ⟨a,cap,rfl,hc1,hc2⟩:=h.form;refine nM func37 rfl ntmps37 rfl ?_;refine qq4 ?_;refine iR rfl rfl ?_;cases a with
 |none=>
  have e:l=[]:=by
   rcases h with ⟨_,rfl⟩|⟨_,_,e,_⟩|⟨_,_,_,_,_,_,e,_⟩
   ·rfl
   ·cases e
   ·cases e
  subst e;refine qq3 ?_;exact ak rfl rfl ⟨_,rfl,aI,ay _ _⟩
 |some a=>refine qq2 ?_;refine jg (R:=Wk.one viN) (Pe:=NoB) fun v1 w1 o1 n1=>?_;(repeat' (refine aa1 ?_));refine bY qw o1 (h.keep (nZ _) n1.keep) (fun y cs hy=>hy) rfl rfl (by omega) (by simp only [maxLen,an8];omega) (by simp only [an8];omega) fun v2 w2 o2 c2 lie _=>?_;refine qq3 ?_;refine ak rfl rfl ⟨_,rfl,?_,Chg.trans n1 c2 fun k hk e=>by have:=(o1.lt e).1;omega⟩;have hs:=n1.size;exact o2.mono (nV _) (fun b _ hb=>by rcases hb with hb|hb;exact hb;omega) i3
abbrev kwC (k:Nat):List Value:=[vs (sU k).1,vs (sU k).2]
def xE:List Value:=[vs [],vs []]++kwC 1++kwC 2++kwC 3++kwC 4++kwC 5
theorem IA {w:World}:(Instr.build 238 #[(1,.agg (kwC 1).toArray),(2,.agg (kwC 2).toArray),(3,.agg (kwC 3).toArray),(4,.agg (kwC 4).toArray),(5,.agg (kwC 5).toArray)]).run prog w=.ok (.agg xE.toArray) w:=by
 kernel_rfl
theorem UZ {w:World}:(Instr.index 238 (.agg xE.toArray) (.int .u8 1)).run prog w=.ok (.agg (kwC 1).toArray) w:=by kernel_rfl
theorem U0 {w:World}:(Instr.index 238 (.agg xE.toArray) (.int .u8 2)).run prog w=.ok (.agg (kwC 2).toArray) w:=by kernel_rfl
theorem U3 {w:World}:(Instr.index 238 (.agg xE.toArray) (.int .u8 3)).run prog w=.ok (.agg (kwC 3).toArray) w:=by kernel_rfl
theorem U4 {w:World}:(Instr.index 238 (.agg xE.toArray) (.int .u8 4)).run prog w=.ok (.agg (kwC 4).toArray) w:=by kernel_rfl
theorem U5 {w:World}:(Instr.index 238 (.agg xE.toArray) (.int .u8 5)).run prog w=.ok (.agg (kwC 5).toArray) w:=by kernel_rfl
theorem Lm {w:World} {k:Nat} (h1:1<=k) (h2:k<=5):(Instr.index 238 (.agg xE.toArray) (.int .u8 k)).run prog w=.ok (.agg (kwC k).toArray) w:=by
 have:k=1∨k=2∨k=3∨k=4∨k=5:=by omega
 rcases this with rfl|rfl|rfl|rfl|rfl
 ·exact UZ
 ·exact U0
 ·exact U3
 ·exact U4
 ·exact U5
theorem QI {w:World}:Calls prog 108 #[] w (Ret fun r w'=>r=.agg xE.toArray/\New w w'):=by
 refine nM func108 rfl ntmps108 rfl ?_;refine qq4 ?_;refine Wl.alloc fun w1 b1 n1 s1=>?_;refine qq2 ?_;refine gX (cs:=kwC 1) (parts:=[(0,vs (sU 1).1),(1,vs (sU 1).2)]) rfl rfl (by simp [Value.cells]) rfl ?_;refine gX (cs:=kwC 2) (parts:=[(0,vs (sU 2).1),(1,vs (sU 2).2)]) rfl rfl (by simp [Value.cells]) rfl ?_;refine gX (cs:=kwC 3) (parts:=[(0,vs (sU 3).1),(1,vs (sU 3).2)]) rfl rfl (by simp [Value.cells]) rfl ?_;refine gX (cs:=kwC 4) (parts:=[(0,vs (sU 4).1),(1,vs (sU 4).2)]) rfl rfl (by simp [Value.cells]) rfl ?_;refine gX (cs:=kwC 5) (parts:=[(0,vs (sU 5).1),(1,vs (sU 5).2)]) rfl rfl (by simp [Value.cells]) rfl ?_;refine dU (ps:=[(1,.tmp 1),(2,.tmp 2),(3,.tmp 3),(4,.tmp 4),(5,.tmp 5)]) (parts:=[(1,.agg (kwC 1).toArray),(2,.agg (kwC 2).toArray),(3,.agg (kwC 3).toArray),(4,.agg (kwC 4).toArray),(5,.agg (kwC 5).toArray)]) rfl IA ?_;refine aH (new:=xE) b1 rfl rfl rfl rfl (show (12:Nat)<=12 from aap 12) (by intro c hc;simp [xE,kwC] at hc;rcases hc with rfl|rfl|rfl|rfl|rfl|rfl|rfl|rfl|rfl|rfl|rfl<;>rfl) fun w2 b2 c2 s2=>?_;replace b2:Bk w2 w.heap.size 238 xE:=b2;have n2:New w w2:=(Chg.trans n1.any c2 i3).tN
 refine qq7 ?_;exact jW (sz:=12) rfl rfl rfl b2 rfl rfl ⟨_,rfl,rfl,n2⟩
abbrev U6:=Nat×Nat×Nat
abbrev Ox (x:U6):List Value:=[w64 x.1,w64 x.2.1,w64 x.2.2]
theorem yh:qH (flat Ox) 3:=qA _ (fun _=>rfl) fun x c hc=>by simp at hc;rcases hc with rfl|rfl|rfl<;>rfl
def Oy (w w':World) (r:Value) (o:Option (List U6×Bool)):Prop:= ∃v b e,r=.tuple #[v,.bool b,vi e]/\match o with
 |none=>e≠0
 |some ms=>e=0/\b=ms.2/\RdS (flat Ox) 3 (fun b=>w.heap.size<=b) w' v ms.1
def m3 (r:List Nat):U6:=(r.getD 0 0,r.getD 1 0,r.getD 2 0)
def ok3 (r:List Nat):Bool:=fitsW (r.getD 0 0) (r.getD 2 0)&&fitsW (r.getD 1 0) (r.getD 2 0)
theorem Oz (t:List Nd) (i:Nat):NW t i=match tX t i [114,97,110,103,101,115] with
 |none=>none
 |some text=>match wK (ndA t i).pz,wK (ndA t (par t i)).pz with
  |some (a,s),some (above,_)=>match yU [a,above,s] text with
   |none=>none
   |some rs=>if rs.all ok3=true then some (rs.map m3,decide (text=[])) else none
  |_,_=>none:=rfl
theorem Xg (o:Option (Nat×Nat)):ac3 o=.tuple #[vi ((o.getD (0,0)).1:Nat),vi ((o.getD (0,0)).2:Nat),vi (if o.isSome then 0 else 4)]:=by cases o<;>rfl
theorem U7 {Pb:Nat->Prop} {w:World} {v:Value} {l:List Nd} {i:Nat} (h:RdS rNd 3 Pb w v l) (hok:og l=true) (h0:i≠0) (hi:i<l.length):
 Calls prog 211 #[v,vi i] w (Ret fun r w'=>Oy w w' r (NW l i)/\New w w'):=by
 obtain ⟨a,cap,rfl,hc1,hc2⟩:=h.form;have hlen:=pF hok;have hp:=uK hok h0 hi;have hx:=GK hi;have hy:=GK (t:=l) (i:=par l i) (by omega);rw [Oz];refine nM func211 rfl ntmps211 rfl ?_;refine qq4 ?_;refine aK h rfl rfl (by omega) hx fun b o cs hl hR hat=>?_;obtain ⟨pv,rfl,hpv⟩:=hR;refine aS hat rfl rfl ?_;clear hat;refine aj (AZ (x:=ndA l i) (nm:=[114,97,110,103,101,115]) hpv) rfl ?_;rintro _ w1 ⟨rfl,n1⟩;rw [show val (ndA l i).pz [114,97,110,103,101,115]=tX l i [114,97,110,103,101,115] from rfl];cases htx:tX l i [114,97,110,103,101,115] with
 |none=>dsimp only [Ld];refine qq5 ?_;exact bZ rfl rfl rfl rfl ⟨_,rfl,⟨_,_,_,rfl,ne6⟩,n1⟩
 |some txt=>
  have htl:=zU hok hi htx;dsimp only [Ld];refine qq2 ?_;refine aK (h.keep oh n1.keep) rfl rfl (by omega) hx fun b o cs hl hR hat=>?_;obtain ⟨pv1,rfl,hpv1⟩:=hR;refine aS hat rfl rfl ?_;clear hat;refine aj (Dh (x:=ndA l i) hpv1 (Eh hok hi)) rfl ?_;rintro _ w2 ⟨rfl,n2⟩;have n02:=New.trans n1 n2;rw [Xg];refine qq5 ?_;refine aK (h.keep oh n02.keep) rfl rfl (by omega) hx fun b o cs hl hR hat=>?_;obtain ⟨pv2,rfl,hpv2⟩:=hR;(repeat' (refine aa5 ?_));refine ah (u:=vi (ndA l i).parent) rfl (hat.get 0 rfl) ?_;clear hat;refine aK (h.keep oh n02.keep) rfl rfl (by omega) (by rw [hp.2,ant];exact hy) fun b o cs hl hR hat=>?_;obtain ⟨pv3,rfl,aaM⟩:=hR;refine aS hat rfl rfl ?_;clear hat;refine aj (Dh (x:=ndA l (par l i)) aaM (Eh hok (by omega))) rfl ?_;rintro _ w3 ⟨rfl,n3⟩;have n03:=New.trans n02 n3;rw [Xg];cases hs1:wK (ndA l i).pz with
  |none=>dsimp only [apz];(repeat' (first|refine qq3 ?_|(refine aa4 (fun _=>?_) (fun _=>?_)<;>(first|(exfalso;contradiction)|skip))));exact bZ rfl rfl rfl rfl ⟨_,rfl,⟨_,_,_,rfl,ne4⟩,n03⟩
  |some q1=>
   cases hs2:wK (ndA l (par l i)).pz with
   |none=>dsimp only [apz];(repeat' (first|refine qq2 ?_|(refine aa4 (fun _=>?_) (fun _=>?_)<;>(first|(exfalso;contradiction)|skip))));exact bZ rfl rfl rfl rfl ⟨_,rfl,⟨_,_,_,rfl,ne4⟩,n03⟩
   |some q2=>
    obtain ⟨sa,ss⟩:=q1;obtain ⟨sab,ss2⟩:=q2;have hsl:=xe hs1;have hsl2:=xe hs2;dsimp only [apz,Option.getD];(repeat' (first|refine qq5 ?_|(refine aa4 (fun _=>?_) (fun _=>?_)<;>(first|(exfalso;omega)|(exfalso;contradiction)|skip))));refine jX (f:=viN) (us:=[sa,sab,ss]) (fun _=>rfl) rfl rfl (by simp) (by simp) fun vw w4 ow n4=>?_;have n04:=New.trans n03 n4;have aaO: ∀x∈ [sa,sab,ss],x<=2:=by intro x hx;simp at hx;omega
    refine aj (J7 (s:=txt) (ow.rd (nV _)) htl aaO (by simp;omega) (by simp)) rfl ?_;rintro _ w5 ⟨hrp,n5⟩;obtain ⟨vr,e,rs,rfl,hrs,hcase⟩:=Iy hrp;have n05:=New.trans n04 n5;obtain ⟨ra,rc,rfl,_,_⟩:=hrs.form;replace hrs:=hrs.mono (Pb':=fun b=>b<w5.heap.size) x9 fun b hb _=>hb;have hlt: ∀r∈rs,(r.length=3/\ ∀x∈r,x<18446744073709551616):=by
     rcases hcase with ⟨h1,_⟩|⟨_,rfl,_⟩
     ·exact (y7 aaO h1).1
     ·intro r hr;simp at hr
    have hrl:rs.length<=1024:=by
     rcases hcase with ⟨h1,_⟩|⟨_,rfl,_⟩
     ·have:=(y7 aaO h1).2;omega
     ·simp
    refine qq2 ?_;refine aA (σ:=Nat×Value) (fun q=>[(7,vs txt),(11,vi e),(16,q.2),(66,.slice ra rs.length rc),(67,vi rs.length),(68,vi q.1)]) (fun q W=>q.1<=rs.length/\(∀r∈rs.take q.1,ok3 r=true)/\nP (flat Ox) 345 3 (fun b=>w5.heap.size<=b) NoB W q.2 ((rs.take q.1).map m3)/\New w5 W) (fun q=>rs.length-q.1) (0,.slice none 0 0) (sl rfl) ⟨anq _,by simp,aI,ay _ _⟩ ?_;rintro ⟨k,vo⟩ G W ⟨hk,hall,own,nW⟩;dsimp only at hk hall own nW;simp only [pq];obtain ⟨oa,oc,rfl,_,_⟩:=own.form;have hz5:=n05.size;(repeat' (first|refine qq4 ?_|refine aa2 (fun _=>?_) (fun _=>?_)|refine eU rfl rfl (fun _=>?_) (fun _=>?_)))
    ·obtain ⟨r,hr⟩:=nT rs (k:=k) (by omega);obtain ⟨hr2,hrx⟩:=hlt r (aop hr);obtain ⟨p,q,s,rfl⟩: ∃p q s,r=[p,q,s]:=by
      match r,hr2 with
      | [p,q,s],_=>exact ⟨p,q,s,rfl⟩
     have hpl:=hrx p (by simp);have hql:=hrx q (by simp);have hsl:=hrx s (by simp);refine aK (hrs.keep BJ nW.keep) rfl rfl (by omega) hr fun b o cs hl hR hat=>?_;obtain ⟨vr,rfl,hvr⟩:=hR;obtain ⟨qa,qc,rfl,_,_⟩:=hvr.form;have hdj: ∀b,b<W.heap.size->b<w5.heap.size-> ¬w5.heap.size<=b:=fun b _ h1 h2=>by omega
     refine ah (u:=.slice qa 3 qc) rfl (hat.get 0 rfl) ?_;clear hat;have hfi:ok3 [p,q,s]=(fitsW p s&&fitsW q s):=rfl;have hno:ok3 [p,q,s]=false-> ¬(rs.all ok3=true):=fun e2 e=>by rw [apD] at e;have:=e _ (aop hr);rw [e2] at this;cases this
     have hbad: ∀W',New W W'->ok3 [p,q,s]=false->Oy w W' (.tuple #[.slice none 0 0,.bool false,vi 4]) (match yU [sa,sab,ss] txt with
      |none=>none
      |some rs=>if rs.all ok3=true then some (rs.map m3,decide (txt=[])) else none):=fun W' _ e2=>by
      refine ⟨_,_,_,rfl,?_⟩;rcases hcase with ⟨h1,rfl⟩|⟨h1,rfl,rfl⟩
      ·rw [h1];dsimp only;rw [if_neg (hno e2)];exact ne4
      ·simp at hr
     refine qq4 ?_;refine aV rfl (by kernel_rfl) (fun w'=>New W w') (Chg.drew _ _) ?_;intro w6 n6;(repeat' (refine aa0 (aa3 (af ?_))));refine aa0 (dD (y:=p) hvr (fun w' hw=>hw.keep) rfl rfl (by omega) rfl fun b o hcell=>af ?_);refine aa0 (au (u:=w64 p) rfl hcell (af ?_));(repeat' (refine aa0 (aa3 (af ?_))));refine aa0 (dD (y:=s) hvr (fun w' hw=>hw.keep) rfl rfl (by omega) rfl fun b o hcell=>af ?_);refine aa0 (au (u:=w64 s) rfl hcell (af ?_));refine aC rfl (aj (Di hpl hsl) rfl ?_);rintro _ _ ⟨rfl,rfl⟩;refine ai ⟨rfl,n6,?_⟩;cases hf:fitsW p s
     ·have hbb:ok3 [p,q,s]=false:=by rw [hfi,hf];rfl
      (repeat' (first|refine bH ?_|refine fV rfl rfl (by assumption) ?_|refine aa0 (aa3 (af ?_))|refine aa0 (aa9 (af ?_))|refine aa0 (dM rfl (af ?_))));refine qq3 ?_;exact bZ rfl rfl rfl rfl ⟨_,rfl,hbad _ n6 hbb,New.trans n05 (New.trans nW n6)⟩
     ·(repeat' (first|refine bG rfl rfl ?_|refine aa0 (aa3 (af ?_))|refine aa0 (dM rfl (af ?_))));refine aa0 (dD (y:=q) hvr (fun w' hw=>hw.keep) rfl rfl (by omega) rfl fun b o hcell=>af ?_);(repeat' (refine bG rfl rfl ?_));refine aa0 (au (u:=w64 q) rfl hcell (af ?_));(repeat' (first|refine bG rfl rfl ?_|refine aa0 (aa3 (af ?_))));refine aa0 (dD (y:=s) hvr (fun w' hw=>hw.keep) rfl rfl (by omega) rfl fun b o hcell=>af ?_);(repeat' (refine bG rfl rfl ?_));refine aa0 (au (u:=w64 s) rfl hcell (af ?_));(repeat' (refine bG rfl rfl ?_));refine aC rfl (aj (Di hql hsl) rfl ?_);rintro _ _ ⟨rfl,rfl⟩;refine ai ⟨rfl,n6,?_⟩;cases hf2:fitsW q s
      ·have hbb:ok3 [p,q,s]=false:=by rw [hfi,hf,hf2];rfl
       (repeat' (first|refine bH ?_|refine bG rfl rfl ?_|refine aa0 (yO (af ?_))|refine aa0 (dM rfl (af ?_))));refine qq3 ?_;exact bZ rfl rfl rfl rfl ⟨_,rfl,hbad _ n6 hbb,New.trans n05 (New.trans nW n6)⟩
      ·have hbb:ok3 [p,q,s]=true:=by rw [hfi,hf,hf2];rfl
       (repeat' (first|refine bH ?_|refine bG rfl rfl ?_|refine aa0 (yO (af ?_))|refine aa0 (dM rfl (af ?_))));refine qq6 ?_;refine aV rfl (by kernel_rfl) (fun w'=>Chg (fun k=>w5.heap.size<=k) w6 w') (Chg.drew _ _) ?_;intro w7 n7;(repeat' (refine aa0 (aa3 (af ?_))));refine aa0 (dD (y:=p) hvr (fun w' hw=>(Chg.trans n6.any hw fun k _ e=>e).keep hdj) rfl rfl (by omega) rfl fun b o hcell=>af ?_);refine aa0 (au (u:=w64 p) rfl hcell (af ?_));(repeat' (refine aa0 (aa3 (af ?_))));refine aa0 (dD (y:=q) hvr (fun w' hw=>(Chg.trans n6.any hw fun k _ e=>e).keep hdj) rfl rfl (by omega) rfl fun b o hcell=>af ?_);refine aa0 (au (u:=w64 q) rfl hcell (af ?_));(repeat' (refine aa0 (aa3 (af ?_))));refine aa0 (dD (y:=s) hvr (fun w' hw=>(Chg.trans n6.any hw fun k _ e=>e).keep hdj) rfl rfl (by omega) rfl fun b o hcell=>af ?_);refine aa0 (au (u:=w64 s) rfl hcell (af ?_));refine aC rfl (aX (ps:=[(0,.tmp 93),(1,.tmp 96),(2,.tmp 99)]) (parts:=[(0,w64 p),(1,w64 q),(2,w64 s)]) rfl rfl (by simp [Value.cells]) (ai ⟨rfl,n7.any,?_⟩));refine aC rfl (bC (R:=flat Ox) (y:=(p,q,s)) (Pe:=NoB) yh rfl rfl rfl rfl (by omega) (by omega) fun vt w8 ot n8 s8 Oq=>?_);have n78:=New.trans n7 n8;refine ai ⟨rfl,n78.any,?_⟩;have nW8:=New.trans n6 n78;refine aC rfl (bY yh (own.new (nK Ox) nW8) (ot.rd yh.mo) (fun y cs hy=>hy) rfl rfl (by omega) (by simp only [maxLen,anM,aoR,anD];omega) (by simp only [anM,aoR,anD];omega) fun v9 w9 o9 c9 lie _=>?_);have hz:=nW.size;have hz8:=nW8.size;have n59:New w5 w9:=(Chg.trans (M:=fun k=>w5.heap.size<=k) (New.trans nW nW8).any c9 fun k hk e=>(own.lt e).1).tN
       have c69:Chg (fun k=>w5.heap.size<=k) w6 w9:=Chg.trans n78.any c9 fun k hk e=>(own.lt e).1;refine ai ⟨rfl,c69,?_⟩;(repeat' (first|refine bH ?_|refine aa0 (fA (by conv=>{lhs;whnf}) (af ?_))));refine qq6 ?_;refine ax (k+1,v9) (sl rfl) ⟨by dsimp only;omega,Oo hr hall hbb,?_,n59⟩ (by dsimp only;omega);rw [take_snoc hr,aoN];exact o9.mono yh.mo (fun b _ e=>by rcases e with e|e;exact e;omega) i3
    ·rename_i htn
     obtain rfl:k=rs.length:=by omega
     rw [aon] at hall;have hmt:rs.map m3=(rs.take rs.length).map m3:=by rw [aon]
     refine bZ rfl rfl rfl rfl ⟨_,rfl,⟨_,_,_,rfl,?_⟩,New.trans n05 nW⟩;rcases hcase with ⟨h1,rfl⟩|⟨h1,rfl,rfl⟩
     ·rw [h1];dsimp only;rw [if_pos (List.all_eq_true.2 hall)];rw [hmt];exact ⟨rfl,(decide_eq_true htn).symm,(own.rd yh.mo).mono yh.mo fun b hb e=>by rcases e with e|e;(have:w5.heap.size<=b:=e;omega);exact e.elim⟩
     ·rw [h1];exact ne4
    ·rename_i htn
     obtain rfl:k=rs.length:=by omega
     rw [aon] at hall;have hmt:rs.map m3=(rs.take rs.length).map m3:=by rw [aon]
     refine bZ rfl rfl rfl rfl ⟨_,rfl,⟨_,_,_,rfl,?_⟩,New.trans n05 nW⟩;rcases hcase with ⟨h1,rfl⟩|⟨h1,rfl,rfl⟩
     ·rw [h1];dsimp only;rw [if_pos (List.all_eq_true.2 hall)];rw [hmt];exact ⟨rfl,(decide_eq_false htn).symm,(own.rd yh.mo).mono yh.mo fun b hb e=>by rcases e with e|e;(have:w5.heap.size<=b:=e;omega);exact e.elim⟩
     ·rw [h1];exact ne4
theorem Xh {t:List Nd} {i:Nat} {ms:List U6} {b:Bool} (hok:og t=true) (hi:i<t.length) (h:NW t i=some (ms,b)):ms.length<=1024/\ ∀m∈ms,m.1<18446744073709551616/\m.2.1<18446744073709551616/\m.2.2<18446744073709551616:=by
 rw [Oz] at h;split at h
 ·cases h
 ·rename_i txt htx
  have htl:=zU hok hi htx;split at h
  ·rename_i a s above x h1 h2
   split at h
   ·cases h
   ·rename_i rs hrs
    split at h
    ·simp only [Option.some.injEq,Prod.mk.injEq] at h;obtain ⟨rfl,rfl⟩:=h;have k1:=xe h1;have k2:=xe h2;have hlt:=y7 (ws:=[a,above,s]) (by intro x hx;simp at hx;omega) hrs;refine ⟨by rw [aoR];omega,fun m hm=>?_⟩;obtain ⟨r,hr,rfl⟩:=List.mem_map.1 hm;obtain ⟨hr2,hrx⟩:=hlt.1 r hr
     match r,hr2 with
     | [p,q,s],_=>exact ⟨hrx p (by simp),hrx q (by simp),hrx s (by simp)⟩
    ·cases h
  ·cases h
theorem Tt (k:Nat):IntKind.u64.wrap (k:Int)=((k % 2^64:Nat):Int):=by
 rw [show IntKind.u64.wrap (k:Int)=(k:Int) % 18446744073709551616 by simp [IntKind.wrap,IntKind.bits,IntKind.signed]];omega
def Tv (r:Value) (o:Option Nat):Prop:= ∃(k:Nat) (e:Int),r=.tuple #[w64 k,vi e]/\match o with
 |none=>e≠0
 |some b=>e=0/\k=b/\b<18446744073709551616
theorem Lp {x:Win} {ms:List U6} {k:Nat} {m:U6} (h:ms[k]? =some m):x8 x (ms.drop k)=if within x m.1 m.2.2=true then some ((m.2.1+(x.1-m.1)) % 2^64) else x8 x (ms.drop (k+1)):=by
 rw [drop_cons h,x8]
theorem Lr {Pb:Nat->Prop} {w:World} {v:Value} {l:List Nd} {i:Nat} {x:Win} (h:RdS rNd 3 Pb w v l) (hok:og l=true) (h0:i≠0) (hi:i<l.length) (hx1:x.1<18446744073709551616) (hx2:x.2<18446744073709551616):
 Calls prog 204 #[v,vi i,.agg (xQ x).toArray,.bool false] w (Ret fun r w'=>Tv r (yV l i x)/\New w w'):=by
 obtain ⟨a,cap,rfl,hc1,hc2⟩:=h.form;have hlen:=pF hok;unfold yV;refine nM func204 rfl ntmps204 rfl ?_;refine qq4 ?_;refine Wl.box rfl fun w1 b1 n1 s1=>?_;replace b1:Bk w1 w.heap.size 300 [w64 x.1,w64 x.2]:=b1;refine qq4 ?_;refine aj (U7 (h.keep oh n1.keep) hok h0 hi) rfl ?_;rintro _ w2 ⟨⟨vm,bb,e,rfl,hm⟩,n2⟩;have n02:=New.trans n1 n2;have b2:=b1.chg n2 id;cases hmm:NW l i with
 |none=>rw [hmm] at hm;dsimp only at hm;(repeat' (first|refine qq3 ?_|(refine aa4 (fun _=>?_) (fun _=>?_)<;>(first|(exfalso;omega)|skip))));refine ah (u:=w64 x.1) rfl (b2.cell (o:=0) rfl) ?_;refine qq7 ?_;exact aB rfl rfl rfl ⟨_,rfl,⟨_,_,rfl,hm⟩,n02⟩
 |some q=>
  obtain ⟨ms,same⟩:=q;rw [hmm] at hm;obtain ⟨rfl,rfl,hrd⟩:=hm;obtain ⟨hml,hmx⟩:=Xh hok hi hmm;dsimp only at hrd;obtain ⟨ma,mc,rfl,_,_⟩:=hrd.form;cases bb
  ·(repeat' (first|refine qq2 ?_|(refine aa4 (fun _=>?_) (fun _=>?_)<;>(first|(exfalso;omega)|skip))));refine aA (σ:=Nat) (fun k=>[(3,.bool false),(6,.pointer (some ⟨w.heap.size,0,none⟩)),(32,.slice ma ms.length mc),(33,vi ms.length),(34,vi k)]) (fun k W=>k<=ms.length/\x8 x ms=x8 x (ms.drop k)/\New w2 W) (fun k=>ms.length-k) 0 (sl rfl) ⟨anq _,by simp,ay _ _⟩ ?_;rintro k G W ⟨hk,hf,nW⟩;simp only [pq];have bW:=b2.chg nW id;(repeat' (first|refine qq4 ?_|refine aa2 (fun _=>?_) (fun _=>?_)))
   ·obtain ⟨m,hm⟩:=nT ms (k:=k) (by omega);obtain ⟨hm1,hm2,hm3⟩:=hmx m (aop hm);refine aK (hrd.keep (oH _) nW.keep) rfl rfl (by omega) hm fun b o cs hl hR hat=>?_;obtain rfl:cs=Ox m:=hR;refine aS hat rfl rfl ?_;clear hat;refine Wl.alloc fun w3 b3 n3 s3=>?_;refine aH (new:=Ox m) b3 rfl rfl rfl rfl zl3 (by intro c hc;simp at hc;rcases hc with rfl|rfl|rfl<;>rfl) fun w4 b4 c4 s4=>?_;replace b4:Bk w4 W.heap.size 345 (Ox m):=b4;have n4:New W w4:=(Chg.trans n3.any c4 i3).tN
    have n24:=New.trans nW n4;refine qq4 ?_;refine aV rfl (by kernel_rfl) (fun w'=>New w4 w') (Chg.drew _ _) ?_;intro w5 n5;(repeat' (refine aa0 (aa6 (af ?_))));refine aa0 (au (u:=w64 m.1) rfl (fun w' hw=>(b4.chg hw id).cell (o:=0) rfl) (af ?_));(repeat' (refine aa0 (aa6 (af ?_))));refine aa0 (au (u:=w64 m.2.1) rfl (fun w' hw=>(b4.chg hw id).cell (o:=1) rfl) (af ?_));(repeat' (first|refine bH ?_|refine aa0 (fA (by conv=>{lhs;whnf}) (af ?_))));have n25:=New.trans n24 n5;have b5:=b4.chg n5 id;have bx5:=b2.chg n25 id;refine qq2 ?_;refine bK bx5 rfl rfl ?_;refine qq6 ?_;refine ah (u:=w64 m.2.2) rfl (b5.cell (o:=2) rfl) ?_;refine aj (N8 (x:=x) hx1 hx2 hm1 hm3) rfl ?_;rintro _ w6 ⟨rfl,n6⟩;have n26:=New.trans n25 n6;have bx6:=bx5.chg n6 id;rw [Lp hm] at hf;cases hw:within x m.1 m.2.2
    ·refine qq2 ?_;refine ax (k+1) (sl rfl) ⟨by omega,?_,n26⟩ (by omega);rw [hf,if_neg (by rw [hw];decide)]
    ·have hwi:m.1<=x.1:=by unfold within at hw;rw [decide_eq_true_eq] at hw;exact hw.1
     refine qq2 ?_;refine ah (u:=w64 x.1) rfl (bx6.cell (o:=0) rfl) ?_;(repeat' (refine aa1 ?_));refine fP rfl rfl ?_;rw [zV hwi hx1];refine jf rfl rfl ?_;rw [show ((m.2.1:Int)+((x.1-m.1:Nat):Int))=((m.2.1+(x.1-m.1):Nat):Int) by omega,Tt];refine qq7 ?_;refine aB rfl rfl rfl ⟨_,rfl,⟨_,_,rfl,?_⟩,New.trans n02 n26⟩;rw [if_neg (by decide),hf,if_pos hw];exact ⟨rfl,rfl,apt _ (by decide)⟩
   ·obtain rfl:k=ms.length:=by omega
    rw [aoG] at hf;refine aB rfl rfl rfl ⟨_,rfl,⟨0,_,rfl,?_⟩,New.trans n02 nW⟩;rw [if_neg (by decide),hf];show (150:Int)≠0;decide
  ·(repeat' (first|refine qq2 ?_|(refine aa4 (fun _=>?_) (fun _=>?_)<;>(first|(exfalso;omega)|skip))));refine ah (u:=w64 x.1) rfl (b2.cell (o:=0) rfl) ?_;refine qq7 ?_;exact aB rfl rfl rfl ⟨_,rfl,⟨_,_,rfl,by dsimp only;rw [if_pos rfl];exact ⟨rfl,rfl,hx1⟩⟩,n02⟩
theorem Ls {Pb Pw:Nat->Prop} {w:World} {v vw:Value} {l:List Nd} {ws:List Nat} {x:Win} (h:RdS rNd 3 Pb w v l) (hok:og l=true) (hw:RdS (Wk.one viN) 1 Pw w vw ws) (hws: ∀k∈ws,k≠0/\k<l.length) (hx1:x.1<18446744073709551616) (hx2:x.2<18446744073709551616):
 Calls prog 187 #[v,vw,.agg (xQ x).toArray,.bool false] w (Ret fun r w'=>Tv r (sD l ws x)/\New w w'):=by
 obtain ⟨a,cap,rfl,hc1,hc2⟩:=h.form;obtain ⟨wa,wc,rfl,hd1,hd2⟩:=hw.form;have hlen:=pF hok;simp only [maxLen] at hd2;refine nM func187 rfl ntmps187 rfl ?_;refine qq4 ?_;refine Wl.box rfl fun w1 b1 n1 s1=>?_;replace b1:Bk w1 w.heap.size 300 [w64 x.1,w64 x.2]:=b1;refine qq2 ?_;refine aA (σ:=Nat×Nat) (fun q=>[(0,.slice a l.length cap),(3,.bool false),(6,.pointer (some ⟨w.heap.size,0,none⟩)),(14,.slice wa ws.length wc),(15,vi ws.length),(16,vi q.1)]) (fun q W=>q.1<=ws.length/\q.2<18446744073709551616/\sD l ws x=sD l (ws.drop q.1) (q.2,x.2)/\Bk W w.heap.size 300 [w64 q.2,w64 x.2]/\New w W) (fun q=>ws.length-q.1) (0,x.1) (sl rfl) ⟨anq _,hx1,by simp,b1,n1⟩ ?_;rintro ⟨k,c⟩ G W ⟨hk,hcl,hT,bW,nW⟩;dsimp only at hk hcl hT bW nW;simp only [pq];(repeat' (first|refine qq4 ?_|refine aa2 (fun _=>?_) (fun _=>?_)))
 ·obtain ⟨i,hi⟩:=nT ws (k:=k) (by omega);obtain ⟨hi0,hil⟩:=hws i (aop hi);refine aZ (hw.keep (nZ _) nW.keep) rfl rfl (by omega) hi fun b o hcell=>?_;refine ah (u:=vi i) rfl hcell ?_;refine qq4 ?_;refine bK bW rfl rfl ?_;(repeat' (refine aa1 ?_));refine aj (Lr (x:=(c,x.2)) (h.keep oh nW.keep) hok hi0 hil hcl hx2) rfl ?_;rintro _ w2 ⟨⟨r,e,rfl,hr⟩,n2⟩;have n02:=New.trans nW n2;have b2:=bW.chg n2 id;rw [drop_cons hi,sD] at hT;cases hcm:yV l i (c,x.2) with
  |none=>rw [hcm] at hr hT;dsimp only at hr;(repeat' (first|refine qq3 ?_|(refine aa4 (fun _=>?_) (fun _=>?_)<;>(first|(exfalso;omega)|skip))));exact aB rfl rfl rfl ⟨_,rfl,⟨0,_,rfl,by rw [hT];exact hr⟩,n02⟩
  |some b=>
   rw [hcm] at hr hT;obtain ⟨rfl,rfl,hrl⟩:=hr;dsimp only at hT;(repeat' (first|refine qq2 ?_|(refine aa4 (fun _=>?_) (fun _=>?_)<;>(first|(exfalso;omega)|skip))));refine aJ (u:=w64 r) b2 rfl (show (0:Nat)<2 by omega) rfl rfl fun w3 b3 c3=>?_;refine qq6 ?_;have n03:New w w3:=(Chg.trans n02.any c3 i3).tN
   exact ax (k+1,r) (sl rfl) ⟨by dsimp only;omega,hrl,hT,b3,n03⟩ (by dsimp only;omega)
 ·obtain rfl:k=ws.length:=by omega
  rw [aoG,sD] at hT;refine ah (u:=w64 c) rfl (bW.cell (o:=0) rfl) ?_;refine qq3 ?_;exact aB rfl rfl rfl ⟨_,rfl,⟨_,_,rfl,by rw [hT];exact ⟨rfl,rfl,hcl⟩⟩,nW⟩
theorem Tz {t:List Nd} {i:Nat} {ws:List Win} (hok:og t=true) (hi:i<t.length) (h:UM t i=some ws):ws.length<=1024/\ ∀x∈ws,x.1<18446744073709551616/\x.2<18446744073709551616:=by
 unfold UM at h;split at h
 ·cases h
 ·rename_i a s hs
  have hvl:((tX t i [114,101,103]).getD []).length<=1024:=yX hok hi;split at h
  ·cases h
  ·rename_i rs hrs
   split at h
   ·cases h;have k1:=xe hs;have hlt:=y7 (ws:=[a,s]) (by intro x hx;simp at hx;omega) hrs;refine ⟨by rw [aoR];omega,fun m hm=>?_⟩;obtain ⟨r,hr,rfl⟩:=List.mem_map.1 hm;obtain ⟨hr2,hrx⟩:=hlt.1 r hr
    match r,hr2 with
    | [p,q],_=>exact ⟨hrx p (by simp),hrx q (by simp)⟩
   ·cases h
theorem Em {α β:Type} {f:α->Option β}: ∀ {l:List α} {x:α},x∈l->f x=none->uF f l=none
 | [],x,h,_=>by simp at h
 |y::r,x,h,e=>by
  rw [uF];rcases List.mem_cons.1 h with rfl|h
  ·rw [e]
  ·cases f y with
   |none=>rfl
   |some z=>dsimp only;rw [Em h e];rfl
theorem Gj {α β:Type} {f:α->Option β} {g:α->β}: ∀ {l:List α},(∀x∈l,f x=some (g x))->uF f l=some (l.map g)
 | [],_=>rfl
 |y::r,h=>by rw [uF,h y (by simp)];dsimp only;rw [Gj fun x hx=>h x (aoC _ hx)];rfl
theorem En {α β:Type} {f:α->Option β}: ∀ {l:List α} {r:List β},uF f l=some r->r.length=l.length/\ ∀x∈l, ∃y,f x=some y/\y∈r
 | [],r,h=>by cases h;simp
 |y::l,r,h=>by
  rw [uF] at h;cases hy:f y with
  |none=>rw [hy] at h;cases h
  |some z=>
   rw [hy] at h;dsimp only at h;obtain ⟨r',h1,rfl⟩:=Option.map_eq_some_iff.1 h;obtain ⟨i1,i2⟩:=En h1;refine ⟨by simp [i1],fun x hx=>?_⟩;rcases List.mem_cons.1 hx with rfl|hx
   ·exact ⟨z,hy,by simp⟩
   ·obtain ⟨y',e1,e2⟩:=i2 x hx;exact ⟨y',e1,aoC _ e2⟩
def outW (t:List Nd) (i:Nat) (w:Win):Option Win:=(sD t (D7 t (par t i)) w).map fun b=>(b,w.2)
theorem Lu {Pb:Nat->Prop} {w:World} {v:Value} {l:List Nd} {i:Nat} (h:RdS rNd 3 Pb w v l) (hok:og l=true) (h0:i≠0) (hi:i<l.length):
 Calls prog 179 #[v,vi i] w (Ret fun r w'=>Iz w w' r (uX l i)/\New w w'):=by
 obtain ⟨a,cap,rfl,hc1,hc2⟩:=h.form;have hlen:=pF hok;have hp:=uK hok h0 hi;have hx:=GK hi;replace h:=h.mono (Pb':=fun k=>k<w.heap.size) AQ fun k hk _=>hk;unfold uX;refine nM func179 rfl ntmps179 rfl ?_;refine qq4 ?_;refine aj (Xd h hok h0 hi) rfl ?_;rintro _ w1 ⟨⟨vr,e,rfl,hr⟩,n1⟩;cases aaP:UM l i with
 |none=>rw [aaP] at hr;dsimp only at hr;(repeat' (first|refine qq5 ?_|(refine aa4 (fun _=>?_) (fun _=>?_)<;>(first|(exfalso;omega)|skip))));exact aB rfl rfl rfl ⟨_,rfl,⟨_,_,rfl,hr⟩,n1⟩
 |some ws=>
  rw [aaP] at hr;obtain ⟨rfl,ac9⟩:=hr;obtain ⟨hwl,hwx⟩:=Tz hok hi aaP;obtain ⟨ra,rc,rfl,_,_⟩:=ac9.form;have hz1:=n1.size;dsimp only;have hout: ∀q∈ws,(sD l (D7 l (par l i)) q).map (fun b=>(b,q.2))=outW l i q:=fun _ _=>rfl;(repeat' (first|refine qq2 ?_|(refine aa4 (fun _=>?_) (fun _=>?_)<;>(first|(exfalso;omega)|skip))));refine aA (σ:=Nat×List Win) (fun q=>[(0,.slice a l.length cap),(1,vi i),(6,.slice ra ws.length rc),(19,.slice ra ws.length rc),(20,vi ws.length),(21,vi q.1)]) (fun q W=>q.1<=ws.length/\q.2.length=q.1/\(∀j x,j<q.1->ws[j]? =some x-> ∃y,q.2[j]? =some y/\outW l i x=some y)/\nP (flat xQ) 300 2 (fun b=>w.heap.size<=b) NoB W (.slice ra ws.length rc) (q.2++ws.drop q.1)/\New w W) (fun q=>ws.length-q.1) (0,[]) (sl rfl) ⟨anq _,rfl,by intro j x hj;omega,by simpa using ac9,n1⟩ ?_;rintro ⟨k,ys⟩ G W ⟨hk,hyl,hys,own,nW⟩;dsimp only at hk hyl hys own nW;simp only [pq];have hzW:=nW.size;(repeat' (first|refine qq4 ?_|refine aa2 (fun _=>?_) (fun _=>?_)))
  ·obtain ⟨x,hxk⟩:=nT ws (k:=k) (by omega);obtain ⟨hx1,hx2⟩:=hwx x (aop hxk);have hol:(ys++ws.drop k).length=ws.length:=by simp;omega
   have hok2:(ys++ws.drop k)[k]? =some x:=by rw [anb (by omega),hyl,aps,ad6,anN];exact hxk
   have own':=own;rw [<-hol] at own';refine aK (own'.rd yg.mo) (by rw [hol];rfl) rfl (by omega) hok2 fun b o cs hl hR hat=>?_;obtain rfl:cs=xQ x:=hR;refine aS hat rfl rfl ?_;clear hat;refine Wl.alloc fun w2 b2 n2 s2=>?_;(repeat' (refine aa7 ?_));refine aH (new:=xQ x) b2 rfl rfl rfl rfl zl2 (by intro c hc;simp at hc;rcases hc with rfl|rfl<;>rfl) fun w3 b3 c3 s3=>?_;replace b3:Bk w3 W.heap.size 300 (xQ x):=b3;have n3:New W w3:=(Chg.trans n2.any c3 i3).tN
   have n03:=New.trans nW n3;have wU:=own.new (nK xQ) n3;obtain ⟨gb,gc,hvg,hgb,hgl,hob⟩:=own.blk (by intro e;rw [e,an8] at hol;omega);obtain ⟨rfl,rfl⟩:ra=some ⟨gb,0,none⟩/\rc=gc:=by injection hvg with e1 _ e2;exact ⟨e1,e2⟩
   have hdj: ∀b,b<w.heap.size->b<w.heap.size-> ¬b=gb:=fun b _ h1 e=>by omega
   refine qq4 ?_;refine aV rfl (by kernel_rfl) (fun w'=>Chg (fun k=>k=gb) w3 w') (Chg.drew _ _) ?_;intro w4 n4;have hkeep: ∀w',Chg (fun k=>k=gb) w3 w'->Keep (fun k=>k<w.heap.size) w w':=fun w' hw=>(Chg.trans (M:=fun k=>k=gb) n03.any hw fun k _ e=>e).keep hdj;have hne: ¬W.heap.size=gb:=by omega
   (repeat' (refine aa0 (aa3 (af ?_))));refine aa0 (bQ h (fun w' hw=>hkeep w' hw) rfl rfl (by omega) hx fun b o cs hl hR hat=>af ?_);obtain ⟨pv,rfl,hpv⟩:=hR;(repeat' (refine aa0 (aa6 (af ?_))));refine aa0 (au (u:=vi (ndA l i).parent) rfl (fun w' hw=>(hat w' hw).get 0 rfl) (af ?_));clear hat;refine aC rfl (aj (UN (i:=par l i) (h.keep oh (hkeep w4 n4.any)) hok (by omega)) (by rw [hp.2];rfl) ?_);rintro vw w5 ⟨ow,n5⟩;have n45:=New.trans n4 n5;refine ai ⟨rfl,n45.any,?_⟩;refine aa0 (bD (cs:=xQ x) (fun w' hw=>(b3.chg hw hne).at) rfl rfl (af ?_));refine aC rfl (aj (Ls (x:=x) (h.keep oh (hkeep w5 n45.any)) hok (ow.rd (nV _)) (fun k hk=>by have:=YX hok _ (by omega) k hk;omega) hx1 hx2) rfl ?_);rintro _ w6 ⟨⟨r,e,rfl,hr⟩,n6⟩;have n46:=New.trans n45 n6;refine ai ⟨rfl,n46.any,?_⟩;(repeat' (first|refine aa0 (aa3 (af ?_))|refine aa0 (iO rfl rfl (af ?_))));refine aa0 (aa8 (af ?_));(repeat' (refine aa0 (aa6 (af ?_))));refine aC rfl (dX (f:=xQ) (g:=gb) (j:=k) (o:=0) (cap:=rc) (p:=x) (q:=(r,x.2)) (u:=w64 r) (fun _=>rfl) (by omega) rfl hok2 rfl (wU.new (nK xQ) n46) (by rw [hol]) (by show Value.pointer (some ⟨gb,0+(k:Int).toNat*2+0,none⟩)=_;simp) rfl fun w7 o7 c7=>?_);have c37:Chg (fun k=>k=gb) w3 w7:=Chg.trans n46.any c7 fun k _ e=>by cases e;rfl
   refine ai ⟨rfl,c37,?_⟩;(repeat' (first|refine bH ?_|refine aa0 (fA (by conv=>{lhs;whnf}) (af ?_))));have n07:New w w7:=(Chg.trans n03.any c37 i3).tN
   cases hth:sD l (D7 l (par l i)) x with
   |none=>rw [hth] at hr;dsimp only at hr;(repeat' (first|refine qq3 ?_|(refine aa4 (fun _=>?_) (fun _=>?_)<;>(first|(exfalso;omega)|skip))));refine aB rfl rfl rfl ⟨_,rfl,⟨_,_,rfl,?_⟩,n07⟩;rw [Em (aop hxk) (by rw [hth];rfl)];exact hr
   |some b=>
    rw [hth] at hr;obtain ⟨rfl,rfl,hrl⟩:=hr;(repeat' (first|refine qq2 ?_|(refine aa4 (fun _=>?_) (fun _=>?_)<;>(first|(exfalso;omega)|skip))));refine ax (k+1,ys++ [(r,x.2)]) (sl rfl) ⟨by dsimp only;omega,by simp;omega,?_,?_,n07⟩ (by dsimp only;omega)
    ·intro j y hj hy;dsimp only at hj ⊢;by_cases e:j<k
     ·obtain ⟨z,h1,h2⟩:=hys j y e hy;exact ⟨z,by rw [anm (by omega)];exact h1,h2⟩
     ·obtain rfl:j=k:=by omega
      rw [hxk] at hy;cases hy;exact ⟨(r,x.2),by rw [anb (by omega),hyl,aps];rfl,by unfold outW;rw [hth];rfl⟩
    ·have hset:(ys++ws.drop k).set k (r,x.2)=ys++ [(r,x.2)]++ws.drop (k+1):=by rw [drop_cons hxk,anw _ _ (by omega),hyl,aps];simp
     rw [hset] at o7;exact o7
  ·obtain rfl:k=ws.length:=by omega
   rw [aoG,aoS] at own;refine aB rfl rfl rfl ⟨_,rfl,⟨_,_,rfl,?_⟩,nW⟩;have hal:uF (fun q=>(sD l (D7 l (par l i)) q).map fun b=>(b,q.2)) ws=some ys:=by
    have h1:uF (outW l i) ws=some (ws.map fun q=>(outW l i q).getD (0,0)):=Gj fun q hq=>by obtain ⟨j,hj⟩:=List.mem_iff_getElem?.1 hq;obtain ⟨y,_,e2⟩:=hys j q (List.getElem?_eq_some_iff.1 hj).1 hj;rw [e2];rfl
    have h2:(ws.map fun q=>(outW l i q).getD (0,0))=ys:=by
     apply anC;intro j;rw [an3];by_cases hj:j<ws.length
     ·obtain ⟨q,hq⟩:=nT ws hj;obtain ⟨y,e1,e2⟩:=hys j q hj hq;rw [hq,e1,am6,e2];rfl
     ·rw [anl (by omega),anl (by omega)];rfl
    rw [h2] at h1;exact h1
   rw [hal];exact ⟨rfl,own⟩
theorem LC {Pb:Nat->Prop} {w:World} {v:Value} {l:List Nd} {i:Nat} (h:RdS rNd 3 Pb w v l) (hok:og l=true) (h0:i≠0) (hi:i<l.length):
 Calls prog 165 #[v,vi i] w (Ret fun r w'=>Iz w w' r (uX l i)/\New w w'):=by
 obtain ⟨a,cap,rfl,hc1,hc2⟩:=h.form;refine nM func165 rfl ntmps165 rfl ?_;refine qq4 ?_;refine aj (QC (least:=1) h hok hi (by omega)) rfl ?_;rintro _ w1 ⟨rfl,n1⟩;(repeat' (first|refine qq2 ?_|(refine aa4 (fun _=>?_) (fun _=>?_)<;>(first|(exfalso;omega)|skip))));refine aj (Lu (h.keep oh n1.keep) hok h0 hi) rfl ?_;rintro _ w2 ⟨⟨vr,e,rfl,hr⟩,n2⟩;refine qq3 ?_;refine aB rfl rfl rfl ⟨_,rfl,⟨_,_,rfl,?_⟩,New.trans n1 n2⟩;cases hw:uX l i with
 |none=>rw [hw] at hr;exact hr
 |some ws=>rw [hw] at hr;exact ⟨hr.1,hr.2.mono yg.mo (fun b hb e=>by have:=n1.size;omega) i3⟩
section
variable {P:Program} {n:Nat} {ds:List Deferred} {Q:Po} {F:Fr} {w:World} {ops rest:List Oper} {d:Nat} {ty:TypeId} {pos:String} {aft:Array Edge}
theorem jY {x:Operand} {e:TypeId} {u:Value} (hx:ev n F x=u) (c: ∀w',Bk w' w.heap.size e u.cells.toList->Grw w w'->Wl P n ds Q ops rest (upd F d (.pointer (some ⟨w.heap.size,0,none⟩))) w'):
 Wl P n ds Q ops (⟨some d,.box e x,ty,pos,aft,none⟩::rest) F w:=by
 refine Wl.val (w':=w.alloc (.cells u.cells e)) ?_ (c _ (by simpa [Bk] using heap_alloc_new w (.cells u.cells e)) ((Grw.refl w).alloc _));simp [execOp,Instr.box,hx,newVar,newRow]
end
theorem Grw.trans {w w' w'':World} (h:Grw w w') (k:Grw w' w''):Grw w w'':=by
 obtain ⟨q,os,rfl⟩:=h;obtain ⟨q',os',rfl⟩:=k;refine ⟨q+q',os++os',?_⟩;simp [Sort.grow,World.drewN,Nat.add_assoc]
theorem Y6 (a b:Clm):orM [yK a.kind b.kind,yK a.from_ b.from_,yK a.upto b.upto]=sF a b:=by
 have e: ∀x y:Nat,yK x y=if x<y then-1 else if y<x then 1 else 0:=fun x y=>by unfold yK;simp only [Int.ofNat_lt]
 rw [e,e,e];unfold sF;simp only [orM]
 repeat' split
 all_goals first|rfl|omega
theorem QJ {w:World} {a b:Clm}:
 Calls prog 167 #[.agg (pV a).toArray,.agg (pV b).toArray] w (Ret fun r w'=>r=vi (sF a b)/\Grw w w'):=by
 refine nM func167 rfl ntmps167 rfl ?_;refine aN ?_;(repeat' (refine aQ ?_));refine jY rfl fun w1 bx g1=>?_;replace bx:Bk w1 w.heap.size 203 (pV a):=bx;refine jY rfl fun W by_ g2=>?_;replace by_:Bk W w1.heap.size 203 (pV b):=by_;replace bx:=bx.chg g2.new id;replace g2:=g1.trans g2;refine qq4 ?_;refine gY [0,1,2,3,5,6,7,8,10,11,12,13] [4,9,14,15,16,17] rfl (by kernel_rfl) (by simp only [pick,apl,apm];rfl) (by simp only [pick,apl,apm];rfl) (Grw W) (Grw.drew W) ?_;(repeat' (refine aa6 ?_));refine au (u:=.int .u8 a.kind) rfl (fun w' hw=>(bx.chg hw.new id).cell (o:=0) rfl) ?_;(repeat' (refine aa6 ?_));refine au (u:=.int .u8 b.kind) rfl (fun w' hw=>(by_.chg hw.new id).cell (o:=0) rfl) ?_;(repeat' (refine aa6 ?_));refine au (u:=w64 a.from_) rfl (fun w' hw=>(bx.chg hw.new id).cell (o:=1) rfl) ?_;(repeat' (refine aa6 ?_));refine au (u:=w64 b.from_) rfl (fun w' hw=>(by_.chg hw.new id).cell (o:=1) rfl) ?_;(repeat' (refine aa6 ?_));refine au (u:=w64 a.upto) rfl (fun w' hw=>(bx.chg hw.new id).cell (o:=2) rfl) ?_;(repeat' (refine aa6 ?_));refine au (u:=w64 b.upto) rfl (fun w' hw=>(by_.chg hw.new id).cell (o:=2) rfl) ?_;(repeat' (refine af ?_));refine dI ?_;refine aj (yL (a:=a.kind) (b:=b.kind)) rfl ?_;rintro _ _ ⟨rfl,rfl⟩;refine ai ⟨rfl,Grw.drew W,?_⟩;refine dI ?_;refine aj (A8 (a:=a.from_) (b:=b.from_)) rfl ?_;rintro _ _ ⟨rfl,rfl⟩;refine ai ⟨rfl,Grw.drew W,?_⟩;refine dI ?_;refine aj (A8 (a:=a.upto) (b:=b.upto)) rfl ?_;rintro _ _ ⟨rfl,rfl⟩;refine ai ⟨rfl,Grw.drew W,?_⟩;refine dI ?_;refine jm (us:=[yK a.kind b.kind,yK a.from_ b.from_,yK a.upto b.upto]) rfl rfl (by simp) (by simp) fun v o own=>?_;obtain ⟨va,ac8,rfl,_,_⟩:=own.form;have hgr:Grw W (W.drew.alloc o):=(Grw.drew W).alloc o;refine ai ⟨rfl,hgr,?_⟩;refine dI ?_;refine aj (Lj (own.rd (nV _))) rfl ?_;rintro _ _ ⟨rfl,rfl⟩;refine ai ⟨rfl,hgr,?_⟩;refine Wch.last ?_;rw [Y6 a b];refine qq3 ?_;exact ak rfl rfl ⟨_,rfl,rfl,g2.trans hgr⟩
def eqF (d:Nat) (xs ys:Array Value):List (Bool×TypeId×Nat)->Sem Bool
 | []=>pure true
 |(g,t,o)::fs=>
  if g=true then do
   let a<-part t xs o;let b<-part t ys o;let r<-Op.equalIn d t a b
   if (!r)=true then pure false else eqF d xs ys fs
  else eqF d xs ys fs
theorem Eo {d:Nat} {xs ys:Array Value}: ∀ {fs:List Field} {l:List (Bool×TypeId×Nat)},fs.map (fun f=>(decide (f.name≠ "_"),f.type,f.offset))=l->Op.eqFields d xs ys fs=eqF d xs ys l:=by
 intro fs;induction fs with
 |nil=>rintro l rfl;rfl
 |cons f fs ih=>rintro l rfl;simp only [acd,Op.eqFields,eqF,decide_eq_true_eq,ih rfl]
theorem Gl {P:Program} {w:World} {d:Nat} {xs ys:Array Value}:(eqF d xs ys []).run P w=.ok true w:=rfl
theorem Ep {P:Program} {w:World} {d:Nat} {xs ys:Array Value} {t:TypeId} {o:Nat} {a b:Value} {r:Bool} {l:List (Bool×TypeId×Nat)} (hp:P.plainKey t=true) (ha:xs[o]? =some a) (hb:ys[o]? =some b) (hr:(Op.equalIn d t a b).run P w=.ok r w):
 (eqF d xs ys ((true,t,o)::l)).run P w=if r=true then (eqF d xs ys l).run P w else .ok false w:=by
 simp only [eqF,if_true,Sem.run_bind,run_part_plain w hp ha,run_part_plain w hp hb,Result.andThen_ok,hr];cases r<;>simp [Sem.run_pure]
abbrev Jw (x:Clm):Value:=.agg (pV x).toArray
theorem Y7 (x y:Clm):decide (x=y)=(decide ((x.kind:Int)=y.kind)&&(decide ((x.from_:Int)=y.from_)&&decide ((x.upto:Int)=y.upto))):=by
 obtain ⟨a,b,c⟩:=x;obtain ⟨p,q,r⟩:=y;rw [Bool.eq_iff_iff];simp only [decide_eq_true_eq,Clm.mk.injEq,ann];omega
theorem Ko {x y:Clm} {w:World}:(Op.equalIn 10000 203 (Jw x) (Jw y)).run prog w=.ok (decide (x=y)) w:=by
 rw [run_equalIn_struct w 9999 _ _ _ (by kernel_rfl) (by kernel_rfl),Eo (l:=[(true,5,0),(true,201,1),(true,201,2)]) (by kernel_rfl)];rw [Ep (by kernel_rfl) rfl rfl (run_equalIn_int w 9998 _ .u8 .u8 _ _ underlying5),Ep (by kernel_rfl) rfl rfl (run_equalIn_int w 9998 _ .u64 .u64 _ _ underlying201), Ep (by kernel_rfl) rfl rfl (run_equalIn_int w 9998 _ .u64 .u64 _ _ underlying201),Gl,Y7];simp only [beq_iff_eq];by_cases h1:(x.kind:Int)=y.kind
 ·by_cases h2:(x.from_:Int)=y.from_
  ·by_cases h3:(x.upto:Int)=y.upto
   ·simp [h1,h2,h3]
   ·simp [h1,h2,h3]
  ·simp [h1,h2]
 ·simp [h1]
theorem Y8 {x y:Clm} {w:World}:(binOp .eql 203 (Jw x) (Jw y)).run prog w=.ok (.bool (decide (x=y))) w:=by
 rw [run_eql_struct,Ko];rfl
theorem Y9 {x y:Clm} {w:World}:(binOp .neq 203 (Jw x) (Jw y)).run prog w=.ok (.bool (!decide (x=y))) w:=by
 rw [run_neq_struct,Ko];rfl
section
variable {n:Nat} {ds:List Deferred} {C:World->Prop} {K:Fr->Prop} {F:Fr} {ops rest:List Oper} {d:Nat} {ty t':TypeId} {pos:String} {aft:Array Edge}
theorem mZ {x y:Operand} {p q:Clm} (hx:ev n F x=Jw p) (hy:ev n F y=Jw q) (c:Wq prog n ds C K ops rest (upd F d (.bool (decide (p=q))))):
 Wq prog n ds C K ops (⟨some d,.binOp .eql 203 x y t',ty,pos,aft,none⟩::rest) F:=
 Wq.val (fun w hw=>by have hg:=run_eqGuard_agg (P:=prog) w .eql 203 x y (pV p).toArray (pV q).toArray (by kernel_rfl);simp only [execOp,hx,hy,Sem.run_bind,hg,Result.andThen_ok,Y8,Sem.run_pure]) c
theorem ni {x y:Operand} {p q:Clm} (hx:ev n F x=Jw p) (hy:ev n F y=Jw q) (c:Wq prog n ds C K ops rest (upd F d (.bool (!decide (p=q))))):
 Wq prog n ds C K ops (⟨some d,.binOp .neq 203 x y t',ty,pos,aft,none⟩::rest) F:=
 Wq.val (fun w hw=>by have hg:=run_eqGuard_agg (P:=prog) w .neq 203 x y (pV p).toArray (pV q).toArray (by kernel_rfl);simp only [execOp,hx,hy,Sem.run_bind,hg,Result.andThen_ok,Y9,Sem.run_pure]) c
end
theorem uG:qH (flat pV) 3:=qA _ (fun _=>rfl) fun x c hc=>by simp [pV] at hc;rcases hc with rfl|rfl|rfl<;>rfl
theorem Xi (x:Clm): ∀c∈pV x,c.oneCell'=true:=fun c hc=>by simp [pV] at hc;rcases hc with rfl|rfl|rfl<;>rfl
abbrev cfM:=qW.uM
theorem OA (a b:Clm) (r:List Clm):cfM a (b::r)=if b=a then cfM b r else b::cfM b r:=by
 show qW.uM a (b::r)=_;rw [qW.uM]
theorem TA (a:Clm):cfM a []=[]:=rfl
theorem LD {L:List Clm} {k:Nat} {x y:Clm} (hk:1<=k) (hy:L[k-1]? =some y) (hx:L[k]? =some x) (h:qW L=L.take k++cfM y (L.drop k)):
 (x≠y->qW L=L.take (k+1)++cfM x (L.drop (k+1)))/\(x=y->qW L=L.take k++cfM x (L.drop (k+1))):=by
 rw [drop_cons hx,OA] at h;constructor
 ·intro e;rw [if_neg e] at h;rw [h,take_snoc hx];simp
 ·intro e;rw [if_pos e] at h;exact h
theorem Es {Pb:Nat->Prop} {w:World} {v:Value} {L:List Clm} (own:nP (flat pV) 203 3 Pb NoB w v L) (hl:L.length<=2000000):
 Calls prog 168 #[v] w (Ret fun r w'=>nP (flat pV) 203 3 Pb NoB w' r (qW L)/\(∀b,r.ownBlock=some b->v.ownBlock=some b)/\Chg (fun k=>v.ownBlock=some k) w w'):=by
 by_cases hL:L.length<2
 ·obtain ⟨a,cap,rfl,hc1,hc2⟩:=own.form;refine nM func168 rfl ntmps168 rfl ?_;(repeat' (first|refine qq5 ?_|(refine aa2 (fun _=>?_) (fun _=>?_)<;>(first|(exfalso;omega)|skip))));refine ak rfl rfl ⟨_,rfl,?_,fun b hb=>hb,ay _ _⟩;have:qW L=L:=by
   match L,hL with
   | [],_=>rfl
   | [x],_=>rfl
  rw [this];exact own
 obtain ⟨g,cap,rfl,hgb,hgl,hob⟩:=own.blk (by intro e;subst e;simp at hL);obtain ⟨_,_,hfm,hcap,hmax⟩:=own.form;cases hfm;simp only [maxLen] at hmax;obtain ⟨x0,hx0⟩:=nT L (k:=0) (by omega);refine nM func168 rfl ntmps168 rfl ?_;(repeat' (first|refine qq2 ?_|(refine aa2 (fun _=>?_) (fun _=>?_)<;>(first|(exfalso;omega)|skip))));refine aA (σ:=Nat) (fun k=>[(0,.slice (some ⟨g,0,none⟩) L.length cap),(3,vi k)]) (fun k W=>1<=k/\k<=L.length/\(∀y,L[k-1]? =some y->qW L=L.take k++cfM y (L.drop k))/\New w W) (fun k=>L.length-k) 1 (sl rfl) ⟨aap _,by omega,fun y hy=>?_,ay _ _⟩ ?_
 ·rw [hx0] at hy;cases hy;cases L with
  |nil=>simp at hx0
  |cons a r=>simp at hx0;subst hx0;rfl
 rintro k G W ⟨hk1,hk,hC,nW⟩;simp only [pq];have Aq:=own.new (nK pV) nW;have hrd:=Aq.rd uG.mo;(repeat' (first|refine qq4 ?_|refine aa2 (fun _=>?_) (fun _=>?_)))
 ·obtain ⟨x,hx⟩:=nT L (k:=k) (by omega);obtain ⟨y,hy⟩:=nT L (k:=k-1) (by omega);obtain ⟨hne,heq⟩:=LD hk1 hy hx (hC y hy);refine aV rfl (by kernel_rfl) (fun w'=>New W w') (Chg.drew _ _) ?_;intro w1 n1;(repeat' (refine aa0 (aa3 (af ?_))));refine aa0 (bQ hrd (fun w' hw=>hw.keep) rfl rfl (by omega) hx fun b o cs hl hR hat=>af ?_);obtain rfl:cs=pV x:=hR;refine aa0 (bD hat rfl rfl (af ?_));clear hat;(repeat' (first|refine aa0 (aa3 (af ?_))|refine aa0 (Wq.sub rfl rfl (by omega) (by omega) (af ?_))));refine aa0 (bQ (y:=y) hrd (fun w' hw=>hw.keep) rfl rfl (by omega) (by rw [show ((k:Int)-1).toNat=k-1 by omega];exact hy) fun b o cs hl hR hat=>af ?_);obtain rfl:cs=pV y:=hR;refine aa0 (bD hat rfl rfl (af ?_));clear hat;refine iT rfl (mZ (p:=x) (q:=y) rfl rfl (af ?_));(repeat' (refine bH ?_));have nw1:=New.trans nW n1;have Ar:=own.new (nK pV) nw1;by_cases e:x=y
  ·rw [decide_eq_true e];replace heq:=heq e;refine qq5 ?_;refine mX rfl rfl (by omega) hcap ?_;rw [ace];refine qq2 ?_;refine aA (σ:=Nat×Nat×List Clm) (fun q=>[(0,.slice (some ⟨g,0,none⟩) L.length cap),(3,vi q.1),(4,.slice (some ⟨g,k*3,none⟩) (L.length-k) (cap-k)),(5,vi q.2.1)]) (fun q W'=>1<=q.2.1/\k<=q.1/\q.1+1<=k+q.2.1/\k+q.2.1<=L.length/\q.2.2.length=L.length/\q.2.2.drop q.1=L.drop q.1/\(∀y,L[k+q.2.1-1]? =some y->qW L=q.2.2.take q.1++cfM y (L.drop (k+q.2.1)))/\nP (flat pV) 203 3 Pb NoB W' (.slice (some ⟨g,0,none⟩) L.length cap) q.2.2/\Chg (fun b=>(Value.slice (some (⟨g,0,none⟩:Addr)) L.length cap).ownBlock=some b) w W') (fun q=>L.length-k-q.2.1) (k,1,L) (sl rfl) ⟨by simp,aap _,by simp,by dsimp only;omega,rfl,rfl,fun z hz=>?_,Ar,nw1.any⟩ ?_
   ·dsimp only at hz ⊢;rw [ao4,hx] at hz;cases hz;exact heq
   rintro ⟨m,j,D⟩ G2 W2 ⟨hj1,hkm,hmj,hjl,hDl,hDd,hC2,rQ,c2⟩;dsimp only at hj1 hkm hmj hjl hDl hDd hC2 rQ c2;simp only [pq];have aac: ∀i,m<=i->D[i]? =L[i]? :=fun i hi=>by
    have:=congrArg (fun q=>q[i-m]?) hDd;simp only [ad6] at this
    rwa [show m+(i-m)=i by omega] at this
   have hlen2:((L.length-k:Nat):Int)=(L.length:Int)-k:=by omega
   (repeat' (first|refine qq4 ?_|refine aa2 (fun _=>?_) (fun _=>?_)))
   ·obtain ⟨x2,hx2⟩:=nT L (k:=k+j) (by omega);obtain ⟨y2,hy2⟩:=nT L (k:=k+j-1) (by omega);have adb: ∀W',New W2 W'->At W' g (k*3+(j:Int).toNat*3) (pV x2):=fun W' hw=>by
     have:=(rQ.new (nK pV) hw).at rfl rfl (j:=k+j) (by rw [aac (k+j) (by omega)];exact hx2)
     rwa [show (k+j)*3=k*3+(j:Int).toNat*3 by omega] at this
    have ah2: ∀W',New W2 W'->At W' g (k*3+((j:Int)-1).toNat*3) (pV y2):=fun W' hw=>by
     have:=(rQ.new (nK pV) hw).at rfl rfl (j:=k+j-1) (by rw [aac (k+j-1) (by omega)];exact hy2)
     rwa [show (k+j-1)*3=k*3+((j:Int)-1).toNat*3 by omega] at this
    obtain ⟨hne2,heq2⟩:(x2≠y2->qW L=D.take m++x2::cfM x2 (L.drop (k+j+1)))/\(x2=y2->qW L=D.take m++cfM x2 (L.drop (k+j+1))):=by have h:=hC2 y2 hy2;rw [drop_cons hx2,OA] at h;exact ⟨fun e=>by rw [if_neg e] at h;exact h,fun e=>by rw [if_pos e] at h;exact h⟩
    refine aV rfl (by kernel_rfl) (fun w'=>New W2 w') (Chg.drew _ _) ?_;intro w3 n3;(repeat' (refine aa0 (aa3 (af ?_))));refine aa0 (aa8 (af ?_));refine aa0 (bD (cs:=pV x2) adb rfl rfl (af ?_));(repeat' (first|refine aa0 (aa3 (af ?_))|refine aa0 (Wq.sub rfl rfl (by omega) (by omega) (af ?_))));refine aa0 (aa8 (af ?_));refine aa0 (bD (cs:=pV y2) ah2 rfl rfl (af ?_));refine iT rfl (ni (p:=x2) (q:=y2) rfl rfl (af ?_));(repeat' (refine bH ?_));have wU:=rQ.new (nK pV) n3;have c3:Chg (fun b=>(Value.slice (some (⟨g,0,none⟩:Addr)) L.length cap).ownBlock=some b) w w3:=Chg.trans c2 n3.any i3;by_cases e2:x2=y2
    ·rw [decide_eq_true e2];refine qq2 ?_;refine ax (m,j+1,D) (sl rfl) ⟨by dsimp only;omega,hkm,by dsimp only;omega,by dsimp only;omega,hDl,hDd,fun z hz=>?_,wU,c3⟩ (by dsimp only;omega);dsimp only at hz ⊢;rw [show k+(j+1)-1=k+j by omega,hx2] at hz;cases hz;exact heq2 e2
    ·rw [decide_eq_false e2];refine qq5 ?_;refine dB rfl rfl (by omega) (by omega) ?_;refine aS (cs:=pV x2) (adb w3 n3) rfl rfl ?_;refine dB rfl rfl (by omega) (by omega) ?_;refine fC (f:=pV) (q:=x2) (j:=m) (sz:=3) (cap:=cap) (fun _=>rfl) Xi wU (by rw [hDl]) (by omega) (by show Value.pointer (some ⟨g,0+(m:Int).toNat*3,none⟩)=_;simp) rfl rfl fun w4 o4 c4=>?_;refine qq6 ?_;refine ax (m+1,j+1,D.set m x2) (sl rfl) ⟨by dsimp only;omega,by dsimp only;omega,by dsimp only;omega,by dsimp only;omega,by simpa using hDl,?_,fun z hz=>?_,o4,Chg.trans c3 c4 i3⟩ (by dsimp only;omega)
     ·dsimp only;rw [apE (by omega)];have:=congrArg (apA 1) hDd;simpa [aoa] using this
     ·dsimp only at hz ⊢;rw [show k+(j+1)-1=k+j by omega,hx2] at hz;cases hz;have hget:(D.set m x2)[m]? =some x2:=by rw [anO,if_pos rfl,if_pos (by omega)]
      rw [take_snoc hget,apF (aap m),hne2 e2];simp;rw [show k+j+1=k+(j+1) by omega]
   ·have hje:k+j=L.length:=by omega
    obtain ⟨y2,hy2⟩:=nT L (k:=k+j-1) (by omega);have h:=hC2 y2 hy2;rw [hje,aoG,TA,aoS] at h;refine jM (f:=pV) (i:=m) (cap:=cap) (by simp [Value.cells];exact ⟨rfl,rfl⟩) rQ (by rw [hDl]) rfl rfl (by omega) rfl fun u w3 o3 c3=>?_;refine qq2 ?_;refine jO rfl rfl (by omega) ?_;refine qq7 ?_;refine ak rfl rfl ⟨_,rfl,?_,fun b hb=>hb,Chg.trans c2 c3 i3⟩;rw [h];exact o3
  ·rw [decide_eq_false e];replace hne:=hne e;refine qq2 ?_;exact ax (k+1) (sl rfl) ⟨by omega,by omega,fun z hz=>by rw [ao4,hx] at hz;cases hz;exact hne,nw1⟩ (by omega)
 ·obtain rfl:k=L.length:=by omega
  obtain ⟨y,hy⟩:=nT L (k:=L.length-1) (by omega);have h1:=hC y hy;rw [aon,aoG,TA,aoS] at h1;refine ak rfl rfl ⟨_,rfl,?_,fun b hb=>hb,nW.any⟩;rw [h1];exact Aq
end Go.Proofs.YtfbnfhhmiiahnaaGreatDoor
namespace Go.Proofs.YtfbnfhhmiiahnaaGreatDoor.Wk
open Go Go.RowKit
open Go.Sort (Holds putRow flatK size_flatK HoldsK putRowK)
theorem yj {α:Type} {f:α->List Value} {k:Nat} (hk: ∀x,(f x).length=k): ∀(xs:List α) (i j:Nat) (x:α),xs[i]? =some x->j<k->(xs.flatMap f)[i*k+j]? =(f x)[j]?
 | [],i,j,x,h,_=>by simp at h
 |y::r,i,j,x,h,hj=>by
  rw [aoH];cases i with
  |zero=>simp at h;subst h;rw [anV,ace,anm (by rw [hk];exact hj)]
  |succ i=>rw [anb (by rw [hk,aaR];omega),hk,show (i+1)*k+j-k=i*k+j by rw [aaR];omega];exact yj hk r i j x (by simpa using h) hj
theorem wu {α:Type} {f:α->List Value} {k:Nat} (hk: ∀x,(f x).length=k): ∀xs:List α,(xs.flatMap f).length=xs.length*k
 | []=>by simp
 |y::r=>by rw [aoH,am7,hk,wu hk r,anJ,aaR];omega
theorem IB {α:Type} [Inhabited α] {f:α->List Value} {k:Nat} (hk: ∀x,(f x).length=k) (d:List α):(flatK f k d.toArray).toList=d.flatMap f:=by
 apply anC;intro t;by_cases ht:t<d.length*k
 ·have hk0:0<k:=by rcases anY k with e|e;subst e;omega;exact e
  have hi:t / k<d.length:=apG (by rw [anZ];exact ht);have hj:t % k<k:=apt _ hk0;have e:=yj hk d (t / k) (t % k) d[t / k] (anv hi) hj;rw [show t / k*k+t % k=t by rw [anZ];exact apH t k] at e;rw [e,aoQ];have hj':t % k<(f d[t / k]).length:=by rw [hk];exact hj
  rw [anv hj',aaX (by simpa using ht)];congr 1;simp [flatK,hi,hj']
 ·rw [anl (by rw [Array.length_toList,size_flatK];simpa using Nat.not_lt.1 ht),anl (by rw [wu hk];omega)]
theorem Xj {α:Type} {f:α->List Value} {k:Nat} {T:TypeId} {Pb Pe:Nat->Prop} {w:World} {v:Value} {xs:List α} (hk: ∀x,(f x).length=k) (h:nP (flat f) T k Pb Pe w v xs):uH Pb w T k v xs.length (xs.flatMap f):=by
 obtain ⟨cs,hoc,he⟩:=h;have hl:cs.length=xs.length*k:=hoc.1;have:cs=xs.flatMap f:=by
  apply anC;intro t;by_cases ht:t<xs.length*k
  ·have hk0:0<k:=by rcases anY k with e|e;subst e;omega;exact e
   have hi:t / k<xs.length:=apG (by rw [anZ];exact ht);have hj:t % k<k:=apt _ hk0;have e:=yj hk xs (t / k) (t % k) xs[t / k] (anv hi) hj;have et:t / k*k+t % k=t:=by rw [anZ];exact apH t k
   rw [et] at e;have h1:(cs.drop (t / k*k)).take k=f xs[t / k]:=he (t / k) xs[t / k] (anv hi);rw [e, <-h1,aaQ,if_pos hj,ad6,et]
  ·rw [anl (by omega),anl (by rw [wu hk];omega)]
 rw [<-this];exact hoc
theorem of_flat {α:Type} {f:α->List Value} {k:Nat} {T:TypeId} {Pb Pe:Nat->Prop} {w:World} {v:Value} {xs:List α} {m:Nat} (hk: ∀x,(f x).length=k) (hm:m=xs.length) (h:uH Pb w T k v m (xs.flatMap f)):nP (flat f) T k Pb Pe w v xs:=by
 subst hm;refine ⟨_,h,fun i x hx=>?_⟩;show _=_;apply anC;intro j;rw [aaQ];by_cases hj:j<k
 ·rw [if_pos hj,ad6,yj hk xs i j x hx hj]
 ·rw [if_neg hj,anl (by rw [hk];omega)]
theorem OB {Pb:Nat->Prop} {w:World} {T:TypeId} {k g m cap:Nat} {cs:List Value} (h:uH Pb w T k (.slice (some ⟨g,0,none⟩) m cap) m cs): ∃cur,Pb g/\w.heap[g]? =some (.cells cur T (0,0))/\m<=cap/\cap<=maxLen/\cur.size=cap*k/\cur.toList.take (m*k)=cs/\cs.length=m*k:=by
 obtain ⟨hl,h0|⟨g',cap',cur,e1,hPg,hheap,h1,h2,h3,h4⟩⟩:=h
 ·cases h0.1
 cases e1;exact ⟨cur,hPg,hheap,h1,h2,h3,h4,hl⟩
theorem QK {Pb:Nat->Prop} {w:World} {T:TypeId} {k g m cap:Nat} {cs:List Value} (h:uH Pb w T k (.slice (some ⟨g,0,none⟩) m cap) m cs):Holds id w g 0 cs.toArray:=by
 obtain ⟨cur,_,hheap,h1,_,h3,h4,hl⟩:=OB h;intro j hj;have hj':j<cs.length:=by simpa using hj
 have hc:cur[j]? =some cs[j]:=by
  have:(cur.toList.take (m*k))[j]? =cs[j]? :=by rw [h4]
  rw [aaQ,if_pos (by omega),anv hj'] at this;simpa using this
 refine ⟨?_,?_⟩
 ·simp only [World.cell?,hheap,ace];have:cs.toArray[j]! =cs[j]:=by simp [hj']
  rw [this];simpa using hc
 ·simp [World.frozen?,hheap]
theorem Xk {Pb:Nat->Prop} {w w':World} {T:TypeId} {k g m cap:Nat} {cs d:List Value} (h:uH Pb w T k (.slice (some ⟨g,0,none⟩) m cap) m cs) (hl:d.length=cs.length)
 (hw: ∀c,w.heap[g]? =some (.cells c T (0,0))->w'.heap[g]? =some (.cells (Sort.putCells id 0 d.toArray c) T (0,0))):uH Pb w' T k (.slice (some ⟨g,0,none⟩) m cap) m d:=by
 obtain ⟨cur,hPg,hheap,h1,h2,h3,h4,hlc⟩:=OB h;have hle:m*k<=cap*k:=aaw _ h1;refine ⟨by omega,.inr ⟨g,cap,_,rfl,hPg,hw _ hheap,h1,h2,by simp [Sort.putCells,h3],?_⟩⟩;apply anC;intro j;rw [aaQ];by_cases hj:j<m*k
 ·have hjc:j<cur.size:=by omega
  rw [if_pos hj,aoQ,Sort.putCells,Array.getElem?_mapIdx,aaX hjc,am6,if_pos ⟨anq _,by simp;omega⟩];have hjD:j<d.length:=by omega
  rw [anv hjD];simp [hjD]
 ·rw [if_neg hj,anl (by omega)]
end Go.Proofs.YtfbnfhhmiiahnaaGreatDoor.Wk
namespace Go.Proofs
open Go.Shelf
def ny:Go.Shelf.Ren:=⟨fun|6=>166|15=>94|14=>180|28=>129|29=>130|20=>189|21=>190|22=>191|23=>192|24=>193|25=>194|26=>195|27=>196|46=>205|47=>151|48=>152|49=>206|50=>207|57=>213|n=>n,fun|22=>276|24=>203|25=>302|3=>3|39=>214|0=>0|53=>181|55=>201|4=>4|46=>255|45=>254|50=>184|5=>5|9=>9|66=>282|70=>286|76=>304|77=>305|n=>n,fun|n=>n⟩
theorem jZ:Go.Proofs.SlLaysF0.n6 prog ny:={
 mixed:=by kernel_rfl
 f6:=⟨Tryz.f166.name,by decide,func166.trans (congrArg some (by kernel_rfl))⟩
 f14:=⟨Tryz.f180.name,by decide,func180.trans (congrArg some (by kernel_rfl))⟩
 f15:=func94.trans (congrArg some (by kernel_rfl))
 f20:=⟨Tryz.f189.name,by decide,func189.trans (congrArg some (by kernel_rfl))⟩
 f21:=⟨Tryz.f190.name,by decide,func190.trans (congrArg some (by kernel_rfl))⟩
 f22:=⟨Tryz.f191.name,by decide,func191.trans (congrArg some (by kernel_rfl))⟩
 f23:=⟨Tryz.f192.name,by decide,func192.trans (congrArg some (by kernel_rfl))⟩
 f24:=⟨Tryz.f193.name,by decide,func193.trans (congrArg some (by kernel_rfl))⟩
 f25:=⟨Tryz.f194.name,by decide,func194.trans (congrArg some (by kernel_rfl))⟩
 f26:=⟨Tryz.f195.name,by decide,func195.trans (congrArg some (by kernel_rfl))⟩
 f27:=⟨Tryz.f196.name,by decide,func196.trans (congrArg some (by kernel_rfl))⟩
 f28:=func129.trans (congrArg some (by kernel_rfl))
 f29:=func130.trans (congrArg some (by kernel_rfl))
 f46:=⟨Tryz.f205.name,by decide,func205.trans (congrArg some (by kernel_rfl))⟩
 f47:=func151.trans (congrArg some (by kernel_rfl))
 f48:=func152.trans (congrArg some (by kernel_rfl))
 f49:=⟨Tryz.f206.name,by decide,func206.trans (congrArg some (by kernel_rfl))⟩
 f50:=⟨Tryz.f207.name,by decide,func207.trans (congrArg some (by kernel_rfl))⟩
 f57:=⟨Tryz.f213.name,by decide,func213.trans (congrArg some (by kernel_rfl))⟩
 t0:=underlying0
 a0:=isAgg0
 z0:=sizeOf0
 v0:=zeroValue0
 t3:=underlying3
 a3:=isAgg3
 z3:=sizeOf3
 v3:=zeroValue3
 t4:=underlying4
 a4:=isAgg4
 z4:=sizeOf4
 v4:=zeroValue4
 t5:=underlying5
 a5:=isAgg5
 z5:=sizeOf5
 v5:=zeroValue5
 t9:=underlying9
 a9:=isAgg9
 z9:=sizeOf9
 v9:=zeroValue9
 t22:=underlying276
 a22:=isAgg276
 z22:=sizeOf276
 v22:=zeroValue276
 t25:=underlying302
 a25:=isAgg302
 z25:=sizeOf302
 v25:=zeroValue302
 t39:=underlying214
 a39:=isAgg214
 z39:=sizeOf214
 v39:=zeroValue214
 t45:=underlying254
 a45:=isAgg254
 z45:=sizeOf254
 v45:=zeroValue254
 t46:=underlying255
 a46:=isAgg255
 z46:=sizeOf255
 v46:=zeroValue255
 t50:=underlying184
 a50:=isAgg184
 z50:=sizeOf184
 v50:=zeroValue184
 t53:=underlying181
 a53:=isAgg181
 z53:=sizeOf181
 v53:=zeroValue181
 t55:=underlying201
 a55:=isAgg201
 z55:=sizeOf201
 v55:=zeroValue201
 t66:=underlying282
 a66:=isAgg282
 z66:=sizeOf282
 v66:=zeroValue282
 t70:=underlying286
 a70:=isAgg286
 z70:=sizeOf286
 v70:=zeroValue286
 t76:=underlying304
 a76:=isAgg304
 z76:=sizeOf304
 v76:=zeroValue304
 t77:=underlying305
 a77:=isAgg305
 z77:=sizeOf305
 v77:=zeroValue305}
end Go.Proofs
namespace Go.Proofs.YtfbnfhhmiiahnaaGreatDoor
open Go Wk
open Go.RowKit (Below)
open Go.Sort (SWO Holds HoldsK)
attribute [local irreducible] Go.Calls
theorem BK (a b:Clm):sF a b<0↔a.kind<b.kind∨(a.kind=b.kind/\(a.from_<b.from_∨(a.from_=b.from_/\a.upto<b.upto))):=by
 unfold sF
 repeat' split
 all_goals omega
theorem QL:SWO fun a b=>decide (sF a b<0):=by
 refine ⟨fun x=>?_,fun x y z h1 h2=>?_,fun x y z h1 h2=>?_⟩
 ·rw [decide_eq_false_iff_not,BK];omega
 ·rw [decide_eq_true_eq,BK] at*;omega
 ·rw [decide_eq_false_iff_not,BK] at*;omega
theorem xF (x:Clm):(pV x).length=3:=rfl
theorem Xl (x:Clm): ∀v∈pV x,v.oneCell'=true:=fun v hv=>by
 simp [pV] at hv;rcases hv with rfl|rfl|rfl<;>rfl
section
variable {α:Type} [Inhabited α] {enc:α->List Value} {k:Nat} {w:World} {blk n:Nat} {d:Array α} {os:Array Obj}
theorem IC:Chg (fun j=>j=blk) w (sortWorldK enc k w blk 0 n d os):=
 ⟨rfl,rfl,rfl,by simp [sortWorldK,Sort.putRowK,Sort.grow,Sort.putRow,Sort.mapBlock,Sort.ahead],fun j hj hn=>by have: ¬blk=j:=fun e=>hn e.symm;simp only [sortWorldK,Sort.putRowK,Sort.grow,Sort.putRow,Sort.mapBlock,Sort.ahead];rw [aoV (by simpa using hj),aoJ,if_neg this]⟩
theorem GL {cs:Array Value} {T:TypeId} (h:w.heap[blk]? =some (.cells cs T (0,0))):(sortWorldK enc k w blk 0 n d os).heap[blk]? =some (.cells (Sort.putCells id 0 (Sort.flatK enc k d) cs) T (0,0)):=by
 have hb:=(Array.getElem?_eq_some_iff.1 h).1;simp only [sortWorldK,Sort.putRowK,Sort.grow,Sort.putRow,Sort.mapBlock,Sort.ahead];rw [aoV (by simpa using hb),aoJ,if_pos rfl,h];rfl
end
theorem IE {Pb:Nat->Prop} {w:World} {L:List Clm} {v:Value} (own:nP (flat pV) 203 3 Pb NoB w v L) (hlen:L.length<=2000000):
 Calls prog 166 #[v,.func (.func 167) #[] #[]] w (Ret fun _ w'=>nP (flat pV) 203 3 Pb NoB w' v (L.mergeSort fun x y=> !decide (sF y x<0))/\Chg (fun k=>v.ownBlock=some k) w w'):=by
 by_cases hL:L=[]
 ·subst hL;obtain ⟨a,cap,rfl,_,_⟩:=own.form;refine (AnyF.slices_SortFunc_none jZ a cap _ w).mono ?_;rintro _ w' ⟨rfl,rfl⟩;exact ⟨_,rfl,by simpa using own,ay _ _⟩
 obtain ⟨gb,cap,rfl,_,hgb,_⟩:=own.blk hL;have hoc:=Xj xF own;have hH:HoldsK pV 3 w gb 0 L.toArray:=by
  show Holds id w gb 0 (Sort.flatK pV 3 L.toArray);have e:Sort.flatK pV 3 L.toArray=(L.flatMap pV).toArray:=by rw [<-IB xF L]
  rw [e];exact QK hoc
 have hcmp:CmpLays prog 167 #[] pV 3 sF gb 0 L.toArray.size w:=by intro m os dk hs x y;refine (QJ (a:=x) (b:=y)).mono ?_;rintro _ w' ⟨_,rfl,rfl,q,os',rfl⟩;exact ⟨rfl,q,os',rfl⟩
 have hel:ElT prog 203 3 _ true _:=inferInstance;have h:=AnyQ.slices_SortFunc_total jZ 3 (fun w=>hel.isAgg w) (fun w=>hel.sizeOf w) pV xF Xl sF QL 167 #[] gb 0 cap L.toArray w (fun args w=>qF (inferInstance:nN prog 167) args) hcmp hH hgb (by simp;omega) (fun x y h1 h2=> ?hT)
 case hT=>have e1: ¬sF x y<0:=of_decide_eq_false h1;have e2: ¬sF y x<0:=of_decide_eq_false h2;rw [BK] at e1 e2;cases x;cases y;simp only at e1 e2;have k1: ‹_› = ‹_› :=rfl;simp only [Clm.mk.injEq];omega
 refine h.mono ?_;rintro _ w' ⟨rfl,n,os,rfl⟩;refine ⟨_,rfl,?_,IC.mono fun k _ e=>by rw [e];rfl⟩;have hl:(L.mergeSort fun x y=> !decide (sF y x<0)).length=L.length:=apu _;have e:((L.mergeSort fun x y=> !decide (sF y x<0)).flatMap pV)=(Sort.flatK pV 3 (L.mergeSort fun x y=> !decide (sF y x<0)).toArray).toList:=(IB xF _).symm;refine of_flat xF hl.symm (Xk hoc (by rw [wu xF,wu xF,hl]) fun c hc=>?_);have:=GL (enc:=pV) (k:=3) (n:=n) (d:=(L.mergeSort fun x y=> !decide (sF y x<0)).toArray) (os:=os) hc;rw [e];have e2:(Sort.flatK pV 3 (L.mergeSort fun x y=> !decide (sF y x<0)).toArray).toList.toArray=Sort.flatK pV 3 (L.mergeSort fun x y=> !decide (sF y x<0)).toArray:=by simp
 rw [e2];exact this
end Go.Proofs.YtfbnfhhmiiahnaaGreatDoor
namespace Go.Proofs.YtfbnfhhmiiahnaaGreatDoor
open Go Wk
open Go.RowKit (Below)
attribute [local irreducible] Go.Calls
theorem TB {v:List UInt8}: ∀x∈nums 4 v, ∃n:Nat,x=(n:Int)/\n<4294967296:=by
 intro x hx;unfold nums at hx;split at hx
 ·unfold pieces at hx;obtain ⟨i,hi,rfl⟩:=List.mem_map.1 hx;refine ⟨_,rfl,?_⟩;have h1:=yS ((v.drop (4*i)).take 4);have h2:256^((v.drop (4*i)).take 4).length<=256^4:=Ia _ _ (by simp only [anD];omega);have h3:(256:Nat)^4=4294967296:=by decide
  omega
 ·simp at hx
theorem Et (v:List UInt8):(nums 4 v).length<=v.length:=by
 unfold nums;split
 ·rw [yI];omega
 ·simp
theorem IG (k f s:Nat):(zS k f s).length<=1:=by unfold zS;split<;>simp
theorem vW {α:Type} {f:α->List Clm} (h: ∀x,(f x).length<=1): ∀l:List α,(l.flatMap f).length<=l.length
 | []=>by simp
 |x::r=>by have:=vW h r;have:=h x;simp only [aoH,am7,anJ];omega
theorem OC {Pb:Nat->Prop} {w:World} {bv:Nat} {vl:Value} {L:List Clm} {kind fr size:Nat} (hb:Bk w bv 276 [vl]) (own:nP (flat pV) 203 3 Pb NoB w vl L) (hs: ∀k,vl.ownBlock=some k->k≠bv) (hl:L.length<=100000) (hf:fr<18446744073709551616) (hz:size<18446744073709551616):
 Calls prog 164 #[.int .u8 kind,w64 fr,w64 size,.pointer (some ⟨bv,0,none⟩)] w (Ret fun _ w'=>(∃vl',Bk w' bv 276 [vl']/\nP (flat pV) 203 3 (fun b=>Pb b∨w.heap.size<=b) NoB w' vl' (L++zS kind fr size)/\(∀k,vl'.ownBlock=some k->k≠bv))/\Chg (fun k=>k=bv∨vl.ownBlock=some k) w w'):=by
 have hbl:=hb.lt;obtain ⟨a,cap,rfl,hc1,hc2⟩:=own.form;refine nM func164 rfl ntmps164 rfl ?_;(repeat' (first|refine qq2 ?_|refine aT rfl rfl (fun _=>?_) (fun _=>?_)))
 ·refine ah (u:=.slice a L.length cap) rfl (hb.cell (o:=0) rfl) ?_;(repeat' (refine aa1 ?_));refine fP rfl rfl ?_;rw [show ((size:Int)-1)=(size:Int)-((1:Nat):Int) from rfl,zV (by omega) hz];refine jf rfl rfl ?_;rw [show ((fr:Int)+((size-1:Nat):Int))=((fr+(size-1):Nat):Int) by omega,Tt];refine aX (ps:=[(0,.tmp 10),(1,.tmp 11),(2,.tmp 15)]) (parts:=[(0,.int .u8 kind),(1,w64 fr),(2,w64 ((fr+(size-1)) % 2^64))]) rfl rfl (by simp [Value.cells]) ?_;refine cu (R:=flat pV) (y:=⟨kind,fr,(fr+(size-1)) % 2^64⟩) uG own rfl rfl rfl rfl rfl (by omega) (by omega) (by simp only [maxLen];omega) (by omega) rfl rfl fun v2 w2 p rQ c2 lie=>?_;have hb2:=hb.chg c2 (fun e=>hs bv e rfl);refine aJ (u:=v2) hb2 rfl (show (0:Nat)<1 by omega) rfl (by obtain ⟨_,_,rfl,_⟩:=rQ.form;rfl) fun w3 b3 c3=>?_;refine qq6 ?_;have hs2: ∀k,v2.ownBlock=some k->k≠bv:=fun k hk e=>by
   rcases lie with e2|e2
   ·exact hs k (e2▸hk) e
   ·have:=e2 k hk;omega
  refine cO rfl ⟨_,rfl,⟨v2,b3,?_,hs2⟩,Chg.trans (c2.mono fun k _ e=>.inr e) c3 fun k _ e=>.inl e⟩;have e:zS kind fr size=[⟨kind,fr,(fr+(size-1)) % 2^64⟩]:=by unfold zS;rw [if_pos (by omega)]
  rw [e];exact rQ.chg (nK pV) c3 fun k hk e=>hs2 k hk e
 ·have e:zS kind fr size=[]:=by unfold zS;rw [if_neg (by omega)]
  rw [e,aoS];exact cO rfl ⟨_,rfl,⟨_,hb,own.mono uG.mo (fun b _ e=>.inl e) i3,hs⟩,ay _ _⟩
def aaS (w w':World) (r:Value) (o:Option (List Clm)):Prop:= ∃v e,r=.tuple #[v,vi e]/\match o with
 |none=>e≠0
 |some l=>e=0/\nP (flat pV) 203 3 (fun b=>w.heap.size<=b) NoB w' v l
def II:Nm:=[112,105,110,115]
def Dl:Nm:=[108,105,110,101,115]
def nmK:Nat->Nm
 |1=>II
 |2=>Dl
 |_=>[]
def Eu (t:List Nd) (i:Nat):Nat->Option (List Clm)
 |0=>some []
 |k+1=>match Eu t i k with
  |none=>none
  |some a=>match vG t i k (nmK k) with
   |none=>none
   |some b=>some (a++b)
theorem QM {t:List Nd} (ht:og t=true) {i:Nat} (hi:i<t.length):tX t i []=none:=by
 obtain ⟨x,hx⟩:=nT t hi;unfold tX;rw [yJ hx,WO];intro p hp e;have hpr:=(qK ht hx).pr;unfold zK at hpr;rw [ann] at hpr;have:=(F7 (AV x.pz [] (by simpa using hpr.2) p hp).1).1;exact this e
theorem Za {t:List Nd} (ht:og t=true) {i:Nat} (hi:i<t.length):YZ t i=match Eu t i 3 with
 |none=>none
 |some l=>if i=0 then some l else match uX t i with
  |none=>none
  |some ws=>some (l++ws.flatMap fun w=>zS 3 w.1 w.2):=by
 have e0:vG t i 0 (nmK 0)=some []:=by unfold vG;rw [show nmK 0=[] from rfl,QM ht hi]
 simp only [Eu,e0,aoS];unfold YZ;rw [show vG t i 1 [112,105,110,115]=vG t i 1 (nmK 1) from rfl,show vG t i 2 [108,105,110,101,115]=vG t i 2 (nmK 2) from rfl];cases vG t i 1 (nmK 1) with
 |none=>rfl
 |some a=>
  cases vG t i 2 (nmK 2) with
  |none=>rfl
  |some b=>
   simp only [ang];by_cases h0:i=0
   ·simp [h0]
   ·simp only [if_neg h0];rfl
theorem QN {t:List Nd} {i kind:Nat} {nm v:Nm} (h:tX t i nm=some v) (hf:form 4 v=0):vG t i kind nm=some ((nums 4 v).flatMap fun n=>zS kind n.toNat 1):=by
 unfold vG;rw [h];dsimp only;rw [if_pos hf]
theorem TD (v:List UInt8):form 4 v=0∨form 4 v=4:=by unfold form;split<;>simp
theorem OD {t:List Nd} (ht:og t=true) {i:Nat} (hi:i<t.length): ∀(k:Nat) (l:List Clm),Eu t i k=some l->l.length<=1024*k
 |0,l,h=>by cases h;simp
 |k+1,l,h=>by
  rw [Eu] at h;split at h
  ·cases h
  ·rename_i a ha
   split at h
   ·cases h
   ·rename_i b hb
    cases h;have h1:=OD ht hi k a ha;have h2:b.length<=1024:=by
     unfold vG at hb;split at hb
     ·cases hb;simp
     ·rename_i v hv
      split at hb
      ·cases hb;have g1:=vW (f:=fun n:Int=>zS k n.toNat 1) (fun _=>IG _ _ _) (nums 4 v);have g2:=Et v;have g3:=zU ht hi hv;omega
      ·cases hb
    simp only [am7];omega
theorem Gm {α β:Type} {f:α->Option β}: ∀ {l:List α} {r:List β},uF f l=some r-> ∀y∈r, ∃x∈l,f x=some y
 | [],r,h,y,hy=>by cases h;simp at hy
 |z::l,r,h,y,hy=>by
  rw [uF] at h;cases hz:f z with
  |none=>rw [hz] at h;cases h
  |some q=>
   rw [hz] at h;dsimp only at h;obtain ⟨r',h1,rfl⟩:=Option.map_eq_some_iff.1 h;rcases List.mem_cons.1 hy with rfl|hy
   ·exact ⟨z,by simp,hz⟩
   ·obtain ⟨x,hx,e⟩:=Gm h1 y hy;exact ⟨x,aoC _ hx,e⟩
theorem OE {t:List Nd} {i:Nat} {x:Win} {b:Nat} (hx:x.1<18446744073709551616) (h:yV t i x=some b):b<18446744073709551616:=by
 unfold yV at h;split at h
 ·cases h
 ·rename_i ms same hm
  clear hm;split at h
  ·cases h;exact hx
  ·revert h;induction ms with
   |nil=>intro h;cases h
   |cons m r ih=>
    intro h;rw [x8] at h;split at h
    ·cases h;exact apt _ (by decide)
    ·exact ih h
theorem Gn {t:List Nd}: ∀ {l:List Nat} {x:Win} {b:Nat},x.1<18446744073709551616->sD t l x=some b->b<18446744073709551616
 | [],x,b,hx,h=>by cases h;exact hx
 |i::r,x,b,hx,h=>by
  rw [sD] at h;split at h
  ·cases h
  ·rename_i c hc
   exact Gn (x:=(c,x.2)) (OE hx hc) h
theorem OG {t:List Nd} {i:Nat} {ws:List Win} (hok:og t=true) (hi:i<t.length) (h:uX t i=some ws):ws.length<=1024/\ ∀x∈ws,x.1<18446744073709551616/\x.2<18446744073709551616:=by
 unfold uX at h;split at h
 ·cases h
 ·rename_i rs hrs
  obtain ⟨h1,h2⟩:=Tz hok hi hrs;obtain ⟨e1,_⟩:=En h;refine ⟨by omega,fun y hy=>?_⟩;obtain ⟨x,hx,e⟩:=Gm h y hy;obtain ⟨b,hb,rfl⟩:=Option.map_eq_some_iff.1 e;exact ⟨Gn (h2 x hx).1 hb,(h2 x hx).2⟩
theorem Zb {Pb:Nat->Prop} {w:World} {v:Value} {l:List Nd} {i:Nat} (h:RdS rNd 3 Pb w v l) (hok:og l=true) (hi:i<l.length):
 Calls prog 146 #[v,vi i] w (Ret fun r w'=>aaS w w' r (ofM l i)/\New w w'):=by
 obtain ⟨a,cap,rfl,hc1,hc2⟩:=h.form;have hlen:=pF hok;replace h:=h.mono (Pb':=fun k=>k<w.heap.size) AQ fun k hk _=>hk;unfold ofM;rw [Za hok hi];refine nM func146 rfl ntmps146 rfl ?_;refine qq4 ?_;refine aj (J3 (i:=i) h hok hi) rfl ?_;rintro _ w1 ⟨rfl,n1⟩;(repeat' (first|refine qq2 ?_|(refine aa4 (fun _=>?_) (fun _=>?_)<;>(first|(exfalso;omega)|skip))));refine Wl.alloc fun w2 b2 n2 s2=>?_;replace b2:Bk w2 w1.heap.size 276 [.slice none 0 0]:=b2;generalize hbv:w1.heap.size=bv at b2 s2;have hz1:=n1.size;have n02:=New.trans n1 n2;refine qq2 ?_;refine dn (f1:=[]) (c1:=[.pointer (some ⟨bv,0,none⟩)]) rfl rfl ?_;refine qq4 ?_;refine gX (cs:=[vs [],vs II,vs Dl]) (parts:=[(1,vs II),(2,vs Dl)]) rfl rfl (by simp [Value.cells]) rfl ?_;refine qq4 ?_;refine aA (σ:=Nat×Value×List Clm) (fun q=>[(0,.slice a l.length cap),(1,vi i),(8,.pointer (some ⟨bv,0,none⟩)),(9,.func (.func 164) #[] #[.pointer (some ⟨bv,0,none⟩)]),(31,.agg #[vs [],vs II,vs Dl]),(32,vi q.1)]) (fun q W=>q.1<=3/\Eu l i q.1=some q.2.2/\Bk W bv 276 [q.2.1]/\nP (flat pV) 203 3 (fun b=>bv<b) NoB W q.2.1 q.2.2/\New w W) (fun q=>3-q.1) (0,.slice none 0 0,[]) (sl rfl) ⟨by decide,rfl,b2,aI,n02⟩ ?_;rintro ⟨k,vl,L⟩ G W ⟨hk,hR,bW,own,nW⟩;dsimp only at hk hR bW own nW;simp only [pq];have hLl:=OD hok hi k L hR;have hzW:=nW.size;have hbW:=bW.lt;(repeat' (first|refine qq4 ?_|refine aa2 (fun _=>?_) (fun _=>?_)|refine aT rfl rfl (fun _=>?_) (fun _=>?_)))
 ·have hnk:([vs [],vs II,vs Dl]:List Value)[((k:Int)).toNat]? =some (vs (nmK k)):=by
   have:k=0∨k=1∨k=2:=by omega
   rcases this with rfl|rfl|rfl<;>rfl
  refine jL (cs:=[vs [],vs II,vs Dl]) rfl rfl (by omega) (by omega) hnk ?_;refine qq4 ?_;refine aj (Ig (i:=i) (nm:=nmK k) (h.keep oh nW.keep) hok hi) rfl ?_;rintro _ w3 ⟨rfl,n3⟩;have n03:=New.trans nW n3;have b3:=bW.chg n3 id;have wU:=own.new (nK pV) n3;cases hv:tX l i (nmK k) with
  |none=>
   have hR2:Eu l i (k+1)=some L:=by rw [Eu,hR];dsimp only;rw [show vG l i k (nmK k)=some [] by unfold vG;rw [hv]];simp
   dsimp only [Y0];(repeat' (first|refine qq6 ?_|(refine aa4 (fun _=>?_) (fun _=>?_)<;>(first|(exfalso;omega)|skip))));exact ax (k+1,vl,L) (sl rfl) ⟨by dsimp only;omega,hR2,b3,wU,n03⟩ (by dsimp only;omega)
  |some txt=>
   have htl:=zU hok hi hv;dsimp only [Y0];(repeat' (first|refine qq2 ?_|(refine aa4 (fun _=>?_) (fun _=>?_)<;>(first|(exfalso;omega)|skip))));refine aj (CY (l:=txt) (by omega)) rfl ?_;rintro _ w4 ⟨nv,rfl,E9,n4⟩;have n04:=New.trans n03 n4;have b4:=b3.chg n4 id;have own4:=wU.new (nK pV) n4;rcases TD txt with hf|hf
   ·rw [hf];obtain ⟨na,nc,rfl,_,_⟩:=E9.form;have hN:=QN (kind:=k) hv hf;have hnl:=Et txt;have hz3:=n03.size;have hz4:=n4.size;generalize aaT:(Value.slice na (nums 4 txt).length nc)=nv at E9;have Xm:nP (Wk.one zQ) 181 1 (fun b=>nv.ownBlock=some b) NoB w4 nv (nums 4 txt):=E9.yQ fun b hb _=>hb;have hsep: ∀b,nv.ownBlock=some b->bv<b/\vl.ownBlock≠some b:=fun b hb=>by have h1:=(E9.lt hb).1;have h2:=n3.size;refine ⟨by omega,fun e=>?_⟩;have:=(wU.lt e).2;omega
    subst aaT;(repeat' (first|refine qq2 ?_|(refine aa4 (fun _=>?_) (fun _=>?_)<;>(first|(exfalso;omega)|skip))));refine aA (σ:=Nat×Value×List Clm) (fun q=>[(0,.slice a l.length cap),(1,vi i),(8,.pointer (some ⟨bv,0,none⟩)),(9,.func (.func 164) #[] #[.pointer (some ⟨bv,0,none⟩)]),(10,vi k),(31,.agg #[vs [],vs II,vs Dl]),(32,vi k),(52,.slice na (nums 4 txt).length nc),(53,vi (nums 4 txt).length),(54,vi q.1)]) (fun q W=>q.1<=(nums 4 txt).length/\q.2.2=L++((nums 4 txt).take q.1).flatMap (fun n=>zS k n.toNat 1)/\Bk W bv 276 [q.2.1]/\nP (flat pV) 203 3 (fun b=>bv<b/\(Value.slice na (nums 4 txt).length nc).ownBlock≠some b) NoB W q.2.1 q.2.2/\nP (Wk.one zQ) 181 1 (fun b=>(Value.slice na (nums 4 txt).length nc).ownBlock=some b) NoB W (.slice na (nums 4 txt).length nc) (nums 4 txt)/\New w W) (fun q=>(nums 4 txt).length-q.1) (0,vl,L) (sl rfl) ⟨anq _,by simp,b4,own4.yQ fun b hb e=>⟨e,fun e2=>(hsep b e2).2 hb⟩,Xm,n04⟩ ?_;rintro ⟨j,vl2,L2⟩ G2 W2 ⟨hj,hL2,bW2,rQ,oN2,nW2⟩;dsimp only at hj hL2 bW2 rQ oN2 nW2;simp only [pq];(repeat' (first|refine qq6 ?_|refine aa2 (fun _=>?_) (fun _=>?_)))
    ·obtain ⟨x,hx⟩:=nT (nums 4 txt) (k:=j) (by omega);obtain ⟨n,rfl,hn⟩:=TB x (aop hx);refine aZ (oN2.rd (nV _)) rfl rfl (by omega) hx fun b o hcell=>?_;refine ah (u:=.int .u32 n) rfl hcell ?_;refine qq5 ?_;have Zc:L2.length<=100000:=by
      have g1:=vW (f:=fun n:Int=>zS k n.toNat 1) (fun _=>IG _ _ _) ((nums 4 txt).take j);rw [hL2,am7];have:((nums 4 txt).take j).length<=(nums 4 txt).length:=by simp only [anD];omega
      omega
     rw [show IntKind.u8.wrap (k:Int)=(k:Int) from w8 (by omega),show IntKind.u64.wrap (n:Int)=(n:Int) from SY (by omega)];refine bP (dst:=some 63) rfl (OC (kind:=k) (fr:=n) (size:=1) bW2 rQ (fun k2 hk2=>by have:=(rQ.lt hk2).1.1;omega) Zc (by omega) (by decide)) rfl ?_;rintro u w5 ⟨⟨vl5,b5,Jy,hs5⟩,c5⟩;simp only [wI];have hz2:=nW2.size;have n05:New w w5:=(Chg.trans nW2.any c5 fun k _ e=>e).toNew fun k2 hk2 e=>by
      rcases e with e|e
      ·omega
      ·have:=(rQ.lt e).1.1;omega
     have oN5:=oN2.chg (nO _) c5 fun b hb e=>by
      rcases e with e|e
      ·have:=hsep b hb;omega
      ·exact (rQ.lt e).1.2 hb
     refine qq6 ?_;refine ax (j+1,vl5,L2++zS k n 1) (sl rfl) ⟨by dsimp only;omega,?_,b5,?_,oN5,n05⟩ (by dsimp only;omega)
     ·dsimp only;rw [hL2,take_snoc hx,apI];simp
     ·refine Jy.mono uG.mo (fun b hb e=>?_) i3;rcases e with e|e
      ·exact e
      ·have hb2:=bW2.lt;exact ⟨by omega,fun e2=>by have:=(oN2.lt e2).2;omega⟩
    ·obtain rfl:j=(nums 4 txt).length:=by omega
     rw [aon] at hL2;refine ax (k+1,vl2,L2) (sl rfl) ⟨by dsimp only;omega,?_,bW2,rQ.mono uG.mo (fun b _ e=>e.1) i3,nW2⟩ (by dsimp only;omega);dsimp only;rw [Eu,hR,hL2];dsimp only;rw [hN]
   ·have hR3:Eu l i 3=none:=by
     have h1:Eu l i (k+1)=none:=by rw [Eu,hR];dsimp only;rw [show vG l i k (nmK k)=none by unfold vG;rw [hv];dsimp only;rw [if_neg (by rw [hf];decide)]]
     have h2: ∀m,k+1<=m->Eu l i m=none:=by
      intro m hm;induction m with
      |zero=>omega
      |succ m ih=>
       by_cases e:k+1=m+1
       ·rw [<-e];exact h1
       ·rw [Eu,ih (by omega)]
     exact h2 3 (by omega)
    rw [hf,hR3];(repeat' (first|refine qq3 ?_|(refine aa4 (fun _=>?_) (fun _=>?_)<;>(first|(exfalso;omega)|skip))));exact aB rfl rfl rfl ⟨_,rfl,⟨_,_,rfl,Tq⟩,n04⟩
 ·have h0:i≠0:=by omega
  obtain rfl:k=3:=by omega
  rw [hR];dsimp only;rw [if_neg h0];refine aj (LC (h.keep oh nW.keep) hok h0 hi) rfl ?_;rintro _ w3 ⟨⟨wv,e,rfl,hwp⟩,n3⟩;have n03:=New.trans nW n3;cases hwm:uX l i with
  |none=>rw [hwm] at hwp;dsimp only at hwp;(repeat' (first|refine qq5 ?_|(refine aa4 (fun _=>?_) (fun _=>?_)<;>(first|(exfalso;omega)|skip))));exact aB rfl rfl rfl ⟨_,rfl,⟨_,_,rfl,Tq⟩,n03⟩
  |some ws=>
   rw [hwm] at hwp;obtain ⟨rfl,E9⟩:=hwp;dsimp only;obtain ⟨hwl,hwx⟩:=OG hok hi hwm;obtain ⟨na,nc,rfl,_,_⟩:=E9.form;have b3:=bW.chg n3 id;have wU:=own.new (nK pV) n3;have hz3:=n3.size;generalize aaT:(Value.slice na ws.length nc)=nv at E9;have Xm:nP (flat xQ) 300 2 (fun b=>nv.ownBlock=some b) NoB w3 nv ws:=E9.yQ fun b hb _=>hb;have hsep: ∀b,nv.ownBlock=some b->bv<b/\vl.ownBlock≠some b:=fun b hb=>by have h1:=(E9.lt hb).1;refine ⟨by omega,fun e=>?_⟩;have:=(own.lt e).2;omega
   subst aaT;(repeat' (first|refine qq2 ?_|(refine aa4 (fun _=>?_) (fun _=>?_)<;>(first|(exfalso;omega)|skip))));refine aA (σ:=Nat×Value×List Clm) (fun q=>[(8,.pointer (some ⟨bv,0,none⟩)),(9,.func (.func 164) #[] #[.pointer (some ⟨bv,0,none⟩)]),(76,.slice na ws.length nc),(77,vi ws.length),(78,vi q.1)]) (fun q W=>q.1<=ws.length/\q.2.2=L++(ws.take q.1).flatMap (fun x=>zS 3 x.1 x.2)/\Bk W bv 276 [q.2.1]/\nP (flat pV) 203 3 (fun b=>bv<b/\(Value.slice na ws.length nc).ownBlock≠some b) NoB W q.2.1 q.2.2/\nP (flat xQ) 300 2 (fun b=>(Value.slice na ws.length nc).ownBlock=some b) NoB W (.slice na ws.length nc) ws/\New w W) (fun q=>ws.length-q.1) (0,vl,L) (sl rfl) ⟨anq _,by simp,b3,wU.yQ fun b hb e=>⟨e,fun e2=>(hsep b e2).2 hb⟩,Xm,n03⟩ ?_;rintro ⟨j,vl2,L2⟩ G2 W2 ⟨hj,hL2,bW2,rQ,oN2,nW2⟩;dsimp only at hj hL2 bW2 rQ oN2 nW2;simp only [pq];have Zc:L2.length<=100000:=by
    have g1:=vW (f:=fun x:Win=>zS 3 x.1 x.2) (fun _=>IG _ _ _) (ws.take j);have:(ws.take j).length<=ws.length:=by simp only [anD];omega
    rw [hL2,am7];omega
   have hz2:=nW2.size;have ah3:=bW2.lt;(repeat' (first|refine qq4 ?_|refine aa2 (fun _=>?_) (fun _=>?_)))
   ·obtain ⟨x,hx⟩:=nT ws (k:=j) (by omega);obtain ⟨hx1,hx2⟩:=hwx x (aop hx);refine aK (oN2.rd yg.mo) rfl rfl (by omega) hx fun b o cs hl hR hat=>?_;obtain rfl:cs=xQ x:=hR;refine aS hat rfl rfl ?_;clear hat;refine Wl.alloc fun w4 b4 n4 s4=>?_;refine aH (new:=xQ x) b4 rfl rfl rfl rfl zl2 (by intro c hc;simp at hc;rcases hc with rfl|rfl<;>rfl) fun w5 b5 c5 s5=>?_;replace b5:Bk w5 W2.heap.size 300 (xQ x):=b5;have n25:New W2 w5:=(Chg.trans n4.any c5 i3).tN
    refine qq6 ?_;refine ah (u:=w64 x.1) rfl (b5.cell (o:=0) rfl) ?_;(repeat' (refine aa5 ?_));refine ah (u:=w64 x.2) rfl (b5.cell (o:=1) rfl) ?_;have Jy:=rQ.new (nK pV) n25;refine bP (dst:=some 87) rfl (OC (kind:=3) (fr:=x.1) (size:=x.2) (bW2.chg n25 id) Jy (fun k2 hk2=>by have:=(rQ.lt hk2).1.1;omega) Zc hx1 hx2) rfl ?_;rintro u w6 ⟨⟨vl6,b6,U8,hs6⟩,c6⟩;simp only [wI];have n06:New w w6:=(Chg.trans (New.trans nW2 n25).any c6 fun k _ e=>e).toNew fun k2 hk2 e=>by
     rcases e with e|e
     ·omega
     ·have:=(rQ.lt e).1.1;omega
    have oN6:=(oN2.new (nK xQ) n25).chg (nK xQ) c6 fun b hb e=>by
     rcases e with e|e
     ·have:=hsep b hb;omega
     ·exact (rQ.lt e).1.2 hb
    refine qq6 ?_;refine ax (j+1,vl6,L2++zS 3 x.1 x.2) (sl rfl) ⟨by dsimp only;omega,?_,b6,?_,oN6,n06⟩ (by dsimp only;omega)
    ·dsimp only;rw [hL2,take_snoc hx,apI];simp
    ·have al8:=n25.size;refine U8.mono uG.mo (fun b hb e=>?_) i3;rcases e with e|e
     ·exact e
     ·exact ⟨by omega,fun e2=>by have:=(oN2.lt e2).2;omega⟩
   ·obtain rfl:j=ws.length:=by omega
    rw [aon] at hL2;subst hL2;have rQ:=rQ.mono (Pb':=fun b=>bv<b) uG.mo (fun b _ e=>e.1) i3;generalize hLL:L++ws.flatMap (fun x=>zS 3 x.1 x.2)=L2 at rQ Zc;have hsb: ∀k,(vl2).ownBlock=some k->k≠bv:=fun k hk=>by have:=(rQ.lt hk).1;omega
    have ah4:=bW2.lt;refine ah (u:=vl2) rfl (bW2.cell (o:=0) rfl) ?_;refine aj (IE rQ (by omega)) rfl ?_;rintro _ w17 ⟨Xn,c7⟩;have b7:=bW2.chg c7 (fun e=>hsb bv e rfl);refine qq2 ?_;refine ah (u:=vl2) rfl (b7.cell (o:=0) rfl) ?_;refine aj (Es Xn (by rw [apu];omega)) rfl ?_;rintro v8 w18 ⟨LG,aaU,c8⟩;have b8:=b7.chg c8 (fun e=>hsb bv e rfl);generalize hcm:qW (L2.mergeSort fun x y=> !decide (sF y x<0))=cm at LG;obtain ⟨a8,cp8,rfl,hf1,hf2⟩:=LG.form;simp only [maxLen] at hf2;refine aJ (u:=.slice a8 cm.length cp8) b8 rfl (show (0:Nat)<1 by omega) rfl rfl fun w19 b9 c9=>?_;replace b9:Bk w19 bv 276 [.slice a8 cm.length cp8]:=b9;have aaV:=LG.chg (nK pV) c9 fun k hk e=>hsb k (aaU k hk) e;have aaW:Chg (fun k=>k=bv∨(vl2).ownBlock=some k) W2 w19:=Chg.trans (Chg.trans (c7.mono fun k _ e=>.inr e) c8 fun k _ e=>.inr e) c9 fun k _ e=>.inl e;have n09:New w w19:=(Chg.trans nW2.any aaW fun k _ e=>e).toNew fun k hk e=>by
     rcases e with e|e
     ·omega
     ·have:=(rQ.lt e).1;omega
    refine qq2 ?_;refine ah (u:=.slice a8 cm.length cp8) rfl (b9.cell (o:=0) rfl) ?_;(repeat' (first|refine qq4 ?_|refine aT rfl rfl (fun _=>?_) (fun _=>?_)))
    ·refine aB rfl rfl rfl ⟨_,rfl,⟨_,_,rfl,?_⟩,n09⟩;rw [if_neg (by omega)];exact Tq
    ·refine ah (u:=.slice a8 cm.length cp8) rfl (b9.cell (o:=0) rfl) ?_;refine qq3 ?_;refine aB rfl rfl rfl ⟨_,rfl,⟨_,_,rfl,?_⟩,n09⟩;rw [if_pos (by omega)];exact ⟨rfl,aaV.mono uG.mo (fun b _ e=>by omega) i3⟩
 ·have h0:i=0:=by omega
  obtain rfl:k=3:=by omega
  rw [hR];dsimp only;rw [if_pos h0];dsimp only;have hsb: ∀k,(vl).ownBlock=some k->k≠bv:=fun k hk=>by have:=(own.lt hk).1;omega
  have ah4:=bW.lt;refine ah (u:=vl) rfl (bW.cell (o:=0) rfl) ?_;refine aj (IE own (by omega)) rfl ?_;rintro _ w17 ⟨Xn,c7⟩;have b7:=bW.chg c7 (fun e=>hsb bv e rfl);refine qq2 ?_;refine ah (u:=vl) rfl (b7.cell (o:=0) rfl) ?_;refine aj (Es Xn (by rw [apu];omega)) rfl ?_;rintro v8 w18 ⟨LG,aaU,c8⟩;have b8:=b7.chg c8 (fun e=>hsb bv e rfl);generalize hcm:qW (L.mergeSort fun x y=> !decide (sF y x<0))=cm at LG;obtain ⟨a8,cp8,rfl,hf1,hf2⟩:=LG.form;simp only [maxLen] at hf2;refine aJ (u:=.slice a8 cm.length cp8) b8 rfl (show (0:Nat)<1 by omega) rfl rfl fun w19 b9 c9=>?_;replace b9:Bk w19 bv 276 [.slice a8 cm.length cp8]:=b9;have aaV:=LG.chg (nK pV) c9 fun k hk e=>hsb k (aaU k hk) e;have aaW:Chg (fun k=>k=bv∨(vl).ownBlock=some k) W w19:=Chg.trans (Chg.trans (c7.mono fun k _ e=>.inr e) c8 fun k _ e=>.inr e) c9 fun k _ e=>.inl e;have n09:New w w19:=(Chg.trans nW.any aaW fun k _ e=>e).toNew fun k hk e=>by
   rcases e with e|e
   ·omega
   ·have:=(own.lt e).1;omega
  refine qq2 ?_;refine ah (u:=.slice a8 cm.length cp8) rfl (b9.cell (o:=0) rfl) ?_;(repeat' (first|refine qq4 ?_|refine aT rfl rfl (fun _=>?_) (fun _=>?_)))
  ·refine aB rfl rfl rfl ⟨_,rfl,⟨_,_,rfl,?_⟩,n09⟩;rw [if_neg (by omega)];exact Tq
  ·refine ah (u:=.slice a8 cm.length cp8) rfl (b9.cell (o:=0) rfl) ?_;refine qq3 ?_;refine aB rfl rfl rfl ⟨_,rfl,⟨_,_,rfl,?_⟩,n09⟩;rw [if_pos (by omega)];exact ⟨rfl,aaV.mono uG.mo (fun b _ e=>by omega) i3⟩
end Go.Proofs.YtfbnfhhmiiahnaaGreatDoor
namespace Go.Proofs.YtfbnfhhmiiahnaaGreatDoor
open Go Wk
section
variable {P:Program} {n:Nat} {ds:List Deferred} {C:World->Prop} {K:Fr->Prop} {F:Fr} {ops rest:List Oper} {d:Nat} {ty:TypeId} {pos:String} {aft:Array Edge}
theorem ku {x i:Operand} {t e m bytes b:Nat} {agg:Bool} {z:Value} {k:IntKind} {j:Int} [ht:Und P t (.array m e)] [he:ElT P e 1 bytes agg z] (hx:ev n F x=.pointer (some ⟨b,0,none⟩)) (hi:ev n F i=.int k j) (h0:0<=j) (h1:j<m)
 (c:Wq P n ds C K ops rest (upd F d (.pointer (some ⟨b,j.toNat,none⟩)))):Wq P n ds C K ops (⟨some d,.indexAddr t x i,ty,pos,aft,none⟩::rest) F:=
 Wq.val (fun w _=>by simp only [execOp,hx,hi,Sem.run_bind,F8 ht.h he h0 h1,Result.andThen_ok,Sem.run_pure]) c
end
end Go.Proofs.YtfbnfhhmiiahnaaGreatDoor
namespace Go.Proofs.YtfbnfhhmiiahnaaGreatDoor
open Go Wk
open Go.RowKit (Below)
attribute [local irreducible] Go.Calls
theorem Wk.nP.wz {α:Type} {R:Rel α} {e:TypeId} {sz:Nat} {Pb Pe M:Nat->Prop} {w w':World} {v:Value} {xs:List α} (hR:qH R sz) (h:nP R e sz Pb Pe w v xs) (c:Chg M w w') (s: ∀k,v.ownBlock=some k-> ¬M k) (s2: ∀k,Pe k->v.ownBlock≠some k-> ¬M k):nP R e sz Pb Pe w' v xs:=by
 obtain ⟨cs,hoc,he⟩:=h.yQ (Pb':=fun b=>v.ownBlock=some b/\Pb b) fun b hb hP=>⟨hb,hP⟩;exact ⟨cs,(hoc.keep (c.keep fun b _ hP=>s b hP.1)).mono fun b _ hP=>hP.2,fun i x hx=>hR.st _ _ _ _ _ (c.keep fun b _ hP=>s2 b hP.1 hP.2) (he i x hx)⟩
abbrev grC (lv:Value) (hm:Nat) (ev wv gv pv:Value):List Value:=[lv,.map (some hm),ev,wv,gv,pv]
theorem IJ {t:List Nd} {i kind:Nat} {soft:Bool} {f place:Nat} {h:Int} {c:List Int}:uN t i kind soft (f+1) place (h::c)=match AX t h.toNat with
 |none=>[⟨i,none,kind,soft,place,[]⟩]
 |some to_=>match Ih (ndA t to_) (sU kind).2 with
  |none=>[⟨i,none,kind,soft,place,[]⟩]
  |some n=>if c.length<n then [⟨i,none,kind,soft,place,[]⟩] else ⟨i,some to_,kind,soft,place,c.take n⟩::uN t i kind soft f (place+1) (c.drop n):=by
 rw [uN];rfl
theorem nC {P:Program} {n:Nat} {ds:List Deferred} {Q:Po} {F:Fr} {w:World} {ops rest:List Oper} {d:Nat} {ty t:TypeId} {pos:String} {aft:Array Edge} {x i:Operand} {a k u:Value} (hx:ev n F x=a) (hi:ev n F i=k) (hr:(Instr.index t a k).run P w=.ok u w) (c:Wl P n ds Q ops rest (upd F d u) w):
 Wl P n ds Q ops (⟨some d,.index t x i,ty,pos,aft,none⟩::rest) F w:=
 Wl.val (by simp only [execOp,hx,hi,Sem.run_bind,hr,Result.andThen_ok,Sem.run_pure]) c
theorem Xo {x:Nd} {nm:Nm} {n:Nat} (h:Ih x nm=some n):n<=8:=by
 unfold Ih at h;split at h
 ·cases h;decide
 ·split at h
  ·split at h
   ·cases h;assumption
   ·cases h
  ·cases h
theorem Kq {lo bg hm:Nat} {w:World} {lv ev wv gv pv:Value} {t:List Nd} {es:List Ed} {i kind:Nat} {soft:Bool} {Pb Pe:Nat->Prop}
 (hb:Bk w bg 145 (grC lv hm ev wv gv pv)) (ht:RdS rNd 3 (fun k=>k<lo) w lv t) (hok:og t=true) (hi:i<t.length) (hk1:1<=kind) (hk5:kind<=5) (hmp:ru prog 181 w hm (Be (qX t)))
 (own:nP rEd 100 6 Pb Pe w ev es) (hel:es.length<=10000000) (hPb: ∀b,w.heap.size<=b->Pb b) (hPe: ∀b,w.heap.size<=b->Pe b) (hnb: ¬Pb bg/\ ¬Pe bg/\ ¬Pb hm/\hm≠bg) (hlo:lo<=bg/\ ∀b,b<lo-> ¬Pb b):
 Calls prog 81 #[.pointer (some ⟨bg,0,none⟩),vi i,.int .u8 kind,.bool soft] w (Ret fun _ w'=> ∃ev',Bk w' bg 145 (grC lv hm ev' wv gv pv)/\nP rEd 100 6 Pb Pe w' ev' (es++xA t i kind soft)/\Chg (fun k=>k=bg∨ev.ownBlock=some k) w w'/\ ∀k,ev'.ownBlock=some k->ev.ownBlock=some k∨w.heap.size<=k):=by
 have hlen:=pF hok;have ade:=hb.lt;have al9:=hmp.lt;have ah5:=ht.form;have ah6:=own.form;obtain ⟨la,lc,rfl,_,_⟩:=ah5;obtain ⟨ea,ec,rfl,_,_⟩:=ah6;refine nM func81 rfl ntmps81 rfl ?_;refine aN ?_;(repeat' (refine aQ ?_));refine aj QI rfl ?_;rintro _ w1 ⟨rfl,n1⟩;(repeat' (refine aa1 ?_));refine nC rfl rfl (Lm hk1 hk5) ?_;refine Wl.alloc fun w2 b2 n2 s2=>?_;refine aH (new:=kwC kind) b2 rfl rfl rfl rfl zl2 (by intro c hc;simp at hc;rcases hc with rfl|rfl<;>rfl) fun w3 b3 c3 s3=>?_;replace b3:Bk w3 w1.heap.size 237 (kwC kind):=b3;have hz1:=n1.size;have n03:New w w3:=New.trans n1 ((Chg.trans n2.any c3 i3).tN);(repeat' (first|refine ai ?_|refine aP ?_));refine aN ?_;(repeat' (refine aQ ?_));refine iF rfl rfl (by omega) (by omega) ?_;refine ah (u:=vs (sU kind).1) rfl (b3.cell (o:=0) rfl) ?_;(repeat' (first|refine aa7 ?_|refine ai ?_|refine aP ?_));have hkw:(sU kind).1.length<=100/\(sU kind).2.length<=100:=by
  have:kind=1∨kind=2∨kind=3∨kind=4∨kind=5:=by omega
  rcases this with rfl|rfl|rfl|rfl|rfl<;>decide
 refine eP (fun F W=>agrees F [(0,.pointer (some ⟨bg,0,none⟩)),(1,vi i),(2,.int .u8 kind),(3,.bool soft),(8,.pointer (some ⟨w1.heap.size,0,none⟩)),(9,vs ((sU kind).1++if soft=true then [63] else []))]/\w3=W) ?_ ?_
 ·cases soft
  ·refine qq9 ?_;exact bT ⟨⟨rfl,rfl,rfl,rfl,rfl,by show vs (sU kind).1=_;simp,trivial⟩,rfl⟩
  ·(repeat' (first|refine aa1 ?_|refine ai ?_|refine aP ?_|refine aN ?_|refine aQ ?_|refine bF rfl ?_));refine jE (a:=(sU kind).1) (b:=[63]) rfl rfl (by simp;omega) ?_;refine qq9 ?_;exact bT ⟨⟨rfl,rfl,rfl,rfl,rfl,rfl,trivial⟩,rfl⟩
 rintro F W ⟨hF,rfl⟩;generalize hnm:(sU kind).1++(if soft=true then [63] else [])=nm at hF;rw [<-oV hF];simp only [pq];clear hF;have hb3:=hb.chg n03 id;have hx:=GK hi;refine qq2 ?_;refine ah (u:=.slice la t.length lc) rfl (hb3.cell (o:=0) rfl) ?_;(repeat' (refine aa1 ?_));refine aK (ht.keep oh n03.keep) rfl rfl (by omega) hx fun b o cs hl hR hat=>?_;obtain ⟨pv1,rfl,hpv⟩:=hR;refine aS hat rfl rfl ?_;clear hat;(repeat' (refine aa1 ?_));refine aj (A7 (x:=ndA t i) (nm:=nm) hpv) rfl ?_;rintro _ w4 ⟨rfl,n4⟩;have n04:=New.trans n03 n4;have ev1: ∀o:Option (List UInt8),Ld o=.tuple #[vs (o.getD []),.bool o.isSome]:=fun o=>by cases o<;>rfl
 rw [ev1];have hvl:((tX t i nm).getD []).length<=1024:=yX hok hi;generalize hvv:(val (ndA t i).pz nm).getD []=txt;have hvl:txt.length<=1024:=by rw [<-hvv];exact hvl
 refine qq5 ?_;refine aX (ps:=[(0,.tmp 39),(1,.const (vi (-1))),(2,.tmp 40),(3,.tmp 41)]) (parts:=[(0,vi i),(1,vi (-1)),(2,.int .u8 kind),(3,.bool soft)]) rfl rfl (by simp [Value.cells]) ?_;refine Wl.alloc fun w5 b5 n5 s5=>?_;refine aH (new:=edC ⟨i,none,kind,soft,0,[]⟩ (.slice none 0 0)) b5 rfl rfl rfl rfl zl6 Ot fun w6 b6 c6 s6=>?_;replace b6:Bk w6 w4.heap.size 100 (edC ⟨i,none,kind,soft,0,[]⟩ (.slice none 0 0)):=b6;have hz4:=n04.size;have n46:New w4 w6:=(Chg.trans n5.any c6 i3).tN
 refine qq2 ?_;refine aj (CY (l:=txt) (by omega)) rfl ?_;rintro _ w7 ⟨nv,rfl,E9,n7⟩;have n47:=New.trans n46 n7;have n07:=New.trans n04 n47;have ah7:=n46.size;have hz7:=n7.size;generalize hbx:w4.heap.size=bx at b6 s5 hz4;have b7:=b6.chg n7 id;have hb7:=hb.chg n07 id;have hw8:=b3.chg (New.trans n4 n47) id;generalize hb8:w1.heap.size=b8 at b3 hw8 b2;have ah8:=b6.lt;have h8l:=b3.lt;have ama:=n4.size;have Xn:=own.wz qf n07 i3 fun _ _ _ e=>e;have hrm:xA t i kind soft=if form 4 txt=0 then uN t i kind soft (nums 4 txt).length 0 (nums 4 txt) else [⟨i,none,kind,soft,0,[]⟩]:=by unfold xA;rw [hnm,show tX t i nm=val (ndA t i).pz nm from rfl,hvv]
 rw [hrm];have hnl:=Et txt;rcases TD txt with hf|hf
 ·rw [hf,if_pos rfl];obtain ⟨na,nc,rfl,_,_⟩:=E9.form;generalize hnv:(Value.slice na (nums 4 txt).length nc).ownBlock=nb at*;have GN: ∀k,nb=some k->w6.heap.size<=k/\k<w7.heap.size:=fun k hk=>E9.lt (by rw [hnv];exact hk);have hN:RdS (Wk.one zQ) 1 (fun b=>nb=some b) w7 (.slice na (nums 4 txt).length nc) (nums 4 txt):=((E9.yQ (Pb':=fun b=>nb=some b) fun b hb _=>by rw [<-hnv];exact hb).rd (nV _)).mono (nV _) fun b _ e=>e.resolve_right id;have LG:nP rEd 100 6 (fun b=>Pb b/\b≠bx/\b≠b8/\nb≠some b) (fun b=>Pe b/\b≠bx/\b≠b8/\nb≠some b) w7 (.slice ea es.length ec) es:=by have h1:=own.mono (Pb':=fun b=>Pb b/\b<w.heap.size) (Pe':=fun b=>Pe b/\b<w.heap.size) qI (fun b hb e=>⟨e,hb⟩) (fun b hb e=>⟨e,hb⟩);exact (h1.wz qf n07 i3 fun _ _ _ e=>e).mono qI (fun b _ e=>⟨e.1,by omega,by omega,fun e2=>by have:=GN b e2;omega⟩) (fun b _ e=>⟨e.1,by omega,by omega,fun e2=>by have:=GN b e2;omega⟩)
  (repeat' (first|refine qq2 ?_|(refine aa4 (fun _=>?_) (fun _=>?_)<;>(first|(exfalso;omega)|skip))));refine aA (σ:=Nat×(Value×List Int)×(Value×List Ed)) (fun q=>[(0,.pointer (some ⟨bg,0,none⟩)),(8,.pointer (some ⟨b8,0,none⟩)),(12,.pointer (some ⟨bx,0,none⟩)),(13,q.2.1.1)]) (fun q W=>(∃f,q.2.1.2.length<=f/\q.2.2.2++uN t i kind soft f q.1 q.2.1.2=es++uN t i kind soft (nums 4 txt).length 0 (nums 4 txt))/\q.2.2.2.length+q.2.1.2.length<=es.length+1024/\q.1+q.2.1.2.length<=1024/\(∀x∈q.2.1.2, ∃n:Nat,x=(n:Int)/\n<4294967296) /\Bk W bg 145 (grC (.slice la t.length lc) hm q.2.2.1 wv gv pv)/\Bk W bx 100 (edC ⟨i,none,kind,soft,q.1,[]⟩ (.slice none 0 0))/\RdS (Wk.one zQ) 1 (fun b=>nb=some b) W q.2.1.1 q.2.1.2 /\nP rEd 100 6 (fun b=>Pb b/\b≠bx/\b≠b8/\nb≠some b) (fun b=>Pe b/\b≠bx/\b≠b8/\nb≠some b) W q.2.2.1 q.2.2.2/\Chg (fun k=>k=bg∨(Value.slice ea es.length ec).ownBlock=some k) w W/\(∀k,q.2.2.1.ownBlock=some k->(Value.slice ea es.length ec).ownBlock=some k∨w.heap.size<=k)/\Bk W b8 237 (kwC kind)/\w7.heap.size<=W.heap.size) (fun q=>q.2.1.2.length) (0,(.slice na (nums 4 txt).length nc,nums 4 txt),(.slice ea es.length ec,es)) (sl rfl) ⟨⟨_,aap _,rfl⟩,by dsimp only;omega,by dsimp only;omega,TB,hb7,b7,hN,LG,n07.any,fun k hk=>.inl hk,hw8,aap _⟩ ?_;rintro ⟨pl,⟨cv,c⟩,⟨ev2,es2⟩⟩ G W ⟨⟨f,hfl,hE⟩,aaY,hpl,hcn,hbW,bxW,hcW,Aq,cW,Jz,b8W,hzW⟩;dsimp only at hfl hE aaY hpl hcn hbW bxW hcW Aq cW Jz b8W hzW;simp only [pq];obtain ⟨ca,cc,rfl,_,_⟩:=hcW.form;obtain ⟨pa,pc,rfl,_,_⟩:=Aq.form;have hne: ∀k,(Value.slice pa es2.length pc).ownBlock=some k->k≠bg/\k≠bx/\nb≠some k/\k≠hm/\ ¬k<lo/\k≠b8:=fun k hk=>by obtain ⟨⟨h1,h2,h3,h5⟩,h4⟩:=Aq.lt hk;exact ⟨fun e=>hnb.1 (e▸h1),h2,h5,fun e=>hnb.2.2.1 (e▸h1),fun e=>hlo.2 k e h1,h3⟩
  have amb:=n07.size;(repeat' (first|refine qq4 ?_|refine aT rfl rfl (fun _=>?_) (fun _=>?_)))
  ·obtain ⟨x,r,rfl⟩: ∃x r,c=x::r:=by
    cases c with
    |nil=>simp at*
    |cons x r=>exact ⟨x,r,rfl⟩
   obtain ⟨h,rfl,hhl⟩:=hcn _ (List.mem_cons_self);obtain ⟨f,rfl⟩: ∃f',f=f'+1:=⟨f-1,by simp only [anJ] at hfl;omega⟩;simp only [anJ] at hfl aaY hpl;rw [IJ,ant] at hE;have mpW:ru prog 181 W hm (Be (qX t)):=hmp.chg cW fun e=>by
    rcases e with e|e
    ·exact hnb.2.2.2 e
    ·exact hnb.2.2.1 (own.lt e).1
   have htW:RdS rNd 3 (fun k=>k<lo) W (.slice la t.length lc) t:=ht.keep oh (cW.keep fun b hb h1 e=>by
    rcases e with e|e
    ·omega
    ·exact hlo.2 b h1 (own.lt e).1)
   have alG:((h:Int)::r).length=r.length+1:=anJ
   have fin: ∀(W':World) (v':Value),es2++ [⟨i,none,kind,soft,pl,[]⟩]=es++uN t i kind soft (nums 4 txt).length 0 (nums 4 txt)->Bk W' bg 145 (grC (.slice la t.length lc) hm v' wv gv pv)->nP rEd 100 6 (fun b=>Pb b/\b≠bx/\b≠b8/\nb≠some b) (fun b=>Pe b/\b≠bx/\b≠b8/\nb≠some b) W' v' (es2++ [⟨i,none,kind,soft,pl,[]⟩])->Chg (fun k=>k=bg∨(Value.slice ea es.length ec).ownBlock=some k) w W'->(∀k,v'.ownBlock=some k->(Value.slice ea es.length ec).ownBlock=some k∨w.heap.size<=k)->
    ∃ev',Bk W' bg 145 (grC (.slice la t.length lc) hm ev' wv gv pv)/\nP rEd 100 6 Pb Pe W' ev' (es++uN t i kind soft (nums 4 txt).length 0 (nums 4 txt))/\Chg (fun k=>k=bg∨(Value.slice ea es.length ec).ownBlock=some k) w W'/\ ∀k,ev'.ownBlock=some k->(Value.slice ea es.length ec).ownBlock=some k∨w.heap.size<=k:=fun W' v' e1 e2 e3 e4 e5=>
    ⟨v',e2,e1▸e3.mono qI (fun _ _ e=>e.1) (fun _ _ e=>e.1),e4,e5⟩
   refine aV rfl (by kernel_rfl) (fun w'=>New W w') (Chg.drew _ _) ?_;intro w8 n8;refine rX ?_;refine aa0 (au (u:=.map (some hm)) rfl (fun w' hw=>(hbW.chg hw id).cell (o:=1) rfl) (af ?_));(repeat' (refine aa0 (aa3 (af ?_))));refine aa0 (dD (y:=(h:Int)) hcW (fun w' hw=>hw.keep) rfl rfl (by omega) rfl fun b o hcell=>af ?_);refine aa0 (au (u:=.int .u32 h) rfl hcell (af ?_));refine aa0 (mY (l:=Be (qX t)) kU (fun w' hw=>mpW.chg hw id) (aaN hhl) (fun r r' h1 h2=>Xf (Bc t) h1 h2) rfl rfl (fun q hq=>af ?_) (fun hq=>af ?_))
   ·obtain ⟨to_,rfl,hto⟩:=Y5 hq;have adf:=J5 hto;have hxt:=GK adf;rw [hto] at hE;dsimp only at hE;(repeat' (first|refine bH ?_|refine aa0 (aa3 (af ?_))|refine aa0 (fA (by conv=>{lhs;whnf}) (af ?_))|refine aa0 (iO rfl rfl (af ?_))));refine qq5 ?_;refine aV rfl (by kernel_rfl) (fun w'=>New W w') (n8.trans (Chg.drew _ _)) ?_;intro w9 n9;replace n9:=New.trans n8 n9;refine rX ?_;refine aa0 (au (u:=.slice la t.length lc) rfl (fun w' hw=>(hbW.chg hw id).cell (o:=0) rfl) (af ?_));(repeat' (refine aa0 (aa3 (af ?_))));refine aa0 (bQ htW (fun w' hw=>hw.keep) rfl rfl (by omega) hxt fun b o cs hl hR hat=>af ?_);obtain ⟨pv2,rfl,hpv2⟩:=hR;refine aa0 (bD hat rfl rfl (af ?_));clear hat;refine iT rfl (ku rfl rfl (by omega) (by omega) (af ?_));refine aa0 (au (u:=vs (sU kind).2) rfl (fun w' hw=>(b8W.chg hw id).cell (o:=1) rfl) (af ?_));refine aC rfl (aj (Oi (x:=ndA t to_) (nm:=(sU kind).2) (hpv2.keep (oH pC) n9.keep) (Eh hok adf _)) rfl ?_);rintro _ w10 ⟨rfl,n10⟩;replace n10:=New.trans n9 n10;refine ai ⟨rfl,n10,?_⟩;(repeat' (first|refine bH ?_|refine aa0 (fA (by conv=>{lhs;whnf}) (af ?_))));cases hag:Ih (ndA t to_) (sU kind).2 with
    |none=>
     rw [hag] at hE;dsimp only at hE;rw [show pU none=(-1:Int) from rfl];(repeat' (first|refine qq3 ?_|(refine aa2 (fun _=>?_) (fun _=>?_)<;>(first|(exfalso;omega)|skip))));refine aV rfl (by kernel_rfl) (fun w'=>Chg (fun k=>(Value.slice pa es2.length pc).ownBlock=some k) W w') (n10.any.trans (Chg.drew _ _) i3) ?_;intro w20 n20;replace n20:New W w20:=New.trans n10 n20;refine rX ?_;refine aa0 (au (u:=.slice pa es2.length pc) rfl (fun w' hw=>(hbW.chg hw fun e=>(hne bg e).1 rfl).cell (o:=2) rfl) (af ?_));refine aa0 (bD (cs:=edC ⟨i,none,kind,soft,pl,[]⟩ (.slice none 0 0)) (fun w' hw=>(bxW.chg hw fun e=>(hne bx e).2.1 rfl).at) rfl rfl (af ?_));refine aC rfl (bC (R:=rEd) (y:=⟨i,none,kind,soft,pl,[]⟩) (Pe:=NoB) qf rfl rfl rfl ⟨_,rfl,cZ⟩ (by omega) (by omega) fun vt w21 ot n21 s21 Oq=>?_);have n201:=New.trans n20 n21;refine ai ⟨rfl,n201.any,?_⟩;have TF:=n20.size;have LH:=Aq.wz qf n201 i3 fun _ _ _ e=>e;have hwW:w.heap.size<=W.heap.size:=cW.size;refine aC rfl (bY qf LH (ot.rd qf.mo) (fun y cs hy=>qI _ _ _ _ _ (fun b hb hP=>?_) hy) rfl rfl (by omega) (by simp only [maxLen,anM];omega) (by simp only [anM];omega) fun v22 w22 o22 c22 Ew _=>?_)
     ·have hbb:w20.heap.size<=b:=hP.resolve_right id;exact ⟨⟨hPe b (by omega),by omega,by omega,fun e=>by have:=GN b e;omega⟩,fun e=>by have:=(Aq.lt e).2;omega⟩
     have c222:Chg (fun k=>(Value.slice pa es2.length pc).ownBlock=some k) W w22:=Chg.trans n201.any c22 i3;refine ai ⟨rfl,c222,?_⟩;refine rX ?_;have b22:=hbW.chg c222 fun e=>(hne bg e).1 rfl;refine Wt.last rfl (aJ (u:=v22) b22 rfl (show (2:Nat)<6 by omega) rfl (by obtain ⟨_,_,rfl,_⟩:=o22.form;rfl) fun w23 b23 c23=>?_);replace b23:Bk w23 bg 145 (grC (.slice la t.length lc) hm v22 wv gv pv):=b23;have LJ: ∀k,v22.ownBlock=some k->(Value.slice pa es2.length pc).ownBlock=some k∨w21.heap.size<=k:=fun k hk=>by
      rcases Ew with e|e
      ·exact .inl (e▸hk)
      ·exact .inr (e k hk)
     have TG:=n201.size;have aaZ:=hbW.lt;have Dn:=o22.mono (Pb':=fun b=>Pb b/\b≠bx/\b≠b8/\nb≠some b) (Pe':=fun b=>Pe b/\b≠bx/\b≠b8/\nb≠some b) qI (fun b _ e=>by
      rcases e with e|e
      ·exact e
      ·exact ⟨hPb b (by omega),by omega,by omega,fun e2=>by have:=GN b e2;omega⟩) i3
     have o23:=Dn.wz qf c23 (fun k hk e=>by
      subst e;exact hnb.1 (Dn.lt hk).1.1) fun k hk _ e=>by
      subst e;exact hnb.2.1 hk.1
     refine ai ?_;refine qq7 ?_;refine eX rfl ⟨_,rfl,fin w23 v22 hE b23 o23 (Chg.trans cW (Chg.trans (M:=fun k=>k=bg∨(Value.slice pa es2.length pc).ownBlock=some k) (c222.mono fun k _ e=>.inr e) c23 fun k _ e=>.inl e) fun k hk e=>?_) fun k hk=>?_⟩
     ·rcases e with e|e
      ·exact .inl e
      ·exact (Jz k e).elim .inr fun e=>by omega
     ·rcases LJ k hk with e|e
      ·exact Jz k e
      ·exact .inr (by omega)
    |some n=>
     rw [hag] at hE;dsimp only at hE;have hn8:=Xo hag;rw [show pU (some n)=(n:Int) from rfl];(repeat' (first|refine qq2 ?_|(refine aa2 (fun _=>?_) (fun _=>?_)<;>(first|(exfalso;omega)|skip))|refine aT rfl rfl (fun _=>?_) (fun _=>?_)))
     ·rw [if_pos (by omega)] at hE;refine aV rfl (by kernel_rfl) (fun w'=>Chg (fun k=>(Value.slice pa es2.length pc).ownBlock=some k) W w') (n10.any.trans (Chg.drew _ _) i3) ?_;intro w20 n20;replace n20:New W w20:=New.trans n10 n20;refine rX ?_;refine aa0 (au (u:=.slice pa es2.length pc) rfl (fun w' hw=>(hbW.chg hw fun e=>(hne bg e).1 rfl).cell (o:=2) rfl) (af ?_));refine aa0 (bD (cs:=edC ⟨i,none,kind,soft,pl,[]⟩ (.slice none 0 0)) (fun w' hw=>(bxW.chg hw fun e=>(hne bx e).2.1 rfl).at) rfl rfl (af ?_));refine aC rfl (bC (R:=rEd) (y:=⟨i,none,kind,soft,pl,[]⟩) (Pe:=NoB) qf rfl rfl rfl ⟨_,rfl,cZ⟩ (by omega) (by omega) fun vt w21 ot n21 s21 Oq=>?_);have n201:=New.trans n20 n21;refine ai ⟨rfl,n201.any,?_⟩;have TF:=n20.size;have LH:=Aq.wz qf n201 i3 fun _ _ _ e=>e;have hwW:w.heap.size<=W.heap.size:=cW.size;refine aC rfl (bY qf LH (ot.rd qf.mo) (fun y cs hy=>qI _ _ _ _ _ (fun b hb hP=>?_) hy) rfl rfl (by omega) (by simp only [maxLen,anM];omega) (by simp only [anM];omega) fun v22 w22 o22 c22 Ew _=>?_)
      ·have hbb:w20.heap.size<=b:=hP.resolve_right id;exact ⟨⟨hPe b (by omega),by omega,by omega,fun e=>by have:=GN b e;omega⟩,fun e=>by have:=(Aq.lt e).2;omega⟩
      have c222:Chg (fun k=>(Value.slice pa es2.length pc).ownBlock=some k) W w22:=Chg.trans n201.any c22 i3;refine ai ⟨rfl,c222,?_⟩;refine rX ?_;have b22:=hbW.chg c222 fun e=>(hne bg e).1 rfl;refine Wt.last rfl (aJ (u:=v22) b22 rfl (show (2:Nat)<6 by omega) rfl (by obtain ⟨_,_,rfl,_⟩:=o22.form;rfl) fun w23 b23 c23=>?_);replace b23:Bk w23 bg 145 (grC (.slice la t.length lc) hm v22 wv gv pv):=b23;have LJ: ∀k,v22.ownBlock=some k->(Value.slice pa es2.length pc).ownBlock=some k∨w21.heap.size<=k:=fun k hk=>by
       rcases Ew with e|e
       ·exact .inl (e▸hk)
       ·exact .inr (e k hk)
      have TG:=n201.size;have aaZ:=hbW.lt;have Dn:=o22.mono (Pb':=fun b=>Pb b/\b≠bx/\b≠b8/\nb≠some b) (Pe':=fun b=>Pe b/\b≠bx/\b≠b8/\nb≠some b) qI (fun b _ e=>by
       rcases e with e|e
       ·exact e
       ·exact ⟨hPb b (by omega),by omega,by omega,fun e2=>by have:=GN b e2;omega⟩) i3
      have o23:=Dn.wz qf c23 (fun k hk e=>by
       subst e;exact hnb.1 (Dn.lt hk).1.1) fun k hk _ e=>by
       subst e;exact hnb.2.1 hk.1
      refine ai ?_;refine qq7 ?_;refine eX rfl ⟨_,rfl,fin w23 v22 hE b23 o23 (Chg.trans cW (Chg.trans (M:=fun k=>k=bg∨(Value.slice pa es2.length pc).ownBlock=some k) (c222.mono fun k _ e=>.inr e) c23 fun k _ e=>.inl e) fun k hk e=>?_) fun k hk=>?_⟩
      ·rcases e with e|e
       ·exact .inl e
       ·exact (Jz k e).elim .inr fun e=>by omega
      ·rcases LJ k hk with e|e
       ·exact Jz k e
       ·exact .inr (by omega)
     ·rw [if_neg (by omega)] at hE;have ah9:=bxW.chg n10 id;have amc:=hbW.chg n10 id;refine bK ah9 rfl rfl ?_;refine Wl.alloc fun w11 b11 n11 s11=>?_;refine aH (new:=edC ⟨i,none,kind,soft,pl,[]⟩ (.slice none 0 0)) b11 rfl rfl rfl rfl zl6 Ot fun w12 b12 c12 s12=>?_;replace b12:Bk w12 w10.heap.size 100 (edC ⟨i,none,kind,soft,pl,[]⟩ (.slice none 0 0)):=b12;have aad:New w10 w12:=(Chg.trans n11.any c12 i3).tN
      have n12:=New.trans n10 aad;refine qq2 ?_;refine kT (hcW.keep (nZ _) n12.keep) rfl rfl rfl (by omega) (by omega) (by simp only [anJ];omega) fun v13 adg=>?_;rw [show ((n:Int)+1).toNat=n+1 by omega,show (1:Int).toNat=1 from rfl,List.take_succ_cons,apJ,anK] at adg;refine aj (Ou adg (by simp only [anD];omega)) rfl ?_;rintro av w14 ⟨TI,n14⟩;obtain ⟨aa,acp,rfl,_,_⟩:=TI.form;generalize hal:(r.take n).length=al at TI;have b14:=b12.chg n14 id;(repeat' (refine aa5 ?_));refine aJ (u:=vi to_) b14 rfl (show (1:Nat)<6 by omega) rfl rfl fun w15 b15 c15=>?_;(repeat' (refine aa5 ?_));refine aJ (u:=.slice aa al acp) b15 rfl (show (5:Nat)<6 by omega) rfl rfl fun w16 b16 c16=>?_;replace b16:Bk w16 w10.heap.size 100 (edC ⟨i,some to_,kind,soft,pl,r.take n⟩ (.slice aa al acp)):=b16;have Zd:=n10.size;have Ze:=aad.size;have adh:=n14.size;have Xp:Chg (fun k=>k=w10.heap.size) w14 w16:=Chg.trans c15 c16 i3;have n16:New W w16:=(Chg.trans (M:=fun k=>k=w10.heap.size) (New.trans n12 n14).any Xp fun k _ e=>e).tN
      have aia:=(TI.mono (Pb':=fun b=>w10.heap.size<b) (nV _) (fun b _ e=>by have h9:w12.heap.size<=b:=e;omega) i3).chg (nO zQ) Xp fun k hk e=>by have:=(TI.lt hk).1;omega
      have aib:=n16.size;have hc16:=Xp.size;refine qq4 ?_;refine aV rfl (by kernel_rfl) (fun w'=>Chg (fun k=>(Value.slice pa es2.length pc).ownBlock=some k) w16 w') (Chg.drew _ _) ?_;intro w20 n20;refine rX ?_;refine aa0 (au (u:=.slice pa es2.length pc) rfl (fun w' hw=>((hbW.chg n16 id).chg hw fun e=>(hne bg e).1 rfl).cell (o:=2) rfl) (af ?_));have adi: ∀k,(Value.slice pa es2.length pc).ownBlock=some k->k<W.heap.size:=fun k hk=>(Aq.lt hk).2;refine aa0 (bD (cs:=edC ⟨i,some to_,kind,soft,pl,r.take n⟩ (.slice aa al acp)) (fun w' hw=>(b16.chg hw fun e=>by have:=adi _ e;omega).at) rfl rfl (af ?_));have aic:=aia.new (nO zQ) n20;have aid:=n20.size;refine aC rfl (bC (R:=rEd) (y:=⟨i,some to_,kind,soft,pl,r.take n⟩) (Pe:=fun b=>w10.heap.size<b/\b<w20.heap.size) qf rfl rfl rfl ⟨_,rfl,(aic.mono (Pb':=fun b=>w10.heap.size<b/\b<w20.heap.size) (nV _) (fun b hb e=>⟨e,hb⟩) i3).rd (nV _) |>.mono (nV _) fun b hb e=>by rcases e with e|e;exact ⟨e,by omega⟩;exact e.elim⟩ (by omega) (by omega) fun vt w21 ot n21 s21 Oq=>?_);have n201:=New.trans n20 n21;have aie:=New.trans n16 n201;refine ai ⟨rfl,n201.any,?_⟩;have TF:=n20.size;have LH:=Aq.wz qf aie i3 fun _ _ _ e=>e;have hwW:w.heap.size<=W.heap.size:=cW.size;refine aC rfl (bY qf LH (ot.rd qf.mo) (fun y cs hy=>qI _ _ _ _ _ (fun b hb hP=>?_) hy) rfl rfl (by omega) (by simp only [maxLen,anM];omega) (by simp only [anM];omega) fun v22 w22 o22 c22 Ew _=>?_)
      ·have hbb:w10.heap.size<b:=by
        rcases hP with hP|hP
        ·have h9:w20.heap.size<=b:=hP;omega
        ·exact hP.1
       exact ⟨⟨hPe b (by omega),by omega,by omega,fun e=>by have:=GN b e;omega⟩,fun e=>by have:=(Aq.lt e).2;omega⟩
      have c222:Chg (fun k=>(Value.slice pa es2.length pc).ownBlock=some k) w16 w22:=Chg.trans n201.any c22 i3;refine ai ⟨rfl,c222,?_⟩;refine rX ?_;have b22:=(hbW.chg n16 id).chg c222 fun e=>(hne bg e).1 rfl;have aif:=(bxW.chg n16 id).chg c222 fun e=>(hne bx e).2.1 rfl;refine Wt.last rfl (aJ (u:=v22) b22 rfl (show (2:Nat)<6 by omega) rfl (by obtain ⟨_,_,rfl,_⟩:=o22.form;rfl) fun w23 b23 c23=>?_);replace b23:Bk w23 bg 145 (grC (.slice la t.length lc) hm v22 wv gv pv):=b23;have LJ: ∀k,v22.ownBlock=some k->(Value.slice pa es2.length pc).ownBlock=some k∨w21.heap.size<=k:=fun k hk=>by
       rcases Ew with e|e
       ·exact .inl (e▸hk)
       ·exact .inr (e k hk)
      have TG:=n201.size;have aaZ:=hbW.lt;have amd:=bxW.lt;have Dn:=o22.mono (Pb':=fun b=>Pb b/\b≠bx/\b≠b8/\nb≠some b) (Pe':=fun b=>Pe b/\b≠bx/\b≠b8/\nb≠some b) qI (fun b _ e=>by
       rcases e with e|e
       ·exact e
       ·exact ⟨hPb b (by omega),by omega,by omega,fun e2=>by have:=GN b e2;omega⟩) i3
      have o23:=Dn.wz qf c23 (fun k hk e=>by
       subst e;exact hnb.1 (Dn.lt hk).1.1) fun k hk _ e=>by
       subst e;exact hnb.2.1 hk.1
      have TJ:Chg (fun k=>k=bg∨(Value.slice pa es2.length pc).ownBlock=some k) W w23:=Chg.trans (Chg.trans n16.any (c222.mono fun k _ e=>Or.inr e) i3) c23 fun k _ e=>.inl e;have adk:bx≠bg:=by omega
      have h8g:b8≠bg:=by omega
      have adl:=aif.chg c23 adk;have aii:=b8W.chg TJ fun e=>e.elim h8g fun e=>(hne b8 e).2.2.2.2.2 rfl;have hcv:=hcW.keep (nZ _) (TJ.keep fun b _ e1 e2=>by
       rcases e2 with e2|e2
       ·subst e2;have:=GN b e1;omega
       ·exact (hne b e2).2.2.1 e1)
      refine ai ?_;(repeat' (first|refine aa1 ?_|refine aP ?_|refine aQ ?_|refine Wl.add rfl rfl (by omega) (by omega) ?_));refine jI hcv rfl rfl (by omega) (by simp only [anJ];omega) fun v24 hv24=>?_;rw [show ((n:Int)+1).toNat=n+1 by omega,apJ] at hv24;refine qq6 ?_;refine ah (u:=vi pl) rfl (adl.cell (o:=4) rfl) ?_;refine qq6 ?_;refine aJ (u:=vi (pl+1:Nat)) adl rfl (show (4:Nat)<6 by omega) (by show vi ((pl:Int)+1)=_;rfl) rfl fun w25 b25 c25=>?_;replace b25:Bk w25 bx 100 (edC ⟨i,none,kind,soft,pl+1,[]⟩ (.slice none 0 0)):=b25;refine qq6 ?_;refine ax (pl+1,(v24,r.drop n),(v22,es2++ [⟨i,some to_,kind,soft,pl,r.take n⟩])) (sl rfl) ⟨⟨f,?_,?_⟩,?_,?_,?_,b23.chg c25 adk.symm,b25,hv24.keep (nZ _) (c25.keep fun b _ e1 e2=>by subst e2;have:=GN b e1;omega),o23.wz qf c25 (fun k hk e=>by subst e;exact (Dn.lt hk).1.2.1 rfl) (fun k hk _ e=>hk.2.1 e),Chg.trans (Chg.trans cW TJ fun k hk e=>?_) c25 fun k hk e=>by omega,fun k hk=>?_,aii.chg c25 (by omega),by have:=c25.size;have:=TJ.size;omega⟩ ?_
      ·simp only [anS];omega
      ·dsimp only;rw [<-hE];simp
      ·simp only [am7,anM,anS];omega
      ·simp only [anS];omega
      ·exact fun x hx=>hcn x (aoC _ (apK hx))
      ·rcases e with e|e
       ·exact .inl e
       ·exact (Jz k e).elim .inr fun e=>by omega
      ·rcases LJ k hk with e|e
       ·exact Jz k e
       ·exact .inr (by omega)
      ·simp only [anJ,anS];omega
   ·rw [Xe hq] at hE;dsimp only at hE;(repeat' (first|refine bH ?_|refine aa0 (aa3 (af ?_))|refine aa0 (fA (by conv=>{lhs;whnf}) (af ?_))|refine aa0 (iO rfl rfl (af ?_))));(repeat' (first|refine qq5 ?_|(refine aa2 (fun _=>?_) (fun _=>?_)<;>(first|(exfalso;omega)|skip))));refine aV rfl (by kernel_rfl) (fun w'=>Chg (fun k=>(Value.slice pa es2.length pc).ownBlock=some k) W w') (n8.any.trans (Chg.drew _ _) i3) ?_;intro w20 n20;replace n20:New W w20:=New.trans n8 n20;refine rX ?_;refine aa0 (au (u:=.slice pa es2.length pc) rfl (fun w' hw=>(hbW.chg hw fun e=>(hne bg e).1 rfl).cell (o:=2) rfl) (af ?_));refine aa0 (bD (cs:=edC ⟨i,none,kind,soft,pl,[]⟩ (.slice none 0 0)) (fun w' hw=>(bxW.chg hw fun e=>(hne bx e).2.1 rfl).at) rfl rfl (af ?_));refine aC rfl (bC (R:=rEd) (y:=⟨i,none,kind,soft,pl,[]⟩) (Pe:=NoB) qf rfl rfl rfl ⟨_,rfl,cZ⟩ (by omega) (by omega) fun vt w21 ot n21 s21 Oq=>?_);have n201:=New.trans n20 n21;refine ai ⟨rfl,n201.any,?_⟩;have TF:=n20.size;have LH:=Aq.wz qf n201 i3 fun _ _ _ e=>e;have hwW:w.heap.size<=W.heap.size:=cW.size;refine aC rfl (bY qf LH (ot.rd qf.mo) (fun y cs hy=>qI _ _ _ _ _ (fun b hb hP=>?_) hy) rfl rfl (by omega) (by simp only [maxLen,anM];omega) (by simp only [anM];omega) fun v22 w22 o22 c22 Ew _=>?_)
    ·have hbb:w20.heap.size<=b:=hP.resolve_right id;exact ⟨⟨hPe b (by omega),by omega,by omega,fun e=>by have:=GN b e;omega⟩,fun e=>by have:=(Aq.lt e).2;omega⟩
    have c222:Chg (fun k=>(Value.slice pa es2.length pc).ownBlock=some k) W w22:=Chg.trans n201.any c22 i3;refine ai ⟨rfl,c222,?_⟩;refine rX ?_;have b22:=hbW.chg c222 fun e=>(hne bg e).1 rfl;refine Wt.last rfl (aJ (u:=v22) b22 rfl (show (2:Nat)<6 by omega) rfl (by obtain ⟨_,_,rfl,_⟩:=o22.form;rfl) fun w23 b23 c23=>?_);replace b23:Bk w23 bg 145 (grC (.slice la t.length lc) hm v22 wv gv pv):=b23;have LJ: ∀k,v22.ownBlock=some k->(Value.slice pa es2.length pc).ownBlock=some k∨w21.heap.size<=k:=fun k hk=>by
     rcases Ew with e|e
     ·exact .inl (e▸hk)
     ·exact .inr (e k hk)
    have TG:=n201.size;have aaZ:=hbW.lt;have Dn:=o22.mono (Pb':=fun b=>Pb b/\b≠bx/\b≠b8/\nb≠some b) (Pe':=fun b=>Pe b/\b≠bx/\b≠b8/\nb≠some b) qI (fun b _ e=>by
     rcases e with e|e
     ·exact e
     ·exact ⟨hPb b (by omega),by omega,by omega,fun e2=>by have:=GN b e2;omega⟩) i3
    have o23:=Dn.wz qf c23 (fun k hk e=>by
     subst e;exact hnb.1 (Dn.lt hk).1.1) fun k hk _ e=>by
     subst e;exact hnb.2.1 hk.1
    refine ai ?_;refine qq7 ?_;refine eX rfl ⟨_,rfl,fin w23 v22 hE b23 o23 (Chg.trans cW (Chg.trans (M:=fun k=>k=bg∨(Value.slice pa es2.length pc).ownBlock=some k) (c222.mono fun k _ e=>.inr e) c23 fun k _ e=>.inl e) fun k hk e=>?_) fun k hk=>?_⟩
    ·rcases e with e|e
     ·exact .inl e
     ·exact (Jz k e).elim .inr fun e=>by omega
    ·rcases LJ k hk with e|e
     ·exact Jz k e
     ·exact .inr (by omega)
  ·have hc0:c=[]:=anf (by omega);subst hc0;have he:uN t i kind soft f pl []=[]:=by cases f<;>rfl
   rw [he,aoS] at hE;refine cO rfl ⟨_,rfl,⟨_,hbW,?_,cW,Jz⟩⟩;rw [<-hE];exact Aq.mono qI (fun _ _ e=>e.1) (fun _ _ e=>e.1)
 ·rw [hf,if_neg (by decide)];have hne: ∀k,(Value.slice ea es.length ec).ownBlock=some k->k≠bg/\k<w.heap.size:=fun k hk=>⟨fun e=>hnb.1 (e▸(own.lt hk).1),(own.lt hk).2⟩;(repeat' (first|refine qq5 ?_|(refine aa4 (fun _=>?_) (fun _=>?_)<;>(first|(exfalso;omega)|skip))));refine aV rfl (by kernel_rfl) (fun w'=>Chg (fun k=>(Value.slice ea es.length ec).ownBlock=some k) w7 w') (Chg.drew _ _) ?_;intro w20 n20;refine rX ?_;refine aa0 (au (u:=.slice ea es.length ec) rfl (fun w' hw=>(hb7.chg hw fun e=>(hne bg e).1 rfl).cell (o:=2) rfl) (af ?_));refine aa0 (bD (cs:=edC ⟨i,none,kind,soft,0,[]⟩ (.slice none 0 0)) (fun w' hw=>(b7.chg hw fun e=>by have:=(hne bx e).2;omega).at) rfl rfl (af ?_));refine aC rfl (bC (R:=rEd) (y:=⟨i,none,kind,soft,0,[]⟩) (Pe:=NoB) qf rfl rfl rfl ⟨_,rfl,cZ⟩ (by omega) (by omega) fun vt w21 ot n21 s21 Oq=>?_);have n201:=New.trans n20 n21;refine ai ⟨rfl,n201.any,?_⟩;have TF:=n20.size;have LH:=Xn.wz qf n201 i3 fun _ _ _ e=>e;have hwW:w.heap.size<=w7.heap.size:=n07.size;refine aC rfl (bY qf LH (ot.rd qf.mo) (fun y cs hy=>qI _ _ _ _ _ (fun b hb hP=>?_) hy) rfl rfl (by omega) (by simp only [maxLen,anM];omega) (by simp only [anM];omega) fun v22 w22 o22 c22 Ew _=>?_)
  ·have hbb:w20.heap.size<=b:=hP.resolve_right id;exact ⟨hPe b (by omega),fun e=>by have:=(own.lt e).2;omega⟩
  have c222:Chg (fun k=>(Value.slice ea es.length ec).ownBlock=some k) w7 w22:=Chg.trans n201.any c22 i3;refine ai ⟨rfl,c222,?_⟩;refine rX ?_;have b22:=hb7.chg c222 fun e=>(hne bg e).1 rfl;refine Wt.last rfl (aJ (u:=v22) b22 rfl (show (2:Nat)<6 by omega) rfl (by obtain ⟨_,_,rfl,_⟩:=o22.form;rfl) fun w23 b23 c23=>?_);replace b23:Bk w23 bg 145 (grC (.slice la t.length lc) hm v22 wv gv pv):=b23;have LJ: ∀k,v22.ownBlock=some k->(Value.slice ea es.length ec).ownBlock=some k∨w21.heap.size<=k:=fun k hk=>by
   rcases Ew with e|e
   ·exact .inl (e▸hk)
   ·exact .inr (e k hk)
  have TG:=n201.size;have Dn:=o22.mono (Pb':=Pb) (Pe':=Pe) qI (fun b _ e=>by
   rcases e with e|e
   ·exact e
   ·exact hPb b (by omega)) i3
  have o23:=Dn.wz qf c23 (fun k hk e=>by
   subst e;exact hnb.1 (Dn.lt hk).1) fun k hk _ e=>by
   subst e;exact hnb.2.1 hk
  refine ai ?_;refine qq7 ?_;refine eX rfl ⟨_,rfl,v22,b23,o23,Chg.trans (Chg.trans n07.any (c222.mono fun k _ e=>Or.inr e) i3) c23 fun k _ e=>.inl e,fun k hk=>?_⟩;rcases LJ k hk with e|e
  ·exact .inl e
  ·exact .inr (by omega)
end Go.Proofs.YtfbnfhhmiiahnaaGreatDoor
namespace Go.Proofs.YtfbnfhhmiiahnaaGreatDoor
open Go Wk Sy
open Go.RowKit (Below)
attribute [local irreducible] Go.Calls
abbrev SV:=Option Addr×Nat×Nat
abbrev svV (x:SV):Value:=.slice x.1 x.2.1 x.2.2
abbrev SE:=(Ed×SV)×Nat
abbrev seC (x:SE):List Value:=edC x.1.1 (svV x.1.2)
theorem GR (x:SE): ∀c∈seC x,c.oneCell'=true:=Ot
theorem QO:qH (flat seC) 6:=qA _ (fun _=>rfl) GR
abbrev rC (Pb:Nat->Prop) (w:World) (v:Value) (D:List SE):Prop:=nP (flat seC) 100 6 Pb NoB w v D
theorem iZ {ops:Array Oper} {k N:Nat} {p:Nat->Bool} (h:(ab8 N).all (fun j=>bd ops j k||p j)=true) (hN: ∀j,N<=j->p j=true) (hk: ∀j,k<j->p j=true) {j:Nat} (hj:k<j∨bd ops j k=false):p j=true:=by
 rcases hj with hj|hj
 ·exact hk j hj
 ·rcases Nat.lt_or_ge j N with hlt|hge
  ·have:=List.all_eq_true.1 h j (List.mem_range.2 hlt);rw [hj,Bool.false_or] at this;exact this
  ·exact hN j hge
def Zf (j:Nat):Bool:=decide (4<=j/\j<=7∨20<=j)
theorem xG {Pb:Nat->Prop} {w:World} {g cap a b n L:Nat} {cv:Value} {D:List SE} (hL:D.length=L) (own:rC Pb w (.slice (some ⟨g,0,none⟩) L cap) D) (h1:a+n<=b) (h2:b+n<=L) (hl:L<=2000000000):
 Calls prog 170 #[.slice (some ⟨g,0,none⟩) L cap,vi a,vi b,vi n,cv] w (Ret fun _ w'=> ∃D',Swp D a b n D'/\rC Pb w' (.slice (some ⟨g,0,none⟩) L cap) D'/\Chg (fun k=>k=g) w w'):=by
 refine nM func170 rfl ntmps170 rfl ?_;refine qq2 ?_;refine aA (σ:=Nat×List SE) (fun q=>[(0,.slice (some ⟨g,0,none⟩) L cap),(1,vi a),(2,vi b),(3,vi n),(10,vi q.1)]) (fun q W=>q.1<=n/\Swp D a b q.1 q.2/\rC Pb W (.slice (some ⟨g,0,none⟩) L cap) q.2/\Chg (fun k=>k=g) w W) (fun q=>n-q.1) (0,D) (sl rfl) ⟨anq _,Swp.zero D (by omega) (by omega),own,ay _ _⟩ ?_;rintro ⟨i,D1⟩ G W ⟨hi,hS,o1,c1⟩;dsimp only at hi hS o1 c1;simp only [pq];(repeat' (first|refine qq4 ?_|refine aa2 (fun _=>?_) (fun _=>?_)))
 ·have hl1:=hS.len;obtain ⟨p,q,hp,hq,hS2⟩:=hS.step (by omega) (by omega);refine iW rfl (by kernel_rfl) (fun k w'=>Chg (fun b=>Zf k=true/\b=g) W w') (fun k=>Chg.drew _ _) ?_;intro w2 n2;have hat: ∀(k:Nat) (w':World) (j:Nat) (x:SE),Zf k=false->D1[j]? =some x->Chg (fun b=>Zf k=true/\b=g) W w'->At w' g (0+((j:Nat):Int).toNat*6) (seC x):=fun k w' j x hk hx hw=>by have:=(o1.chg (nK seC) hw fun _ _ e=>by rw [hk] at e;cases e.1).at rfl rfl hx;rw [ace,ant];exact this
  (repeat' (first|refine aY rfl (aa3 (af ?_))|refine aY rfl (Wq.add rfl rfl (by omega) (by omega) (af ?_))));refine aY rfl (aa8 (af ?_));refine aY rfl (bD (cs:=seC q) (fun w' hw=>hat 13 w' (b+i) q rfl hq hw) rfl (by rfl) (af ?_));(repeat' (first|refine aY rfl (aa3 (af ?_))|refine aY rfl (Wq.add rfl rfl (by omega) (by omega) (af ?_))));refine aY rfl (aa8 (af ?_));refine aY rfl (bD (cs:=seC p) (fun w' hw=>hat 19 w' (a+i) p rfl hp hw) rfl (by rfl) (af ?_));refine aY rfl (aa8 (af ?_));refine iV rfl (fC (f:=seC) (q:=q) (j:=a+i) (sz:=6) (cap:=cap) (fun _=>rfl) GR (o1.new (nK seC) n2) (by rw [hl1,hL]) (by omega) (by show Value.pointer (some ⟨g,0+((a:Int)+(i:Int)).toNat*6,none⟩)=_;rw [show ((a:Int)+(i:Int)).toNat=a+i by omega,ace]) rfl rfl fun w3 o3 c3=>?_);have c13:Chg (fun k=>k=g) W w3:=Chg.trans n2.any c3 fun k _ e=>by injection e with e;exact e.symm
  refine ai ⟨rfl,fun j hj=>c13.mono fun k _ e=>⟨iZ (N:=24) (p:=Zf) (by kernel_rfl) (fun j hj=>decide_eq_true (.inr (by omega))) (fun j hj=>decide_eq_true (.inr (by omega))) hj,e⟩,?_⟩;refine aY rfl (aa8 (af ?_));refine Wu.last rfl (fC (f:=seC) (q:=p) (j:=b+i) (sz:=6) (cap:=cap) (fun _=>rfl) GR o3 (by rw [apn,hl1,hL]) (by rw [apn];omega) (by show Value.pointer (some ⟨g,0+((b:Int)+(i:Int)).toNat*6,none⟩)=_;rw [show ((b:Int)+(i:Int)).toNat=b+i by omega,ace]) rfl rfl fun w4 o4 c4=>?_);refine ai ?_;refine qq6 ?_;exact ax (i+1,(D1.set (a+i) q).set (b+i) p) (sl rfl) ⟨by dsimp only;omega,hS2,o4,Chg.trans (Chg.trans c1 c13 i3) c4 fun k _ e=>by injection e with e;exact e.symm⟩ (by dsimp only;omega)
 ·obtain rfl:i=n:=by omega
  exact cO rfl ⟨_,rfl,D1,hS,o1,c1⟩
theorem OH {Pb:Nat->Prop} {w:World} {g cap a m b L:Nat} {cv:Value} {X U V Z:List SE} (hL:(X++U++V++Z).length=L) (own:rC Pb w (.slice (some ⟨g,0,none⟩) L cap) (X++U++V++Z)) (hX:X.length=a) (hU:a+U.length=m) (hV:m+V.length=b) (h1:0<U.length) (h2:0<V.length) (hl:L<=2000000000):
 Calls prog 155 #[.slice (some ⟨g,0,none⟩) L cap,vi a,vi m,vi b,cv] w (Ret fun _ w'=>rC Pb w' (.slice (some ⟨g,0,none⟩) L cap) (X++V++U++Z)/\Chg (fun k=>k=g) w w'):=by
 have hGl:(X++V++U++Z).length=L:=by rw [<-hL];simp;omega
 have hLe:a+U.length+V.length<=L:=by rw [<-hL];simp;omega
 refine nM func155 rfl ntmps155 rfl ?_;refine qq4 ?_;refine aA (σ:=Nat×Nat×List SE) (fun q=>[(0,.slice (some ⟨g,0,none⟩) L cap),(2,vi m),(4,cv),(10,vi q.1),(11,vi q.2.1)]) (fun q W=>0<q.1/\0<q.2.1/\Rot (X++V++U++Z) m q.1 q.2.1 q.2.2/\rC Pb W (.slice (some ⟨g,0,none⟩) L cap) q.2.2/\Chg (fun k=>k=g) w W) (fun q=>q.1+q.2.1) (U.length,V.length,X++U++V++Z) ⟨rfl,rfl,rfl,by show vi ((m:Int)-a)=vi (U.length:Nat);congr 1;omega,by show vi ((b:Int)-m)=vi (V.length:Nat);congr 1;omega,trivial⟩ ⟨h1,h2,⟨X,U,V,Z,rfl,by omega,rfl,rfl,rfl⟩,own,ay _ _⟩ ?_;rintro ⟨i,j,l⟩ G W ⟨hi,hj,hR,o1,c1⟩;dsimp only at hi hj hR o1 c1;simp only [pq];have hll:l.length=L/\i<=m/\m+j<=L:=by obtain ⟨X',U',V',Z',rfl,e1,e2,e3,e4⟩:=hR.ex;have:=congrArg apq e4;rw [hGl] at this;simp only [am7] at this ⊢;omega
 obtain ⟨hll,him,hmj⟩:=hll;have hc1:((m-i:Nat):Int)=(m:Int)-i:=by omega
 have hc2:i<=m+j->((m+j-i:Nat):Int)=(m:Int)+j-i:=fun h=>by omega
 (repeat' (first|refine qq6 ?_|refine aT rfl rfl (fun _=>?_) (fun _=>?_)|refine aa4 (fun _=>?_) (fun _=>?_)))
 ·refine aj (xG (a:=m-i) (b:=m) (n:=j) (cv:=cv) hll o1 (by omega) (by omega) hl) (by rw [hc1];rfl) ?_;rintro u w2 ⟨l2,hS,o2,c2⟩;refine qq6 ?_;refine ax (i-j,j,l2) ⟨rfl,rfl,rfl,by show vi ((i:Int)-j)=vi (i-j:Nat);congr 1;omega,rfl,trivial⟩ ⟨by dsimp only;omega,hj,hR.big (by omega) hS,o2,Chg.trans c1 c2 i3⟩ (by dsimp only;omega)
 ·refine aj (xG (a:=m-i) (b:=m+j-i) (n:=i) (cv:=cv) hll o1 (by omega) (by omega) hl) (by rw [hc1,hc2 (by omega)];rfl) ?_;rintro u w2 ⟨l2,hS,o2,c2⟩;refine qq6 ?_;refine ax (i,j-i,l2) ⟨rfl,rfl,rfl,rfl,by show vi ((j:Int)-i)=vi (j-i:Nat);congr 1;omega,trivial⟩ ⟨hi,by dsimp only;omega,hR.small (by omega) hS,o2,Chg.trans c1 c2 i3⟩ (by dsimp only;omega)
 ·obtain rfl:i=j:=by omega
  refine aj (xG (a:=m-i) (b:=m) (n:=i) (cv:=cv) hll o1 (by omega) (by omega) hl) (by rw [hc1];rfl) ?_;rintro u w2 ⟨l2,hS,o2,c2⟩;refine qq6 ?_;have e:=hR.last hS;subst e;exact cO rfl ⟨_,rfl,o2,Chg.trans c1 c2 i3⟩
def GU (j:Nat):Bool:=decide (2<=j/\j<=4∨14<=j)
def ltE (key:SE->Nm) (x y:SE):Prop:=key x<key y∨(key x=key y/\x.2<y.2)
def cpE (key:SE->Nm) (y x:SE):Bool:=decide (key y<key x)
theorem LK (key:SE->Nm): ∀x y z,ltE key x y->ltE key y z->ltE key x z:=by
 intro x y z h1 h2;unfold ltE at*;rcases h1 with h1|⟨h1,h3⟩<;>rcases h2 with h2|⟨h2,h4⟩
 ·exact .inl (apd h1 h2)
 ·exact .inl (h2▸h1)
 ·exact .inl (h1▸h2)
 ·exact .inr ⟨h1.trans h2,by omega⟩
theorem abb (key:SE->Nm): ∀x y,ltE key x y-> ¬ltE key y x:=by
 intro x y h1 h2;unfold ltE at*;rcases h1 with h1|⟨h1,h3⟩<;>rcases h2 with h2|⟨h2,h4⟩
 ·exact apB _ (apd h1 h2)
 ·exact apB _ (h2▸h1)
 ·exact apB _ (h1▸h2)
 ·omega
theorem Xq {key:SE->Nm} {x y:SE} (h:x.2<y.2):(cpE key y x=true->ltE key y x)/\(cpE key y x=false->ltE key x y):=by
 unfold cpE ltE;constructor
 ·intro e;exact .inl (of_decide_eq_true e)
 ·intro e;have e:=of_decide_eq_false e;by_cases e2:key y=key x
  ·exact .inr ⟨e2.symm,h⟩
  ·exact .inl (EU e e2)
def Fa (cf:FuncId) (cc:Array Value) (key:SE->Nm) (Pd:SE->Prop) (g:Nat) (w0:World):Prop:= ∀w',Chg (fun k=>k=g) w0 w'-> ∀x y,Pd x->Pd y->
 Calls prog cf ([Value.agg (seC x).toArray,Value.agg (seC y).toArray]++cc.toList).toArray w' (Ret fun r w''=>(∃z:Int,r=vi z/\(z<0↔key x<key y))/\New w' w'')
theorem Fa.chg {cf:FuncId} {cc:Array Value} {key:SE->Nm} {Pd:SE->Prop} {g:Nat} {w0 w:World} (h:Fa cf cc key Pd g w0) (c:Chg (fun k=>k=g) w0 w):Fa cf cc key Pd g w:=fun w' c'=>h w' (Chg.trans c c' i3)
section
variable {Pb:Nat->Prop} {w:World} {g cap L:Nat} {cf:FuncId} {cc:Array Value} {key:SE->Nm} {Pd:SE->Prop} [hcf:nN prog cf]
theorem IK {a b:Nat} {X S Z:List SE} (hL:(X++S++Z).length=L) (own:rC Pb w (.slice (some ⟨g,0,none⟩) L cap) (X++S++Z)) (hX:X.length=a) (hS:a+S.length=b) (hix:S.Pairwise fun x y=>x.2<y.2) (hP: ∀x∈S,Pd x) (hc:Fa cf cc key Pd g w) (hl:L<=2000000000):
 Calls prog 131 #[.slice (some ⟨g,0,none⟩) L cap,vi a,vi b,.func (.func cf) #[] cc] w (Ret fun _ w'=> ∃E,E.Perm S/\Srt (ltE key) E/\rC Pb w' (.slice (some ⟨g,0,none⟩) L cap) (X++E++Z)/\Chg (fun k=>k=g) w w'):=by
 have hLl:a+S.length<=L:=by rw [<-hL];simp;omega
 refine nM func131 rfl ntmps131 rfl ?_;refine qq2 ?_;refine aA (σ:=Nat×List SE) (fun q=>[(0,.slice (some ⟨g,0,none⟩) L cap),(1,vi a),(2,vi b),(3,.func (.func cf) #[] cc),(8,vi q.1)]) (fun q W=>a+1<=q.1/\(q.1<=b∨q.1=a+1)/\q.2.Perm (S.take (q.1-a))/\Srt (ltE key) q.2/\rC Pb W (.slice (some ⟨g,0,none⟩) L cap) (X++q.2++S.drop (q.1-a)++Z)/\Chg (fun k=>k=g) w W) (fun q=>b+1-q.1) (a+1,S.take 1) (sl rfl) ⟨aap _,.inr rfl,by rw [apL],?_,?_,ay _ _⟩ ?_
 ·cases S with
  |nil=>simp
  |cons x r=>simp
 ·rw [apL,adK X,List.take_append_drop];exact own
 rintro ⟨i,E⟩ G W ⟨hi1,hib,hE,hsE,oW,cW⟩;dsimp only at hi1 hib hE hsE oW cW;simp only [pq];(repeat' (first|refine qq4 ?_|refine aa2 (fun _=>?_) (fun _=>?_)))
 ·obtain ⟨x,hx⟩:=nT S (k:=i-a) (by omega);have hEl:E.length=i-a:=by rw [hE.length_eq,anD];omega
  have hxd:S.drop (i-a)=x::S.drop (i+1-a):=by rw [drop_cons hx,show i-a+1=i+1-a by omega]
  have hxP:=hP x (aop hx);have hlt: ∀y∈E,y.2<x.2/\Pd y:=fun y hy=>by
   have hy:=hE.mem_iff.1 hy;obtain ⟨j,hj⟩:=List.mem_iff_getElem?.1 hy;rw [aaQ] at hj;split at hj
   ·rename_i hji
    refine ⟨?_,hP y (aop hj)⟩;obtain ⟨h1,rfl⟩:=List.getElem?_eq_some_iff.1 hj;obtain ⟨h2,rfl⟩:=List.getElem?_eq_some_iff.1 hx;exact List.pairwise_iff_getElem.1 hix j (i-a) h1 h2 hji
   ·cases hj
  refine aA (σ:=List SE×List SE) (fun q=>[(0,.slice (some ⟨g,0,none⟩) L cap),(1,vi a),(2,vi b),(3,.func (.func cf) #[] cc),(8,vi i),(9,vi (a+q.1.length:Nat))]) (fun q W=>E=q.1++q.2/\(∀y∈q.2,ltE key x y)/\rC Pb W (.slice (some ⟨g,0,none⟩) L cap) (X++q.1++ [x]++q.2++S.drop (i+1-a)++Z)/\Chg (fun k=>k=g) w W) (fun q=>q.1.length) (E,[]) ⟨rfl,rfl,rfl,rfl,rfl,by show vi (i:Nat)=vi ((a+E.length:Nat):Int);congr 1;omega,trivial⟩ ⟨by simp,by simp,by rw [hxd] at oW;simpa using oW,cW⟩ ?_;rintro ⟨S1,S2⟩ G2 W2 ⟨hEs,hS2,o2,c2⟩;dsimp only at hEs hS2 o2 c2;simp only [pq];have hfin: ∀w':World,(∀y,S1.getLast?=some y->ltE key y x)->rC Pb w' (.slice (some ⟨g,0,none⟩) L cap) (X++S1++ [x]++S2++S.drop (i+1-a)++Z)->Chg (fun k=>k=g) w w'->(a+1<=i+1/\(i+1<=b∨i+1=a+1)/\(S1++ [x]++S2).Perm (S.take (i+1-a))/\Srt (ltE key) (S1++ [x]++S2)/\rC Pb w' (.slice (some ⟨g,0,none⟩) L cap) (X++(S1++ [x]++S2)++S.drop (i+1-a)++Z)/\Chg (fun k=>k=g) w w'):=fun w' h1 h2 h3=>by refine ⟨by omega,.inl (by omega),?_,Qa (LK key) (hEs▸hsE) hS2 h1,by simpa using h2,h3⟩;rw [show i+1-a=(i-a)+1 by omega,take_snoc hx];refine List.Perm.trans ?_ (List.Perm.append_right [x] hE);rw [hEs,adK,adK];exact List.Perm.append_left S1 apM
  have hll:(X++S1++ [x]++S2++S.drop (i+1-a)++Z).length=L:=by have h1:=congrArg apq hEs;have h2:=congrArg apq hxd;rw [<-hL];simp only [am7,anJ,an8,anS] at h1 h2 ⊢;omega
  have hSl:S1.length+S2.length=i-a:=by rw [<-hEl,hEs,am7]
  rcases List.eq_nil_or_concat S1 with rfl|⟨S1',y,rfl⟩
  ·refine qq4 ?_;refine aV rfl (by kernel_rfl) (fun w'=>New W2 w') (Chg.drew _ _) ?_;intro w3 n3;simp only [an8,anN];(repeat' (first|refine bH ?_|refine fV rfl rfl (by assumption) ?_|refine aa0 (aa3 (af ?_))|refine aa0 (yO (af ?_))|(refine aa0 (fQ rfl rfl (fun _=>af ?_) (fun _=>af ?_))<;>(first|(exfalso;omega)|skip))));refine qq6 ?_;exact ax (i+1,[]++ [x]++S2) (sl rfl) (hfin w3 (by simp) (o2.new (nK seC) n3) (Chg.trans c2 n3.any i3)) (by dsimp only;omega)
  ·have hyE:y∈E:=by rw [hEs];simp
   have hyP:=(hlt y hyE).2;rw [apv] at hSl;have hcl:(S1'.concat y).length=S1'.length+1:=apv;have el:(a+(S1'.concat y).length:Nat)=a+S1'.length+1:=by rw [apv];omega
   rw [el];have hlist:X++S1'.concat y++ [x]++S2++S.drop (i+1-a)++Z=(X++S1')++ [y]++ [x]++(S2++S.drop (i+1-a)++Z):=by simp
   rw [hlist] at o2 hll;have hgy:((X++S1')++ [y]++ [x]++(S2++S.drop (i+1-a)++Z))[a+S1'.length]? =some y:=by rw [adK,adK,anb (by simp;omega),show a+S1'.length-(X++S1').length=0 by simp;omega];rfl
   have hgx:((X++S1')++ [y]++ [x]++(S2++S.drop (i+1-a)++Z))[a+S1'.length+1]? =some x:=by rw [adK,adK,anb (by simp;omega),show a+S1'.length+1-(X++S1').length=1 by simp;omega];rfl
   have hXS:(X++S1').length=a+S1'.length:=by rw [am7,hX]
   have IL: ∀(w':World) (j:Nat) (xx:SE),((X++S1')++ [y]++ [x]++(S2++S.drop (i+1-a)++Z))[j]? =some xx->New W2 w'-> ∀i:Int,i=(j:Nat)->At w' g (0+i.toNat*6) (seC xx):=fun w' j xx hx hw i hi=>by have:=(o2.new (nK seC) hw).at rfl rfl hx;rw [ace,hi,ant];exact this
   refine qq4 ?_;refine aV rfl (by kernel_rfl) (fun w'=>New W2 w') (Chg.drew _ _) ?_;intro w3 n3;(repeat' (first|refine bG rfl rfl ?_|refine aa0 (aa3 (af ?_))|(refine aa0 (fQ rfl rfl (fun _=>af ?_) (fun _=>af ?_))<;>(first|(exfalso;omega)|skip))));refine aa0 (aa8 (af ?_));(repeat' (refine bG rfl rfl ?_));refine aa0 (bD (cs:=seC x) (fun w' hw=>IL w' (a+S1'.length+1) _ hgx hw ((a+S1'.length+1:Nat):Int) rfl) rfl (by rfl) (af ?_));(repeat' (first|refine bG rfl rfl ?_|refine aa0 (aa3 (af ?_))|refine aa0 (Wq.sub rfl rfl (by omega) (by omega) (af ?_))));refine aa0 (aa8 (af ?_));(repeat' (refine bG rfl rfl ?_));refine aa0 (bD (cs:=seC y) (fun w' hw=>IL w' (a+S1'.length) _ hgy hw (((a+S1'.length+1:Nat):Int)-1) (by omega)) rfl (by rfl) (af ?_));(repeat' (refine bG rfl rfl ?_));refine aC rfl (bP (dst:=some 32) rfl (hc w3 (Chg.trans c2 n3.any i3) x y hxP hyP) rfl ?_);rintro _ w4 ⟨⟨z,rfl,hz⟩,n4⟩;have n24:=New.trans n3 n4;simp only [wI];refine ai ⟨rfl,n24,?_⟩;have o4:=o2.new (nK seC) n24;have c4:Chg (fun k=>k=g) w w4:=Chg.trans c2 n24.any i3;by_cases hk:key x<key y
   ·have hz0:=hz.2 hk;(repeat' (first|refine bH ?_|refine bG rfl rfl ?_|refine aa0 (aa9 (af ?_))|(refine aa0 (dN rfl rfl (fun _=>af ?_) (fun _=>af ?_))<;>(first|(exfalso;omega)|skip))));refine qq2 ?_;refine iW rfl (by kernel_rfl) (fun k w'=>Chg (fun b=>GU k=true/\b=g) w4 w') (fun k=>Chg.drew _ _) ?_;intro w20 n20;have hgp:((X++S1')++ [y]++ [x]++(S2++S.drop (i+1-a)++Z))[(a+S1'.length)]? =some y:=by rw [adK,adK,anb (by omega),show (a+S1'.length)-((X++S1')).length=0 by omega];rfl
    have hgq:((X++S1')++ [y]++ [x]++(S2++S.drop (i+1-a)++Z))[(a+S1'.length)+1]? =some x:=by rw [adK,adK,anb (by omega),show (a+S1'.length)+1-((X++S1')).length=1 by omega];rfl
    have hat: ∀(k:Nat) (w':World) (j:Nat) (xx:SE),GU k=false->((X++S1')++ [y]++ [x]++(S2++S.drop (i+1-a)++Z))[j]? =some xx->Chg (fun b=>GU k=true/\b=g) w4 w'-> ∀i:Int,i=(j:Nat)->At w' g (0+i.toNat*6) (seC xx):=fun k w' j xx hk hx hw i hi=>by have:=(o4.chg (nK seC) hw fun _ _ e=>by rw [hk] at e;cases e.1).at rfl rfl hx;rw [ace,hi,ant];exact this
    (repeat' (first|refine aY rfl (aa3 (af ?_))|refine aY rfl (Wq.sub rfl rfl (by omega) (by omega) (af ?_))));refine aY rfl (aa8 (af ?_));refine aY rfl (bD (cs:=seC (y)) (fun w' hw=>hat 9 w' ((a+S1'.length)) _ rfl hgp hw ((((a+S1'.length+1:Nat):Int)-1)) (by omega)) rfl (by rfl) (af ?_));(repeat' (refine aY rfl (aa3 (af ?_))));refine aY rfl (aa8 (af ?_));refine aY rfl (bD (cs:=seC (x)) (fun w' hw=>hat 13 w' ((a+S1'.length)+1) _ rfl hgq hw (((a+S1'.length+1:Nat):Int)) (by omega)) rfl (by rfl) (af ?_));refine aY rfl (aa8 (af ?_));refine iV rfl (fC (f:=seC) (q:=y) (j:=(a+S1'.length)+1) (sz:=6) (cap:=cap) (fun _=>rfl) GR (o4.new (nK seC) n20) (by rw [hll]) (by rw [hll];omega) (by show Value.pointer (some ⟨g,0+(((a+S1'.length+1:Nat):Int):Int).toNat*6,none⟩)=_;rw [show (((a+S1'.length+1:Nat):Int):Int).toNat=(a+S1'.length)+1 by omega,ace]) rfl rfl fun w21 o21 c21=>?_);have OI:Chg (fun k=>k=g) w4 w21:=Chg.trans n20.any c21 fun k _ e=>by injection e with e;exact e.symm
    refine ai ⟨rfl,fun j hj=>OI.mono fun k _ e=>⟨iZ (N:=18) (p:=GU) (by kernel_rfl) (fun j hj=>decide_eq_true (.inr (by omega))) (fun j hj=>decide_eq_true (.inr (by omega))) hj,e⟩,?_⟩;refine aY rfl (aa8 (af ?_));refine Wu.last rfl (fC (f:=seC) (q:=x) (j:=(a+S1'.length)) (sz:=6) (cap:=cap) (fun _=>rfl) GR o21 (by rw [apn,hll]) (by rw [apn,hll];omega) (by show Value.pointer (some ⟨g,0+((((a+S1'.length+1:Nat):Int)-1):Int).toNat*6,none⟩)=_;rw [show ((((a+S1'.length+1:Nat):Int)-1):Int).toNat=(a+S1'.length) by omega,ace]) rfl rfl fun w22 o22 c22=>?_);rw [JM (by omega)] at o22;have Xr:Chg (fun k=>k=g) w4 w22:=Chg.trans OI c22 fun k _ e=>by injection e with e;exact e.symm
    refine ai ?_;refine qq6 ?_;refine ax (S1',y::S2) ⟨rfl,rfl,rfl,rfl,rfl,by show vi (((a+S1'.length+1:Nat):Int)-1)=vi ((a+S1'.length:Nat):Int);congr 1;omega,trivial⟩ ⟨by rw [hEs];simp,fun q hq=>?_,by simpa using o22,Chg.trans c4 Xr i3⟩ (by dsimp only;rw [apv];omega);rcases List.mem_cons.1 hq with rfl|hq
    ·exact .inl hk
    ·exact hS2 q hq
   ·have hz0: ¬z<0:=fun e=>hk (hz.1 e);(repeat' (first|refine bH ?_|refine bG rfl rfl ?_|refine aa0 (aa9 (af ?_))|(refine aa0 (dN rfl rfl (fun _=>af ?_) (fun _=>af ?_))<;>(first|(exfalso;omega)|skip))));refine qq6 ?_;refine ax (i+1,S1'.concat y++ [x]++S2) (sl rfl) (hfin w4 (fun q hq=>?_) (by rw [hlist];exact o4) c4) (by dsimp only;omega);have hq':y=q:=by simpa using hq
    subst hq';exact (Xq (hlt y hyE).1).2 (decide_eq_false hk)
 ·have hSi:S.length<=i-a:=by omega
  rw [anL hSi] at hE;rw [apC hSi,aoS] at oW;exact cO rfl ⟨_,rfl,E,hE,hsE,oW,cW⟩
end
theorem LM {a:Int} {n:Nat} (h:a=(n:Nat)) (hn:n<=8000000000):(IntKind.u64.wrap a).fdiv (2^(min (1:Int).toNat IntKind.u64.bits))=((n / 2:Nat):Int):=by
 subst h;have e:IntKind.u64.wrap ((n:Nat):Int)=(n:Nat):=by simp [IntKind.wrap,IntKind.bits,IntKind.signed];omega
 rw [e];have e2:(2:Int)^(min (1:Int).toNat IntKind.u64.bits)=2:=rfl;rw [e2,Int.fdiv_eq_ediv_of_nonneg _ (by omega)];omega
theorem LP {n:Nat} (hn:n<=8000000000):IntKind.i64.wrap ((n:Nat):Int)=(n:Nat):=by simp [IntKind.wrap,IntKind.bits,IntKind.signed];omega
section
variable {Pb:Nat->Prop} {w:World} {g cap L:Nat} {cf:FuncId} {cc:Array Value} {key:SE->Nm} {Pd:SE->Prop} [hcf:nN prog cf]
theorem QR {a m b:Nat} {X R Z D:List SE} {x:SE} (pre:Pre (ltE key) (cpE key) D a m b X [x] R Z) (hL:D.length=L) (own:rC Pb w (.slice (some ⟨g,0,none⟩) L cap) D) (hR0:0<R.length) (hP: ∀y∈ [x]++R,Pd y) (hc:Fa cf cc key Pd g w) (hl:L<=2000000000):
 Calls prog 132 #[.slice (some ⟨g,0,none⟩) L cap,vi a,vi m,vi b,.func (.func cf) #[] cc] w (Ret fun _ w'=> ∃D',Post (ltE key) X [x] R Z D'/\rC Pb w' (.slice (some ⟨g,0,none⟩) L cap) D'/\Chg (fun k=>k=g) w w'):=by
 have ham:a+1=m:=pre.l;have hmb:=pre.r;have hXl:=pre.x;have hbL:b<=L:=by rw [<-hL,pre.e];simp only [am7,anM];omega
 have hDa:D[a]? =some x:=by rw [pre.P8 (aap a) (by omega)];simp
 refine nM func132 rfl ntmps132 rfl ?_;(repeat' (first|refine qq4 ?_|(refine bJ rfl rfl (fun _=>?_) (fun _=>?_)<;>(first|(exfalso;omega)|skip))));refine aA (σ:=Nat×Nat) (fun q=>[(0,(.slice (some ⟨g,0,none⟩) L cap)),(1,vi a),(4,.func (.func cf) #[] cc),(10,vi q.1),(11,vi q.2)]) (fun q W=>m<=q.1/\q.1<=q.2/\q.2<=b/\(q.1=m∨ ∃y,D[q.1-1]? =some y/\ltE key y x)/\(q.2=b∨ ∃y,D[q.2]? =some y/\ltE key x y)/\New w W) (fun q=>q.2-q.1) (m,b) (sl rfl) ⟨aap _,by omega,aap _,.inl rfl,.inl rfl,ay _ _⟩ ?_;rintro ⟨i,j⟩ G W ⟨hmi,hij,hjb,g1,g2,n1⟩;dsimp only at hmi hij hjb g1 g2 n1;simp only [pq];(repeat' (first|refine Hf ?_|refine aa2 (fun _=>?_) (fun _=>?_)))
 ·refine iM rfl rfl (by omega) ?_;rw [LM (n:=i+j) (by push_cast;rfl) (by omega)];refine gK rfl ?_;rw [LP (by omega)];refine qq4 ?_;have hh:i<=(i+j) / 2/\(i+j) / 2<j:=by omega
  generalize hhe:(i+j) / 2=h at hh ⊢;obtain ⟨y,hy⟩:=nT R (k:=h-m) (by omega);have hDh:D[h]? =some y:=by rw [pre.P9 (by omega) (by omega)];exact hy
  have hyR:=aop hy;have hxP:=hP x (by simp);have hyP:=hP y (by simp [hyR]);have hcr:=pre.cr y hyR x (by simp);have o1:=own.new (nK seC) n1;have IL: ∀(w':World) (j:Nat) (xx:SE),(D)[j]? =some xx->New W w'-> ∀i:Int,i=(j:Nat)->At w' g (0+i.toNat*6) (seC xx):=fun w' j xx hx hw i hi=>by have:=(o1.new (nK seC) hw).at rfl rfl hx;rw [ace,hi,ant];exact this
  refine aV rfl (by kernel_rfl) (fun w'=>New W w') (Chg.drew _ _) ?_;intro w3 n3;(repeat' (refine aa0 (aa3 (af ?_))));refine aa0 (aa8 (af ?_));refine aa0 (bD (cs:=seC y) (fun w' hw=>IL w' (h) _ hDh hw ((h:Nat):Int) (by omega)) rfl (by rfl) (af ?_));(repeat' (refine aa0 (aa3 (af ?_))));refine aa0 (aa8 (af ?_));refine aa0 (bD (cs:=seC x) (fun w' hw=>IL w' (a) _ hDa hw ((a:Nat):Int) (by omega)) rfl (by rfl) (af ?_));refine aC rfl (bP (dst:=some 49) rfl (hc w3 (New.any (New.trans n1 n3)) y x hyP hxP) rfl ?_);rintro _ w4 ⟨⟨z,rfl,hz⟩,n4⟩;have n24:=New.trans n3 n4;have n04:=New.trans n1 n24;simp only [wI];refine ai ⟨rfl,n24,?_⟩;by_cases hk:key y<key x
  ·have hz0:=hz.2 hk;(repeat' (first|refine bH ?_|(refine aa0 (dN rfl rfl (fun _=>af ?_) (fun _=>af ?_))<;>(first|(exfalso;omega)|skip))));refine qq6 ?_;exact ax (h+1,j) (sl rfl) ⟨by dsimp only;omega,by dsimp only;omega,hjb,.inr ⟨y,by rw [ao4];exact hDh,hcr.1 (decide_eq_true hk)⟩,g2,n04⟩ (by dsimp only;omega)
  ·have hz0: ¬z<0:=fun e=>hk (hz.1 e);(repeat' (first|refine bH ?_|(refine aa0 (dN rfl rfl (fun _=>af ?_) (fun _=>af ?_))<;>(first|(exfalso;omega)|skip))));refine qq6 ?_;exact ax (i,h) (sl rfl) ⟨hmi,by dsimp only;omega,by dsimp only;omega,g1,.inr ⟨y,hDh,hcr.2 (decide_eq_false hk)⟩,n04⟩ (by dsimp only;omega)
 ·obtain rfl:i=j:=by omega
  obtain ⟨R1,R2,hR,hR1,hsr⟩:=pre.left1 (LK key) hmi hjb g1 g2;have o1:=own.new (nK seC) n1;rw [pre.e,hR] at o1;have hD:=congrArg apq pre.e;rw [hR] at hD;refine aA (σ:=Nat) (fun q=>[(0,(.slice (some ⟨g,0,none⟩) L cap)),(10,vi i),(13,vi q)]) (fun q W=>a<=q/\q+1<=i/\rC Pb W (.slice (some ⟨g,0,none⟩) L cap) (X++R1.take (q-a)++ [x]++(R1.drop (q-a)++R2++Z))/\Chg (fun k=>k=g) w W) (fun q=>i-q) a (sl rfl) ⟨aap _,by omega,by simpa using o1,n1.any⟩ ?_;rintro k G2 W2 ⟨hak,hki,o2,c2⟩;simp only [pq];(repeat' (first|refine Uu ?_|refine aa2 (fun _=>?_) (fun _=>?_)))
  ·obtain ⟨q,hq⟩:=nT R1 (k:=k-a) (by omega);have hd:R1.drop (k-a)=q::R1.drop (k+1-a):=by rw [drop_cons hq,show k-a+1=k+1-a by omega]
   have hAk:(X++R1.take (k-a)).length=k:=by rw [am7,anD];omega
   have hlist:X++R1.take (k-a)++ [x]++(R1.drop (k-a)++R2++Z)=(X++R1.take (k-a))++ [x]++ [q]++(R1.drop (k+1-a)++R2++Z):=by rw [hd];simp
   rw [hlist] at o2;have hll:((X++R1.take (k-a))++ [x]++ [q]++(R1.drop (k+1-a)++R2++Z)).length=L:=by rw [<-hL,hD];simp only [am7,anM,anD,anS];omega
   generalize hA:X++R1.take (k-a)=A at o2 hll hAk;generalize hB:R1.drop (k+1-a)++R2++Z=B at o2 hll;refine iW rfl (by kernel_rfl) (fun k w'=>Chg (fun b=>GU k=true/\b=g) W2 w') (fun k=>Chg.drew _ _) ?_;intro w20 n20;have hgp:(A++ [x]++ [q]++B)[k]? =some x:=by rw [adK,adK,anb (by omega),show k-(A).length=0 by omega];rfl
   have hgq:(A++ [x]++ [q]++B)[k+1]? =some q:=by rw [adK,adK,anb (by omega),show k+1-(A).length=1 by omega];rfl
   have hat: ∀(k:Nat) (w':World) (j:Nat) (xx:SE),GU k=false->(A++ [x]++ [q]++B)[j]? =some xx->Chg (fun b=>GU k=true/\b=g) W2 w'-> ∀i:Int,i=(j:Nat)->At w' g (0+i.toNat*6) (seC xx):=fun k w' j xx hk hx hw i hi=>by have:=(o2.chg (nK seC) hw fun _ _ e=>by rw [hk] at e;cases e.1).at rfl rfl hx;rw [ace,hi,ant];exact this
   (repeat' (first|refine aY rfl (aa3 (af ?_))|refine aY rfl (Wq.add rfl rfl (by omega) (by omega) (af ?_))));refine aY rfl (aa8 (af ?_));refine aY rfl (bD (cs:=seC (q)) (fun w' hw=>hat 9 w' (k+1) _ rfl hgq hw (((k:Nat):Int)+1) (by omega)) rfl (by rfl) (af ?_));(repeat' (refine aY rfl (aa3 (af ?_))));refine aY rfl (aa8 (af ?_));refine aY rfl (bD (cs:=seC (x)) (fun w' hw=>hat 13 w' (k) _ rfl hgp hw (((k:Nat):Int)) (by omega)) rfl (by rfl) (af ?_));refine aY rfl (aa8 (af ?_));refine iV rfl (fC (f:=seC) (q:=q) (j:=k) (sz:=6) (cap:=cap) (fun _=>rfl) GR (o2.new (nK seC) n20) (by rw [hll]) (by rw [hll];omega) (by show Value.pointer (some ⟨g,0+(((k:Nat):Int):Int).toNat*6,none⟩)=_;rw [show (((k:Nat):Int):Int).toNat=k by omega,ace]) rfl rfl fun w21 o21 c21=>?_);have OI:Chg (fun k=>k=g) W2 w21:=Chg.trans n20.any c21 fun k _ e=>by injection e with e;exact e.symm
   refine ai ⟨rfl,fun j hj=>OI.mono fun k _ e=>⟨iZ (N:=18) (p:=GU) (by kernel_rfl) (fun j hj=>decide_eq_true (.inr (by omega))) (fun j hj=>decide_eq_true (.inr (by omega))) hj,e⟩,?_⟩;refine aY rfl (aa8 (af ?_));refine Wu.last rfl (fC (f:=seC) (q:=x) (j:=k+1) (sz:=6) (cap:=cap) (fun _=>rfl) GR o21 (by rw [apn,hll]) (by rw [apn,hll];omega) (by show Value.pointer (some ⟨g,0+(((k:Nat):Int)+1:Int).toNat*6,none⟩)=_;rw [show (((k:Nat):Int)+1:Int).toNat=k+1 by omega,ace]) rfl rfl fun w22 o22 c22=>?_);rw [VZ (by omega)] at o22;have Xr:Chg (fun k=>k=g) W2 w22:=Chg.trans OI c22 fun k _ e=>by injection e with e;exact e.symm
   refine ai ?_;refine qq6 ?_;refine ax (k+1) (sl rfl) ⟨by omega,by omega,?_,Chg.trans c2 Xr i3⟩ (by omega);rw [show k+1-a=(k-a)+1 by omega,take_snoc hq, <-show k+1-a=(k-a)+1 by omega,hB, <-adK X,hA];exact o22
  ·obtain rfl:i=k+1:=by omega
   rw [anL (by omega),apC (by omega),ang] at o2;exact eX rfl ⟨_,rfl,X++(R1++ [x]++R2)++Z,⟨R1++ [x]++R2,rfl,by rw [hR];simp,hsr⟩,by simpa using o2,c2⟩
theorem OJ {a m b:Nat} {X Lf Z D:List SE} {x:SE} (pre:Pre (ltE key) (cpE key) D a m b X Lf [x] Z) (hL:D.length=L) (own:rC Pb w (.slice (some ⟨g,0,none⟩) L cap) D) (hR0:1<Lf.length) (hP: ∀y∈Lf++ [x],Pd y) (hc:Fa cf cc key Pd g w) (hl:L<=2000000000):
 Calls prog 132 #[.slice (some ⟨g,0,none⟩) L cap,vi a,vi m,vi b,.func (.func cf) #[] cc] w (Ret fun _ w'=> ∃D',Post (ltE key) X Lf [x] Z D'/\rC Pb w' (.slice (some ⟨g,0,none⟩) L cap) D'/\Chg (fun k=>k=g) w w'):=by
 have ham:=pre.l;have hmb:m+1=b:=pre.r;have hXl:=pre.x;have hbL:b<=L:=by rw [<-hL,pre.e];simp only [am7,anM];omega
 have hDm:D[m]? =some x:=by rw [pre.P9 (aap m) (by omega)];simp
 refine nM func132 rfl ntmps132 rfl ?_;(repeat' (first|refine qq6 ?_|(refine bJ rfl rfl (fun _=>?_) (fun _=>?_)<;>(first|(exfalso;omega)|skip))));refine aA (σ:=Nat×Nat) (fun q=>[(0,(.slice (some ⟨g,0,none⟩) L cap)),(2,vi m),(4,.func (.func cf) #[] cc),(14,vi q.1),(15,vi q.2)]) (fun q W=>a<=q.1/\q.1<=q.2/\q.2<=m/\(q.1=a∨ ∃y,D[q.1-1]? =some y/\ltE key y x)/\(q.2=m∨ ∃y,D[q.2]? =some y/\ltE key x y)/\New w W) (fun q=>q.2-q.1) (a,m) (sl rfl) ⟨aap _,by omega,aap _,.inl rfl,.inl rfl,ay _ _⟩ ?_;rintro ⟨i,j⟩ G W ⟨hmi,hij,hjb,g1,g2,n1⟩;dsimp only at hmi hij hjb g1 g2 n1;simp only [pq];(repeat' (first|refine Hf ?_|refine aa2 (fun _=>?_) (fun _=>?_)))
 ·refine iM rfl rfl (by omega) ?_;rw [LM (n:=i+j) (by push_cast;rfl) (by omega)];refine gK rfl ?_;rw [LP (by omega)];refine qq4 ?_;have hh:i<=(i+j) / 2/\(i+j) / 2<j:=by omega
  generalize hhe:(i+j) / 2=h at hh ⊢;obtain ⟨y,hy⟩:=nT Lf (k:=h-a) (by omega);have hDh:D[h]? =some y:=by rw [pre.P8 (by omega) (by omega)];exact hy
  have hyR:=aop hy;have hxP:=hP x (by simp);have hyP:=hP y (by simp [hyR]);have hcr:=pre.cr x (by simp) y hyR;have o1:=own.new (nK seC) n1;have IL: ∀(w':World) (j:Nat) (xx:SE),(D)[j]? =some xx->New W w'-> ∀i:Int,i=(j:Nat)->At w' g (0+i.toNat*6) (seC xx):=fun w' j xx hx hw i hi=>by have:=(o1.new (nK seC) hw).at rfl rfl hx;rw [ace,hi,ant];exact this
  refine aV rfl (by kernel_rfl) (fun w'=>New W w') (Chg.drew _ _) ?_;intro w3 n3;(repeat' (refine aa0 (aa3 (af ?_))));refine aa0 (aa8 (af ?_));refine aa0 (bD (cs:=seC x) (fun w' hw=>IL w' (m) _ hDm hw ((m:Nat):Int) (by omega)) rfl (by rfl) (af ?_));(repeat' (refine aa0 (aa3 (af ?_))));refine aa0 (aa8 (af ?_));refine aa0 (bD (cs:=seC y) (fun w' hw=>IL w' (h) _ hDh hw ((h:Nat):Int) (by omega)) rfl (by rfl) (af ?_));refine aC rfl (bP (dst:=some 101) rfl (hc w3 (New.any (New.trans n1 n3)) x y hxP hyP) rfl ?_);rintro _ w4 ⟨⟨z,rfl,hz⟩,n4⟩;have n24:=New.trans n3 n4;have n04:=New.trans n1 n24;simp only [wI];refine ai ⟨rfl,n24,?_⟩;by_cases hk:key x<key y
  ·have hz0:=hz.2 hk;(repeat' (first|refine bH ?_|refine aa0 (dM rfl (af ?_))|(refine aa0 (dN rfl rfl (fun _=>af ?_) (fun _=>af ?_))<;>(first|(exfalso;omega)|skip))));refine qq6 ?_;exact ax (i,h) (sl rfl) ⟨hmi,by dsimp only;omega,by dsimp only;omega,g1,.inr ⟨y,hDh,hcr.1 (decide_eq_true hk)⟩,n04⟩ (by dsimp only;omega)
  ·have hz0: ¬z<0:=fun e=>hk (hz.1 e);(repeat' (first|refine bH ?_|refine aa0 (dM rfl (af ?_))|(refine aa0 (dN rfl rfl (fun _=>af ?_) (fun _=>af ?_))<;>(first|(exfalso;omega)|skip))));refine qq6 ?_;exact ax (h+1,j) (sl rfl) ⟨by dsimp only;omega,by dsimp only;omega,hjb,.inr ⟨y,by rw [ao4];exact hDh,hcr.2 (decide_eq_false hk)⟩,g2,n04⟩ (by dsimp only;omega)
 ·obtain rfl:i=j:=by omega
  obtain ⟨L1,L2,hR,hR1,hsr⟩:=pre.aay (LK key) hmi hjb g1 g2;have o1:=own.new (nK seC) n1;rw [pre.e,hR] at o1;have hD:=congrArg apq pre.e;rw [hR] at hD;have hLl:Lf.length=L1.length+L2.length:=by rw [hR,am7]
  refine aA (σ:=Nat) (fun q=>[(0,(.slice (some ⟨g,0,none⟩) L cap)),(14,vi i),(17,vi q)]) (fun q W=>i<=q/\q<=m/\rC Pb W (.slice (some ⟨g,0,none⟩) L cap) (X++L1++L2.take (q-i)++ [x]++(L2.drop (q-i)++Z))/\Chg (fun k=>k=g) w W) (fun q=>q) m (sl rfl) ⟨by omega,aap _,by rw [anL (by omega),apC (by omega)];simpa using o1,n1.any⟩ ?_;rintro k0 G2 W2 ⟨hak,hki,o2,c2⟩;simp only [pq];(repeat' (first|refine Uu ?_|refine aT rfl rfl (fun _=>?_) (fun _=>?_)))
  ·obtain ⟨k,rfl⟩: ∃j,k0=j+1:=⟨k0-1,by omega⟩;obtain ⟨q,hq⟩:=nT L2 (k:=k-i) (by omega);have hd:L2.drop (k-i)=q::L2.drop (k+1-i):=by rw [drop_cons hq,show k-i+1=k+1-i by omega]
   have hAk:(X++L1++L2.take (k-i)).length=k:=by rw [am7,am7,anD];omega
   have hlist:X++L1++L2.take (k+1-i)++ [x]++(L2.drop (k+1-i)++Z)=(X++L1++L2.take (k-i))++ [q]++ [x]++(L2.drop (k+1-i)++Z):=by rw [show k+1-i=(k-i)+1 by omega,take_snoc hq];simp
   rw [hlist] at o2;have hll:((X++L1++L2.take (k-i))++ [q]++ [x]++(L2.drop (k+1-i)++Z)).length=L:=by rw [<-hL,hD];simp only [am7,anM,anD,anS];omega
   generalize hA:X++L1++L2.take (k-i)=A at o2 hll hAk;generalize hB:L2.drop (k+1-i)++Z=B at o2 hll;refine iW rfl (by kernel_rfl) (fun k w'=>Chg (fun b=>GU k=true/\b=g) W2 w') (fun k=>Chg.drew _ _) ?_;intro w20 n20;have hgp:(A++ [q]++ [x]++B)[k]? =some q:=by rw [adK,adK,anb (by omega),show k-(A).length=0 by omega];rfl
   have hgq:(A++ [q]++ [x]++B)[k+1]? =some x:=by rw [adK,adK,anb (by omega),show k+1-(A).length=1 by omega];rfl
   have hat: ∀(k:Nat) (w':World) (j:Nat) (xx:SE),GU k=false->(A++ [q]++ [x]++B)[j]? =some xx->Chg (fun b=>GU k=true/\b=g) W2 w'-> ∀i:Int,i=(j:Nat)->At w' g (0+i.toNat*6) (seC xx):=fun k w' j xx hk hx hw i hi=>by have:=(o2.chg (nK seC) hw fun _ _ e=>by rw [hk] at e;cases e.1).at rfl rfl hx;rw [ace,hi,ant];exact this
   (repeat' (first|refine aY rfl (aa3 (af ?_))|refine aY rfl (Wq.sub rfl rfl (by omega) (by omega) (af ?_))));refine aY rfl (aa8 (af ?_));refine aY rfl (bD (cs:=seC (q)) (fun w' hw=>hat 9 w' (k) _ rfl hgp hw ((((k+1:Nat):Int)-1)) (by omega)) rfl (by rfl) (af ?_));(repeat' (refine aY rfl (aa3 (af ?_))));refine aY rfl (aa8 (af ?_));refine aY rfl (bD (cs:=seC (x)) (fun w' hw=>hat 13 w' (k+1) _ rfl hgq hw (((k+1:Nat):Int)) (by omega)) rfl (by rfl) (af ?_));refine aY rfl (aa8 (af ?_));refine iV rfl (fC (f:=seC) (q:=q) (j:=k+1) (sz:=6) (cap:=cap) (fun _=>rfl) GR (o2.new (nK seC) n20) (by rw [hll]) (by rw [hll];omega) (by show Value.pointer (some ⟨g,0+(((k+1:Nat):Int):Int).toNat*6,none⟩)=_;rw [show (((k+1:Nat):Int):Int).toNat=k+1 by omega,ace]) rfl rfl fun w21 o21 c21=>?_);have OI:Chg (fun k=>k=g) W2 w21:=Chg.trans n20.any c21 fun k _ e=>by injection e with e;exact e.symm
   refine ai ⟨rfl,fun j hj=>OI.mono fun k _ e=>⟨iZ (N:=18) (p:=GU) (by kernel_rfl) (fun j hj=>decide_eq_true (.inr (by omega))) (fun j hj=>decide_eq_true (.inr (by omega))) hj,e⟩,?_⟩;refine aY rfl (aa8 (af ?_));refine Wu.last rfl (fC (f:=seC) (q:=x) (j:=k) (sz:=6) (cap:=cap) (fun _=>rfl) GR o21 (by rw [apn,hll]) (by rw [apn,hll];omega) (by show Value.pointer (some ⟨g,0+((((k+1:Nat):Int)-1):Int).toNat*6,none⟩)=_;rw [show ((((k+1:Nat):Int)-1):Int).toNat=k by omega,ace]) rfl rfl fun w22 o22 c22=>?_);rw [JM (by omega)] at o22;have Xr:Chg (fun k=>k=g) W2 w22:=Chg.trans OI c22 fun k _ e=>by injection e with e;exact e.symm
   refine ai ?_;refine qq6 ?_;refine ax k ⟨rfl,rfl,by show vi (((k+1:Nat):Int)-1)=vi ((k:Nat):Int);congr 1;omega,trivial⟩ ⟨by omega,by omega,?_,Chg.trans c2 Xr i3⟩ (by omega);rw [hd,hA,am8,hB];simpa using o22
  ·obtain rfl:i=k0:=by omega
   rw [aps,List.take_zero,anK,aoS] at o2;exact eX rfl ⟨_,rfl,X++(L1++ [x]++L2)++Z,⟨L1++ [x]++L2,rfl,by rw [hR];simpa using List.Perm.append_left L1 (apM (l₁:=[x]) (l₂:=L2)),hsr⟩,by simpa using o2,c2⟩
end
theorem TL {α:Type} {lt:α->α->Prop} {cp:α->α->Bool} {Lf R L1 R1 D X Z:List α} {a m b:Nat} (hc: ∀y∈R, ∀x∈Lf,(cp y x=true->lt y x)/\(cp y x=false->lt x y)) (sl:Srt lt Lf) (sr:Srt lt R) (h1:L1.Sublist Lf) (h2:R1.Sublist R) (e:D=X++L1++R1++Z) (hx:X.length=a) (hm:a+L1.length=m) (hb:m+R1.length=b):Pre lt cp D a m b X L1 R1 Z:=
 ⟨e,hx,hm,hb,sl.sublist h1,sr.sublist h2,fun y hy x hx=>hc y (h2.subset hy) x (h1.subset hx)⟩
section
variable {Pb:Nat->Prop} {g cap L:Nat} {cf:FuncId} {cc:Array Value} {key:SE->Nm} {Pd:SE->Prop} [hcf:nN prog cf]
theorem Cj (hl:L<=2000000000): ∀(n:Nat) {w:World} {a m b:Nat} {X Lf R Z D:List SE},b-a<=n->Pre (ltE key) (cpE key) D a m b X Lf R Z->D.length=L->rC Pb w (.slice (some ⟨g,0,none⟩) L cap) D->0<Lf.length->0<R.length->(∀y∈Lf++R,Pd y)->Fa cf cc key Pd g w->
 Calls prog 132 #[.slice (some ⟨g,0,none⟩) L cap,vi a,vi m,vi b,.func (.func cf) #[] cc] w (Ret fun _ w'=> ∃D',Post (ltE key) X Lf R Z D'/\rC Pb w' (.slice (some ⟨g,0,none⟩) L cap) D'/\Chg (fun k=>k=g) w w')
 |0,w,a,m,b,X,Lf,R,Z,D,hn,pre,hL,own,hL0,hR0,hP,hc=>by have:=pre.l;have:=pre.r;omega
 |n+1,w,a,m,b,X,Lf,R,Z,D,hn,pre,hL,own,hL0,hR0,hP,hc=>by
  have ham:=pre.l;have hmb:=pre.r;have hXl:=pre.x;have hbL:b<=L:=by rw [<-hL,pre.e];simp only [am7];omega
  by_cases hl1:Lf.length=1
  ·obtain ⟨x,rfl⟩:=List.length_eq_one_iff.1 hl1;exact QR pre hL own hR0 hP hc hl
  by_cases hr1:R.length=1
  ·obtain ⟨x,rfl⟩:=List.length_eq_one_iff.1 hr1;exact OJ pre hL own (by omega) hP hc hl
  have ih:= @Cj hl n;refine nM func132 rfl ntmps132 rfl ?_;(repeat' (first|refine Hf ?_|(refine bJ rfl rfl (fun _=>?_) (fun _=>?_)<;>(first|(exfalso;omega)|skip))));refine iM rfl rfl (by omega) ?_;rw [LM (n:=a+b) (by push_cast;rfl) (by omega)];refine gK rfl ?_;rw [LP (by omega)];generalize hmid:(a+b) / 2=mid;(repeat' (first|refine aa7 ?_|refine ai ?_|refine aP ?_));refine aN ?_;(repeat' (first|refine aa1 ?_|refine aa7 ?_|refine ai ?_|refine aP ?_|refine aQ ?_|refine Wl.add rfl rfl (by omega) (by omega) ?_));refine aN ?_;(repeat' (first|refine aa7 ?_|refine ai ?_|refine aP ?_|refine aQ ?_));refine eP (fun F W=> ∃s0 r0:Nat,agrees F [(0,(.slice (some ⟨g,0,none⟩) L cap)),(1,vi a),(2,vi m),(3,vi b),(4,.func (.func cf) #[] cc),(18,vi mid),(19,vi ((mid+m:Nat):Int)),(20,vi s0),(21,vi r0)]/\w=W/\(if mid<m then s0=mid+m-b/\r0=mid else s0=a/\r0=m)) ?_ ?_
  ·(repeat' (first|refine qq9 ?_|refine aT rfl rfl (fun _=>?_) (fun _=>?_)))
   ·exact bT ⟨mid+m-b,mid,⟨rfl,rfl,rfl,rfl,rfl,rfl,by show vi ((mid:Int)+m)=vi ((mid+m:Nat):Int);congr 1,by show vi ((mid:Int)+m-b)=vi ((mid+m-b:Nat):Int);congr 1;omega,rfl,trivial⟩,rfl,by rw [if_pos (by omega)];exact ⟨rfl,rfl⟩⟩
   ·exact bT ⟨a,m,⟨rfl,rfl,rfl,rfl,rfl,rfl,by show vi ((mid:Int)+m)=vi ((mid+m:Nat):Int);congr 1,rfl,rfl,trivial⟩,rfl,by rw [if_neg (by omega)];exact ⟨rfl,rfl⟩⟩
  rintro F W ⟨s0,r0,hF,rfl,h0⟩;rw [<-oV hF];simp only [pq];clear hF;have hb0:s0<=r0/\r0<=m/\r0<=mid/\a<=s0/\mid+m<=b+s0:=by split at h0<;>omega
  refine qq4 ?_;refine aA (σ:=Nat×Nat) (fun q=>[(0,(.slice (some ⟨g,0,none⟩) L cap)),(1,vi a),(2,vi m),(3,vi b),(4,.func (.func cf) #[] cc),(18,vi mid),(19,vi ((mid+m:Nat):Int)),(20,vi q.1),(21,vi q.2),(22,vi ((mid+m-1:Nat):Int))]) (fun q W=>s0<=q.1/\q.1<=q.2/\q.2<=r0/\(q.1=s0∨ ∃x y,D[q.1-1]? =some x/\D[mid+m-1-(q.1-1)]? =some y/\ltE key x y)/\(q.2=r0∨ ∃x y,D[q.2]? =some x/\D[mid+m-1-q.2]? =some y/\ltE key y x)/\New w W) (fun q=>q.2-q.1) (s0,r0) ⟨rfl,rfl,rfl,rfl,rfl,rfl,rfl,rfl,rfl,by show vi (((mid+m:Nat):Int)-1)=vi ((mid+m-1:Nat):Int);congr 1;omega,trivial⟩ ⟨aap _,by omega,aap _,.inl rfl,.inl rfl,ay _ _⟩ ?_;rintro ⟨i,j⟩ G W ⟨hmi,hij,hjb,g1,g2,n1⟩;dsimp only at hmi hij hjb g1 g2 n1;simp only [pq];refine aN ?_;refine aN ?_;(repeat' (first|refine aa1 ?_|refine ai ?_|refine aP ?_|refine aQ ?_|refine Wc.skip ?_|refine dV ?_|refine eG ?_|refine dJ ?_|refine dQ ?_|refine bF rfl ?_|refine dm rfl ?_|refine aa2 (fun _=>?_) (fun _=>?_)))
  ·refine Hf ?_;refine iM rfl rfl (by omega) ?_;rw [LM (n:=i+j) (by push_cast;rfl) (by omega)];refine gK rfl ?_;rw [LP (by omega)];refine qq4 ?_;have hh:i<=(i+j) / 2/\(i+j) / 2<j:=by omega
   generalize hhe:(i+j) / 2=h at hh ⊢;obtain ⟨x,hx⟩:=nT Lf (k:=h-a) (by omega);obtain ⟨y,hy⟩:=nT R (k:=mid+m-1-h-m) (by omega);have hDx:D[h]? =some x:=by rw [pre.P8 (by omega) (by omega)];exact hx
   have hDy:D[mid+m-1-h]? =some y:=by rw [pre.P9 (by omega) (by omega)];exact hy
   have hxR:=aop hx;have hyR:=aop hy;have hxP:=hP x (by simp [hxR]);have hyP:=hP y (by simp [hyR]);have hcr:=pre.cr y hyR x hxR;have o1:=own.new (nK seC) n1;have IL: ∀(w':World) (j:Nat) (xx:SE),(D)[j]? =some xx->New W w'-> ∀i:Int,i=(j:Nat)->At w' g (0+i.toNat*6) (seC xx):=fun w' j xx hx hw i hi=>by have:=(o1.new (nK seC) hw).at rfl rfl hx;rw [ace,hi,ant];exact this
   refine aV rfl (by kernel_rfl) (fun w'=>New W w') (Chg.drew _ _) ?_;intro w3 n3;(repeat' (first|refine aa0 (aa3 (af ?_))|refine aa0 (Wq.sub rfl rfl (by omega) (by omega) (af ?_))));refine aa0 (aa8 (af ?_));refine aa0 (bD (cs:=seC y) (fun w' hw=>IL w' (mid+m-1-h) _ hDy hw (((mid+m-1:Nat):Int)-(h:Nat)) (by omega)) rfl (by rfl) (af ?_));(repeat' (refine aa0 (aa3 (af ?_))));refine aa0 (aa8 (af ?_));refine aa0 (bD (cs:=seC x) (fun w' hw=>IL w' (h) _ hDx hw ((h:Nat):Int) (by omega)) rfl (by rfl) (af ?_));refine aC rfl (bP (dst:=some 169) rfl (hc w3 (New.any (New.trans n1 n3)) y x hyP hxP) rfl ?_);rintro _ w4 ⟨⟨z,rfl,hz⟩,n4⟩;have n24:=New.trans n3 n4;have n04:=New.trans n1 n24;simp only [wI];refine ai ⟨rfl,n24,?_⟩;by_cases hk:key y<key x
   ·have hz0:=hz.2 hk;(repeat' (first|refine bH ?_|refine aa0 (dM rfl (af ?_))|(refine aa0 (dN rfl rfl (fun _=>af ?_) (fun _=>af ?_))<;>(first|(exfalso;omega)|skip))));refine qq6 ?_;exact ax (i,h) (sl rfl) ⟨hmi,by dsimp only;omega,by dsimp only;omega,g1,.inr ⟨x,y,hDx,hDy,hcr.1 (decide_eq_true hk)⟩,n04⟩ (by dsimp only;omega)
   ·have hz0: ¬z<0:=fun e=>hk (hz.1 e);(repeat' (first|refine bH ?_|refine aa0 (dM rfl (af ?_))|(refine aa0 (dN rfl rfl (fun _=>af ?_) (fun _=>af ?_))<;>(first|(exfalso;omega)|skip))));refine qq6 ?_;exact ax (h+1,j) (sl rfl) ⟨by dsimp only;omega,by dsimp only;omega,hjb,.inr ⟨x,y,by rw [ao4];exact hDx,by rw [ao4];exact hDy,hcr.2 (decide_eq_false hk)⟩,g2,n04⟩ (by dsimp only;omega)
  ·obtain rfl:i=j:=by omega
   obtain ⟨L1,L2,R1,R2,ct,hL1,hR1,hL2,hR2,k1,k2,k3,k4,k5⟩:=pre.search (LK key) (by omega) (by omega) hmid.symm h0 hmi hjb g1 g2;have hLe:=ct.l;have hRe:=ct.r;have hLl:Lf.length=L1.length+L2.length:=by rw [hLe,am7]
   have hRl:R.length=R1.length+R2.length:=by rw [hRe,am7]
   have o1:=own.new (nK seC) n1;have hD:=congrArg apq pre.e;rw [pre.e,hLe,hRe] at o1;rw [hLe,hRe,hL] at hD;simp only [am7] at hD;generalize he:mid+m-i=e at hL2 hR2 k4 k5;refine aN ?_;(repeat' (first|refine aa1 ?_|refine aa7 ?_|refine ai ?_|refine aP ?_|refine aQ ?_|refine Wl.sub rfl rfl (by omega) (by omega) ?_));refine eP (fun F W=>agrees F [(0,(.slice (some ⟨g,0,none⟩) L cap)),(1,vi a),(3,vi b),(4,.func (.func cf) #[] cc),(18,vi mid),(20,vi i),(24,vi e)]/\rC Pb W (.slice (some ⟨g,0,none⟩) L cap) (X++L1++R1++L2++R2++Z)/\Chg (fun k=>k=g) w W) ?_ ?_
   ·have hei:((mid+m:Nat):Int)-i=(e:Nat):=by omega
    rw [hei];(repeat' (first|refine aa1 ?_|refine ai ?_|refine aO rfl rfl ?_|refine dH rfl rfl ?_|refine dK rfl (by conv=>{lhs;whnf}) ?_|refine xO ?_|refine aP ?_|refine aN ?_|refine aQ ?_|refine Wc.skip ?_|refine bF rfl ?_|refine dm rfl ?_|refine aa2 (fun _=>?_) (fun _=>?_)))
    ·refine aj (OH (X:=X++L1) (U:=L2) (V:=R1) (Z:=R2++Z) (a:=i) (m:=m) (b:=e) (cv:=.func (.func cf) #[] cc) (by simp only [am7];omega) (by simpa using o1) (by rw [am7];omega) (by omega) (by omega) (by omega) (by omega) hl) rfl ?_;rintro u w2 ⟨o2,c2⟩;refine qq9 ?_;exact bT ⟨⟨rfl,rfl,rfl,rfl,rfl,rfl,rfl,trivial⟩,by simpa using o2,Chg.trans n1.any c2 i3⟩
    ·obtain rfl:R1=[]:=List.length_eq_zero_iff.1 (by omega);exact bT ⟨⟨rfl,rfl,rfl,rfl,rfl,rfl,rfl,trivial⟩,by simpa using o1,n1.any⟩
    ·obtain rfl:L2=[]:=List.length_eq_zero_iff.1 (by omega);exact bT ⟨⟨rfl,rfl,rfl,rfl,rfl,rfl,rfl,trivial⟩,by simpa using o1,n1.any⟩
   rintro F W2 ⟨hF,o2,c2⟩;rw [<-oV hF];simp only [pq];clear hF;refine eP (fun F W=> ∃E1,agrees F [(0,(.slice (some ⟨g,0,none⟩) L cap)),(3,vi b),(4,.func (.func cf) #[] cc),(18,vi mid),(24,vi e)]/\E1.Perm (L1++R1)/\Srt (ltE key) E1/\rC Pb W (.slice (some ⟨g,0,none⟩) L cap) (X++E1++L2++R2++Z)/\Chg (fun k=>k=g) w W) ?_ ?_
   ·have sl1:Srt (ltE key) L1:=pre.sl.sublist (by rw [hLe];exact apw _ _);have sr1:Srt (ltE key) R1:=pre.sr.sublist (by rw [hRe];exact apw _ _);(repeat' (first|refine aa1 ?_|refine ai ?_|refine aO rfl rfl ?_|refine dH rfl rfl ?_|refine dK rfl (by conv=>{lhs;whnf}) ?_|refine xO ?_|refine aP ?_|refine aN ?_|refine aQ ?_|refine Wc.skip ?_|refine bF rfl ?_|refine dm rfl ?_|refine aa2 (fun _=>?_) (fun _=>?_)))
    ·refine aj (ih (a:=a) (m:=i) (b:=mid) (X:=X) (Lf:=L1) (R:=R1) (Z:=L2++R2++Z) (by omega) (TL pre.cr pre.sl pre.sr (by rw [hLe];exact apw _ _) (by rw [hRe];exact apw _ _) rfl hXl (by omega) (by omega)) (by simp only [am7];omega) (by simpa using o2) (by omega) (by omega) (fun y hy=>hP y (by rw [hLe,hRe];rcases List.mem_append.1 hy with h|h<;>simp [h])) (hc.chg c2)) rfl ?_;rintro u w3 ⟨D',⟨E1,rfl,p1,s1⟩,o3,c3⟩;refine qq9 ?_;exact bT ⟨E1,⟨rfl,rfl,rfl,rfl,rfl,trivial⟩,p1,s1,by simpa using o3,Chg.trans c2 c3 i3⟩
    ·obtain rfl:R1=[]:=List.length_eq_zero_iff.1 (by omega);exact bT ⟨L1,⟨rfl,rfl,rfl,rfl,rfl,trivial⟩,by simp,sl1,by simpa using o2,c2⟩
    ·obtain rfl:L1=[]:=List.length_eq_zero_iff.1 (by omega);exact bT ⟨R1,⟨rfl,rfl,rfl,rfl,rfl,trivial⟩,by simp,sr1,by simpa using o2,c2⟩
   rintro F W3 ⟨E1,hF,p1,s1,o3,c3⟩;rw [<-oV hF];simp only [pq];clear hF;have hE1:=p1.length_eq;rw [am7] at hE1;have sl2:Srt (ltE key) L2:=pre.sl.sublist (by rw [hLe];exact apx _ _);have sr2:Srt (ltE key) R2:=pre.sr.sublist (by rw [hRe];exact apx _ _);(repeat' (first|refine qq5 ?_|refine aa2 (fun _=>?_) (fun _=>?_)))
   ·refine aj (ih (a:=mid) (m:=e) (b:=b) (X:=X++E1) (Lf:=L2) (R:=R2) (Z:=Z) (by omega) (TL pre.cr pre.sl pre.sr (by rw [hLe];exact apx _ _) (by rw [hRe];exact apx _ _) rfl (by rw [am7];omega) (by omega) (by omega)) (by simp only [am7];omega) (by simpa using o3) (by omega) (by omega) (fun y hy=>hP y (by rw [hLe,hRe];rcases List.mem_append.1 hy with h|h<;>simp [h])) (hc.chg c3)) rfl ?_;rintro u w4 ⟨D',⟨E2,rfl,p2,s2⟩,o4,c4⟩;refine qq6 ?_;exact cO rfl ⟨_,rfl,_,ct.post p1 s1 p2 s2 (D':=X++E1++E2++Z) rfl,o4,Chg.trans c3 c4 i3⟩
   ·obtain rfl:R2=[]:=List.length_eq_zero_iff.1 (by omega);exact cO rfl ⟨_,rfl,_,ct.post p1 s1 (E2:=L2) (by simp) sl2 (D':=X++E1++L2++Z) rfl,by simpa using o3,c3⟩
   ·obtain rfl:L2=[]:=List.length_eq_zero_iff.1 (by omega);exact cO rfl ⟨_,rfl,_,ct.post p1 s1 (E2:=R2) (by simp) sr2 (D':=X++E1++R2++Z) rfl,by simpa using o3,c3⟩
end
end Go.Proofs.YtfbnfhhmiiahnaaGreatDoor
namespace Go.Proofs.YtfbnfhhmiiahnaaGreatDoor
open Go Wk Sy
section
def Chk (key:SE->Nm) (D0 D D':List SE) (a b:Nat):Prop:= ∃X E0 E Z,D=X++E0++Z/\D'=X++E++Z/\E.Perm E0/\X.length=a/\a+E.length=b/\Seg (ltE key) D0 D' a b
variable {key:SE->Nm} {D0 D D':List SE} {a b:Nat}
theorem Chk.len (h:Chk key D0 D D' a b):D'.length=D.length:=by
 obtain ⟨X,E0,E,Z,rfl,rfl,p,_⟩:=h;simp [p.length_eq]
theorem Chk.mem (h:Chk key D0 D D' a b): ∀y∈D',y∈D:=by
 obtain ⟨X,E0,E,Z,rfl,rfl,p,_⟩:=h;intro y hy;simp only [apN] at hy ⊢;rcases hy with (h|h)|h
 ·exact .inl (.inl h)
 ·exact .inl (.inr (p.mem_iff.1 h))
 ·exact .inr h
theorem Chk.left (h:Chk key D0 D D' a b): ∀u v,Seg (ltE key) D0 D u v->v<=a->Seg (ltE key) D0 D' u v:=by
 obtain ⟨X,E0,E,Z,rfl,rfl,p,rfl,_⟩:=h;intro u v h hv;unfold Seg at h ⊢;rw [Wj (E':=E0) hv];exact h
theorem Chk.right (h:Chk key D0 D D' a b): ∀u v,Seg (ltE key) D0 D u v->b<=u->Seg (ltE key) D0 D' u v:=by
 obtain ⟨X,E0,E,Z,rfl,rfl,p,rfl,hb,_⟩:=h;intro u v h hu;unfold Seg at h ⊢;rw [Uw (E':=E0) p.length_eq (by omega)];exact h
theorem Chk.seg (h:Chk key D0 D D' a b):Seg (ltE key) D0 D' a b:=by obtain ⟨X,E0,E,Z,_,_,_,_,_,h⟩:=h;exact h
theorem Chk.drop (h:Chk key D0 D D' a b):D'.drop b=D.drop b:=by
 obtain ⟨X,E0,E,Z,rfl,rfl,p,h1,h2,_⟩:=h;have hp:=p.length_eq;have q: ∀A:List SE,A.length=b->(A++Z).drop b=Z:=fun A h=>by rw [<-h,List.drop_left]
 rw [q _ (by rw [am7];omega),q _ (by rw [am7];omega)]
theorem Am.put {B j hi:Nat} (h:Am (ltE key) D0 D B 0 a) (ha:a=j*B) (c: ∀u v,Seg (ltE key) D0 D u v->v<=a->Seg (ltE key) D0 D' u v) (s:Seg (ltE key) D0 D' a (min (a+B) D0.length)) (hhi:hi<=a+B):Am (ltE key) D0 D' B 0 hi:=by
 intro k _ hk;have hk2:k*B<(j+1)*B:=by rw [apo];omega
 have hkj:k<j+1:=Nat.lt_of_mul_lt_mul_right hk2;rcases Nat.lt_or_eq_of_le (Nat.le_of_lt_succ hkj) with h1|rfl
 ·have h2:(k+1)*B<=j*B:=aaw B h1;have h3:k*B+B<=a:=by rw [apo] at h2;omega
  by_cases hB:B=0
  ·subst hB;omega
  refine c _ _ (h k (anq _) (by omega)) ?_;rw [apo];omega
 ·rw [apo, <-ha];exact s
theorem Am.rest {B lo lo' hi:Nat} (h:Am (ltE key) D0 D B lo hi) (hlo:lo<=lo') (c: ∀u v,Seg (ltE key) D0 D u v->lo'<=u->Seg (ltE key) D0 D' u v):Am (ltE key) D0 D' B lo' hi:=fun k h1 h2=>c _ _ (h k (Nat.le_trans hlo h1) h2) h1
theorem OL {α:Type} (l:List α) {a m b:Nat} (h1:a<=m) (h2:m<=b):(l.drop a).take (m-a)++(l.drop m).take (b-m)=(l.drop a).take (b-a):=by
 rw [show b-a=(m-a)+(b-m) by omega,List.take_add,aoa,show a+(m-a)=m by omega]
theorem TM {α:Type} {l:List α} {u v:Nat} {x:α} (h:x∈(l.drop u).take (v-u)): ∃i,u<=i/\i<v/\l[i]? =some x:=by
 obtain ⟨i,hi⟩:=List.mem_iff_getElem?.1 h;rw [aaQ] at hi;split at hi
 ·rename_i h1
  rw [ad6] at hi;exact ⟨u+i,by omega,by omega,hi⟩
 ·cases hi
theorem abd {D0:List SE} (hix:D0.Pairwise fun x y=>x.2<y.2) {i j:Nat} {x y:SE} (h:i<j) (hx:D0[i]? =some x) (hy:D0[j]? =some y):x.2<y.2:=by
 obtain ⟨h1,rfl⟩:=List.getElem?_eq_some_iff.1 hx;obtain ⟨h2,rfl⟩:=List.getElem?_eq_some_iff.1 hy;exact List.pairwise_iff_getElem.1 hix i j h1 h2 h
theorem U9 {m:Nat} (hix:D0.Pairwise fun x y=>x.2<y.2) (h1:a<=m) (h2:m<=b) (h3:b<=D.length) (s1:Seg (ltE key) D0 D a m) (s2:Seg (ltE key) D0 D m b):
 ∃X Lf R Z,Pre (ltE key) (cpE key) D a m b X Lf R Z/\Lf.length=m-a/\R.length=b-m/\(∀y∈Lf++R,y∈D)/\ ∀D',Post (ltE key) X Lf R Z D'->Chk key D0 D D' a b:=by
 have e:D=D.take a++(D.drop a).take (m-a)++(D.drop m).take (b-m)++D.drop b:=by obtain ⟨e1, -, -⟩:=Wi D (u:=a) (v:=b) (by omega) h3;rw [adK (D.take a),OL D h1 h2];exact e1
 have l0:(D.take a).length=a:=by rw [anD];omega
 have l1:((D.drop a).take (m-a)).length=m-a:=by rw [anD,anS];omega
 have l2:((D.drop m).take (b-m)).length=b-m:=by rw [anD,anS];omega
 refine ⟨D.take a,(D.drop a).take (m-a),(D.drop m).take (b-m),D.drop b,⟨e,l0,by omega,by omega,s1.2,s2.2,fun y hy x hx=>?_⟩,l1,l2,fun y hy=>by rw [e];simp only [apN] at hy ⊢;rcases hy with h|h;exact .inl (.inl (.inr h));exact .inl (.inr h),?_⟩
 ·obtain ⟨i,_,hi,hx0⟩:=TM (s1.1.mem_iff.1 hx);obtain ⟨j,hj,_,hy0⟩:=TM (s2.1.mem_iff.1 hy);exact Xq (abd hix (by omega) hx0 hy0)
 ·rintro D' ⟨E,rfl,hp,hs⟩;have hE:=hp.length_eq;rw [am7,l1,l2] at hE;refine ⟨_,(D.drop a).take (m-a)++(D.drop m).take (b-m),E,_,by rw [<-adK];exact e,rfl,hp,l0,by omega,?_⟩;unfold Seg;rw [Wh l0 (by omega)];exact ⟨hp.trans (by rw [<-OL D0 h1 h2];exact s1.1.append s2.1),hs⟩
theorem QS {X S E Z:List SE} (hX:X.length=a) (hS:a+S.length=b) (hD:(D0.drop a).take (b-a)=S) (hp:E.Perm S) (hs:Srt (ltE key) E):Chk key D0 (X++S++Z) (X++E++Z) a b:=by
 have:=hp.length_eq;refine ⟨X,S,E,Z,rfl,rfl,hp,hX,by omega,?_⟩;unfold Seg;rw [Wh hX (by omega),hD];exact ⟨hp,hs⟩
end
end Go.Proofs.YtfbnfhhmiiahnaaGreatDoor
namespace Go.Proofs.YtfbnfhhmiiahnaaGreatDoor
open Go Wk Sy
open Go.RowKit (Below)
attribute [local irreducible] Go.Calls
section
variable {Pb:Nat->Prop} {w:World} {g cap L:Nat} {cf:FuncId} {cc:Array Value} {key:SE->Nm} {Pd:SE->Prop} [hcf:nN prog cf]
theorem Cm {w:World} {a b:Nat} {D0 D:List SE} (hix:D0.Pairwise fun x y=>x.2<y.2) (hd:D.drop a=D0.drop a) (hab:a<=b) (hbL:b<=L) (hL:D.length=L) (own:rC Pb w (.slice (some ⟨g,0,none⟩) L cap) D) (hP: ∀y∈D,Pd y) (hc:Fa cf cc key Pd g w) (hl:L<=2000000000):
 Calls prog 131 #[.slice (some ⟨g,0,none⟩) L cap,vi a,vi b,.func (.func cf) #[] cc] w (Ret fun _ w'=> ∃D',Chk key D0 D D' a b/\rC Pb w' (.slice (some ⟨g,0,none⟩) L cap) D'/\Chg (fun k=>k=g) w w'):=by
 obtain ⟨e,h1,h2⟩:=Wi D hab (by omega:b<=D.length);rw [e] at own;have hs:((D.drop a).take (b-a)).Pairwise fun x y=>x.2<y.2:=by rw [hd];exact (hix.sublist (List.drop_sublist _ _)).sublist (List.take_sublist _ _)
 refine (IK (a:=a) (b:=b) (by rw [<-e];exact hL) own h1 (by omega) hs (fun x hx=>hP x (apK (List.mem_of_mem_take hx))) hc hl).mono ?_;rintro _ w' ⟨_,rfl,E,hp,hs,o,c⟩;refine ⟨_,rfl,_,?_,o,c⟩;have:=QS (D0:=D0) (b:=b) (Z:=D.drop b) h1 (by omega) (by rw [hd]) hp hs;rw [<-e] at this;exact this
theorem Kr {w:World} {a m b:Nat} {D0 D:List SE} (hix:D0.Pairwise fun x y=>x.2<y.2) (s1:Seg (ltE key) D0 D a m) (s2:Seg (ltE key) D0 D m b) (h1:a<m) (h2:m<b) (hbL:b<=L) (hL:D.length=L) (own:rC Pb w (.slice (some ⟨g,0,none⟩) L cap) D) (hP: ∀y∈D,Pd y) (hc:Fa cf cc key Pd g w) (hl:L<=2000000000):
 Calls prog 132 #[.slice (some ⟨g,0,none⟩) L cap,vi a,vi m,vi b,.func (.func cf) #[] cc] w (Ret fun _ w'=> ∃D',Chk key D0 D D' a b/\rC Pb w' (.slice (some ⟨g,0,none⟩) L cap) D'/\Chg (fun k=>k=g) w w'):=by
 obtain ⟨X,Lf,R,Z,pre,k1,k2,k3,k4⟩:=U9 hix (by omega) (by omega) (by omega:b<=D.length) s1 s2;refine (Cj hl _ (aap _) pre hL own (by omega) (by omega) (fun y hy=>hP y (k3 y hy)) hc).mono ?_;rintro _ w' ⟨_,rfl,D',hp,o,c⟩;exact ⟨_,rfl,D',k4 D' hp,o,c⟩
theorem OM {D0:List SE} (hix:D0.Pairwise fun x y=>x.2<y.2) (hL:D0.length=L) (own:rC Pb w (.slice (some ⟨g,0,none⟩) L cap) D0) (hP: ∀y∈D0,Pd y) (hc:Fa cf cc key Pd g w) (hl:L<=400000000):
 Calls prog 98 #[.slice (some ⟨g,0,none⟩) L cap,vi L,.func (.func cf) #[] cc] w (Ret fun _ w'=> ∃E,E.Perm D0/\Srt (ltE key) E/\rC Pb w' (.slice (some ⟨g,0,none⟩) L cap) E/\Chg (fun k=>k=g) w w'):=by
 refine nM func98 rfl ntmps98 rfl ?_;refine qq2 ?_;refine aA (σ:=Nat×List SE) (fun q=>[(0,.slice (some ⟨g,0,none⟩) L cap),(1,vi L),(2,.func (.func cf) #[] cc),(6,vi (20:Nat)),(7,vi ((q.1*20:Nat):Int)),(8,vi ((q.1*20+20:Nat):Int))]) (fun q W=>q.1*20<=L/\q.2.length=L/\q.2.drop (q.1*20)=D0.drop (q.1*20)/\Am (ltE key) D0 q.2 20 0 (q.1*20)/\(∀y∈q.2,Pd y)/\rC Pb W (.slice (some ⟨g,0,none⟩) L cap) q.2/\Chg (fun k=>k=g) w W) (fun q=>L-q.1*20) (0,D0) (sl rfl) ⟨by simp,hL,rfl,fun k _ h=>by simp at h,hP,own,ay _ _⟩ ?_;rintro ⟨j,D⟩ G W ⟨hj,hDl,hdr,hB,hPD,o1,c1⟩;dsimp only at hj hDl hdr hB hPD o1 c1;simp only [pq];refine aN ?_;refine aN ?_;(repeat' (first|refine aa1 ?_|refine ai ?_|refine aP ?_|refine aQ ?_|refine Wc.skip ?_|refine dV ?_|refine eG ?_|refine dJ ?_|refine dQ ?_|refine bF rfl ?_|refine dm rfl ?_|refine dR rfl rfl (fun _=>?_) (fun _=>?_)))
 ·refine Hf ?_;refine aj (Cm (a:=j*20) (b:=j*20+20) hix hdr (by omega) (by omega) hDl o1 hPD (hc.chg c1) (by omega)) rfl ?_;rintro u w2 ⟨D',ck,o2,c2⟩;refine qq6 ?_;refine ax (j+1,D') ⟨rfl,rfl,rfl,rfl,by show vi ((j*20+20:Nat):Int)=vi (((j+1)*20:Nat):Int);congr 1;omega,by show vi (((j*20+20:Nat):Int)+20)=vi (((j+1)*20+20:Nat):Int);congr 1;omega,trivial⟩ ⟨by dsimp only;omega,by rw [ck.len];exact hDl,?_,?_,fun y hy=>hPD y (ck.mem y hy),o2,Chg.trans c1 c2 i3⟩ (by dsimp only;omega)
  ·dsimp only;rw [show (j+1)*20=j*20+20 by omega,ck.drop, <-aoa, <-aoa,hdr]
  ·exact Am.put hB rfl ck.left (by rw [anh (by omega)];exact ck.seg) (by dsimp only;omega)
 refine aN ?_;(repeat' (first|refine aa1 ?_|refine aQ ?_));refine aj (Cm (a:=j*20) (b:=L) hix hdr (by omega) (aap _) hDl o1 hPD (hc.chg c1) (by omega)) rfl ?_;rintro u w2 ⟨D2,ck2,o2,c2⟩;(repeat' (first|refine ai ?_|refine aP ?_));have hB2:Am (ltE key) D0 D2 20 0 L:=Am.put hB rfl ck2.left (by rw [hL,apr (by omega)];exact ck2.seg) (by omega);have hl2:D2.length=L:=by rw [ck2.len];exact hDl
 have hP2: ∀y∈D2,Pd y:=fun y hy=>hPD y (ck2.mem y hy);have c2':=Chg.trans c1 c2 i3;clear hB hDl hdr ck2 hPD;refine Wc.block ?_;refine aA (σ:=Nat×List SE) (fun q=>[(0,.slice (some ⟨g,0,none⟩) L cap),(1,vi L),(2,.func (.func cf) #[] cc),(6,vi q.1)]) (fun q W=>20<=q.1/\q.1<=2*L+20/\q.2.length=L/\Am (ltE key) D0 q.2 q.1 0 L/\(∀y∈q.2,Pd y)/\rC Pb W (.slice (some ⟨g,0,none⟩) L cap) q.2/\Chg (fun k=>k=g) w W) (fun q=>2*L+20-q.1) (20,D2) (sl rfl) ⟨aap _,by omega,hl2,hB2,hP2,o2,c2'⟩ ?_;clear hB2 hl2 hP2 o2 c2 o1 c1 c2';rintro ⟨bs,D⟩ G W ⟨hbs,aij,hDl,hB,hPD,o1,c1⟩;dsimp only at hbs aij hDl hB hPD o1 c1;simp only [pq];refine aN ?_;refine aN ?_;(repeat' (first|refine aa1 ?_|refine ai ?_|refine aP ?_|refine aQ ?_|refine Wc.skip ?_|refine dV ?_|refine eG ?_|refine dJ ?_|refine dQ ?_|refine bF rfl ?_|refine dm rfl ?_|refine aa2 (fun _=>?_) (fun _=>?_)))
 ·refine Wc.block ?_;refine aN ?_;(repeat' (first|refine aa1 ?_|refine aa7 ?_|refine ai ?_|refine aP ?_|refine aQ ?_|refine jd rfl rfl (by omega) (by omega) ?_));refine aN ?_;refine Wc.block ?_;refine aA (σ:=Nat×List SE) (fun q=>[(0,.slice (some ⟨g,0,none⟩) L cap),(1,vi L),(2,.func (.func cf) #[] cc),(6,vi bs),(7,vi ((q.1*(2*bs):Nat):Int)),(8,vi ((q.1*(2*bs)+2*bs:Nat):Int))]) (fun q W=>q.1*(2*bs)<=L/\q.2.length=L/\Am (ltE key) D0 q.2 (2*bs) 0 (q.1*(2*bs))/\Am (ltE key) D0 q.2 bs (q.1*(2*bs)) L/\(∀y∈q.2,Pd y)/\rC Pb W (.slice (some ⟨g,0,none⟩) L cap) q.2/\Chg (fun k=>k=g) w W) (fun q=>L-q.1*(2*bs)) (0,D) ⟨rfl,rfl,rfl,rfl,by show vi 0=vi ((0*(2*bs):Nat):Int);rw [anV];rfl,by show vi (2*(bs:Int))=vi ((0*(2*bs)+2*bs:Nat):Int);rw [anV];congr 1;omega,trivial⟩ ⟨by simp,hDl,fun k _ h=>by simp at h,by simpa using hB,hPD,o1,c1⟩ ?_;clear hB hDl hPD o1 c1;rintro ⟨j,D⟩ G W ⟨hj,hDl,hB1,hB2,hPD,o1,c1⟩;dsimp only at hj hDl hB1 hB2 hPD o1 c1;simp only [pq];generalize ha:j*(2*bs)=a at hj hB1 hB2 ⊢;have ek1:2*j*bs=a:=by rw [<-ha,anZ 2 j,Nat.mul_assoc]
  have ek2:(2*j+1)*bs=a+bs:=by rw [apo,ek1]
  have ek3:(2*j+1+1)*bs=a+2*bs:=by rw [apo,ek2];omega
  have ek4:(j+1)*(2*bs)=a+2*bs:=by rw [apo,ha]
  have hs1:a<L->Seg (ltE key) D0 D a (min (a+bs) L):=fun h=>by have:=hB2 (2*j) (by omega) (by omega);rw [ek1,ek2,hL] at this;exact this
  have hs2:a+bs<L->Seg (ltE key) D0 D (a+bs) (min (a+2*bs) L):=fun h=>by have:=hB2 (2*j+1) (by omega) (by omega);rw [ek2,ek3,hL] at this;exact this
  refine aN ?_;refine aN ?_;(repeat' (first|refine aa1 ?_|refine ai ?_|refine aP ?_|refine aQ ?_|refine Wc.skip ?_|refine dV ?_|refine eG ?_|refine dJ ?_|refine dQ ?_|refine bF rfl ?_|refine dm rfl ?_|refine dR rfl rfl (fun _=>?_) (fun _=>?_)))
  ·refine Hf ?_;have h1:=hs1 (by omega);have h2:=hs2 (by omega);rw [anh (by omega)] at h1 h2;refine aj (Kr (a:=a) (m:=a+bs) (b:=a+2*bs) hix h1 h2 (by omega) (by omega) (by omega) hDl o1 hPD (hc.chg c1) (by omega)) rfl ?_;rintro u w2 ⟨D',ck,o2,c2⟩;refine qq6 ?_;refine ax (j+1,D') ⟨rfl,rfl,rfl,rfl,by show vi ((a+2*bs:Nat):Int)=vi (((j+1)*(2*bs):Nat):Int);rw [ek4],by show vi (((a+2*bs:Nat):Int)+2*(bs:Int))=vi (((j+1)*(2*bs)+2*bs:Nat):Int);rw [ek4];congr 1,trivial⟩ ⟨by dsimp only;omega,by rw [ck.len];exact hDl,?_,?_,fun y hy=>hPD y (ck.mem y hy),o2,Chg.trans c1 c2 i3⟩ (by dsimp only;omega)
   ·dsimp only;rw [ek4];exact Am.put hB1 ha.symm ck.left (by rw [hL,anh (by omega)];exact ck.seg) (aap _)
   ·dsimp only;rw [ek4];exact Am.rest hB2 (by omega) ck.right
  ·refine eP (fun F W=> ∃D',agrees F [(0,.slice (some ⟨g,0,none⟩) L cap),(1,vi L),(2,.func (.func cf) #[] cc),(6,vi bs)]/\D'.length=L/\Am (ltE key) D0 D' (2*bs) 0 L/\(∀y∈D',Pd y)/\rC Pb W (.slice (some ⟨g,0,none⟩) L cap) D'/\Chg (fun k=>k=g) w W) ?_ ?_
   ·(repeat' (first|refine qq9 ?_|refine aa2 (fun _=>?_) (fun _=>?_)))
    ·have h1:=hs1 (by omega);have h2:=hs2 (by omega);rw [anh (by omega)] at h1;rw [apr (by omega)] at h2;refine aj (Kr (a:=a) (m:=a+bs) (b:=L) hix h1 h2 (by omega) (by omega) (aap _) hDl o1 hPD (hc.chg c1) (by omega)) rfl ?_;rintro u w2 ⟨D',ck,o2,c2⟩;refine qq9 ?_;exact bT ⟨D',⟨rfl,rfl,rfl,rfl,trivial⟩,by rw [ck.len];exact hDl,Am.put hB1 ha.symm ck.left (by rw [hL,apr (by omega)];exact ck.seg) (by omega),fun y hy=>hPD y (ck.mem y hy),o2,Chg.trans c1 c2 i3⟩
    ·refine bT ⟨D,⟨rfl,rfl,rfl,rfl,trivial⟩,hDl,?_,hPD,o1,c1⟩;by_cases haL:a<L
     ·have h1:=hs1 haL;exact Am.put hB1 ha.symm (fun _ _ h _=>h) (by rw [hL,apr (by omega)];rw [apr (by omega)] at h1;exact h1) (by omega)
     ·obtain rfl:a=L:=by omega
      exact hB1
   rintro F W2 ⟨D',hF,hl',hB',hP',o2,c2⟩;rw [<-oV hF];simp only [pq];clear hF;refine qq6 ?_;exact ax (2*bs,D') ⟨rfl,rfl,rfl,by show vi ((bs:Int)*2)=vi ((2*bs:Nat):Int);congr 1;omega,trivial⟩ ⟨by dsimp only;omega,by dsimp only;omega,hl',hB',hP',o2,c2⟩ (by dsimp only;omega)
 ·have hp:D.Perm D0/\Srt (ltE key) D:=by
   by_cases h0:L=0
   ·rw [h0] at hDl hL;rw [List.length_eq_zero_iff.1 hDl,List.length_eq_zero_iff.1 hL];exact ⟨List.Perm.refl _,by simp⟩
   ·have:=hB 0 (by omega) (by omega);unfold Seg at this;rw [anV,hL,apr (by omega),anK,anK,Nat.sub_zero,anL (by omega),anL (by omega)] at this;exact this
  exact cO rfl ⟨_,rfl,D,hp.1,hp.2,o1,c1⟩
theorem GV {D0:List SE} (hix:D0.Pairwise fun x y=>x.2<y.2) (hL:D0.length=L) (own:rC Pb w (.slice (some ⟨g,0,none⟩) L cap) D0) (hP: ∀y∈D0,Pd y) (hc:Fa cf cc key Pd g w) (hl:L<=400000000):
 Calls prog 73 #[.slice (some ⟨g,0,none⟩) L cap,.func (.func cf) #[] cc] w (Ret fun _ w'=> ∃E,E.Perm D0/\Srt (ltE key) E/\rC Pb w' (.slice (some ⟨g,0,none⟩) L cap) E/\Chg (fun k=>k=g) w w'):=by
 refine nM func73 rfl ntmps73 rfl ?_;(repeat' (first|refine aa1 ?_|refine bU rfl ?_|refine aQ ?_));refine aj (OM hix hL own hP hc hl) rfl ?_;rintro u w2 ⟨E,h1,h2,o2,c2⟩;refine qq6 ?_;exact cO rfl ⟨_,rfl,E,h1,h2,o2,c2⟩
end
end Go.Proofs.YtfbnfhhmiiahnaaGreatDoor
namespace Go.Proofs.YtfbnfhhmiiahnaaGreatDoor.Wk
open Go Go.RowKit
section
variable {P:Program} {ops:Array Oper} {C:World->Prop} {Q:Exit->Act->World->Prop}
def okV (ops:Array Oper):Bool:=
 Region.noSelect ops&&(ab8 ops.size).all (fun j=>(ab8 j).all fun i=>Hy ops i j)&&
 (ab8 ops.size).all (fun j=>match ops[j]? with|some o=>o.after.all fun e=> !Region.binds .any e||decide (e.on<j)|none=>true)
theorem Va {j:Nat} {post:List Nat} (hjn:j<ops.size) (hpost:j+1=ops.size->post=[]) (hQ: ∀e a w,e≠ .normal-> ¬Q e a w) (hQC: ∀a w,Q .normal a w->C w): ∀(pre:List Nat) (a:Act) (w:World),(∀i∈pre,Free ops i j)->C w->TS P ops C Q (pre++j::post) a w->
 wpOp P ops QF j (fun a' w'=>C w'/\TS P ops C Q (pre++post) a' w') a w:=by
 intro pre a w hf hC h;obtain ⟨oj,hj⟩: ∃oj,ops[j]? =some oj:=⟨ops[j],aaX hjn⟩;cases hq:isQ ops j with
 |true=>
  obtain ⟨v,hy,ht⟩:=AL hj hq pre a w hf hC h;have hrj:readB oj.op=true:=by unfold isQ at hq;rw [hj] at hq;exact hq
  exact iD hj hy hrj hC ⟨hC,ht⟩
 |false=>
  induction pre generalizing a with
  |nil=>
   rw [ang,TS,if_neg (by rw [hq];simp)] at h;by_cases hp:j+1=ops.size
   ·rw [if_pos hp] at h;rw [ang,hpost hp];exact DY hQ (fun a' w' h'=>⟨hQC _ _ h',h'⟩) h
   ·rw [if_neg hp] at h;exact h
  |cons i pre ih=>
   obtain ⟨⟨oi,oj',hi,hj',h1,h2,s1,s2⟩,hone,_⟩:=hf i (by simp);rw [hj] at hj';cases hj';have hqi:isQ ops i=true:=by rcases hone with h|h;exact h;rw [hq] at h;cases h
   rw [am8,TS,if_pos hqi] at h;obtain ⟨o,vi,ho,hy,ht⟩:=h;rw [hi] at ho;cases ho;have:=ih _ (fun k hk=>hf k (by simp [hk])) ht;refine wpOp_mono (fun a' w' h'=>?_) (wpOp_put hj h1 s1 s2 hy this);obtain ⟨hy',hC',ht'⟩:=h';refine ⟨hC',?_⟩;rw [am8,TS,if_pos hqi];exact ⟨oi,vi,hi,hy',ht'⟩
theorem LQ {Q2:Exit->Act->World->Prop} (hQ: ∀e a w,e≠ .normal-> ¬Q e a w) (hQC: ∀a w,Q .normal a w->C w) (hQ2: ∀a w,Q .normal a w->Q2 .normal a w) (hok:okV ops=true): ∀(fuel:Nat) (listed:Array Bool) (a:Act) (w:World),listed.size=ops.size->(left ops listed).length=fuel->Ap ops listed->(fuel≠0->C w)->TS P ops C Q (left ops listed) a w->wpAny P .any ops Q2 fuel listed a w:=by
 simp only [okV,ann] at hok;obtain ⟨⟨hns,NF⟩,hdown⟩:=hok;have hsel:=Region.noSelect_spec hns;have rdy: ∀listed:Array Bool,listed.size=ops.size-> ∀i,i∈Region.ready .any ops listed->i∈left ops listed:=by intro listed hs i hi;obtain ⟨h0,o,ho,_⟩:=mem_ready.1 hi;unfold left;rw [anj,ano];exact ⟨(Array.getElem?_eq_some_iff.1 ho).1,by simp [h0]⟩
 intro fuel;induction fuel with
 |zero=>intro listed a w hs hl hcl hC h;have hnil:left ops listed=[]:=anf hl;rw [hnil] at h;refine ⟨?_,hQ2 _ _ h⟩;rw [List.eq_nil_iff_forall_not_mem];intro i hi;have:=rdy listed hs i hi;rw [hnil] at this;cases this
 |succ fuel ih=>
  intro listed a w hs hl hcl hC h;replace hC:=hC (by simp);refine ⟨fun h0=>?_,fun j hj=>?_⟩
  ·exfalso;cases hL:left ops listed with
   |nil=>rw [hL] at hl;cases hl
   |cons i l=>
    have hmem:i∈left ops listed:=by rw [hL];simp
    have hmem':=hmem;unfold left at hmem;rw [anj,ano] at hmem;have hall: ∀k,k<i->listed.getD k false=true:=by
     intro k hk;have hks:k<ops.size:=by omega
     cases hb:listed.getD k true with
     |true=>simpa [ab9,hs,hks] using hb
     |false=>
      have hkm:k∈left ops listed:=by unfold left;rw [anj,ano];exact ⟨hks,by simp [hb]⟩
      have hsort:(left ops listed).Pairwise (· < ·):=List.Pairwise.sublist anz anQ;rw [hL] at hkm hsort;rcases List.mem_cons.1 hkm with e|e
      ·omega
      ·have:=(List.pairwise_cons.1 hsort).1 k e;omega
    have:i∈Region.ready .any ops listed:=by refine mem_ready.2 ⟨by simpa using hmem.2,ops[i],aaX hmem.1,fun e he hb=>?_⟩;have h3:=List.all_eq_true.1 hdown i (List.mem_range.2 hmem.1);rw [aaX hmem.1] at h3;have h4:=Array.all_eq_true'.1 h3 e he;rw [hb] at h4;exact hall e.on (by simpa using h4)
    rw [h0] at this;cases this
  ·obtain ⟨pre,post,hL⟩:=List.append_of_mem (rdy listed hs j hj);rw [hL] at h;obtain ⟨_,oj,hoj,_⟩:=mem_ready.1 hj;have hjs:j<ops.size:=(Array.getElem?_eq_some_iff.1 hoj).1;have hnd:(left ops listed).Nodup:=List.Nodup.sublist anz List.nodup_range;have hsort:(left ops listed).Pairwise (· < ·):=List.Pairwise.sublist anz anQ;have KT: ∀i∈left ops listed,i<ops.size/\listed.getD i true=false:=fun i hi=>by unfold left at hi;rw [anj,ano] at hi;exact ⟨hi.1,by simpa using hi.2⟩
   have xY: ∀k,k∈ahead ops ops.size [j]->k=j∨listed.getD k false=true:=xh hcl hj _ _ (by simp);have hfree: ∀i∈pre,Free ops i j:=by
    intro i hi;have him:i∈left ops listed:=by rw [hL];simp [hi]
    obtain ⟨his,hun⟩:=KT i him;have hij:i<j:=by rw [hL] at hsort;exact (List.pairwise_append.1 hsort).2.2 i hi j (by simp)
    have h3:=List.all_eq_true.1 (List.all_eq_true.1 NF j (List.mem_range.2 hjs)) i (List.mem_range.2 hij);unfold Hy at h3;simp only [Bool.or_eq_true,ann,aaX his,aaX hjs] at h3;rcases h3 with h3|⟨h3,h4,h5⟩
    ·exfalso;rcases xY i (by simpa using h3) with e|e
     ·omega
     ·simp [ab9,hs,his] at hun e;rw [hun] at e;cases e
    ·exact ⟨⟨_,_,aaX his,aaX hjs,h4,h5,fun cs b=>hsel i _ cs b (aaX his),fun cs b=>hsel j _ cs b (aaX hjs)⟩,h3,by omega⟩
   have hpo:j+1=ops.size->post=[]:=by
    intro hje;cases post with
    |nil=>rfl
    |cons k post=>
     have hkm:k∈left ops listed:=by rw [hL];simp
     have h1:=(KT k hkm).1;rw [hL] at hsort;have h2:=(List.pairwise_append.1 hsort).2.1;have:=(List.pairwise_cons.1 h2).1 k (by simp);omega
   have hset:left ops (listed.setIfInBounds j true)=pre++post:=by rw [Hz hs hjs];exact zI hnd hL
   have hlen:(pre++post).length=fuel:=by have:=hl;rw [hL] at this;simp at this ⊢;omega
   have hcl':=hcl.set hj;exact zD (fun a' w' h'=>ih _ a' w' (by simpa using hs) (by rw [hset];exact hlen) hcl' (fun _=>h'.1) (by rw [hset];exact h'.2)) (Va hjs hpo hQ hQC pre a w hfree hC h)
end
section
variable {P:Program} {n:Nat} {ds:List Deferred} {Q:Po} {F:Fr} {ops:List Oper} {C:World->Prop} {w:World}
theorem nD {rid:Nat} (hm:P.follows .mixedOrders=true) (hB:okV ops.toArray=true) (C:World->Prop) (hC:C w.drew) (h: ∀w',New w w'->Wt P n ds C (fun e F w=>e=.normal/\C w/\Q .normal F w) ops ops F w'):Wc P n ds Q (.region rid ops.toArray true) F w:=by
 unfold Wc;refine wp_region_any hm ?_;have hleft:left ops.toArray (anp ops.toArray.size false)=(ab8 ops.length).map (0+ ·):=by unfold left;rw [show ((fun x=>0+x):Nat->Nat)=id from funext fun x=>ace x,List.map_id];simp only [List.size_toArray];refine List.filter_eq_self.2 fun k hk=>?_;have:=List.mem_range.1 hk;simp [ab9,anB,this]
 have h0:Ap ops.toArray (anp ops.toArray.size false):=by intro j o hj;exfalso;simp only [ab9,anB] at hj;split at hj<;>simp at hj
 refine LQ (C:=C) (Q:=QA n ds (fun e F w=>e=.normal/\C w/\Q .normal F w)) (by rintro e a w he ⟨F,_,h,_⟩;exact he h) (by rintro a w ⟨F,_,_,hC,_⟩;exact hC) (by rintro a w ⟨F,e,_,_,hq⟩;exact ⟨F,e,hq⟩) hB _ _ _ _ (by simp) (by rw [hleft];simp) h0 (fun _=>hC) ?_;rw [hleft];exact AO ops 0 F w.drew (fun j=>by rw [ace]) (h _ (Chg.drew _ _))
end
end Go.Proofs.YtfbnfhhmiiahnaaGreatDoor.Wk
namespace Go.Proofs.YtfbnfhhmiiahnaaGreatDoor
open Go Wk
open Go.RowKit (Below)
attribute [local irreducible] Go.Calls
theorem Dp: ∀(l:List Nd) (i:Nat) (dp pt:List Int) (sn:List Kid),(wM i dp pt sn l).2.isSome=true->
 (∀j x,l[j]? =some x->i+j≠0->(x.parent,x.name)∉sn)/\(∀j k x y,j<k->l[j]? =some x->l[k]? =some y->i+j≠0->(x.parent,x.name)≠(y.parent,y.name))
 | [],_,_,_,_,_=>⟨fun j x h=>by simp at h,fun j k x y _ h=>by simp at h⟩
 |z::r,i,dp,pt,sn,h=>by
  rw [wM] at h;split at h
  ·cases h
  ·split at h
   ·rename_i h0
    subst h0;split at h
    ·cases h
    ·obtain ⟨a,b⟩:=Dp r 1 _ _ _ h;refine ⟨fun j x hx hj=>?_,fun j k x y hjk hx hy hj=>?_⟩
     ·cases j with
      |zero=>exact absurd rfl hj
      |succ j=>exact a j x (by simpa using hx) (by omega)
     ·cases j with
      |zero=>exact absurd rfl hj
      |succ j=>cases k with
       |zero=>omega
       |succ k=>exact b j k x y (by omega) (by simpa using hx) (by simpa using hy) (by omega)
   ·rename_i h0
    split at h
    ·cases h
    ·split at h
     ·cases h
     ·rename_i h3
      have hz:(z.parent,z.name)∉sn:=fun e=>h3 (.inr (.inr (.inr (List.contains_iff_mem.2 e))));obtain ⟨a,b⟩:=Dp r (i+1) _ _ _ h;refine ⟨fun j x hx hj=>?_,fun j k x y hjk hx hy hj=>?_⟩
      ·cases j with
       |zero=>simp at hx;subst hx;exact hz
       |succ j=>exact fun e=>a j x (by simpa using hx) (by omega) (by simp [e])
      ·cases k with
       |zero=>omega
       |succ k=>cases j with
        |zero=>simp at hx;subst hx;exact fun e=>a k y (by simpa using hy) (by omega) (by simp [<-e])
        |succ j=>exact b j k x y (by omega) (by simpa using hx) (by simpa using hy) (by omega)
theorem Zh {t:List Nd} (ht:og t=true) {i j:Nat} {x y:Nd} (hx:t[i]? =some x) (hy:t[j]? =some y) (hi:i≠0) (hj:j≠0) (h1:x.parent=y.parent) (h2:x.name=y.name):i=j:=by
 have h:=ht;unfold og at h;rw [ann] at h;have hd:=(Dp t 0 [] [] [] h.1).2;rcases Nat.lt_trichotomy i j with hlt|he|hlt
 ·exact absurd (by rw [h1,h2]) (hd i j x y hlt hx hy (by omega))
 ·exact he
 ·exact absurd (by rw [h1,h2]) (hd j i y x hlt hy hx (by omega))
theorem Vb {t:List Nd} (ht:og t=true): ∀(a b:Nat),a<t.length->b<t.length->yR t a=yR t b->a=b:=by
 intro a;induction a using Nat.strongRecOn with
 |ind a ih=>
  intro b ha hb h;obtain ⟨x,hx⟩:=nT t ha;obtain ⟨y,hy⟩:=nT t hb;by_cases a0:a=0
  ·by_cases b0:b=0
   ·omega
   ·rw [tV ht hy b0,a0,xq] at h;simp at h
  ·by_cases b0:b=0
   ·rw [tV ht hx a0,b0,xq] at h;simp at h
   ·rw [tV ht hx a0,tV ht hy b0] at h;obtain ⟨h1,h2⟩:=List.append_inj' h rfl;have ka:=(qK ht hx).kid a0;have kb:=(qK ht hy).kid b0;have hp:=ih x.parent.toNat (by omega) y.parent.toNat (by omega) (by omega) h1;exact Zh ht hx hy a0 b0 (by omega) (by simpa using h2)
theorem Fb {t:List Nd} (ht:og t=true) {a b:Nat} (ha:a<t.length) (hb:b<t.length) (h:oI t a=oI t b):a=b:=
 Vb ht a b ha hb (UB (fun n hn=>(zN ht a n hn).1) (fun n hn=>(zN ht b n hn).1) h)
def rkF (cs:List Cd) (t:List Nd) (i:Nat):Bool:=onM t i&&(qV cs t i).isSome
theorem Vd {Pb Pt:Nat->Prop} {w:World} {v u:Value} {cs:List Cd} {t:List Nd} (h:RdS rCd 7 Pb w v cs) (ht:RdS rNd 3 Pt w u t) (hc:uD cs=true) (hok:og t=true):
 Calls prog 119 #[v,u] w (Ret fun r w'=>(∃q,r=.tuple #[q,vi 0]/\nP (Wk.one viN) 3 1 (fun b=>w.heap.size<=b) NoB w' q (D8 cs t))/\New w w'):=by
 obtain ⟨a,cap,rfl,hc1,hc2⟩:=h.form;obtain ⟨a2,cap2,rfl,hd1,hd2⟩:=ht.form;have hlen:=pF hok;have htp:=uJ hok;have hcl:=NM hc;replace h:=h.mono (Pb':=fun k=>k<w.heap.size) Qy fun k hk _=>hk;replace ht:=ht.mono (Pb':=fun k=>k<w.heap.size) AQ fun k hk _=>hk;refine nM func119 rfl ntmps119 rfl ?_;refine qq4 ?_;refine Wl.box rfl (fun w1 b1 n1 s1=>?_);replace b1:Bk w1 w.heap.size 23 [.slice a cs.length cap]:=b1;refine qq4 ?_;refine ah (u:=.slice a cs.length cap) rfl (b1.cell (o:=0) rfl) ?_;(repeat' (refine aa1 ?_));refine aj (Oh (h.keep qP n1.keep) (ht.keep oh n1.keep) hc hok) rfl ?_;rintro _ w2 ⟨⟨q,rfl,oa⟩,n2⟩;have b2:=b1.chg n2 id;have n02:=New.trans n1 n2;obtain ⟨qa,qc,rfl,_,_⟩:=oa.form;refine qq6 ?_;refine Wl.alloc fun w3 b3 n3 s3=>?_;replace b3:Bk w3 w2.heap.size 154 [.slice none 0 0]:=b3;refine aJ (u:=.slice qa (allM cs t).length qc) b3 rfl (show (0:Nat)<1 by omega) rfl rfl fun w4 b4 c4=>?_;replace b4:Bk w4 w2.heap.size 154 [.slice qa (allM cs t).length qc]:=b4;have hz2:=n02.size;have n24:New w2 w4:=(Chg.trans n3.any c4 i3).tN
 have n04:=New.trans n02 n24;have b24:=b2.chg n24 id;have oa4:=oa.new (nK yM) n24;(repeat' (first|refine qq2 ?_|(refine aa4 (fun _=>?_) (fun _=>?_)<;>(first|(exfalso;omega)|skip))));refine eY (f:=vs) (y0:=([]:Nm)) (Pe:=NoB) rfl rfl rfl (by omega) (by omega) (by omega) fun vp w5 op n5=>?_;rw [ant] at op;obtain ⟨gp,gc,hvp,hgp,hgl,_⟩:=op.blk (by intro e;rw [List.replicate_eq_nil_iff] at e;omega);rw [List.length_replicate] at hvp;subst hvp;refine Wl.alloc fun w6 b6 n6 s6=>?_;replace b6:Bk w6 w5.heap.size 24 [.slice none 0 0]:=b6;refine aJ (u:=.slice (some ⟨gp,0,none⟩) t.length gc) b6 rfl (show (0:Nat)<1 by omega) rfl rfl fun w7 b7 c7=>?_;replace b7:Bk w7 w5.heap.size 24 [.slice (some ⟨gp,0,none⟩) t.length gc]:=b7;have hz4:=n04.size;have hz5:=n5.size;have n57:New w5 w7:=(Chg.trans n6.any c7 i3).tN
 have n47:=New.trans n5 n57;have n07:=New.trans n04 n47;have op7:=op.new (nO _) n57;have b27:=b24.chg n47 id;have b47:=b4.chg n47 id;have oa7:=oa4.new (nK yM) n47;have hb4:=b4.lt;have hb2:=b2.lt;have hz1:=n2.size;have abe: ∀k,(Value.slice qa (allM cs t).length qc).ownBlock=some k->k<w2.heap.size:=fun k hk=>(oa.lt hk).2;refine qq2 ?_;refine aA (σ:=Nat×Value) (fun s=>[(1,.slice a2 t.length cap2),(2,.pointer (some ⟨w.heap.size,0,none⟩)),(6,.pointer (some ⟨w2.heap.size,0,none⟩)),(8,s.2),(9,.pointer (some ⟨w5.heap.size,0,none⟩)),(26,vi t.length),(27,vi s.1)]) (fun s W=>s.1<=t.length/\nP (Wk.one viN) 3 1 (fun b=>w7.heap.size<=b) NoB W s.2 ((ab8 s.1).filter (rkF cs t))/\nP (Wk.one vs) 9 1 (fun b=>w4.heap.size<=b) NoB W (.slice (some ⟨gp,0,none⟩) t.length gc) ((ab8 s.1).map (oI t)++aok (t.length-s.1) [])/\Chg (fun k=>k=gp) w7 W) (fun s=>t.length-s.1) (0,.slice none 0 0) (sl rfl) ⟨anq _,aI,by simpa using op7,ay _ _⟩ ?_;rintro ⟨i,l⟩ G W ⟨hi,own,opW,cW⟩;dsimp only at hi own opW cW;simp only [pq];have nW:New w W:=(Chg.trans n07.any cW i3).tN
 have bcW:=b27.chg cW (by omega);have baW:=b47.chg cW (by omega);have bpW:=b7.chg cW (by omega);have oaW:=oa7.chg (nK yM) cW fun k hk e=>by have:=abe k hk;omega
 have hzW:=nW.size;have hz7:=cW.size;have abf:=n57.size;obtain ⟨la,lc,rfl,_,_⟩:=own.form;have hfl:((ab8 i).filter (rkF cs t)).length<=i:=by
  have:=apO (rkF cs t) (ab8 i)
  rwa [apP] at this
 (repeat' (first|refine qq4 ?_|refine aa2 (fun _=>?_) (fun _=>?_)))
 ·have hil:i<t.length:=by omega
  refine nD rfl (by kernel_rfl) (fun w'=>Chg (fun k=>k=gp) W w') (Chg.drew _ _) ?_;intro w8 n8;refine aa0 (au (u:=.slice (some ⟨gp,0,none⟩) t.length gc) rfl (fun w' hw=>(bpW.chg hw (by omega)).cell (o:=0) rfl) (af ?_));(repeat' (refine aa0 (aa3 (af ?_))));refine aC rfl (aj (J3 (i:=i) ((ht.keep oh nW.keep).mono AQ (fun _ _ e=>e) |>.keep oh n8.keep) hok hil) rfl ?_);rintro _ w9 ⟨rfl,n9⟩;have n89:=New.trans n8 n9;refine ai ⟨rfl,n89.any,?_⟩;(repeat' (first|refine aa0 (aa3 (af ?_))|refine aa0 (iO rfl rfl (af ?_))));refine aa0 (aa8 (af ?_));have hpl:((ab8 i).map (oI t)++aok (t.length-i) ([]:Nm)).length=t.length:=by simp;omega
  refine Wt.last rfl (dS (q:=oI t i) (j:=i) (cap:=gc) (opW.new (nO _) n89) (by rw [hpl]) (by omega) (by show Value.pointer (some ⟨gp,0+(i:Int).toNat*1,none⟩)=_;simp) rfl rfl rfl fun w10 o10 c10=>?_);have hset:((ab8 i).map (oI t)++aok (t.length-i) ([]:Nm)).set i (oI t i)=(ab8 (i+1)).map (oI t)++aok (t.length-(i+1)) []:=by rw [show t.length-i=(t.length-(i+1))+1 by omega,List.replicate_succ,anw _ _ (by simp),apQ,aoN];simp
  rw [hset] at o10;have BV:Chg (fun k=>k=gp) W w10:=Chg.trans n89.any c10 fun k _ e=>(by cases e;rfl);refine ai ⟨rfl,BV,?_⟩;have adm:=own.chg (nO _) BV fun k hk e=>by have:=(own.lt hk).1;omega
  have Zi:New w w10:=(Chg.trans nW.any BV i3).tN
  have JA:Chg (fun k=>k=gp) w7 w10:=Chg.trans cW BV i3;have aik:=baW.chg BV (by omega);have ail:=oaW.chg (nK yM) BV fun k hk e=>by have:=abe k hk;omega
  refine qq5 ?_;refine aj (Ea (i:=i) (ht.keep oh Zi.keep) hok hil) rfl ?_;rintro _ w11 ⟨rfl,n11⟩;have LU:Chg (fun k=>k=gp) w7 w11:=Chg.trans JA n11.any i3;have OO:=adm.new (nO _) n11;have o11:=o10.new (nO _) n11;have aim:=aik.chg n11 id;have ain:=ail.new (nK yM) n11;have hstep:(ab8 (i+1)).filter (rkF cs t)=(ab8 i).filter (rkF cs t)++if rkF cs t i=true then [i] else []:=by rw [apQ,apy];congr 1;cases hr:rkF cs t i<;>simp [hr]
  have hget:(allM cs t)[i]? =some (xw cs (sJ t i)):=by unfold allM;rw [an3,List.getElem?_range hil];rfl
  cases hon:onM t i
  ·have hrf:rkF cs t i=false:=by unfold rkF;rw [hon];rfl
   rw [hrf,if_neg (by decide),aoS] at hstep;refine qq2 ?_;exact ax (i+1,_) (sl rfl) ⟨by dsimp only;omega,by rw [hstep];exact OO,o11,LU⟩ (by dsimp only;omega)
  ·refine qq5 ?_;refine ah (u:=.slice qa (allM cs t).length qc) rfl (aim.cell (o:=0) rfl) ?_;refine qq5 ?_;refine aK (ain.rd Ef.mo) rfl rfl (by omega) hget fun bb off cs' hcl' hR hat=>?_;obtain rfl:cs'=yM (xw cs (sJ t i)):=hR;cases hf:xw cs (sJ t i) with
   |none=>
    rw [hf] at hat;have hrf:rkF cs t i=false:=by unfold rkF qV;rw [hf,Option.map_none,Option.isSome_none,Bool.and_false]
    rw [hrf,if_neg (by decide),aoS] at hstep;refine qq2 ?_;refine ah (u:=vi (-1)) rfl (hat.get 0 rfl) ?_;(repeat' (first|refine qq2 ?_|(refine aU rfl rfl (fun _=>?_) (fun _=>?_)<;>(first|(exfalso;omega)|skip))));exact ax (i+1,_) (sl rfl) ⟨by dsimp only;omega,by rw [hstep];exact OO,o11,LU⟩ (by dsimp only;omega)
   |some m=>
    rw [hf] at hat;have hrf:rkF cs t i=true:=by unfold rkF qV;rw [hf,hon];rfl
    rw [hrf,if_pos rfl] at hstep;refine qq2 ?_;refine ah (u:=vi m.1) rfl (hat.get 0 rfl) ?_;(repeat' (first|refine qq3 ?_|(refine aU rfl rfl (fun _=>?_) (fun _=>?_)<;>(first|(exfalso;omega)|skip))));refine cu (R:=Wk.one viN) (y:=i) qw OO rfl rfl rfl rfl rfl (by omega) (by omega) (by simp only [maxLen];omega) (by omega) rfl rfl fun v' w12 p o12 c12 lie=>?_;have QT:=LU.size;have aio:Chg (fun k=>k=gp) w7 w12:=by
     refine (Chg.trans (M:=fun k=>k=gp∨w7.heap.size<=k) (LU.mono fun _ _ e=>.inl e) c12 fun k _ e=>.inr (OO.lt e).1).mono fun k hk e=>?_;rcases e with e|e
     ·exact e
     ·omega
    have aip:=o11.chg (nO _) c12 fun k hk e=>by
     have h1:w7.heap.size<=k:=(OO.lt e).1;have h2:gp=k:=by injection hk
     omega
    rw [<-hstep] at o12;refine qq6 ?_;exact ax (i+1,v') (sl rfl) ⟨by dsimp only;omega,o12.mono qw.mo (fun b _ hb=>by rcases hb with hb|hb<;>omega) i3,aip,aio⟩ (by dsimp only;omega)
 ·obtain rfl:i=t.length:=by omega
  rw [aps,List.replicate_zero,aoS] at opW;refine dn (f1:=[]) (c1:=[.pointer (some ⟨w.heap.size,0,none⟩),.pointer (some ⟨w2.heap.size,0,none⟩),.pointer (some ⟨w5.heap.size,0,none⟩)]) rfl rfl ?_;have hmem: ∀x∈(ab8 t.length).filter (rkF cs t),x<t.length/\ ∃k,qV cs t x=some k:=fun x hx=>by obtain ⟨h1,h2⟩:=List.mem_filter.1 hx;unfold rkF at h2;rw [ann,Option.isSome_iff_exists] at h2;exact ⟨by simpa using h1,h2.2⟩
  refine aj (Df (g:=144) (cb:= #[.pointer (some ⟨w.heap.size,0,none⟩),.pointer (some ⟨w2.heap.size,0,none⟩),.pointer (some ⟨w5.heap.size,0,none⟩)]) (lv:=ER cs t) (pt:=oI t) own (fun x hx y hy e=>Fb hok (hmem x hx).1 (hmem y hy).1 e) (by omega) fun w' hw x hx y hy=>?_) rfl ?_
  ·obtain ⟨hxl,kx,hkx⟩:=hmem x hx;obtain ⟨hyl,ky,hky⟩:=hmem y hy;have hne: ∀k,k<w7.heap.size-> ¬(Value.slice la ((ab8 t.length).filter (rkF cs t)).length lc).ownBlock=some k:=fun k hk e=>by have:=(own.lt e).1;omega
   have nWw:Chg (fun k=>w7.heap.size<=k) W w':=hw.mono fun k _ e=>(own.lt e).1;refine (QH (Pc:=fun k=>k<w.heap.size) (Pp:=fun b=>w4.heap.size<=b∨NoB b) (cs:=cs) (t:=t) (ka:=kx) (kb:=ky) (bcW.chg nWw (show ¬w7.heap.size<=w.heap.size by omega)) (baW.chg nWw (show ¬w7.heap.size<=w2.heap.size by omega)) (bpW.chg nWw (show ¬w7.heap.size<=w5.heap.size by have:=b7.lt;omega)) ((h.keep qP nW.keep).keep qP (nWw.keep fun k hk _ e=>by have h1:w7.heap.size<=k:=e;omega)) ((oaW.chg (nK yM) nWw fun k hk e=>by have:=abe k hk;have h1:w7.heap.size<=k:=e;omega).rd Ef.mo) ?_ hxl hyl hkx hky hcl hlen).mono ?_
   ·have o9:=opW.chg (nO _) nWw fun k hk e=>by
     have h1:w7.heap.size<=k:=e;have h2:gp=k:=by injection hk
     omega
    exact o9.rd rP.mo
   ·rintro _ w'' ⟨_,rfl,rfl,hg⟩;exact ⟨rfl,hg⟩
  rintro _ w11 ⟨o11,c11⟩;have n11:New w w11:=Chg.trans nW c11 fun k hk e=>by have:=(own.lt e).1;omega
  refine qq5 ?_;exact aB rfl rfl rfl ⟨_,rfl,⟨_,rfl,o11.mono qw.mo (fun b _ hb=>by omega) i3⟩,n11⟩
abbrev ul (x:Dc):List Value:=vi x.1::pV x.2
theorem y9:qH (flat ul) 4:=qA _ (fun _=>rfl) fun x c hc=>by simp [pV] at hc;rcases hc with rfl|rfl|rfl|rfl<;>rfl
abbrev Au (x:Rfs):List Value:=[vi x.node,.int .u8 x.claim.kind,w64 x.claim.from_,w64 x.claim.upto,vi x.by_]
theorem yt:qH (flat Au) 5:=qA _ (fun _=>rfl) fun x c hc=>by simp at hc;rcases hc with rfl|rfl|rfl|rfl|rfl<;>rfl
theorem LV {w:World} {n y:Int} {k a b:Int}:(Instr.build 205 #[(0,vi n),(1,.agg #[.int .u8 k,.int .u64 a,.int .u64 b]),(2,vi y)]).run prog w=.ok (.agg #[vi n,.int .u8 k,.int .u64 a,.int .u64 b,vi y]) w:=by
 kernel_rfl
theorem JB {w:World} {n:Int}:(Instr.build 205 #[(0,vi n),(2,vi (-1))]).run prog w=.ok (.agg #[vi n,.int .u8 0,.int .u64 0,.int .u64 0,vi (-1)]) w:=by
 kernel_rfl
theorem LW {w:World} {n:Int} {k a b:Int}:(Instr.build 275 #[(0,vi n),(1,.agg #[.int .u8 k,.int .u64 a,.int .u64 b])]).run prog w=.ok (.agg #[vi n,.int .u8 k,.int .u64 a,.int .u64 b]) w:=by
 kernel_rfl
theorem Fe {Pb:Nat->Prop} {w:World} {v:Value} {l:List Dc} {p:Dc->Bool} {g:FuncId} {cap:Array Value} [hc:nN prog g] (h:RdS (flat ul) 4 Pb w v l)
 (hf: ∀y w',y∈l->New w w'->Calls prog g ([Value.agg (ul y).toArray]++cap.toList).toArray w' (Ret fun r w''=>r=.bool (p y)/\New w' w'')):
 Calls prog 147 #[v,.func (.func g) #[] cap] w (Ret fun r w'=>r=vi (idx p l)/\New w w'):=by
 obtain ⟨a,cp,rfl,hc1,hc2⟩:=h.form;simp only [maxLen] at hc2;refine nM func147 rfl ntmps147 rfl ?_;refine qq2 ?_;refine aA (σ:=Nat) (fun i=>[(0,.slice a l.length cp),(1,.func (.func g) #[] cap),(7,vi l.length),(8,vi i)]) (fun i w'=>i<=l.length/\(∀x∈l.take i,p x=false)/\New w w') (fun i=>l.length-i) 0 (sl rfl) ⟨anq _,by simp,ay _ _⟩ ?_;rintro i G w1 ⟨hi,hall,n1⟩;simp only [pq];(repeat' (first|refine qq4 ?_|refine aa2 (fun _=>?_) (fun _=>?_)))
 ·obtain ⟨y,hy⟩:=nT l (k:=i) (by omega);refine dF h n1.keep rfl rfl (by omega) hy fun b o cs hl hR hat=>?_;obtain rfl:cs=ul y:=hR;refine aS hat rfl rfl ?_;refine bP (dst:=some 16) rfl (hf y w1 (aop hy) n1) rfl ?_;rintro _ w2 ⟨rfl,n2⟩;simp only [wI];cases hp:p y with
  |true=>refine qq3 ?_;refine ak rfl rfl ⟨_,rfl,?_,New.trans n1 n2⟩;rw [Eb hy hall hp];rfl
  |false=>refine qq2 ?_;exact ax (i+1) (sl rfl) ⟨by omega,AY hy hall hp,New.trans n1 n2⟩ (by omega)
 ·have e:i=l.length:=by omega
  subst e;rw [aon] at hall;refine ak rfl rfl ⟨_,rfl,?_,n1⟩;rw [yY hall];rfl
theorem QU {w:World} {b:Nat} {c:Clm} {o:Dc} (h:Bk w b 203 (pV c)):
 Calls prog 148 #[.agg (ul o).toArray,.pointer (some ⟨b,0,none⟩)] w (Ret fun r w'=>r=.bool (Ie o.2 c)/\New w w'):=by
 refine nM func148 rfl ntmps148 rfl ?_;refine qq4 ?_;refine Wl.box rfl fun w1 b1 n1 s1=>?_;replace b1:Bk w1 w.heap.size 275 (ul o):=b1;replace h:=h.chg n1 id;refine qq2 ?_;refine aS (cs:=pV o.2) (o:=0+1) (fun i u hu=>b1.cell (o:=0+1+i) (by rw [show 0+1+i=i+1 by omega];exact hu)) rfl rfl ?_;refine bK h rfl rfl ?_;refine aj (UX (a:=o.2) (b:=c)) rfl ?_;rintro _ w2 ⟨rfl,n2⟩;refine qq3 ?_;exact ak rfl rfl ⟨_,rfl,rfl,New.trans n1 n2⟩
theorem LX {w:World}:Calls prog 145 #[.slice none 0 0] w (Ret fun r w'=>r=.slice none 0 0/\w=w'):=by
 refine nM func145 rfl ntmps145 rfl ?_;refine qq4 ?_;refine iR rfl rfl ?_;refine qq3 ?_;exact ak rfl rfl ⟨_,rfl,rfl,rfl⟩
theorem Xt {out:List Dc} {l:List Clm} {k:Nat} {c:Clm} (h:l[k]? =some c):Lc out (l.drop k)=match out.find? fun o=>Ie o.2 c with
 |some o=>some (c,o.1)
 |none=>Lc out (l.drop (k+1)):=by rw [drop_cons h,Lc];rfl
theorem Zj {α:Type} {p:α->Bool} {l:List α} (h:l.find? p=none):idx p l= -1:=by
 refine yY fun x hx=>?_;have:=List.find?_eq_none.1 h x hx;simpa using this
theorem Xu {α:Type} {p:α->Bool} {l:List α} {y:α} (h:l.find? p=some y): ∃i:Nat,idx p l=(i:Int)/\l[i]? =some y:=by
 have hf:=xB (p:=p) l;unfold idx;cases hi:l.findIdx? p with
 |none=>rw [hi] at hf;dsimp only at hf;rw [hf] at h;cases h
 |some i=>rw [hi] at hf;obtain ⟨z,h1,h2⟩:=hf;rw [h] at h2;cases h2;exact ⟨i,rfl,h1⟩
theorem Zk {t:List Nd} {i:Nat} {l:List Clm} (h:ofM t i=some l):l.length<=64:=by
 unfold ofM at h;split at h
 ·cases h
 ·dsimp only at h;split at h
  ·rename_i hc;cases h;exact hc
  ·cases h
def Xv (w w':World) (r:Value) (q:List Dc×List Rfs):Prop:= ∃v u,r=.tuple #[v,u]/\nP (flat ul) 275 4 (fun b=>w.heap.size<=b) NoB w' v q.1/\nP (flat Au) 205 5 (fun b=>w.heap.size<=b) NoB w' u q.2
theorem QV {t:List Nd} {out:List Dc} {ns:List Nat} {k n:Nat} (h:ns[k]? =some n):uq t out (ns.drop k)=match ofM t n with
 |none=>let q:=uq t out (ns.drop (k+1));(q.1,⟨n,⟨0,0,0⟩, -1⟩::q.2)
 |some l=>match Lc out l with
  |some (c,b)=>let q:=uq t out (ns.drop (k+1));(q.1,⟨n,c,b⟩::q.2)
  |none=>uq t (out++l.map fun c=>(n,c)) (ns.drop (k+1)):=by rw [drop_cons h,uq];rfl
theorem Ve {Pb Pn:Nat->Prop} {w:World} {v vn:Value} {l:List Nd} {ns:List Nat} (h:RdS rNd 3 Pb w v l) (hok:og l=true) (hn:RdS (Wk.one viN) 1 Pn w vn ns) (hns: ∀n∈ns,n<l.length) (hnl:ns.length<=512):
 Calls prog 120 #[v,.slice none 0 0,vn] w (Ret fun r w'=>Xv w w' r (uq l [] ns)/\New w w'):=by
 obtain ⟨a,cap,rfl,hc1,hc2⟩:=h.form;obtain ⟨na,nc,rfl,hd1,hd2⟩:=hn.form;have hlen:=pF hok;refine nM func120 rfl ntmps120 rfl ?_;refine qq4 ?_;refine aj LX rfl ?_;rintro _ _ ⟨rfl,rfl⟩;refine qq2 ?_;refine aA (σ:=Nat×(Value×List Dc)×(Value×List Rfs)) (fun q=>[(0,.slice a l.length cap),(8,q.2.1.1),(9,q.2.2.1),(22,.slice na ns.length nc),(23,vi ns.length),(24,vi q.1)]) (fun q W=>q.1<=ns.length/\q.2.1.2.length<=64*q.1/\q.2.2.2.length<=q.1/\uq l [] ns=((uq l q.2.1.2 (ns.drop q.1)).1,q.2.2.2++(uq l q.2.1.2 (ns.drop q.1)).2)/\nP (flat ul) 275 4 (fun b=>w.heap.size<=b) NoB W q.2.1.1 q.2.1.2/\nP (flat Au) 205 5 (fun b=>w.heap.size<=b) NoB W q.2.2.1 q.2.2.2/\Sep q.2.1.1 q.2.2.1/\New w W) (fun q=>ns.length-q.1) (0,(.slice none 0 0,[]),(.slice none 0 0,[])) (sl rfl) ⟨anq _,by simp,by simp,by simp,aI,aI,(fun k e=>by cases e),ay _ _⟩ ?_;rintro ⟨k,⟨vo,out⟩,⟨vr,rf⟩⟩ G W ⟨hk,hol,hrl,hG,own,Dk,sep,nW⟩;dsimp only at hk hol hrl hG own Dk sep nW;simp only [pq];obtain ⟨oa,oc,rfl,_,_⟩:=own.form;obtain ⟨ra,rc,rfl,_,_⟩:=Dk.form;have hzW:=nW.size;(repeat' (first|refine qq4 ?_|refine aa2 (fun _=>?_) (fun _=>?_)))
 ·obtain ⟨n,hx⟩:=nT ns (k:=k) (by omega);have aiq:=hns n (aop hx);refine aZ (hn.keep (nZ _) nW.keep) rfl rfl (by omega) hx fun b o hcell=>?_;refine ah (u:=vi n) rfl hcell ?_;refine qq4 ?_;refine aj (Zb (i:=n) (h.keep oh nW.keep) hok aiq) rfl ?_;rintro _ w1 ⟨⟨vl,e,rfl,hof⟩,n1⟩;have n01:=New.trans nW n1;have Ar:=own.new (nK ul) n1;have aae:=Dk.new (nK Au) n1;rw [QV hx] at hG;cases hom:ofM l n with
  |none=>rw [hom] at hof hG;dsimp only at hof hG;(repeat' (first|refine qq5 ?_|(refine aa4 (fun _=>?_) (fun _=>?_)<;>(first|(exfalso;omega)|skip))));refine dU (ps:=[(0,.tmp 37),(2,.const (vi (-1)))]) (parts:=[(0,vi n),(2,vi (-1))]) rfl JB ?_;refine cu (R:=flat Au) (y:=⟨n,⟨0,0,0⟩, -1⟩) yt aae rfl rfl rfl rfl rfl (by omega) (by omega) (by simp only [maxLen];omega) (by omega) rfl rfl fun v2 w2 p rQ c2 lie=>?_;have hz1:=n1.size;refine qq6 ?_;refine ax (k+1,(.slice oa out.length oc,out),(v2,rf++ [⟨n,⟨0,0,0⟩, -1⟩])) (sl rfl) ⟨by dsimp only;omega,by dsimp only;omega,by simp;omega,?_,Ar.zH (nK ul) c2 sep,rQ.mono yt.mo (fun b _ e=>by rcases e with e|e;exact e;omega) i3,AB Ar sep lie,Chg.trans n01 c2 fun b hb e=>by have:=(Dk.lt e).1;omega⟩ (by dsimp only;omega);dsimp only;rw [hG];simp
  |some cl=>
   rw [hom] at hof hG;obtain ⟨rfl,Zl⟩:=hof;dsimp only at hG;have hcl:=Zk hom;obtain ⟨ca,cc,rfl,_,_⟩:=Zl.form;have hz1:=n1.size;(repeat' (first|refine qq2 ?_|(refine aa4 (fun _=>?_) (fun _=>?_)<;>(first|(exfalso;omega)|skip))));refine aA (σ:=Nat) (fun j=>[(0,.slice a l.length cap),(8,.slice oa out.length oc),(9,.slice ra rf.length rc),(11,vi n),(12,.slice ca cl.length cc),(14,vi (-1)),(22,.slice na ns.length nc),(23,vi ns.length),(24,vi k),(41,.slice ca cl.length cc),(42,vi cl.length),(43,vi j)]) (fun j W'=>j<=cl.length/\Lc out cl=Lc out (cl.drop j)/\New w1 W') (fun j=>cl.length-j) 0 (sl rfl) ⟨anq _,by simp,ay _ _⟩ ?_;rintro j G2 W2 ⟨hj,hH,n2⟩;simp only [pq];have rQ:=Ar.new (nK ul) n2;have aaf:=aae.new (nK Au) n2;have Xw:=Zl.new (nK pV) n2;have n02:=New.trans n01 n2;have hz2:=n2.size;(repeat' (first|refine qq4 ?_|refine aa2 (fun _=>?_) (fun _=>?_)|(refine aU rfl rfl (fun _=>?_) (fun _=>?_)<;>(first|(exfalso;omega)|skip))))
   ·obtain ⟨c,hc⟩:=nT cl (k:=j) (by omega);refine aK (Xw.rd uG.mo) rfl rfl (by omega) hc fun b o cs hl hR hat=>?_;obtain rfl:cs=pV c:=hR;refine aS hat rfl rfl ?_;clear hat;refine Wl.alloc fun w3 b3 n3 s3=>?_;(repeat' (refine aa7 ?_));refine aH (new:=pV c) b3 rfl rfl rfl rfl zl3 (Xi c) fun w4 b4 c4 s4=>?_;replace b4:Bk w4 W2.heap.size 203 (pV c):=b4;have n24:New W2 w4:=(Chg.trans n3.any c4 i3).tN
    refine qq2 ?_;refine dn (f1:=[]) (c1:=[.pointer (some ⟨W2.heap.size,0,none⟩)]) rfl rfl ?_;refine aj (Fe (p:=fun o=>Ie o.2 c) (g:=148) (cap:= #[.pointer (some ⟨W2.heap.size,0,none⟩)]) ((rQ.new (nK ul) n24).rd y9.mo) (fun y w' _ hw=>QU (b4.chg hw id))) rfl ?_;rintro _ w5 ⟨rfl,n5⟩;have n25:=New.trans n24 n5;rw [Xt hc] at hH;cases hfd:out.find? fun o=>Ie o.2 c with
    |none=>rw [hfd] at hH;rw [Zj hfd];(repeat' (first|refine qq2 ?_|(refine aU rfl rfl (fun _=>?_) (fun _=>?_)<;>(first|(exfalso;omega)|skip))));exact ax (j+1) (sl rfl) ⟨by omega,hH,New.trans n2 n25⟩ (by omega)
    |some y=>
     rw [hfd] at hH;obtain ⟨m,e1,e2⟩:=Xu hfd;rw [e1];dsimp only at hH;rw [hH] at hG;dsimp only at hG;have Jy:=rQ.new (nK ul) n25;have adn:=aaf.new (nK Au) n25;have aag:=Xw.new (nK pV) n25;have n05:=New.trans n02 n25;have hml:=(List.getElem?_eq_some_iff.1 e2).1;have hz5:=n25.size;(repeat' (first|refine Hf ?_|(refine aU rfl rfl (fun _=>?_) (fun _=>?_)<;>(first|(exfalso;omega)|skip))));refine aV rfl (by kernel_rfl) (fun w'=>Chg (fun b=>(Value.slice ra rf.length rc).ownBlock=some b) w5 w') (Chg.drew _ _) ?_;intro w6 n6;have hkc: ∀w',Chg (fun b=>(Value.slice ra rf.length rc).ownBlock=some b) w5 w'->nP (flat pV) 203 3 (fun b=>W.heap.size<=b) NoB w' (.slice ca cl.length cc) cl:=fun w' hw=>aag.chg (nK pV) hw fun b hb e=>by have h1:=(Zl.lt hb).1;have h2:=(Dk.lt e).2;omega
     have hko: ∀w',Chg (fun b=>(Value.slice ra rf.length rc).ownBlock=some b) w5 w'->nP (flat ul) 275 4 (fun b=>w.heap.size<=b) NoB w' (.slice oa out.length oc) out:=fun w' hw=>Jy.zH (nK ul) hw sep;(repeat' (refine aa0 (aa3 (af ?_))));refine aa0 (bQ (w:=w5) (aag.rd uG.mo) (fun w' hw=>hw.keep fun b hb h1 e=>?_) rfl rfl (by omega) hc fun b o cs hl hR hat=>af ?_)
     ·rcases h1 with h1|h1
      ·have h2:=(Dk.lt e).2;omega
      ·exact h1
     obtain rfl:cs=pV c:=hR;refine aa0 (bD hat rfl rfl (af ?_));clear hat;(repeat' (refine aa0 (aa3 (af ?_))));refine aa0 (bQ (w:=w5) ((Jy.yQ (Pb':=fun b=>(Value.slice oa out.length oc).ownBlock=some b) fun b hb _=>hb).rd y9.mo) (fun w' hw=>hw.keep fun b hb h1 e=>?_) rfl rfl (by omega) e2 fun b o cs hl hR hat=>af ?_)
     ·rcases h1 with h1|h1
      ·exact sep b h1 e
      ·exact h1
     obtain rfl:cs=ul y:=hR;(repeat' (refine aa0 (aa6 (af ?_))));refine aa0 (au (u:=vi y.1) rfl (fun w' hw=>(hat w' hw).get 0 rfl) (af ?_));clear hat;refine aC rfl (dU (ps:=[(0,.tmp 58),(1,.tmp 62),(2,.tmp 67)]) (parts:=[(0,vi n),(1,.agg (pV c).toArray),(2,vi y.1)]) rfl LV (ai ⟨rfl,n6.any,?_⟩));refine aC rfl (bC (R:=flat Au) (y:=⟨n,c,y.1⟩) (Pe:=NoB) yt rfl rfl rfl rfl (by omega) (by omega) fun vt w7 ot n7 s7 Oq=>?_);have n67:=New.trans n6 n7;refine ai ⟨rfl,n67.any,?_⟩;refine aC rfl (bY yt (adn.new (nK Au) n67) (ot.rd yt.mo) (fun y cs hy=>hy) rfl rfl (by omega) (by simp only [maxLen,anM];omega) (by simp only [anM];omega) fun v8 w8 o8 c8 lie _=>?_);have c58:=Chg.trans n67.any c8 i3;refine ai ⟨rfl,c58,?_⟩;(repeat' (first|refine bH ?_|refine aa0 (fA (by conv=>{lhs;whnf}) (af ?_))));refine qq6 ?_;have hz7:=n67.size;refine ax (k+1,(.slice oa out.length oc,out),(v8,rf++ [⟨n,c,y.1⟩])) (sl rfl) ⟨by dsimp only;omega,by dsimp only;omega,by simp;omega,?_,hko w8 c58,o8.mono yt.mo (fun b _ e=>by rcases e with e|e;exact e;omega) i3,AB (Jy.new (nK ul) n67) sep lie,Chg.trans n05 c58 fun b hb e=>by have:=(Dk.lt e).1;omega⟩ (by dsimp only;omega);dsimp only;rw [hG];simp
   ·obtain rfl:j=cl.length:=by omega
    rw [aoG] at hH;have hH:Lc out cl=none:=hH;rw [hH] at hG;dsimp only at hG;have aah: ∀b,(Value.slice ca cl.length cc).ownBlock=some b->W.heap.size<=b/\b<w1.heap.size:=fun b hb=>Zl.lt hb;have Aq:nP (flat ul) 275 4 (fun b=>w.heap.size<=b/\(Value.slice ca cl.length cc).ownBlock≠some b/\(Value.slice ra rf.length rc).ownBlock≠some b) NoB W2 (.slice oa out.length oc) out:=rQ.yQ fun b hb e=>⟨e,fun e2=>by have:=(aah b e2).1;have:=(own.lt hb).2;omega,sep b hb⟩;have ado:nP (flat pV) 203 3 (fun b=>(Value.slice ca cl.length cc).ownBlock=some b) NoB W2 (.slice ca cl.length cc) cl:=Xw.yQ fun b hb _=>hb;refine aA (σ:=Nat×Value×List Dc) (fun q=>[(0,.slice a l.length cap),(8,q.2.1),(9,.slice ra rf.length rc),(11,vi n),(22,.slice na ns.length nc),(23,vi ns.length),(24,vi k),(71,.slice ca cl.length cc),(72,vi cl.length),(73,vi q.1)]) (fun q W'=>q.1<=cl.length/\q.2.2=out++(cl.take q.1).map (fun c=>(n,c))/\nP (flat ul) 275 4 (fun b=>w.heap.size<=b/\(Value.slice ca cl.length cc).ownBlock≠some b/\(Value.slice ra rf.length rc).ownBlock≠some b) NoB W' q.2.1 q.2.2/\nP (flat pV) 203 3 (fun b=>(Value.slice ca cl.length cc).ownBlock=some b) NoB W' (.slice ca cl.length cc) cl/\nP (flat Au) 205 5 (fun b=>w.heap.size<=b) NoB W' (.slice ra rf.length rc) rf/\New w W'/\w1.heap.size<=W'.heap.size) (fun q=>cl.length-q.1) (0,.slice oa out.length oc,out) (sl rfl) ⟨anq _,by simp,Aq,ado,aaf,n02,hz2⟩ ?_;rintro ⟨j,vo3,Xx⟩ G3 W3 ⟨hj,ho3,wU,oc3,or3,n3,hz3⟩;dsimp only at hj ho3 wU oc3 or3 n3 hz3;simp only [pq];obtain ⟨pa,pc,rfl,_,_⟩:=wU.form;(repeat' (first|refine qq6 ?_|refine aa2 (fun _=>?_) (fun _=>?_)))
    ·obtain ⟨c,hc⟩:=nT cl (k:=j) (by omega);have air:Xx.length=out.length+j:=by rw [ho3];simp;omega
     refine aK (oc3.rd uG.mo) rfl rfl (by omega) hc fun b o cs hl hR hat=>?_;obtain rfl:cs=pV c:=hR;refine aS hat rfl rfl ?_;clear hat;refine Wl.alloc fun w4 b4 n4 s4=>?_;refine aH (new:=pV c) b4 rfl rfl rfl rfl zl3 (Xi c) fun w5 b5 c5 s5=>?_;replace b5:Bk w5 W3.heap.size 203 (pV c):=b5;have n35:New W3 w5:=(Chg.trans n4.any c5 i3).tN
     refine qq6 ?_;refine bK b5 rfl rfl ?_;refine dU (ps:=[(0,.tmp 78),(1,.tmp 79)]) (parts:=[(0,vi n),(1,.agg (pV c).toArray)]) rfl LW ?_;refine cu (R:=flat ul) (y:=(n,c)) y9 (wU.new (nK ul) n35) rfl rfl rfl rfl rfl (by omega) (by omega) (by simp only [maxLen];omega) (by omega) rfl rfl fun v6 w6 p U8 c6 lie=>?_;refine qq6 ?_;have adp:=n35.size;have hz6:=c6.size;refine ax (j+1,v6,Xx++ [(n,c)]) (sl rfl) ⟨by dsimp only;omega,?_,U8.mono y9.mo (fun b _ e=>?_) i3,(oc3.new (nK pV) n35).chg (nK pV) c6 fun b hb e=>(wU.lt e).1.2.1 hb,(or3.new (nK Au) n35).chg (nK Au) c6 fun b hb e=>(wU.lt e).1.2.2 hb,Chg.trans (New.trans n3 n35) c6 fun b hb e=>by have:=(wU.lt e).1.1;omega,by omega⟩ (by dsimp only;omega)
     ·dsimp only;rw [ho3,take_snoc hc];simp
     ·rcases e with e|e
      ·exact e
      ·have:=n3.size;exact ⟨by omega,fun e2=>by have:=(aah b e2).2;omega,fun e2=>by have:=(Dk.lt e2).2;omega⟩
    ·obtain rfl:j=cl.length:=by omega
     rw [aon] at ho3;have air:Xx.length=out.length+cl.length:=by rw [ho3];simp
     refine ax (k+1,(.slice pa Xx.length pc,Xx),(.slice ra rf.length rc,rf)) (sl rfl) ⟨by dsimp only;omega,by dsimp only;omega,by dsimp only;omega,?_,wU.mono y9.mo (fun b _ e=>e.1) i3,or3,fun b hb=>(wU.lt hb).1.2.2,n3⟩ (by dsimp only;omega);dsimp only;rw [hG,ho3]
 ·obtain rfl:k=ns.length:=by omega
  rw [aoG] at hG;simp only [uq,aoS] at hG;rw [hG];exact aB rfl rfl rfl ⟨_,rfl,⟨_,_,rfl,own,Dk⟩,nW⟩
def Zm (w w':World) (r:Value) (q:List Dc×List Rfs):Prop:= ∃v u,r=.tuple #[v,u,vi 0]/\nP (flat ul) 275 4 (fun b=>w.heap.size<=b) NoB w' v q.1/\nP (flat Au) 205 5 (fun b=>w.heap.size<=b) NoB w' u q.2
theorem OQ {cs:List Cd} {t:List Nd}: ∀n∈D8 cs t,n<t.length:=by
 intro n hn;unfold D8 at hn;rw [List.mem_mergeSort,anj,ano] at hn;exact hn.1
theorem Kt (cs:List Cd) (t:List Nd):(D8 cs t).length<=t.length:=by
 unfold D8;rw [apu];have:=apO (fun i=>onM t i&&(qV cs t i).isSome) (ab8 t.length)
 rwa [apP] at this
theorem OT {Pb Pt:Nat->Prop} {w:World} {v u:Value} {cs:List Cd} {t:List Nd} (h:RdS rCd 7 Pb w v cs) (ht:RdS rNd 3 Pt w u t) (hc:uD cs=true) (hok:og t=true):
 Calls prog 88 #[v,u] w (Ret fun r w'=>Zm w w' r (qN cs t)/\New w w'):=by
 have hlen:=pF hok;refine nM func88 rfl ntmps88 rfl ?_;refine qq4 ?_;refine aj (Vd h ht hc hok) rfl ?_;rintro _ w1 ⟨⟨q,rfl,own⟩,n1⟩;(repeat' (first|refine qq2 ?_|(refine aa4 (fun _=>?_) (fun _=>?_)<;>(first|(exfalso;omega)|skip))));refine aj (Ve (ht.keep oh n1.keep) hok (own.rd (nV _)) OQ (by have:=Kt cs t;omega)) rfl ?_;rintro _ w2 ⟨⟨va,vb,rfl,o1,o2⟩,n2⟩;refine qq5 ?_;have hz:=n1.size;exact bZ rfl rfl rfl rfl ⟨_,rfl,⟨_,_,rfl,o1.mono y9.mo (fun b _ e=>by omega) i3,o2.mono yt.mo (fun b _ e=>by omega) i3⟩,New.trans n1 n2⟩
end Go.Proofs.YtfbnfhhmiiahnaaGreatDoor
namespace Go.Proofs.YtfbnfhhmiiahnaaGreatDoor
open Go Wk Sy
open Go.RowKit (Below)
attribute [local irreducible] Go.Calls
theorem Vf {α:Type} (p:α->Bool) (l:List α):(idx p l= -1/\ ∀x∈l,p x=false)∨ ∃i y,idx p l=(i:Nat)/\l[i]? =some y/\p y=true/\ ∀x∈l.take i,p x=false:=by
 unfold idx;cases hx:l.findIdx? p with
 |none=>exact .inl ⟨rfl,List.findIdx?_eq_none_iff.1 hx⟩
 |some i=>
  obtain ⟨hlt,hp,hb⟩:=List.findIdx?_eq_some_iff_getElem.1 hx;refine .inr ⟨i,l[i],rfl,anv hlt,hp,fun x hx=>?_⟩;obtain ⟨j,hj⟩:=List.mem_iff_getElem?.1 hx;rw [aaQ] at hj;split at hj
  ·rename_i hji
   have h2:=hb j hji;obtain ⟨h3,rfl⟩:=List.getElem?_eq_some_iff.1 hj;simpa using h2
  ·cases hj
theorem adq {Pb:Nat->Prop} {w:World} {v:Value} {es:List Ed} (h:RdS rEd 6 Pb w v es): ∃D:List SE,D.map (·.1.1)=es/\D.map (·.2)=ab8 es.length/\RdS (flat seC) 6 Pb w v D/\ ∀x∈D,RdS (Wk.one zQ) 1 Pb w (svV x.1.2) x.1.1.args:=by
 rcases h with ⟨rfl,rfl⟩|⟨a,cap,rfl,rfl,hc⟩|⟨b,off,cap,cur,e,fr,rfl,hb,hh,h1,h2,h3,h4⟩
 ·exact ⟨[],rfl,rfl,.inl ⟨rfl,rfl⟩,by simp⟩
 ·exact ⟨[],rfl,rfl,.inr (.inl ⟨a,cap,rfl,rfl,hc⟩),by simp⟩
 ·have hx: ∀i:Nat, ∃s:SV, ∀x,es[i]? =some x->(cur.toList.drop (off+i*6)).take 6=edC x (svV s)/\RdS (Wk.one zQ) 1 Pb w (svV s) x.args:=fun i=>by
   cases hi:es[i]? with
   |none=>exact ⟨(none,0,0),fun x e=>by cases e⟩
   |some x=>obtain ⟨u,hu,hr⟩:=h4 i x hi;obtain ⟨a,c,rfl,_,_⟩:=hr.form;exact ⟨(a,x.args.length,c),fun y e=>by cases e;exact ⟨hu,hr⟩⟩
  obtain ⟨s,hs⟩:=Classical.axiomOfChoice hx;refine ⟨es.zipIdx.map fun p=>((p.1,s p.2),p.2),?_,?_,.inr (.inr ⟨b,off,cap,cur,e,fr,by simp,hb,hh,by simpa using h1,h2,by simpa using h3,?_⟩),?_⟩
  ·rw [aoz];exact List.zipIdx_map_fst 0 es
  ·rw [aoz];show es.zipIdx.map (fun p=>p.2)=_;rw [List.zipIdx_map_snd,List.range_eq_range']
  ·intro i x hx';rw [an3,List.getElem?_zipIdx] at hx';cases hi:es[i]? with
   |none=>rw [hi] at hx';cases hx'
   |some y=>rw [hi] at hx';simp only [am6,ace] at hx';cases hx';exact (hs i y hi).1
  ·intro x hx';obtain ⟨⟨y,i⟩,hm,rfl⟩:=List.mem_map.1 hx';rw [List.mem_zipIdx_iff_getElem?] at hm;exact (hs i y hm).2
theorem aai {Pb Pe:Nat->Prop} {w:World} {v:Value} {D:List SE} (h:RdS (flat seC) 6 Pb w v D) (hP: ∀b,Pb b->Pe b) (ha: ∀x∈D,RdS (Wk.one zQ) 1 Pe w (svV x.1.2) x.1.1.args):RdS rEd 6 Pe w v (D.map (·.1.1)):=by
 rcases h with ⟨rfl,rfl⟩|⟨a,cap,rfl,rfl,hc⟩|⟨b,off,cap,cur,e,fr,rfl,hb,hh,h1,h2,h3,h4⟩
 ·exact .inl ⟨rfl,rfl⟩
 ·exact .inr (.inl ⟨a,cap,rfl,rfl,hc⟩)
 ·refine .inr (.inr ⟨b,off,cap,cur,e,fr,by simp,hP b hb,hh,by simpa using h1,h2,by simpa using h3,fun i x hx=>?_⟩);rw [an3] at hx;obtain ⟨y,hy,rfl⟩:=Option.map_eq_some_iff.1 hx;exact ⟨_,h4 i y hy,ha y (aop hy)⟩
theorem OU {Pb:Nat->Prop} {w:World} {v:Value} {l:List SE} (h:RdS (flat seC) 6 Pb w v l) (hl:l.length<=20000000):
 Calls prog 71 #[v] w (Ret fun r w'=>rC (fun b=>w.heap.size<=b) w' r l/\New w w'):=by
 obtain ⟨a,cap,rfl,hc1,hc2⟩:=h.form;refine nM func71 rfl ntmps71 rfl ?_;refine qq4 ?_;refine iR rfl rfl ?_;cases a with
 |none=>
  have e:l=[]:=by
   rcases h with ⟨_,rfl⟩|⟨_,_,e,_⟩|⟨_,_,_,_,_,_,e,_⟩
   ·rfl
   ·cases e
   ·cases e
  subst e;refine qq3 ?_;exact ak rfl rfl ⟨_,rfl,aI,ay _ _⟩
 |some a=>refine qq2 ?_;refine jg (R:=flat seC) (Pe:=NoB) fun v1 w1 o1 n1=>?_;(repeat' (refine aa1 ?_));refine bY QO o1 (h.keep (oH seC) n1.keep) (fun y cs hy=>hy) rfl rfl (by omega) (by simp only [maxLen,an8];omega) (by simp only [an8];omega) fun v2 w2 o2 c2 lie _=>?_;refine qq3 ?_;refine ak rfl rfl ⟨_,rfl,?_,Chg.trans n1 c2 fun k hk e=>by have:=(o1.lt e).1;omega⟩;have hs:=n1.size;exact o2.mono (nS seC) (fun b _ hb=>by rcases hb with hb|hb;exact hb;omega) i3
theorem GX {Pb:Nat->Prop} {w:World} {v:Value} {l:List SE} {p:SE->Bool} {g:FuncId} {cap:Array Value} [hc:nN prog g] (h:RdS (flat seC) 6 Pb w v l)
 (hf: ∀y w',y∈l->New w w'->Calls prog g ([Value.agg (seC y).toArray]++cap.toList).toArray w' (Ret fun r w''=>r=.bool (p y)/\New w' w'')):
 Calls prog 97 #[v,.func (.func g) #[] cap] w (Ret fun r w'=>r=vi (idx p l)/\New w w'):=by
 obtain ⟨a,cp,rfl,hc1,hc2⟩:=h.form;simp only [maxLen] at hc2;refine nM func97 rfl ntmps97 rfl ?_;refine qq2 ?_;refine aA (σ:=Nat) (fun i=>[(0,.slice a l.length cp),(1,.func (.func g) #[] cap),(7,vi l.length),(8,vi i)]) (fun i w'=>i<=l.length/\(∀x∈l.take i,p x=false)/\New w w') (fun i=>l.length-i) 0 (sl rfl) ⟨anq _,by simp,ay _ _⟩ ?_;rintro i G w1 ⟨hi,hall,n1⟩;simp only [pq];(repeat' (first|refine qq4 ?_|refine aa2 (fun _=>?_) (fun _=>?_)))
 ·obtain ⟨y,hy⟩:=nT l (k:=i) (by omega);refine dF h n1.keep rfl rfl (by omega) hy fun b o cs hl hR hat=>?_;obtain rfl:cs=seC y:=hR;refine aS hat rfl rfl ?_;refine bP (dst:=some 16) rfl (hf y w1 (aop hy) n1) rfl ?_;rintro _ w2 ⟨rfl,n2⟩;simp only [wI];cases hp:p y with
  |true=>refine qq3 ?_;refine ak rfl rfl ⟨_,rfl,?_,New.trans n1 n2⟩;rw [Eb hy hall hp];rfl
  |false=>refine qq2 ?_;exact ax (i+1) (sl rfl) ⟨by omega,AY hy hall hp,New.trans n1 n2⟩ (by omega)
 ·have e:i=l.length:=by omega
  subst e;rw [aon] at hall;refine ak rfl rfl ⟨_,rfl,?_,n1⟩;rw [yY hall];rfl
theorem Ff {Pb:Nat->Prop} {w:World} {v:Value} {l:List SE} {p:SE->Bool} {fg:FuncId} {fc:Array Value} [hc:nN prog fg] (h:rC Pb w v l)
 (hf: ∀y w',y∈l->Chg (fun b=>v.ownBlock=some b) w w'->Calls prog fg ([Value.agg (seC y).toArray]++fc.toList).toArray w' (Ret fun r w''=>r=.bool (p y)/\New w' w'')):
 Calls prog 70 #[v,.func (.func fg) #[] fc] w (Ret fun r w'=>rC Pb w' r (l.filter fun y=> !p y)/\(∀b,r.ownBlock=some b->v.ownBlock=some b)/\Chg (fun b=>v.ownBlock=some b) w w'):=by
 refine nM func70 rfl ntmps70 rfl ?_;refine qq4 ?_;refine aj (GX (h.rd (nS seC)) (fun y w' hy hn=>hf y w' hy hn.any)) rfl ?_;rintro _ w1 ⟨rfl,n1⟩;rcases Vf p l with ⟨e,hno⟩|⟨i,y0,e,hi0,hpy,hbef⟩
 ·rw [e];(repeat' (first|refine qq5 ?_|(refine bJ rfl rfl (fun _=>?_) (fun _=>?_)<;>(first|(exfalso;omega)|skip))));refine ak rfl rfl ⟨_,rfl,?_,fun b hb=>hb,n1.any⟩;rw [List.filter_eq_self.2 (fun y hy=>by simp [hno y hy])];exact h.new (nK seC) n1
 ·rw [e];have hil:i<l.length:=(List.getElem?_eq_some_iff.1 hi0).1;obtain ⟨g,cap,rfl,hgb,hgl,hob⟩:=h.blk (by intro e;rw [e] at hil;simp at hil);obtain ⟨_,_,hfm,hcap,hmax⟩:=h.form;cases hfm;simp only [maxLen] at hmax;(repeat' (first|refine qq2 ?_|(refine bJ rfl rfl (fun _=>?_) (fun _=>?_)<;>(first|(exfalso;omega)|skip))));refine aA (σ:=Nat×Nat×List SE) (fun s=>[(0,.slice (some ⟨g,0,none⟩) l.length cap),(1,.func (.func fg) #[] fc),(5,vi s.1),(6,vi s.2.1)]) (fun s w'=>s.1<s.2.1/\s.2.1<=l.length/\s.2.2.length=l.length/\s.2.2.take s.1=(l.take s.2.1).filter (fun y=> !p y)/\s.2.2.drop s.2.1=l.drop s.2.1/\rC Pb w' (.slice (some ⟨g,0,none⟩) l.length cap) s.2.2/\Chg (fun b=>(Value.slice (some (⟨g,0,none⟩:Addr)) l.length cap).ownBlock=some b) w w') (fun s=>l.length-s.2.1) (i,i+1,l) (sl rfl) ⟨by simp,by simp only;omega,rfl,?_,rfl,h.new (nK seC) n1,n1.any⟩ ?_
  ·simp only;rw [take_snoc hi0,apy,List.filter_eq_self.2 (fun y hy=>by simp [hbef y hy])];simp [hpy]
  rintro ⟨i,j,xs⟩ G w2 ⟨hij,hj,hxl,htk,hdr,ox,c2⟩;dsimp only at hij hj hxl htk hdr ox c2;simp only [pq];(repeat' (first|refine qq4 ?_|refine aa2 (fun _=>?_) (fun _=>?_)))
  ·obtain ⟨y,hy⟩:=nT l (k:=j) (by omega);have hxy:xs[j]? =some y:=by have:=congrArg (fun q=>q[0]?) hdr;simpa [hy] using this
   have hox:rC Pb w2 (.slice (some ⟨g,0,none⟩) l.length cap) xs:=ox;have hrd:=ox.rd (nS seC);refine aK hrd rfl rfl (by omega) hxy fun b o cs hl hR hat=>?_;obtain rfl:cs=seC y:=hR;refine aS hat rfl rfl ?_;refine Wl.alloc fun w3 b3 n3 s3=>?_;refine aH (new:=seC y) b3 rfl rfl rfl rfl zl6 (GR y) fun w4 b4 c4 s4=>?_;replace b4:Bk w4 w2.heap.size 100 (seC y):=b4;have hs2:=c2.size;have n24:New w2 w4:=Chg.trans n3 c4 fun k hk e=>by omega
   have ox4:=ox.new (nK seC) n24;have c24:=Chg.trans c2 (n24.any (M:=fun b=>(Value.slice (some (⟨g,0,none⟩:Addr)) l.length cap).ownBlock=some b)) i3;refine qq2 ?_;refine bK b4 rfl rfl ?_;refine bP (dst:=some 28) rfl (hf y w4 (aop hy) c24) rfl ?_;rintro _ w5 ⟨rfl,n5⟩;simp only [wI];have b5:=b4.chg n5 id;have ox5:=ox4.new (nK seC) n5;have c5:=Chg.trans c24 (n5.any (M:=fun b=>(Value.slice (some (⟨g,0,none⟩:Addr)) l.length cap).ownBlock=some b)) i3;cases hp:p y with
   |true=>
    refine qq2 ?_;refine ax (i,j+1,xs) (sl rfl) ⟨by dsimp only;omega,by dsimp only;omega,hxl,?_,?_,ox5,c5⟩ (by dsimp only;omega)
    ·dsimp only;rw [htk,take_snoc hy,apy];simp [hp]
    ·dsimp only;have:=congrArg (apA 1) hdr;simpa [aoa] using this
   |false=>
    refine qq5 ?_;refine bK b5 rfl rfl ?_;refine dB rfl rfl (by omega) (by omega) ?_;refine fC (f:=seC) (q:=y) (j:=i) (sz:=6) (cap:=cap) (fun _=>rfl) GR ox5 (by rw [hxl]) (by omega) (by show Value.pointer (some ⟨g,0+(i:Int).toNat*6,none⟩)=_;simp) rfl rfl fun w6 o6 c6=>?_;refine qq6 ?_;refine ax (i+1,j+1,xs.set i y) (sl rfl) ⟨by dsimp only;omega,by dsimp only;omega,by simpa using hxl,?_,?_,o6,Chg.trans c5 c6 i3⟩ (by dsimp only;omega)
    ·dsimp only;have hget:(xs.set i y)[i]? =some y:=by rw [anO,if_pos rfl,if_pos (by omega)]
     rw [take_snoc hget,apF (aap i),htk,take_snoc hy,apy];simp [hp]
    ·dsimp only;rw [apE (by omega)];have:=congrArg (apA 1) hdr;simpa [aoa] using this
  ·have e:j=l.length:=by omega
   subst e;rw [aon] at htk;refine jM (f:=seC) (i:=i) (cap:=cap) (by simp [Value.cells];exact ⟨rfl,rfl,rfl,rfl,rfl⟩) ox (by rw [hxl]) rfl rfl (by omega) rfl fun u w3 o3 c3=>?_;refine qq2 ?_;refine jO rfl rfl (by omega) ?_;refine qq3 ?_;refine ak rfl rfl ⟨_,rfl,?_,fun b hb=>hb,Chg.trans c2 c3 i3⟩;rw [<-htk];exact o3
end Go.Proofs.YtfbnfhhmiiahnaaGreatDoor
