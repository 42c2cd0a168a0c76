/-
  Texts of this claim, one behind the other: Im, G1, L1, G2, G4, G3, G5, F0, F1, G6, L2, L3, Kp, W1, W2, W3, W4, W5, W6, Lw, W7, W8, W9, Wa, Wb, Wc, Wd, We, Wf.
-/
import Derived.Test.YtfbnfhhmiiahnaaGreatDoorOd
set_option linter.all false
set_option maxHeartbeats 16000000
set_option maxRecDepth 8000
open List renaming range → ab8,mem_of_getElem? → aop,getD_eq_getElem?_getD → an7,length_singleton → anM,mem_cons_of_mem → aoC,getElem?_map → an3,length_cons → anJ,mem_cons_self → ap2,length_set → apn,length_append → am7,getElem?_eq_none → anl,map_cons → acd,length_range → apP,filter_cons → aqh,getElem?_set → anO,mem_or_eq_of_mem_set → apZ,replicate → aok,mem_append_left → ap4,mem_singleton → aqi,map_append → aoN,length_map → aoR,append_nil → aoS,take_length → aon,length → apq,length_nil → an8,mem_append_right → aqj,length_filter_le → apO,ext_getElem? → anC,append_assoc → adK,getElem?_range → aoT,filter_append → apy,mem_reverse → aqk,nodup_append → aql,mem_append → apN,filterMap_cons → aqn,nodup_nil → aqo,getElem?_inj → aqp,nil_append → ang,find?_cons → aqr,filterMap_append → aqt,foldl_append → aqu,foldl_cons → aoK,foldl_nil → aqv,map_nil → anc,length_mergeSort → apu,length_replicate → ap1,filter_filter → aqx,filter_congr → aqy,exists_mem_of_ne_nil → aqz,countP_cons → aqf,countP_le_length → aqA,count_cons_self → aqB,count_cons_of_ne → aqC,mem_mergeSort → aqd,mem_filter → anj,append_of_mem → aot,count_append → aqD,drop_eq_nil_of_le → aoO
open Nat renaming zero_le → anq,le_refl → aap,le_trans → apR,beq → ank,sub_self → aps,zero_add → ace,not_lt_zero → aqw
open Int renaming toNat_natCast → ant,eq_ofNat_of_zero_le → ane
open Bool renaming and_eq_true → ann,or_false → aqm,false_eq_true → anP,and_true → aqs
open Decidable renaming byContradiction → apX
open Go.Proofs.Tryz
namespace Go.Proofs.YtfbnfhhmiiahnaaGreatDoor
open Go Wk
open Go.RowKit (Below)
abbrev imP (L:List (Nat×Int)):List (Value×Value):=L.map fun p=>(vi p.1,vi p.2)
def ImL (W:World) (b:Nat) (f:Nat->Option Int):Prop:= ∃L:List (Nat×Int),(L.map (·.1)).Nodup/\ru prog 3 W b (imP L)/\ ∀i v,f i=some v↔(i,v)∈L
theorem Zw:Maps.Keyed prog 3:=Maps.int_keyed underlying3
theorem Zx {i:Nat} (h:i<9223372036854775808):keyOf prog 3 (vi i)=some (.int .i64 i):=
 Maps.keyOf_int_mk underlying3 (by simp [Lit.wf,IntKind.min,IntKind.max,IntKind.signed,IntKind.bits];omega)
section
variable {W W':World} {b:Nat} {f:Nat->Option Int} {M:Nat->Prop}
theorem ImL.chg (h:ImL W b f) (c:Chg M W W') (hb: ¬M b):ImL W' b f:=by
 obtain ⟨L,h1,h2,h3⟩:=h;exact ⟨L,h1,h2.chg c hb,h3⟩
theorem kE (h:ru prog 3 W b []):ImL W b (fun _=>none):=⟨[],by simp,h,fun i v=>by simp⟩
def EF (f:Nat->Option Int) (k:Nat) (u:Int):Nat->Option Int:=fun i=>if i=k then some u else f i
theorem abq {L:List (Nat×Int)} {j k:Nat} {v u:Int} (hn:(L.map (·.1)).Nodup) (hj:L[j]? =some (k,v)):((L.set j (k,u)).map (·.1)).Nodup/\ ∀i x,(i,x)∈L.set j (k,u)↔(i=k/\x=u)∨(i≠k/\(i,x)∈L):=by
 have hjl:=(List.getElem?_eq_some_iff.1 hj).1;have e1:(L.set j (k,u)).map (·.1)=L.map (·.1):=by
  apply anC;intro m;rw [an3,an3,anO];by_cases e:j=m
  ·subst e;rw [if_pos rfl,if_pos hjl,hj];rfl
  ·rw [if_neg e]
 have key: ∀(m:Nat) (p:Nat×Int),L[m]? =some p->p.1=k->m=j:=by intro m p hm e;have hml:=(List.getElem?_eq_some_iff.1 hm).1;refine ((aqp (by simpa using hml) hn).1 ?_);rw [an3,an3,hm,hj];simp [e]
 refine ⟨by rw [e1];exact hn,fun i x=>?_⟩;rw [List.mem_iff_getElem?];constructor
 ·rintro ⟨m,hm⟩;rw [anO] at hm;by_cases e:j=m
  ·rw [if_pos e,if_pos (by omega)] at hm;cases hm;exact .inl ⟨rfl,rfl⟩
  ·rw [if_neg e] at hm;refine .inr ⟨fun e2=>e (key m _ hm e2).symm,aop hm⟩
 ·rintro (⟨rfl,rfl⟩|⟨h1,h2⟩)
  ·exact ⟨j,by rw [anO,if_pos rfl,if_pos hjl]⟩
  ·obtain ⟨m,hm⟩:=List.mem_iff_getElem?.1 h2;refine ⟨m,?_⟩;rw [anO,if_neg]
   ·exact hm
   ·intro e;subst e;rw [hj] at hm;cases hm;exact h1 rfl
end
section
variable {n:Nat} {ds:List Deferred} {Q:Po} {F:Fr} {w w':World} {ops rest:List Oper} {d:Nat} {ty:TypeId} {pos:String} {aft:Array Edge}
theorem jb {x i y:Operand} {t e:TypeId} {b k:Nat} {u:Int} {f:Nat->Option Int} [ht:Und prog t (.map 3 e)] (h:ImL w b f) (hk:k<9223372036854775808)
 (hx:ev n F x=.map (some b)) (hi:ev n F i=vi k) (hy:ev n F y=vi u) (c: ∀w',ImL w' b (EF f k u)->Chg (fun j=>j=b) w w'->w'.heap.size=w.heap.size->Wl prog n ds Q ops rest F w'):
 Wl prog n ds Q ops (⟨none,.mapUpdate t x i y,ty,pos,aft,none⟩::rest) F w:=by
 obtain ⟨L,h1,h2,h3⟩:=h;by_cases hin: ∃v,(k,v)∈L
 ·obtain ⟨v,hv⟩:=hin;have hvm:((vi k,vi v):Value×Value)∈imP L:=List.mem_map.2 ⟨_,hv,rfl⟩;refine jV Zw h2 (Zx hk) hvm hx hi hy fun w' j v' hj m c' s=>c w' ?_ c' s;rw [an3] at hj;obtain ⟨⟨k',v2⟩,hj1,hj2⟩:=Option.map_eq_some_iff.1 hj;simp only [Prod.mk.injEq,Value.int.injEq,true_and] at hj2;obtain rfl:k'=k:=by omega
  obtain ⟨q1,q2⟩:=abq (u:=u) h1 hj1;refine ⟨L.set j (k',u),q1,?_,fun i x=>?_⟩
  ·rw [imP,List.map_set];exact m
  ·rw [q2];unfold EF;by_cases e:i=k'
   ·rw [if_pos e];simp [e];exact eq_comm
   ·rw [if_neg e,h3];simp [e]
 ·have hno: ∀p∈imP L,p.1≠vi k:=by
   intro p hp e;obtain ⟨⟨k',v⟩,hm,rfl⟩:=List.mem_map.1 hp;simp only [Value.int.injEq,true_and] at e;obtain rfl:k'=k:=by omega
   exact hin ⟨v,hm⟩
  refine gU Zw h2 (Zx hk) hno hx hi hy fun w' m c' s=>c w' ⟨L++ [(k,u)],?_,?_,fun i x=>?_⟩ c' s
  ·rw [aoN,aql];refine ⟨h1,by simp,fun a ha b hb e=>?_⟩;simp at hb;obtain ⟨p,hp,rfl⟩:=List.mem_map.1 ha;refine hin ⟨p.2,?_⟩;rw [<-hb, <-e];exact hp
  ·rw [imP,aoN];exact m
  ·unfold EF;by_cases e:i=k
   ·rw [if_pos e,apN];subst e;constructor
    ·intro q;cases q;simp
    ·rintro (q|q)
     ·exact absurd ⟨x,q⟩ hin
     ·simp at q;rw [q]
   ·rw [if_neg e,h3,apN];simp [e]
theorem Wk.Wl.aiJ {x i:Operand} {t e:TypeId} {b k:Nat} {bytes:Nat} {f:Nat->Option Int} [ht:Und prog t (.map 3 e)] [he:ElT prog e 1 bytes false (vi 0)] (h:ImL w b f) (hk:k<9223372036854775808)
 (hx:ev n F x=.map (some b)) (hi:ev n F i=vi k) (c:Wl prog n ds Q ops rest (upd F d (.tuple #[vi ((f k).getD 0),.bool (f k).isSome])) w):
 Wl prog n ds Q ops (⟨some d,.lookup t x i true,ty,pos,aft,none⟩::rest) F w:=by
 obtain ⟨L,h1,h2,h3⟩:=h;refine jU Zw h2 (Zx hk) hx hi (fun r hr=>?_) (fun hr=>?_)
 ·obtain ⟨⟨k',v⟩,hm,e⟩:=List.mem_map.1 hr;simp only [Prod.mk.injEq,Value.int.injEq,true_and] at e;obtain ⟨e1,rfl⟩:=e;obtain rfl:k'=k:=by omega
  rw [(h3 _ _).2 hm] at c;exact c
 ·have:f k=none:=by
   cases hf:f k with
   |none=>rfl
   |some v=>exact absurd rfl (hr _ (List.mem_map.2 ⟨_,(h3 _ _).1 hf,rfl⟩))
  rw [this] at c;exact c
end
end Go.Proofs.YtfbnfhhmiiahnaaGreatDoor
namespace Go.Proofs.YtfbnfhhmiiahnaaGreatDoor
open Go Wk
open Go.RowKit (Below)
attribute [local irreducible] Go.Calls
theorem Ru {g:Giv} (hok:og g.tree=true) {i:Nat} (hi:i<g.tree.length):uP g i=if g.gone.contains (oI g.tree i)=true then some i else if i=0 then none else uP g (par g.tree i):=by
 unfold uP;by_cases h0:i=0
 ·subst h0;rw [BG,ang,aqr,if_pos rfl];cases g.gone.contains (oI g.tree 0)<;>rfl
 ·rw [BH hok h0 hi,List.cons_append,aqr,if_neg h0];cases g.gone.contains (oI g.tree i)<;>rfl
section
variable {Pb:Nat->Prop} {bw bm:Nat} {N:List Nb} {ord:List Nat} {fl:List (Nm×Int)} {nv ov:Value} {W W':World}
theorem Pj {b2 i:Nat} (g:WkM Pb bw bm N ord fl nv ov W) (h2:Bk W b2 80 [pT bw]) (hi:i<N.length):
 Calls prog 91 #[vi i,pT b2] W (Ret fun r w'=>r=.tuple #[.bool ((bnF N i).device&&(bnF N i).card.isNone),vi (-1)]/\w'=W):=by
 have hnl:=g.nl;obtain ⟨na,nc,rfl,_,_⟩:=g.nd.row.form;have hrd:=g.nd.row.rd (nS nbC);obtain ⟨x,hx⟩:=nT N hi;rw [tH hx];refine nM func91 rfl ntmps91 rfl ?_;refine qq4 ?_;refine ah (u:=pT bw) rfl (h2.cell (o:=0) rfl) ?_;refine qq2 ?_;refine ah (u:=.slice na N.length nc) rfl (g.b.cell (o:=0) rfl) ?_;(repeat' (refine aa1 ?_));refine aK hrd rfl rfl (by omega) hx fun b o cs hl hR hat=>?_;obtain rfl:cs=nbC x:=hR;(repeat' (refine aa5 ?_));refine ah (u:=.bool x.bn.device) rfl (hat.get 1 rfl) ?_;cases hd:x.bn.device with
 |false=>refine qq3 ?_;exact aB rfl rfl rfl ⟨_,rfl,rfl,rfl⟩
 |true=>
  refine qq5 ?_;refine ah (u:=pT bw) rfl (h2.cell (o:=0) rfl) ?_;refine qq2 ?_;refine ah (u:=.slice na N.length nc) rfl (g.b.cell (o:=0) rfl) ?_;refine qq5 ?_;refine aK hrd rfl rfl (by omega) hx fun b o cs hl hR hat=>?_;obtain rfl:cs=nbC x:=hR;refine qq2 ?_;refine ah (u:=vi (pU x.bn.card)) rfl (hat.get 4 rfl) ?_;clear hat;cases hc:x.bn.card with
  |none=>rw [show pU none= -1 from rfl];(repeat' (first|refine qq3 ?_|(refine aa2 (fun _=>?_) (fun _=>?_)<;>(first|(exfalso;omega)|skip))));exact aB rfl rfl rfl ⟨_,rfl,rfl,rfl⟩
  |some k=>rw [show pU (some k)=(k:Int) from rfl];(repeat' (first|refine qq3 ?_|(refine aa2 (fun _=>?_) (fun _=>?_)<;>(first|(exfalso;omega)|skip))));exact aB rfl rfl rfl ⟨_,rfl,rfl,rfl⟩
theorem Md {b2 b4 bq i m r:Nat} {mc:List Value} {f:Nat->Option Int} (g:WkM Pb bw bm N ord fl nv ov W) (h2:Bk W b2 80 [pT bw]) (h4:Bk W b4 193 mc) (hq:Bk W bq 5 [.int .u8 r]) (hr:r<7) (hm:mc[r]? =some (.map (some m))) (hf:ImL W m f) (hi:i<N.length):
 Calls prog 90 #[vi i,pT b4,pT bq,pT b2] W (Ret fun v w'=>v=.tuple #[.bool ((f i).isSome&&(bnF N i).device),vi ((f i).getD 0)]/\w'=W):=by
 have hnl:=g.nl;obtain ⟨na,nc,rfl,_,_⟩:=g.nd.row.form;have hrd:=g.nd.row.rd (nS nbC);obtain ⟨x,hx⟩:=nT N hi;rw [tH hx];refine nM func90 rfl ntmps90 rfl ?_;refine qq4 ?_;refine ah (u:=.int .u8 r) rfl (hq.cell (o:=0) rfl) ?_;refine iF rfl rfl (by omega) (by omega) ?_;refine ah (u:=.map (some m)) rfl (h4.cell (o:=r) hm) ?_;(repeat' (refine aa1 ?_));refine Wl.aiJ hf (by omega) rfl rfl ?_;refine qq5 ?_;cases hs:f i with
 |none=>rw [show (none:Option Int).isSome=false from rfl];refine qq3 ?_;exact aB rfl rfl rfl ⟨_,rfl,rfl,rfl⟩
 |some u=>rw [show (some u).isSome=true from rfl];(repeat' (refine aO rfl rfl ?_));refine ah (u:=pT bw) rfl (h2.cell (o:=0) rfl) ?_;refine qq2 ?_;refine ah (u:=.slice na N.length nc) rfl (g.b.cell (o:=0) rfl) ?_;refine qq5 ?_;refine aK hrd rfl rfl (by omega) hx fun b o cs hl hR hat=>?_;obtain rfl:cs=nbC x:=hR;refine qq2 ?_;refine ah (u:=.bool x.bn.device) rfl (hat.get 1 rfl) ?_;refine qq3 ?_;exact aB rfl rfl rfl ⟨_,rfl,rfl,rfl⟩
theorem Bh {b2 b4 r:Nat}:Calls prog 89 #[.int .u8 r,pT b4,pT b2] W (Ret fun v w'=> ∃bq,v=.agg #[.int .u8 r,.func (.func 90) #[] #[pT b4,pT bq,pT b2]]/\W.heap.size<=bq/\Bk w' bq 5 [.int .u8 r]/\New W w'):=by
 refine nM func89 rfl ntmps89 rfl ?_;refine qq4 ?_;refine Wl.box rfl fun w1 b1 n1 s1=>?_;replace b1:Bk w1 W.heap.size 5 [.int .u8 r]:=b1;refine Wl.alloc fun w2 h2 n2 s2=>?_;replace h2:Bk w2 w1.heap.size 208 [.int .u8 0,.nilFunc]:=h2;refine qq2 ?_;refine ah (u:=.int .u8 r) rfl ((b1.chg n2 id).cell (o:=0) rfl) ?_;refine dn (f1:=[]) (c1:=[pT b4,pT W.heap.size,pT b2]) rfl rfl ?_;refine aX (ps:=[(0,.tmp 5),(1,.tmp 6)]) (parts:=[(0,.int .u8 r),(1,.func (.func 90) #[] #[pT b4,pT W.heap.size,pT b2])]) rfl rfl (by simp [Value.cells]) ?_;refine aH (new:=[.int .u8 r,.func (.func 90) #[] #[pT b4,pT W.heap.size,pT b2]]) h2 rfl rfl rfl rfl zl2 (by intro c hc;simp at hc;rcases hc with rfl|rfl<;>rfl) fun w3 b3 c3 s3=>?_;refine qq7 ?_;have hz:=n1.size;have hb1:=b1.lt;refine fD (y5 rfl (qO rfl rfl b3 rfl)) ⟨_,rfl,W.heap.size,rfl,aap _,(b1.chg n2 id).chg c3 fun e=>by omega,(Chg.trans (M:=fun k=>k=w1.heap.size) (New.trans n1 n2).any c3 fun k _ e=>e).tN⟩
theorem Pm {b1 b2 b3 gm i:Nat} {L:List (Nm×Int)} {G:Giv} {tv cv fv gv:Value} {Pt:Nat->Prop} (g:WkM Pb bw bm N ord fl nv ov W) (h1:Bk W b1 126 [.map (some gm)]) (h2:Bk W b2 80 [pT bw]) (h3:Bk W b3 28 [tv,cv,fv,gv]) (ht:RdS rNd 3 Pt W tv G.tree) (mp:ru prog 9 W gm (JE L)) (cn:Cnt G.gone L)
 (hok:og G.tree=true) (hN:N.length=G.tree.length) (hp: ∀k,k<N.length->(bnF N k).path=oI G.tree k) (hi:i<N.length):
 Calls prog 92 #[vi i,pT b1,pT b2,pT b3] W (Ret fun v w'=>v=.tuple #[.bool (uP G i).isSome,vi (pU (uP G i))]/\New W w'):=by
 have hnl:=g.nl;obtain ⟨na,nc,rfl,_,_⟩:=g.nd.row.form;have hrd:=g.nd.row.rd (nS nbC);obtain ⟨ta,tc,rfl,_,_⟩:=ht.form;refine nM func92 rfl ntmps92 rfl ?_;refine qq2 ?_;refine aA (σ:=Option Nat) (fun q=>[(0,vi (pU q)),(1,pT b1),(2,pT b2),(3,pT b3)]) (fun q w'=>(∀k,q=some k->k<N.length/\uP G i=uP G k)/\(q=none->uP G i=none)/\New W w') (fun q=>(pU q+1).toNat) (some i) (sl rfl) ⟨fun k e=>by cases e;exact ⟨hi,rfl⟩,fun e=>(by cases e),ay _ _⟩ ?_;rintro q F w1 ⟨hs,hno,n1⟩;simp only [pq];cases q with
 |none=>rw [hno rfl,show pU none= -1 from rfl];refine qq4 ?_;refine fF rfl (by kernel_rfl) ?_;(repeat' (first|refine aa3 ?_|refine af ?_|refine fE rfl rfl ?_|refine yO ?_|(refine iP rfl rfl (fun _=>?_) (fun _=>?_)<;>(first|(exfalso;omega)|skip))));intro w2 n2;(repeat' (first|refine Uu ?_|(refine aU rfl rfl (fun _=>?_) (fun _=>?_)<;>(first|(exfalso;omega)|skip))));exact aB rfl rfl rfl ⟨_,rfl,rfl,New.trans n1 n2⟩
 |some k=>
  obtain ⟨hk,he⟩:=hs k rfl;rw [he,Ru hok (by omega)];rw [show pU (some k)=(k:Int) from rfl];obtain ⟨x,hx⟩:=nT N hk;have hxp:x.bn.path=oI G.tree k:=by rw [<-tH hx];exact hp k hk
  have hpl:=g.fn.2 x (aop hx);obtain ⟨qk,hqk⟩:=L9 (s:=x.bn.path) (by omega);obtain ⟨y,hy⟩:=nT G.tree (k:=k) (by omega);have hyk:=qK hok hy;have hya:ndA G.tree k=y:=by unfold ndA;rw [an7,hy];rfl
  refine qq4 ?_;refine fF rfl (by kernel_rfl) ?_;(repeat' (first|refine aa3 ?_|refine aW rfl rfl ?_|(refine iP rfl rfl (fun _=>?_) (fun _=>?_)<;>(first|(exfalso;omega)|skip))));refine au (u:=.map (some gm)) rfl (fun w' hw=>(h1.chg (New.trans n1 hw) id).cell (o:=0) rfl) ?_;(repeat' (refine aW rfl rfl ?_));refine au (u:=pT bw) rfl (fun w' hw=>(h2.chg (New.trans n1 hw) id).cell (o:=0) rfl) ?_;(repeat' (first|refine aW rfl rfl ?_|refine dA rfl ?_|refine aa6 ?_));refine au (u:=.slice na N.length nc) rfl (fun w' hw=>(g.b.chg (New.trans n1 hw) id).cell (o:=0) rfl) ?_;(repeat' (first|refine aa3 ?_|refine aW rfl rfl ?_));refine bQ hrd (fun w' hw=>(New.trans n1 hw).keep) rfl rfl (by omega) hx fun b o cs hl hR hat=>?_;obtain rfl:cs=nbC x:=hR;(repeat' (first|refine aW rfl rfl ?_|refine aa6 ?_));refine au (u:=vs x.bn.path) rfl (fun w' hw=>(hat w' hw).get 0 rfl) ?_;clear hat;(repeat' (refine aW rfl rfl ?_));refine kD (l:=JE L) (Maps.string_keyed underlying9) (fun w' hw=>mp.chg (New.trans n1 hw) id) (fun r r' m1 m2=>?_) hqk rfl rfl (fun r hr=>?_) (fun hr=>?_)
  ·obtain ⟨⟨s1,c1⟩,q1,e1⟩:=List.mem_map.1 m1;obtain ⟨⟨s2,c2⟩,q2,e2⟩:=List.mem_map.1 m2;simp only [Prod.mk.injEq] at e1 e2;obtain rfl:=xk e1.1;obtain rfl:=xk e2.1;rw [<-e1.2, <-e2.2,G9 cn.nd q1 q2]
  ·obtain ⟨⟨s1,c1⟩,q1,e1⟩:=List.mem_map.1 hr;simp only [Prod.mk.injEq] at e1;obtain ⟨e1,rfl⟩:=e1;obtain rfl:=xk e1;have hc:=cn.mem _ q1;dsimp only at hc;(repeat' (first|refine af ?_|refine aW rfl rfl ?_|refine aa9 ?_|(refine gQ rfl rfl (fun _=>?_) (fun _=>?_)<;>(first|(exfalso;omega)|skip))));intro w2 n2;rw [if_pos (List.contains_iff_mem.2 (hxp▸hc.2.2))];(repeat' (first|refine Uu ?_|(refine aU rfl rfl (fun _=>?_) (fun _=>?_)<;>(first|(exfalso;omega)|skip))));exact aB rfl rfl rfl ⟨_,rfl,rfl,New.trans n1 n2⟩
  ·have hcn: ¬G.gone.contains (oI G.tree k)=true:=fun e=>by obtain ⟨c,hc⟩:=cn.all _ (List.contains_iff_mem.1 e);exact hr _ (List.mem_map.2 ⟨_,hc,rfl⟩) (by rw [hxp])
   (repeat' (first|refine af ?_|refine aW rfl rfl ?_|refine aa9 ?_|(refine gQ rfl rfl (fun _=>?_) (fun _=>?_)<;>(first|(exfalso;omega)|skip))));intro w2 n2;rw [if_neg hcn];have n12:=New.trans n1 n2;refine qq2 ?_;refine ah (u:=.slice ta G.tree.length tc) rfl ((h3.chg n12 id).cell (o:=0) rfl) ?_;(repeat' (refine aa1 ?_));refine aK (ht.keep oh n12.keep) rfl rfl (by omega) hy fun b o cs hl hR hat=>?_;obtain ⟨pvn,rfl,hpv⟩:=hR;(repeat' (refine aa5 ?_));refine ah (u:=vi y.parent) rfl (hat.get 0 rfl) ?_;clear hat;refine qq6 ?_;by_cases h0:k=0
   ·subst h0;rw [(hyk.root rfl).1];refine ax none (sl rfl) ⟨fun k e=>(by cases e),fun _=>?_,n12⟩ (by simp [pU]);exact if_pos rfl
   ·have hpar:=uK hok h0 (by omega);rw [hya] at hpar;rw [hpar.2];rw [if_neg h0];exact ax (some (par G.tree k)) (sl rfl) ⟨fun j e=>by cases e;exact ⟨by omega,rfl⟩,fun e=>(by cases e),n12⟩ (by simp only [pU];omega)
end
end Go.Proofs.YtfbnfhhmiiahnaaGreatDoor
namespace Go.Proofs.YtfbnfhhmiiahnaaGreatDoor
open Go Wk
def qm (g:Giv):Int:=if og g.tree=false then 40 else if uD g.cards=false then 70 else if 512<g.fails.length∨512<g.gone.length then 1 else 0
theorem yx {g:Giv}:qm g=0↔og g.tree=true/\uD g.cards=true/\g.fails.length<=512/\g.gone.length<=512:=by
 unfold qm;cases og g.tree<;>cases uD g.cards<;>simp
theorem zh {g:Giv} {i:Nat} (h:i<g.tree.length):oN g i=yu g i:=if_pos h
theorem XR {g:Giv} {i:Nat} (h: ¬i<g.tree.length):oN g i=default:=if_neg h
theorem yA (g:Giv) (i:Nat):(yu g i).wants=(if 0<i then [par g.tree i] else [])++Ai g.tree i:=rfl
theorem FB {t:List Nd} {i k:Nat}:k∈Ai t i↔ ∃e∈nX t,e.src=i/\e.soft=false/\qR t i=true/\e.dst=some k:=by
 unfold Ai;rw [List.mem_filterMap];constructor
 ·rintro ⟨e,he,h⟩;split at h
  ·rename_i hc;exact ⟨e,he,hc.1,hc.2.1,hc.2.2,h⟩
  ·cases h
 ·rintro ⟨e,he,h1,h2,h3,h4⟩;exact ⟨e,he,by rw [if_pos ⟨h1,h2,h3⟩];exact h4⟩
theorem Vp {g:Giv} (hok:og g.tree=true):InN (yu g) g.tree.length:=by
 intro i hi k hk;rw [yA] at hk;rcases List.mem_append.1 hk with hk|hk
 ·split at hk
  ·rename_i h0
   rw [List.mem_singleton.1 hk];have:=(uK hok (by omega) hi).1;omega
  ·cases hk
 ·obtain ⟨e,he,_,_,_,h4⟩:=FB.1 hk;exact (ug e he).2 k h4
theorem KD {g:Giv} (hok:og g.tree=true):InN (oN g) g.tree.length:=by
 intro i hi k hk;rw [zh hi] at hk;exact Vp hok i hi k hk
theorem FC {g:Giv} (hok:og g.tree=true) (fl:Nm->Bool) {i:Nat} (hi:i<g.tree.length):
 (rowOf (oN g) (vH (oN g) fl g.tree.length).2 i).1=0↔Bnd (oN g) fl i:=by
 obtain ⟨v,f⟩:=KC (oN g) fl g.tree.length;rw [O7];constructor
 ·exact fun h=>v.b i h.2
 ·exact fun h=>⟨h.inv.1,f.bnd v (KD hok) h hi⟩
end Go.Proofs.YtfbnfhhmiiahnaaGreatDoor
namespace Go.Proofs.YtfbnfhhmiiahnaaGreatDoor
open Go Wk
open Go.RowKit (Below)
attribute [local irreducible] Go.Calls
def xH (G:Giv) (es:List Ed) (i:Nat):Bn:=
 {path:=oI G.tree i,device:=qR G.tree i,level:=match (if qR G.tree i=true then qV G.cards G.tree i else none) with|some k=>(G.cards.getD k default).level|none=>0,
  reason:=if onM G.tree i=false then 1 else 0,card:=if qR G.tree i=true then qV G.cards G.tree i else none,why:= -1,
  wants:=(if 0<i then [par G.tree i] else [])++es.filterMap fun e=>if e.src=i/\e.soft=false/\qR G.tree i=true then e.dst else none}
def xI (G:Giv) (es:List Ed) (i:Nat):Bn:=if i<G.tree.length then xH G es i else default
abbrev cnts (t:List Nd) (e:Ed):Bool:= !e.soft&&qR t e.src
def vI (t:List Nd) (es:List Ed) (i:Nat):Option Int:=if es.any (fun e=>decide (e.src=i)&&(cnts t e&&e.dst.isNone))=true then some (-1) else none
theorem Rx (t:List Nd) (es:List Ed) (e:Ed):vI t (es++ [e])=if (cnts t e&&e.dst.isNone)=true then EF (vI t es) e.src (-1) else vI t es:=by
 funext i;unfold vI;rw [List.any_append,List.any_cons,List.any_nil,aqm];cases hc:(cnts t e&&e.dst.isNone) with
 |false=>rw [if_neg (by decide: ¬false=true),Bool.and_false,aqm]
 |true=>
  rw [if_pos rfl,aqs];unfold EF;by_cases hi:i=e.src
  ·rw [if_pos hi,if_pos];simp [hi]
  ·rw [if_neg hi];have:decide (e.src=i)=false:=decide_eq_false fun h=>hi h.symm;rw [this,aqm]
theorem Ry (G:Giv) (es:List Ed) (e:Ed) (i:Nat):xH G (es++ [e]) i=if i=e.src/\cnts G.tree e=true then (match e.dst with|some d=>{xH G es i with wants:=(xH G es i).wants++ [d]}|none=>xH G es i) else xH G es i:=by
 unfold xH;rw [aqt];by_cases hi:i=e.src/\cnts G.tree e=true
 ·rw [if_pos hi];obtain ⟨rfl,hc⟩:=hi;simp only [cnts,ann,Bool.not_eq_true'] at hc;cases hd:e.dst with
  |none=>simp [hc.1,hc.2,hd]
  |some d=>simp [hc.1,hc.2,hd]
 ·rw [if_neg hi];have: ¬(e.src=i/\e.soft=false/\qR G.tree i=true):=fun h=>hi ⟨h.1.symm,by rw [<-h.1] at h;simp [cnts,h.2.1,h.2.2]⟩;rw [aqn,if_neg this];simp
theorem Rz (G:Giv) (es:List Ed) (e:Ed):xI G (es++ [e])=if cnts G.tree e=true/\e.src<G.tree.length then (match e.dst with|some d=>fun i=>if i=e.src then {xI G es i with wants:=(xI G es i).wants++ [d]} else xI G es i|none=>xI G es) else xI G es:=by
 funext i;unfold xI;rw [Ry];by_cases hc:cnts G.tree e=true/\e.src<G.tree.length
 ·rw [if_pos hc];cases e.dst with
  |none=>by_cases hl:i<G.tree.length<;>simp [hl]
  |some d=>
   dsimp only;by_cases hi:i=e.src
   ·subst hi;simp [hc.1,hc.2]
   ·simp [hi]
 ·rw [if_neg hc];by_cases hl:i<G.tree.length
  ·rw [if_pos hl,if_pos hl,if_neg];rintro ⟨rfl,h⟩;exact hc ⟨h,hl⟩
  ·rw [if_neg hl,if_neg hl]
def yB (rs:List (List Nat)) (i:Nat):Option Int:=(I5 rs i).map fun k=>(k:Int)
theorem RD (rs:List (List Nat)) (l:List Nat) (i:Nat):yB (rs++ [l]) i=if i∈l then some ((l.headD 0:Nat):Int) else yB rs i:=by
 unfold yB I5;rw [aqu,aoK,aqv];split<;>rfl
theorem Vq (rs:List Rfs) (r:Rfs):I4 (rs++ [r])=EF (I4 rs) r.node r.by_:=by
 funext i;unfold I4 EF;rw [aqu,aoK,aqv];by_cases h:i=r.node
 ·rw [if_pos h,if_pos h.symm]
 ·rw [if_neg h,if_neg fun e=>h e.symm]
noncomputable def Aj (G:Giv) (i:Nat):Nat->Option Int
 |0=>if qR G.tree i=true/\qV G.cards G.tree i=none then some (-1) else none
 |1=>if qR G.tree i=true then I4 (qN G.cards G.tree).2 i else none
 |2=>if qR G.tree i=true then vI G.tree (nX G.tree) i else none
 |3=>if qR G.tree i=true then yB (tC G.tree) i else none
 |_=>(uP G i).map fun k=>(k:Int)
def Bj (p:Nat×Int) (r:Nat) (o:Option Int):Nat×Int:=if p.1=0 then (match o with|some y=>(r,y)|none=>p) else p
noncomputable def Dx (G:Giv) (i:Nat):Nat->Nat×Int
 |0=>(if onM G.tree i=false then 1 else 0, -1)
 |m+1=>Bj (Dx G i m) (m+2) (Aj G i m)
theorem Vr {t:List Nd} {i:Nat} (hd:qR t i=true):vI t (nX t) i=if (∃e∈nX t,e.src=i/\e.soft=false/\e.dst=none) then some (-1) else none:=by
 unfold vI;by_cases h: ∃e∈nX t,e.src=i/\e.soft=false/\e.dst=none
 ·rw [if_pos h,if_pos];obtain ⟨e,he,h1,h2,h3⟩:=h;refine List.any_eq_true.2 ⟨e,he,?_⟩;simp [cnts,h1,h2,h3,hd]
 ·rw [if_neg h,if_neg];intro e;obtain ⟨x,hx,h1⟩:=List.any_eq_true.1 e;simp [cnts] at h1;exact h ⟨x,hx,h1.1,h1.2.1.1,h1.2.2⟩
theorem RF (G:Giv) (i:Nat):Dx G i 5=firstM G i:=by
 have hd0:onM G.tree i=false->qR G.tree i=false:=fun h=>by unfold qR;rw [h];simp
 simp only [Dx];unfold firstM;dsimp only;by_cases h1:onM G.tree i=false
 ·rw [if_pos h1,if_pos h1];rfl
 rw [if_neg h1,if_neg h1];by_cases h2:qR G.tree i=true/\qV G.cards G.tree i=none
 ·rw [if_pos h2];simp only [Aj,if_pos h2];rfl
 rw [if_neg h2];simp only [Aj,if_neg h2];cases hd:qR G.tree i with
 |false=>simp only [anP,if_false,false_and];cases uP G i<;>rfl
 |true=>
  simp only [if_true,true_and,Vr hd];cases I4 (qN G.cards G.tree).2 i with
  |some b=>rfl
  |none=>
   by_cases h3: ∃e∈nX G.tree,e.src=i/\e.soft=false/\e.dst=none
   ·simp only [if_pos h3];rfl
   ·simp only [if_neg h3];unfold yB;cases I5 (tC G.tree) i with
    |some k=>rfl
    |none=>cases uP G i<;>rfl
noncomputable def zi (G:Giv) (m i:Nat):Bn:={xH G (nX G.tree) i with reason:=(Dx G i m).1,why:=(Dx G i m).2}
theorem Vs (G:Giv) (i:Nat):zi G 5 i=yu G i:=by
 unfold zi xH yu Ai;rw [RF];rfl
theorem RG (G:Giv) (i:Nat):zi G 0 i=xH G (nX G.tree) i:=rfl
theorem Me {N:List Nb} {i:Nat} {y:Nb} (hi:i<N.length):bnF (N.set i y)=fun k=>if k=i then y.bn else bnF N k:=by
 funext k;unfold bnF;rw [an7,an7,anO];by_cases e:i=k
 ·subst e;rw [if_pos rfl,if_pos hi,if_pos rfl];rfl
 ·rw [if_neg e,if_neg fun h=>e h.symm]
theorem MB {N:List Nb} {i:Nat} {y:Nb} (h: ∀k,stF N k=0) (hy:y.st=0): ∀k,stF (N.set i y) k=0:=by
 intro k;have:=h k;unfold stF at this ⊢;rw [an7] at this ⊢;rw [anO];split
 ·split
  ·exact hy
  ·rfl
 ·exact this
section
variable {Pb:Nat->Prop} {bw bm:Nat} {N:List Nb} {fl:List (Nm×Int)} {nv:Value} {W W':World}
theorem WkM.want (g:WkM Pb bw bm N [] fl nv (.slice none 0 0) W) {i d:Nat} {x:Nb} {w1:World} {v':SV} (hx:N[i]? =some x) (hd:d<N.length) (ho:nP (Wk.one viN) 3 1 Pb NoB w1 (svV v') (x.bn.wants++ [d])) (c1:Chg (fun k=>(svV x.wv).ownBlock=some k) W w1) (lie:(svV v').ownBlock=(svV x.wv).ownBlock∨ ∀k,(svV v').ownBlock=some k->W.heap.size<=k)
 (hr:nP (flat nbC) 130 9 Pb NoB W' nv (N.set i {x with wv:=v',bn:={x.bn with wants:=x.bn.wants++ [d]}})) (c2:Chg (fun k=>nv.ownBlock=some k) w1 W'):WkM Pb bw bm (N.set i {x with wv:=v',bn:={x.bn with wants:=x.bn.wants++ [d]}}) [] fl nv (.slice none 0 0) W':=by
 have hxm:=aop hx;have hel:=g.nd.el x hxm;have b1:=g.b.chg c1 fun e=>hel.oM g.b rfl e rfl;have m1:=g.mp.chg c1 fun e=>hel.qQ g.mp e rfl;have hrow:=g.nd.row.chg (nK nbC) c1 fun k hk e=>g.nd.vz x hxm k e hk;refine ⟨b1.chg c2 fun e=>hrow.oM b1 rfl e rfl,g.nd.set hx ho c1 lie hr c2,aI,m1.chg c2 fun e=>hrow.qQ m1 e rfl,fun y hy k e1 e2=>(by cases e2),fun y hy k hk=>?_,by rw [apn];exact g.nl,⟨g.fn.1,fun y hy=>?_⟩,g.lo2⟩
 ·rw [apn];rcases apZ hy with hy|rfl
  ·exact g.win y hy k hk
  ·rcases List.mem_append.1 hk with hk|hk
   ·exact g.win x hxm k hk
   ·rw [List.mem_singleton.1 hk];exact hd
 ·rcases apZ hy with hy|rfl
  ·exact g.fn.2 y hy
  ·exact g.fn.2 x hxm
theorem WkM.adL (g:WkM Pb bw bm N [] fl nv (.slice none 0 0) W) {i:Nat} {x y:Nb} (hx:N[i]? =some x) (hw:y.wv=x.wv) (hn:y.bn.wants=x.bn.wants) (hp:y.bn.path=x.bn.path) (hr:nP (flat nbC) 130 9 Pb NoB W' nv (N.set i y)) (c:Chg (fun k=>nv.ownBlock=some k) W W'):WkM Pb bw bm (N.set i y) [] fl nv (.slice none 0 0) W':=by
 have hxm:=aop hx;refine ⟨g.b.chg c fun e=>g.nd.row.oM g.b rfl e rfl,g.nd.put hx (by rw [hw]) hn hr c,aI,g.mp.chg c fun e=>g.nd.row.qQ g.mp e rfl,fun z hz k e1 e2=>(by cases e2),fun z hz k hk=>?_,by rw [apn];exact g.nl,⟨g.fn.1,fun z hz=>?_⟩,g.lo2⟩
 ·rw [apn];rcases apZ hz with hz|rfl
  ·exact g.win z hz k hk
  ·rw [hn] at hk;exact g.win x hxm k hk
 ·rcases apZ hz with hz|rfl
  ·exact g.fn.2 z hz
  ·rw [hp];exact g.fn.2 x hxm
end
structure JdE (bw b2 b3 b4:Nat) (mb:List Nat) (ff:Nat->Nat->Option Int) (tv cv fv gv:Value) (W:World):Prop where
 h2:Bk W b2 80 [pT bw]
 h3:Bk W b3 28 [tv,cv,fv,gv]
 h4:Bk W b4 193 (mb.map fun b=>.map (some b))
 im: ∀(r b:Nat),mb[r]? =some b->ImL W b (ff r)
 ml:mb.length=7
 nd:mb.Nodup
section
variable {bw b2 b3 b4:Nat} {mb:List Nat} {ff:Nat->Nat->Option Int} {tv cv fv gv:Value} {W W':World} {M:Nat->Prop}
theorem JdE.chg (e:JdE bw b2 b3 b4 mb ff tv cv fv gv W) (c:Chg M W W') (n2: ¬M b2) (n3: ¬M b3) (n4: ¬M b4) (nm: ∀b∈mb, ¬M b):JdE bw b2 b3 b4 mb ff tv cv fv gv W':=
 ⟨e.h2.chg c n2,e.h3.chg c n3,e.h4.chg c n4,fun r b h=>(e.im r b h).chg c (nm b (aop h)),e.ml,e.nd⟩
theorem JdE.new (e:JdE bw b2 b3 b4 mb ff tv cv fv gv W) (c:New W W'):JdE bw b2 b3 b4 mb ff tv cv fv gv W':=e.chg c id id id i3
theorem ImL.ml {b:Nat} {f:Nat->Option Int} (h:ImL W b f): ∃l,ru prog 3 W b l:=by obtain ⟨L,_,h,_⟩:=h;exact ⟨_,h⟩
theorem JdE.own (e:JdE bw b2 b3 b4 mb ff tv cv fv gv W) {α:Type} {R:Rel α} {ty:TypeId} {sz:Nat} {Pb Pe:Nat->Prop} {v:Value} {xs:List α} (o:nP R ty sz Pb Pe W v xs) (c:Chg (fun k=>v.ownBlock=some k) W W') (n2:ank ty 80=false) (n3:ank ty 28=false) (n4:ank ty 193=false):JdE bw b2 b3 b4 mb ff tv cv fv gv W':=
 e.chg c (fun h=>o.oM e.h2 n2 h rfl) (fun h=>o.oM e.h3 n3 h rfl) (fun h=>o.oM e.h4 n4 h rfl) fun b hb h=>by obtain ⟨r,hr⟩:=List.mem_iff_getElem?.1 hb;obtain ⟨l,hl⟩:=(e.im r b hr).ml;exact o.qQ hl h rfl
theorem JdE.put (e:JdE bw b2 b3 b4 mb ff tv cv fv gv W) {r b:Nat} {f:Nat->Option Int} (hr:mb[r]? =some b) (h:ImL W' b f) (c:Chg (fun k=>k=b) W W'):JdE bw b2 b3 b4 mb (fun s=>if s=r then f else ff s) tv cv fv gv W':=by
 obtain ⟨l,hl⟩:=(e.im r b hr).ml;refine ⟨e.h2.chg c fun q=>e.h2.qQ hl q,e.h3.chg c fun q=>e.h3.qQ hl q,e.h4.chg c fun q=>e.h4.qQ hl q,fun s d hs=>?_,e.ml,e.nd⟩;by_cases hsr:s=r
 ·subst hsr;rw [if_pos rfl];rw [hr] at hs;cases hs;exact h
 ·rw [if_neg hsr];refine (e.im s d hs).chg c fun q=>?_;subst q;refine hsr ?_;exact (aqp (by have:=(List.getElem?_eq_some_iff.1 hs).1;exact this) e.nd).1 (hs.trans hr.symm)
end
abbrev Jd:=Nat×FuncId×List Value
abbrev jdC (e:Jd):List Value:=[.int .u8 e.1,.func (.func e.2.1) #[] e.2.2.toArray]
theorem XT:qH (flat jdC) 2:=qA _ (fun _=>rfl) fun e c hc=>by
 simp at hc;rcases hc with rfl|rfl<;>rfl
def jdL (b2 b3 b4 q1 q2 q3 q6:Nat):List Jd:=[(2,91,[pT b2]),(3,90,[pT b4,pT q1,pT b2]),(4,90,[pT b4,pT q2,pT b2]),(5,90,[pT b4,pT q3,pT b2]),(6,92,[pT q6,pT b2,pT b3])]
structure JdF (G:Giv) (lo bw b2 b3 b4 q1 q2 q3 q6 gm:Nat) (mb:List Nat) (Lg:List (Nm×Int)) (tv cv fv gv:Value) (W:World):Prop where
 e:JdE bw b2 b3 b4 mb (fun s=>if s=3 then I4 (qN G.cards G.tree).2 else if s=4 then vI G.tree (nX G.tree) else if s=5 then yB (tC G.tree) else fun _=>none) tv cv fv gv W
 h1:Bk W q1 5 [.int .u8 (3:Nat)]
 h2:Bk W q2 5 [.int .u8 (4:Nat)]
 h3:Bk W q3 5 [.int .u8 (5:Nat)]
 h6:Bk W q6 126 [.map (some gm)]
 mp:ru prog 9 W gm (JE Lg)
 tr:RdS rNd 3 (fun b=>b<lo) W tv G.tree
section
variable {G:Giv} {lo bw b2 b3 b4 q1 q2 q3 q6 gm:Nat} {mb:List Nat} {Lg:List (Nm×Int)} {tv cv fv gv:Value} {W W':World}
theorem JdF.new (h:JdF G lo bw b2 b3 b4 q1 q2 q3 q6 gm mb Lg tv cv fv gv W) (c:New W W'):JdF G lo bw b2 b3 b4 q1 q2 q3 q6 gm mb Lg tv cv fv gv W':=
 ⟨h.e.new c,h.h1.chg c id,h.h2.chg c id,h.h3.chg c id,h.h6.chg c id,h.mp.chg c id,h.tr.keep oh c.keep⟩
theorem JdF.row (h:JdF G lo bw b2 b3 b4 q1 q2 q3 q6 gm mb Lg tv cv fv gv W) {Pb:Nat->Prop} {v:Value} {xs:List Nb} (o:nP (flat nbC) 130 9 Pb NoB W v xs) (hlo: ∀k,v.ownBlock=some k->lo<=k) (c:Chg (fun k=>v.ownBlock=some k) W W'):JdF G lo bw b2 b3 b4 q1 q2 q3 q6 gm mb Lg tv cv fv gv W':=
 ⟨h.e.own o c rfl rfl rfl,h.h1.chg c fun e=>o.oM h.h1 rfl e rfl,h.h2.chg c fun e=>o.oM h.h2 rfl e rfl,h.h3.chg c fun e=>o.oM h.h3 rfl e rfl,h.h6.chg c fun e=>o.oM h.h6 rfl e rfl,h.mp.chg c fun e=>o.qQ h.mp e rfl,
   h.tr.keep oh (c.keep fun b _ hb e=>by have:=hlo b e;have hb:b<lo:=hb;omega)⟩
theorem RH {m:Nat} {e:Jd} (h:(jdL b2 b3 b4 q1 q2 q3 q6)[m]? =some e):nN prog e.2.1:=by
 unfold jdL at h
 match m with
 |0=>cases h;infer_instance
 |1=>cases h;infer_instance
 |2=>cases h;infer_instance
 |3=>cases h;infer_instance
 |4=>cases h;infer_instance
 |n+5=>cases h
theorem Zy {Pb:Nat->Prop} {bm:Nat} {N:List Nb} {ord:List Nat} {fl:List (Nm×Int)} {nv ov:Value} {m k:Nat} {e:Jd} (h:JdF G lo bw b2 b3 b4 q1 q2 q3 q6 gm mb Lg tv cv fv gv W) (g:WkM Pb bw bm N ord fl nv ov W) (cn:Cnt G.gone Lg) (hok:og G.tree=true) (hN:N.length=G.tree.length)
 (hp: ∀i,i<N.length->(bnF N i).path=oI G.tree i/\(bnF N i).device=qR G.tree i/\(bnF N i).card=if qR G.tree i=true then qV G.cards G.tree i else none) (hk:k<N.length) (he:(jdL b2 b3 b4 q1 q2 q3 q6)[m]? =some e):
 e.1=m+2/\Calls prog e.2.1 (vi k::e.2.2).toArray W (Ret fun v w'=>(∃y,v=.tuple #[.bool (Aj G k m).isSome,vi y]/\ ∀u,Aj G k m=some u->y=u)/\New W w'):=by
 obtain ⟨p1,p2,p3⟩:=hp k hk
 have am: ∀(q r:Nat),Bk W q 5 [.int .u8 r]->r<7-> ∀(o:Option Int),(if qR G.tree k=true then (if r=3 then I4 (qN G.cards G.tree).2 else if r=4 then vI G.tree (nX G.tree) else if r=5 then yB (tC G.tree) else fun _=>none) k else none)=o->
  Calls prog 90 #[vi k,pT b4,pT q,pT b2] W (Ret fun v w'=>(∃y,v=.tuple #[.bool o.isSome,vi y]/\ ∀u,o=some u->y=u)/\New W w'):=by
  intro q r hq hr o ho;obtain ⟨mr,hm⟩:=nT mb (k:=r) (by rw [h.e.ml];exact hr);refine (Md (m:=mr) (r:=r) g h.e.h2 h.e.h4 hq hr (by rw [an3,hm];rfl) (h.e.im r mr hm) hk).mono ?_;rintro _ w' ⟨_,rfl,rfl,rfl⟩;refine ⟨_,rfl,⟨((if r=3 then I4 (qN G.cards G.tree).2 else if r=4 then vI G.tree (nX G.tree) else if r=5 then yB (tC G.tree) else fun _=>none) k).getD 0,?_,fun u hu=>?_⟩,ay _ _⟩
  ·rw [p2, <-ho];cases qR G.tree k with
   |false=>simp
   |true=>simp
  ·rw [<-ho] at hu;split at hu
   ·rw [hu];rfl
   ·cases hu
 unfold jdL at he
 match m with
 |0=>
  cases he;refine ⟨rfl,(Pj g h.e.h2 hk).mono ?_⟩;rintro _ w' ⟨_,rfl,rfl,rfl⟩;refine ⟨_,rfl,⟨-1,?_,fun u hu=>?_⟩,ay _ _⟩
  ·rw [p2,p3];unfold Aj;cases qR G.tree k with
   |false=>simp
   |true=>cases qV G.cards G.tree k<;>simp
  ·have hu:(if qR G.tree k=true/\qV G.cards G.tree k=none then some (-1) else none)=some u:=hu;split at hu
   ·cases hu;rfl
   ·cases hu
 |1=>cases he;exact ⟨rfl,am q1 3 h.h1 (by omega) _ rfl⟩
 |2=>cases he;exact ⟨rfl,am q2 4 h.h2 (by omega) _ rfl⟩
 |3=>cases he;exact ⟨rfl,am q3 5 h.h3 (by omega) _ rfl⟩
 |4=>
  cases he;refine ⟨rfl,(Pm g h.h6 h.e.h2 h.e.h3 h.tr h.mp cn hok hN (fun i hi=>(hp i hi).1) hk).mono ?_⟩;rintro _ w' ⟨_,rfl,rfl,n⟩;refine ⟨_,rfl,⟨pU (uP G k),?_,fun u hu=>?_⟩,n⟩
  ·unfold Aj;cases uP G k<;>rfl
  ·have hu:(uP G k).map (fun k=>(k:Int))=some u:=hu;cases hg:uP G k with
   |none=>rw [hg] at hu;cases hu
   |some j=>rw [hg] at hu;cases hu;rfl
 |n+5=>cases he
end
abbrev mpV (b:Nat):Value:=.map (some b)
theorem Zz {L:List Nat} {m b:Nat} (hL:L.length<m):(L.map mpV++aok (m-L.length) (Value.map none)).set L.length (mpV b)=(L++ [b]).map mpV++aok (m-(L++ [b]).length) (Value.map none):=by
 obtain ⟨k,hk⟩: ∃k,m-L.length=k+1:=⟨m-L.length-1,by omega⟩;rw [hk,List.replicate_succ,List.set_append_right _ _ (by simp)];simp only [aoR,aps,List.set_cons_zero,aoN,acd,anc,adK,List.singleton_append,am7,anM];congr 3;omega
theorem yC {W:Nat->List Nat} {order:List Nat}: ∀(l seen:List Nat),(sK W order seen l).length<=l.length/\ ∀c∈sK W order seen l, ∀i∈c,i∈order
 | [],seen=>by rw [sK];simp
 |i::r,seen=>by
  rw [Ez];split
  ·obtain ⟨h1,h2⟩:=yC (W:=W) (order:=order) r seen;exact ⟨by rw [anJ];omega,h2⟩
  ·obtain ⟨h1,h2⟩:=yC (W:=W) (order:=order) r (seen++order.filter (qy W i));refine ⟨by rw [anJ,anJ];omega,fun c hc k hk=>?_⟩;rcases List.mem_cons.1 hc with rfl|hc
   ·exact (List.mem_filter.1 hk).1
   ·exact h2 c hc k hk
theorem zk {t:List Nd}: ∀(l:List Nat) (out:List Dc),(uq t out l).2.length<=l.length/\ ∀r∈(uq t out l).2,r.node∈l
 | [],out=>by rw [uq];simp
 |n::r,out=>by
  rw [uq];split
  ·obtain ⟨h1,h2⟩:=zk (t:=t) r out;refine ⟨by simp only [anJ];omega,fun x hx=>?_⟩;rcases List.mem_cons.1 hx with rfl|hx
   ·exact ap2
   ·exact aoC _ (h2 x hx)
  ·split
   ·obtain ⟨h1,h2⟩:=zk (t:=t) r out;refine ⟨by simp only [anJ];omega,fun x hx=>?_⟩;rcases List.mem_cons.1 hx with rfl|hx
    ·exact ap2
    ·exact aoC _ (h2 x hx)
   ·have h:=zk (t:=t) r;exact ⟨by rw [anJ];exact Nat.le_succ_of_le (h _).1,fun x hx=>aoC _ ((h _).2 x hx)⟩
theorem RI (t:List Nd):(tC t).length<=t.length:=by
 have:=(yC (W:=pR t) (order:=pI t) (pI t) []).1;unfold tC;refine apR this ?_;unfold pI;rw [apu,apP];exact aap _
theorem Vt {t:List Nd}: ∀c∈tC t, ∀i∈c,i<t.length:=fun c hc i hi=>Du.1 ((yC (W:=pR t) (order:=pI t) (pI t) []).2 c hc i hi)
noncomputable def zZ (G:Giv) (k m i:Nat):Bn:=if i<G.tree.length then (if i<k then zi G 5 i else if i=k then zi G m i else zi G 0 i) else default
theorem Vu (G:Giv):zZ G 0 0=xI G (nX G.tree):=by
 funext i;unfold zZ xI;split
 ·rw [if_neg (by omega)];split<;>exact RG G i
 ·rfl
theorem Vw (G:Giv) (k:Nat):zZ G k 5=zZ G (k+1) 0:=by
 funext i;unfold zZ;split
 ·by_cases h1:i<k
  ·rw [if_pos h1,if_pos (by omega)]
  ·rw [if_neg h1];by_cases h2:i=k
   ·rw [if_pos h2,if_pos (by omega)]
   ·rw [if_neg h2,if_neg (by omega)];split<;>rfl
 ·rfl
theorem XU (G:Giv):zZ G G.tree.length 0=oN G:=by
 funext i;unfold zZ oN;split
 ·exact Vs G i
 ·rfl
theorem XV (G:Giv) (k m:Nat) {i:Nat} (h:i<G.tree.length):(zZ G k m i).path=oI G.tree i/\(zZ G k m i).device=qR G.tree i/\(zZ G k m i).card=if qR G.tree i=true then qV G.cards G.tree i else none:=by
 unfold zZ;rw [if_pos h];split
 ·exact ⟨rfl,rfl,rfl⟩
 split<;>exact ⟨rfl,rfl,rfl⟩
theorem Uc (G:Giv) {k m:Nat} (h:k<G.tree.length):zZ G k m k=zi G m k:=by
 unfold zZ;rw [if_pos h,if_neg (by omega),if_pos rfl]
theorem KE (G:Giv) {k m:Nat} (h:k<G.tree.length):zZ G k (m+1)=fun i=>if i=k then zi G (m+1) k else zZ G k m i:=by
 funext i;unfold zZ;by_cases hi:i=k
 ·subst hi;rw [if_pos h,if_neg (by omega),if_pos rfl,if_pos rfl]
 ·rw [if_neg hi,if_neg hi,if_neg hi]
theorem RJ {G:Giv} {k m:Nat} (h:Bj (Dx G k m) (m+2) (Aj G k m)=Dx G k m):zi G (m+1) k=zi G m k:=by
 unfold zi;rw [show Dx G k (m+1)=Bj (Dx G k m) (m+2) (Aj G k m) from rfl,h]
section
variable {w:World} {G:Giv} {lo bw bm:Nat} {N:List Nb} {fl:List (Nm×Int)} {nv tv cv fv gv:Value}
theorem RN {Pb:Nat->Prop} (hlo: ∀b,Pb b->lo<=b) (hbig: ∀b,w.heap.size<=b->Pb b) (hok:og G.tree=true) (hco:uD G.cards=true) (hgl: ∀x∈G.gone,x.length<=100000000) (r:RdG (fun b=>b<lo) w G tv cv fv gv) (g:WkM Pb bw bm N [] fl nv (.slice none 0 0) w) (hN:N.length=G.tree.length) (hb:bnF N=xI G []) (hst: ∀k,stF N k=0):
 Calls prog 61 #[pT bw,.agg #[tv,cv,fv,gv]] w (Ret fun _ w'=> ∃N',WkM Pb bw bm N' [] fl nv (.slice none 0 0) w'/\N'.length=G.tree.length/\bnF N'=oN G/\(∀k,stF N' k=0)/\Chg Pb w w'):=by
 have hlen:=pF hok;have hpos:=uJ hok;have hlw:lo<=w.heap.size:=hlo _ (hbig _ (aap _));have hE:(nX G.tree).length<=10240*G.tree.length:=uO hok G.tree.length (aap _);obtain ⟨ta,tc,rfl,_,_⟩:=r.t.form;obtain ⟨ca,cc,rfl,_,_⟩:=r.c.form;obtain ⟨fa,fc,rfl,_,_⟩:=r.f.form;obtain ⟨ga,gc,rfl,_,_⟩:=r.g.form;obtain ⟨ng,nc,rfl,aiE,aiF,aiG⟩:=g.nd.row.blk (by intro e;rw [e] at hN;simp at hN;omega);refine nM func61 rfl ntmps61 rfl ?_;refine qq4 ?_;refine Wl.box rfl fun w1 b2 n1 s1=>?_;replace b2:Bk w1 w.heap.size 80 [pT bw]:=b2;refine Wl.box rfl fun w2 b3 n2 s2=>?_;replace b3:Bk w2 w1.heap.size 28 [.slice ta G.tree.length tc,.slice ca G.cards.length cc,.slice fa G.fails.length fc,.slice ga G.gone.length gc]:=b3;refine qq2 ?_;refine Wl.alloc fun w3 b4 n3 s3=>?_;replace b4:Bk w3 w2.heap.size 193 (List.map mpV []++aok 7 (.map none)):=b4;have n03:=New.trans n1 (New.trans n2 n3);have hz1:=n1.size;have hz2:=n2.size;have hz3:=n3.size;replace b2:=b2.chg (New.trans n2 n3) id;replace b3:=b3.chg n3 id;have abo:=b2.lt;have abp:=b3.lt;have abr:=b4.lt;replace g:=(g.mono (Pb':=fun b=>Pb b/\b<w.heap.size) fun b hb e=>⟨e,hb⟩).new n03;refine qq2 ?_;refine aA (σ:=List Nat) (fun L=>[(2,pT w.heap.size),(3,pT w1.heap.size),(4,pT w2.heap.size),(31,vi L.length)]) (fun L W=>L.length<=7/\Bk W w2.heap.size 193 (L.map mpV++aok (7-L.length) (.map none))/\(∀b∈L,w3.heap.size<=b/\ru prog 3 W b [])/\L.Nodup/\Chg (fun k=>k=w2.heap.size) w3 W) (fun L=>7-L.length) [] (sl rfl) ⟨by simp,b4,by simp,aqo,ay _ _⟩ ?_;clear b4;rintro L F W ⟨hL,b4,hm,hnd,cW⟩;simp only [pq];(repeat' (first|refine qq4 ?_|refine aa2 (fun _=>?_) (fun _=>?_)))
 ·refine fU (k:=3) fun w4 m4 n4 s4=>?_;refine iF rfl rfl (by omega) (by omega) ?_;have hWs:=cW.size;refine aJ (u:=mpV W.heap.size) (b4.chg n4 id) rfl (show ((L.length:Nat):Int).toNat<(L.map mpV++aok (7-L.length) (Value.map none)).length by simp only [am7,aoR,ap1];omega) rfl rfl fun w5 b5 c5=>?_;rw [ant,Zz (m:=7) (by omega)] at b5;refine qq6 ?_;refine ax (L++ [W.heap.size]) ⟨rfl,rfl,rfl,by rw [am7,anM];rfl,trivial⟩ ⟨by rw [am7,anM];omega,b5,fun b hb=>?_,?_,Chg.trans (Chg.trans cW n4.any i3) c5 i3⟩ (by rw [am7,anM];omega)
  ·rcases List.mem_append.1 hb with hb|hb
   ·exact ⟨(hm b hb).1,((hm b hb).2.chg n4 id).chg c5 fun e=>by have:=(hm b hb).1;omega⟩
   ·rw [List.mem_singleton.1 hb];exact ⟨hWs,m4.chg c5 fun e=>by omega⟩
  ·rw [aql];refine ⟨hnd,by simp,fun a ha b hb e=>?_⟩;rw [List.mem_singleton.1 hb] at e;have:=(hm a ha).2.lt;omega
 ·have hL7:L.length=7:=by omega
  rw [hL7,aps,List.replicate_zero,aoS] at b4;have hWs:=cW.size;have e0:JdE bw w.heap.size w1.heap.size w2.heap.size L (fun _ _=>none) (.slice ta G.tree.length tc) (.slice ca G.cards.length cc) (.slice fa G.fails.length fc) (.slice ga G.gone.length gc) W:= ⟨b2.chg cW fun e=>by omega,b3.chg cW fun e=>by omega,b4,fun s d h=>kE (hm d (aop h)).2,hL7,hnd⟩;replace g:=g.chg (M:=fun k=>k=w2.heap.size) cW (fun k hk e=>by have:=hk.2;omega);have hLr: ∀b∈L,w.heap.size<=b/\b<W.heap.size:=fun b hb=>⟨by have:=(hm b hb).1;omega,(hm b hb).2.lt⟩;clear b2 b3 b4 hm hnd;have cW0:Chg (fun k=>w.heap.size<=k) w W:=Chg.trans n03.any cW fun k _ e=>by omega
  have amx:w3.heap.size<=W.heap.size:=hWs;clear cW n03 n1 n2 n3;generalize hb2:w.heap.size=b2 at*;generalize hb3:w1.heap.size=b3 at*;generalize hb4:w2.heap.size=b4 at*;refine ah (u:=.slice ta G.tree.length tc) rfl (e0.h3.cell (o:=0) rfl) ?_;refine aj (IX (r.t.keep oh (cW0.keep fun b _ hb=>by have hb:b<lo:=hb;omega)) hok) rfl ?_;rintro _ wB ⟨⟨q,rfl,hq⟩,nB⟩;obtain ⟨qa,qc,rfl,_,_⟩:=hq.form;have hzB:=nB.size;replace hq:=hq.mono (Pb':=fun b=>W.heap.size<=b/\b<wB.heap.size) qI fun b hb e=>⟨e,hb⟩;replace g:=(g.mono (Pb':=fun b=>Pb b/\ ¬(b2<=b/\b<wB.heap.size)) fun b hb e=>⟨e.1,by omega⟩).new nB;have eB:=e0.new nB;have cB:=Chg.trans cW0 nB.any (M':=fun _=>False) fun _ _ e=>e.elim;clear e0 cW0 nB;refine qq2 ?_;refine aA (σ:=Nat×List Nb×(Nat->Nat->Option Int)) (fun q=>[(2,pT b2),(3,pT b3),(4,pT b4),(44,.slice qa (nX G.tree).length qc),(45,vi (nX G.tree).length),(46,vi q.1)]) (fun q W'=>q.1<=(nX G.tree).length/\WkM (fun b=>Pb b/\ ¬(b2<=b/\b<wB.heap.size)) bw bm q.2.1 [] fl (.slice (some ⟨ng,0,none⟩) N.length nc) (.slice none 0 0) W'/\q.2.1.length=N.length/\bnF q.2.1=xI G ((nX G.tree).take q.1)/\(∀k,stF q.2.1 k=0)/\JdE bw b2 b3 b4 L q.2.2 (.slice ta G.tree.length tc) (.slice ca G.cards.length cc) (.slice fa G.fails.length fc) (.slice ga G.gone.length gc) W'/\q.2.2=(fun s=>if s=4 then vI G.tree ((nX G.tree).take q.1) else fun _=>none)/\RdS rEd 6 (fun b=>W.heap.size<=b/\b<wB.heap.size) W' (.slice qa (nX G.tree).length qc) (nX G.tree)/\wB.heap.size<=W'.heap.size/\Chg Pb w W') (fun q=>(nX G.tree).length-q.1) (0,N,fun _ _=>none) (sl rfl) ⟨anq _,g,rfl,hb,hst,eB,by funext s i;split<;>rfl,hq,aap _,cB.mono fun k _ e=>hbig k e⟩ ?_;clear g hb hst eB hq cB;rintro ⟨k,N1,ff⟩ F1 W1 ⟨hk,g,hN1,hb,hst,e1,hff,hq,abt,c1⟩;dsimp only at hk g hN1 hb hst e1 hff hq abt c1;simp only [pq];(repeat' (first|refine qq4 ?_|refine aa2 (fun _=>?_) (fun _=>?_)))
  ·obtain ⟨x,hx⟩:=nT (nX G.tree) (k:=k) (by omega);have hxs:=(ug x (aop hx)).1;have hxd:=(ug x (aop hx)).2;refine aK hq rfl rfl (by omega) hx fun b o cs hl hR hat=>?_;obtain ⟨va,rfl,hva⟩:=hR;obtain ⟨xa,xc,rfl,_,_⟩:=hva.form;refine aS hat rfl rfl ?_;clear hat;refine Wl.alloc fun w5 b5 n5 s5=>?_;refine aH (new:=edC x (.slice xa x.args.length xc)) b5 rfl rfl rfl rfl zl6 Ot fun w6 b6 c6 s6=>?_;have n6:New W1 w6:=(Chg.trans n5.any c6 i3).tN
   replace b6:Bk w6 W1.heap.size 100 (edC x (.slice xa x.args.length xc)):=b6;clear b5 n5 c6;obtain ⟨y,hy⟩:=nT N1 (k:=x.src) (by omega);have hyb:=tH hy;have g6:=g.new n6;have e6:=e1.new n6;have hq6:=hq.keep sG n6.keep;have c06:=Chg.trans c1 n6.any (M':=fun _=>False) fun _ _ e=>e.elim;clear g e1 hq c1;refine qq4 ?_;refine fF rfl (by kernel_rfl) ?_;refine au (u:=pT bw) rfl (fun w' hw=>(e6.h2.chg hw id).cell (o:=0) rfl) ?_;(repeat' (first|refine dA rfl ?_|refine aa6 ?_));refine au (u:=.slice (some ⟨ng,0,none⟩) N.length nc) rfl (fun w' hw=>(g6.b.chg hw id).cell (o:=0) rfl) ?_;(repeat' (refine aa6 ?_));refine au (u:=vi x.src) rfl (fun w' hw=>(b6.chg hw id).cell (o:=0) rfl) ?_;refine aa8 ?_;(repeat' (first|refine fA (by conv=>{lhs;whnf}) ?_|refine af ?_));intro w7 n7;have g7:=g6.new n7;have e7:=e6.new n7;have hq7:=hq6.keep sG n7.keep;have c07:=Chg.trans c06 n7.any (M':=fun _=>False) fun _ _ e=>e.elim;have b7:=b6.chg n7 id;have hz7:wB.heap.size<=w7.heap.size:=apR abt (apR n6.size n7.size);clear g6 e6 hq6 c06 b6 n6 n7;have aiK:y.bn.device=qR G.tree x.src:=by rw [<-hyb,hb];unfold xI;rw [if_pos hxs];rfl
   have hnx:=Rz G ((nX G.tree).take k) x;have hmx:=Rx G.tree ((nX G.tree).take k) x;rw [<-take_snoc hx] at hnx hmx;have hsame:cnts G.tree x=false->xI G ((nX G.tree).take (k+1))=xI G ((nX G.tree).take k)/\vI G.tree ((nX G.tree).take (k+1))=vI G.tree ((nX G.tree).take k):=fun h=>by rw [hnx,hmx,h];exact ⟨if_neg fun e=>(by cases e.1),if_neg (by simp)⟩
   have hat:At w7 ng (x.src*9) (nbC y):=g7.nd.row.at rfl rfl hy;refine qq2 ?_;refine ah (u:=.bool x.soft) rfl (b7.cell (o:=3) rfl) ?_;cases hsf:x.soft with
   |true=>obtain ⟨h1,h2⟩:=hsame (by simp [cnts,hsf]);refine qq2 ?_;exact ax (k+1,N1,ff) (sl rfl) ⟨by dsimp only;omega,g7,hN1,by rw [h1];exact hb,hst,e7,by rw [h2];exact hff,hq7,hz7,c07⟩ (by dsimp only;omega)
   |false=>
    refine qq2 ?_;refine ah (u:=.bool y.bn.device) rfl (by have:=hat.get 1 rfl;simpa using this) ?_;rw [aiK];cases hdv:qR G.tree x.src with
    |false=>obtain ⟨h1,h2⟩:=hsame (by simp [cnts,hsf,hdv]);refine qq2 ?_;exact ax (k+1,N1,ff) (sl rfl) ⟨by dsimp only;omega,g7,hN1,by rw [h1];exact hb,hst,e7,by rw [h2];exact hff,hq7,hz7,c07⟩ (by dsimp only;omega)
    |true=>
     have hct:cnts G.tree x=true:=by simp [cnts,hsf,hdv]
     rw [hct] at hnx hmx;rw [if_pos ⟨rfl,hxs⟩] at hnx;rw [Bool.true_and] at hmx;clear hsame;refine qq2 ?_;refine ah (u:=vi (pU x.dst)) rfl (b7.cell (o:=1) rfl) ?_;cases hds:x.dst with
     |none=>
      rw [hds] at hnx hmx;dsimp only at hnx;simp only [Option.isNone_none,if_true] at hmx;obtain ⟨m4,hm4⟩:=nT L (k:=4) (by omega);rw [show pU none= -1 from rfl];(repeat' (first|refine qq6 ?_|(refine aa2 (fun _=>?_) (fun _=>?_)<;>(first|(exfalso;omega)|skip))));refine iF rfl rfl (by omega) (by omega) ?_;refine ah (u:=mpV m4) rfl (e7.h4.cell (o:=4) (by rw [an3,hm4];rfl)) ?_;(repeat' (refine aa5 ?_));refine ah (u:=vi x.src) rfl (b7.cell (o:=0) rfl) ?_;refine jb (e7.im 4 m4 hm4) (by omega) rfl rfl rfl fun w8 m8 c8 s8=>?_;have hmr:=hLr m4 (aop hm4);refine qq6 ?_;refine ax (k+1,N1,fun s=>if s=4 then EF (ff 4) x.src (-1) else ff s) (sl rfl) ⟨by dsimp only;omega,g7.chg c8 fun k hk e=>hk.2 (by omega),hN1,by rw [hnx];exact hb,hst,e7.put hm4 m8 c8,?_,hq7.keep sG (c8.keep fun b _ hb e=>by have:=hb.1;omega),by have:=c8.size;omega,Chg.trans c07 c8 fun k _ e=>hbig k (by omega)⟩ (by dsimp only;omega);dsimp only;funext s;by_cases hs4:s=4
      ·subst hs4;rw [if_pos rfl,if_pos rfl,hmx,hff];rfl
      ·rw [if_neg hs4,if_neg hs4,hff];exact if_neg hs4
     |some d=>
      rw [hds] at hnx hmx;dsimp only at hnx;rw [if_neg (by simp)] at hmx;rw [show pU (some d)=(d:Int) from rfl];have hym:=aop hy;have hel:=g7.nd.el y hym;have hrow:=fun (w':World) (c:Chg (fun j=>(svV y.wv).ownBlock=some j) w7 w')=>g7.nd.row.chg (nK nbC) c fun k hk e=>g7.nd.vz y hym k e hk;have hwl:y.bn.wants.length<=1+k:=by
       rw [<-hyb,hb];unfold xI;rw [if_pos hxs];unfold xH;dsimp only;rw [am7];have h1:=List.length_filterMap_le (fun e:Ed=>if e.src=x.src/\e.soft=false/\qR G.tree x.src=true then e.dst else none) ((nX G.tree).take k);have h2:=List.length_take_le k (nX G.tree);split
       ·rw [anM];omega
       ·rw [an8];omega
      (repeat' (first|refine qq6 ?_|(refine aa2 (fun _=>?_) (fun _=>?_)<;>(first|(exfalso;omega)|skip))));refine aV rfl (by kernel_rfl) (fun w'=>Chg (fun j=>(svV y.wv).ownBlock=some j) w7 w') (Chg.drew _ _) ?_;intro w8 m8;refine rX ?_;refine aa0 (au (u:=svV y.wv) rfl (fun w' c=>by have:=((hrow w' c).at rfl rfl hy).get 6 rfl;simpa using this) (af ?_));(repeat' (refine aa0 (aa6 (af ?_))));refine aa0 (au (u:=vi d) rfl (fun w' c=>(b7.chg c fun e=>hel.oM b7 rfl e rfl).cell (o:=1) (by show some (vi (pU x.dst))=_;rw [hds];rfl)) (af ?_));refine aC rfl (bC (R:=Wk.one viN) (Pe:=NoB) (y:=d) qw rfl rfl rfl rfl (by omega) (by omega) fun v6 w9 o9 n9 s9 e9=>?_);have m9:=New.trans m8 n9;refine ai ⟨rfl,m9.any,?_⟩;refine aC rfl (bY (R:=Wk.one viN) qw (hel.new (nO _) m9) (o9.rd qw.mo) (fun z cs hz=>hz) rfl rfl (by omega) (by simp only [maxLen,anM];omega) (by simp only [anM];omega) fun u' w10 o10 c10 lie _=>?_);have JA:Chg (fun j=>(svV y.wv).ownBlock=some j) w7 w10:=Chg.trans m9.any c10 i3;refine ai ⟨rfl,JA,?_⟩;refine rX ?_;obtain ⟨ua,uc,rfl,_,_⟩:=o10.form;have hz9:=m9.size;have Zd:=JA.size;refine Wt.last rfl (dX (f:=nbC) (sz:=9) (p:=y) (q:={y with wv:=(ua,(y.bn.wants++ [d]).length,uc),bn:={y.bn with wants:=y.bn.wants++ [d]}}) (j:=x.src) (o:=6) (cap:=nc) (u:=.slice ua (y.bn.wants++ [d]).length uc) (fun _=>rfl) (show (6:Nat)<9 by omega) rfl hy rfl (hrow w10 JA) (by rw [hN1]) (by show Value.pointer (some ⟨ng,0+(x.src:Int).toNat*9+6,none⟩)=_;rw [ace,ant]) rfl fun w11 o11 c11=>?_);refine ai ?_;have QT:=c11.size;have g11:=g7.want hy (d:=d) (by have:=hxd d hds;omega) (v':=(ua,(y.bn.wants++ [d]).length,uc)) (o10.mono (nV _) (fun b _ e=>by rcases e with e|e;exact e;exact ⟨hbig b (by omega),fun h=>by omega⟩) i3) JA (by rcases lie with l1|l1;exact .inl l1;exact .inr fun k hk=>by have:=l1 k hk;omega) o11 c11;have XW:=(g7.nd.row.lt (k:=ng) rfl).1;have e11:=(e7.own hel JA rfl rfl rfl).own (hrow w10 JA) c11 rfl rfl rfl;refine qq6 ?_;refine ax (k+1,N1.set x.src _,ff) (sl rfl) ⟨by dsimp only;omega,g11,by dsimp only;rw [apn];exact hN1,?_,MB hst (by rw [<-yw hy];exact hst _),e11,by rw [hmx];exact hff,(hq7.keep sG (JA.keep fun b _ hb e=>(hel.lt e).1.2 ⟨by have:=hb.1;omega,hb.2⟩)).keep sG (c11.keep fun b _ hb e=>by have e1:ng=b:=(by cases e;rfl);have h1:=hb.1;have h2:=hb.2;have h3:=XW.2;omega),by omega,Chg.trans (Chg.trans c07 JA fun k _ e=>(hel.lt e).1.1) c11 fun k _ e=>by cases e;exact XW.1⟩ (by dsimp only;omega);dsimp only;rw [Me (by omega),hnx];funext i;by_cases hi:i=x.src
      ·rw [if_pos hi,if_pos hi,hi, <-hb,hyb]
      ·rw [if_neg hi,if_neg hi,hb]
  ·obtain rfl:k=(nX G.tree).length:=by omega
   rw [aon] at hb hff;clear hq;subst hff;refine ah (u:=.slice ta G.tree.length tc) rfl (e1.h3.cell (o:=0) rfl) ?_;refine aj (Ri (r.t.keep oh (c1.keep fun b _ hb e=>by have hb:b<lo:=hb;have:=hlo b e;omega)) hok) rfl ?_;rintro _ w2 ⟨⟨rq,rs,rfl,LR,hrs⟩,n2⟩;obtain ⟨ra,rc,rfl,_,_⟩:=LR.row.form;have g2:=g.new n2;have e2:=e1.new n2;have c2:=Chg.trans c1 n2.any (M':=fun _=>False) fun _ _ e=>e.elim;have hz2:wB.heap.size<=w2.heap.size:=apR abt n2.size;have hrl:rs.length<=G.tree.length:=by have h1:=congrArg apq hrs;rw [aoR] at h1;rw [h1];exact RI G.tree
   clear g e1 c1 n2;refine qq2 ?_;refine aA (σ:=Nat×(Nat->Nat->Option Int)) (fun q=>[(2,pT b2),(3,pT b3),(4,pT b4),(93,.slice ra rs.length rc),(94,vi rs.length),(95,vi q.1)]) (fun q W'=>q.1<=rs.length/\WkM (fun b=>Pb b/\ ¬(b2<=b/\b<wB.heap.size)) bw bm N1 [] fl (.slice (some ⟨ng,0,none⟩) N.length nc) (.slice none 0 0) W'/\JdE bw b2 b3 b4 L q.2 (.slice ta G.tree.length tc) (.slice ca G.cards.length cc) (.slice fa G.fails.length fc) (.slice ga G.gone.length gc) W'/\q.2=(fun s=>if s=4 then vI G.tree (nX G.tree) else if s=5 then yB ((rs.map (·.2)).take q.1) else fun _=>none)/\RgL W1.heap.size W' (.slice ra rs.length rc) rs/\Chg Pb w W') (fun q=>rs.length-q.1) (0,fun s=>if s=4 then vI G.tree (nX G.tree) else fun _=>none) (sl rfl) ⟨anq _,g2,e2,by funext s;dsimp only;split;rfl;split<;>rfl,LR,c2⟩ ?_;clear g2 e2 LR c2;rintro ⟨k,ff⟩ F2 W2 ⟨hk,g2,e2,hff,LR,c2⟩;dsimp only at hk g2 e2 hff LR c2;simp only [pq];obtain ⟨m5,hm5⟩:=nT L (k:=5) (by omega);have amy:=hLr m5 (aop hm5);(repeat' (first|refine qq4 ?_|refine aa2 (fun _=>?_) (fun _=>?_)))
   ·obtain ⟨x,hx⟩:=nT rs (k:=k) (by omega);have hel:=LR.el x (aop hx);obtain ⟨xa,xc,hxv,hxm,aiL⟩:=hel.form;have amz:x.2.length<=9223372036854775807:=by unfold maxLen at aiL;omega
    refine aK (LR.row.rd (nS _)) rfl rfl (by omega) hx fun b o cs hl hR hat=>?_;obtain rfl:cs=wrC x:=hR;refine ah (u:=.slice xa x.2.length xc) rfl (by rw [<-hxv];exact hat.get 0 rfl) ?_;clear hat;refine qq2 ?_;refine aA (σ:=Nat×(Nat->Nat->Option Int)) (fun q=>[(2,pT b2),(3,pT b3),(4,pT b4),(14,.slice xa x.2.length xc),(93,.slice ra rs.length rc),(94,vi rs.length),(95,vi k),(99,.slice xa x.2.length xc),(100,vi x.2.length),(101,vi q.1)]) (fun q W'=>q.1<=x.2.length/\WkM (fun b=>Pb b/\ ¬(b2<=b/\b<wB.heap.size)) bw bm N1 [] fl (.slice (some ⟨ng,0,none⟩) N.length nc) (.slice none 0 0) W'/\JdE bw b2 b3 b4 L q.2 (.slice ta G.tree.length tc) (.slice ca G.cards.length cc) (.slice fa G.fails.length fc) (.slice ga G.gone.length gc) W'/\q.2=(fun s=>if s=4 then vI G.tree (nX G.tree) else if s=5 then (fun i=>if i∈x.2.take q.1 then some ((x.2.headD 0:Nat):Int) else yB ((rs.map (·.2)).take k) i) else fun _=>none)/\RgL W1.heap.size W' (.slice ra rs.length rc) rs/\Chg Pb w W') (fun q=>x.2.length-q.1) (0,ff) (sl rfl) ⟨anq _,g2,e2,by rw [hff];funext s;dsimp only;split;rfl;split;(funext i;simp);rfl,LR,c2⟩ ?_;clear g2 e2 hff LR c2 hel;rintro ⟨m,ff⟩ F3 W3 ⟨hm,g3,e3,hff,LR,c3⟩;dsimp only at hm g3 e3 hff LR c3;simp only [pq];(repeat' (first|refine qq6 ?_|refine aa2 (fun _=>?_) (fun _=>?_)))
    ·have hel:=LR.el x (aop hx);rw [hxv] at hel;obtain ⟨y,hy⟩:=nT x.2 (k:=m) (by omega);obtain ⟨h0,hh0⟩:=nT x.2 (k:=0) (by omega);have hh:x.2.headD 0=h0:=by
      cases hx2:x.2 with
      |nil=>rw [hx2] at hh0;cases hh0
      |cons a l=>rw [hx2] at hh0;cases hh0;rfl
     have hyn:y<9223372036854775808:=by
      have h1:x.2∈tC G.tree:=by rw [<-hrs];exact List.mem_map.2 ⟨x,aop hx,rfl⟩
      have:=Vt _ h1 y (aop hy);omega
     refine aZ (hel.rd qw.mo) rfl rfl (by omega) hy fun b o hcell=>?_;refine ah (u:=vi y) rfl hcell ?_;refine qq6 ?_;refine aV rfl (by kernel_rfl) (fun w'=>New W3 w') (Chg.drew _ _) ?_;intro w4 n4;refine aa0 (ku rfl rfl (by omega) (by omega) (af ?_));refine aa0 (au (u:=mpV m5) rfl (fun w' c=>(e3.h4.chg c id).cell (o:=5) (by rw [an3,hm5];rfl)) (af ?_));(repeat' (refine aa0 (aa3 (af ?_))));refine aa0 (dD (hel.rd qw.mo) (fun w' c=>c.keep) rfl rfl (by omega) hh0 fun b o hcell=>af ?_);refine aa0 (au (u:=vi h0) rfl (fun w' c=>hcell w' c) (af ?_));refine Wt.last rfl (jb ((e3.new n4).im 5 m5 hm5) hyn rfl rfl rfl fun w5 i5 c5 s5=>?_);refine ai ?_;have hz4:=n4.size;refine qq6 ?_;refine ax (m+1,fun s=>if s=5 then EF (ff 5) y h0 else ff s) (sl rfl) ⟨by dsimp only;omega,(g3.new n4).chg c5 fun k hk e=>hk.2 (by omega),(e3.new n4).put hm5 i5 c5,?_,(LR.new n4).chg c5 fun b hb e=>by have hb:W1.heap.size<=b:=hb;omega,Chg.trans (Chg.trans c3 n4.any (M':=fun _=>False) fun _ _ e=>e.elim) c5 fun k _ e=>hbig k (by omega)⟩ (by dsimp only;omega);dsimp only;rw [take_snoc hy,hff];funext s;by_cases h5:s=5
     ·subst h5;show EF (fun i=>if i∈x.2.take m then some ((x.2.headD 0:Nat):Int) else yB ((rs.map (·.2)).take k) i) y h0=fun i=>if i∈x.2.take m++ [y] then some ((x.2.headD 0:Nat):Int) else yB ((rs.map (·.2)).take k) i;funext i;unfold EF;by_cases hi:i=y
      ·rw [if_pos hi,if_pos (by rw [hi];simp),hh]
      ·rw [if_neg hi];dsimp only;have:i∈x.2.take m++ [y]↔i∈x.2.take m:=by simp [hi]
       by_cases h6:i∈x.2.take m
       ·rw [if_pos h6,if_pos (this.2 h6)]
       ·rw [if_neg h6,if_neg fun e=>h6 (this.1 e)]
     ·rw [if_neg h5];dsimp only;rw [if_neg h5,if_neg h5]
    ·obtain rfl:m=x.2.length:=by omega
     refine ax (k+1,ff) (sl rfl) ⟨by dsimp only;omega,g3,e3,?_,LR,c3⟩ (by dsimp only;omega);dsimp only;rw [hff,aon,take_snoc (show (rs.map (·.2))[k]? =some x.2 by rw [an3,hx];rfl)];funext s;split
     ·rfl
     split
     ·funext i;rw [RD]
     ·rfl
   ·obtain rfl:k=rs.length:=by omega
    rw [List.take_of_length_le (by rw [aoR];exact aap _),hrs] at hff;clear LR hrs;subst hff;refine ah (u:=.slice ca G.cards.length cc) rfl (e2.h3.cell (o:=1) rfl) ?_;(repeat' (refine aa5 ?_));refine ah (u:=.slice ta G.tree.length tc) rfl (e2.h3.cell (o:=0) rfl) ?_;have kp2:Keep (fun b=>b<lo) w W2:=c2.keep fun b _ hb e=>by have hb:b<lo:=hb;have:=hlo b e;omega
    refine aj (OT (r.c.keep qP kp2) (r.t.keep oh kp2) hco hok) rfl ?_;rintro _ w3 ⟨⟨dv,uv,rfl,_,ou⟩,n3⟩;obtain ⟨ua,uc,rfl,_,_⟩:=ou.form;have g3:=g2.new n3;have e3:=e2.new n3;have c3:=Chg.trans c2 n3.any (M':=fun _=>False) fun _ _ e=>e.elim;clear g2 e2 c2 kp2 n3;have hul:(qN G.cards G.tree).2.length<=G.tree.length:=apR (zk (D8 G.cards G.tree) []).1 (Kt _ _);refine qq2 ?_;refine aA (σ:=Nat×(Nat->Nat->Option Int)) (fun q=>[(2,pT b2),(3,pT b3),(4,pT b4),(122,.slice ua (qN G.cards G.tree).2.length uc),(123,vi (qN G.cards G.tree).2.length),(124,vi q.1)]) (fun q W'=>q.1<=(qN G.cards G.tree).2.length/\WkM (fun b=>Pb b/\ ¬(b2<=b/\b<wB.heap.size)) bw bm N1 [] fl (.slice (some ⟨ng,0,none⟩) N.length nc) (.slice none 0 0) W'/\JdE bw b2 b3 b4 L q.2 (.slice ta G.tree.length tc) (.slice ca G.cards.length cc) (.slice fa G.fails.length fc) (.slice ga G.gone.length gc) W'/\q.2=(fun s=>if s=3 then I4 ((qN G.cards G.tree).2.take q.1) else if s=4 then vI G.tree (nX G.tree) else if s=5 then yB (tC G.tree) else fun _=>none)/\nP (flat Au) 205 5 (fun b=>W2.heap.size<=b) NoB W' (.slice ua (qN G.cards G.tree).2.length uc) (qN G.cards G.tree).2/\Chg Pb w W') (fun q=>(qN G.cards G.tree).2.length-q.1) (0,fun s=>if s=4 then vI G.tree (nX G.tree) else if s=5 then yB (tC G.tree) else fun _=>none) (sl rfl) ⟨anq _,g3,e3,?_,ou,c3⟩ ?_
    ·dsimp only;funext s;by_cases h3:s=3
     ·subst h3;rfl
     ·rw [if_neg h3]
    clear g3 e3 ou c3;rintro ⟨k,ff⟩ F3 W3 ⟨hk,g3,e3,hff,ou,c3⟩;dsimp only at hk g3 e3 hff ou c3;simp only [pq];(repeat' (first|refine qq4 ?_|refine aa2 (fun _=>?_) (fun _=>?_)))
    ·obtain ⟨x,hx⟩:=nT (qN G.cards G.tree).2 (k:=k) (by omega);have hxn:x.node<9223372036854775808:=by have:=OQ _ ((zk (t:=G.tree) (D8 G.cards G.tree) []).2 x (aop hx));omega
     obtain ⟨m3,hm3⟩:=nT L (k:=3) (by omega);have amA:=hLr m3 (aop hm3);refine aK (ou.rd (nS _)) rfl rfl (by omega) hx fun b o cs hl hR hat=>?_;obtain rfl:cs=Au x:=hR;refine aS hat rfl rfl ?_;clear hat;refine Wl.alloc fun w5 b5 n5 s5=>?_;refine aH (new:=Au x) b5 rfl rfl rfl rfl zl5 (yt.oc (fun _=>True) w5 x (Au x) rfl rfl) fun w6 b6 c6 s6=>?_;have n6:New W3 w6:=(Chg.trans n5.any c6 i3).tN
     replace b6:Bk w6 W3.heap.size 205 (Au x):=b6;clear b5 n5 c6;have hz6:=n6.size;refine qq4 ?_;refine iF rfl rfl (by omega) (by omega) ?_;refine ah (u:=mpV m3) rfl ((e3.new n6).h4.cell (o:=3) (by rw [an3,hm3];rfl)) ?_;(repeat' (refine aa5 ?_));refine ah (u:=vi x.node) rfl (b6.cell (o:=0) rfl) ?_;(repeat' (refine aa5 ?_));refine ah (u:=vi x.by_) rfl (b6.cell (o:=4) rfl) ?_;refine jb ((e3.new n6).im 3 m3 hm3) hxn rfl rfl rfl fun w7 i7 c7 s7=>?_;refine qq6 ?_;refine ax (k+1,fun s=>if s=3 then EF (ff 3) x.node x.by_ else ff s) (sl rfl) ⟨by dsimp only;omega,(g3.new n6).chg c7 fun k hk e=>hk.2 (by omega),(e3.new n6).put hm3 i7 c7,?_,(ou.new (nK _) n6).chg (nK _) c7 fun b hb e=>by obtain ⟨l3,hl3⟩:=((e3.new n6).im 3 m3 hm3).ml;exact (ou.new (nK _) n6).qQ hl3 hb e,Chg.trans (Chg.trans c3 n6.any (M':=fun _=>False) fun _ _ e=>e.elim) c7 fun k _ e=>hbig k (by omega)⟩ (by dsimp only;omega);dsimp only;rw [take_snoc hx,Vq,hff];funext s;by_cases h3:s=3
     ·subst h3;rfl
     ·rw [if_neg h3];dsimp only;rw [if_neg h3,if_neg h3]
    ·obtain rfl:k=(qN G.cards G.tree).2.length:=by omega
     rw [aon] at hff;subst hff;clear ou;refine ah (u:=.slice ga G.gone.length gc) rfl (e3.h3.cell (o:=3) rfl) ?_;have kp3:Keep (fun b=>b<lo) w W3:=c3.keep fun b _ hb e=>by have hb:b<lo:=hb;have:=hlo b e;omega
     refine aj (ED (r.g.keep (nZ _) kp3) hgl) rfl ?_;rintro _ w4 ⟨⟨gm,Lg,rfl,_,mpg,cn⟩,n4⟩;refine Wl.alloc fun w5 b5 n5 s5=>?_;refine aJ (u:=.map (some gm)) b5 rfl (show (0:Nat)<1 by omega) rfl rfl fun w6 b6 c6=>?_;replace b6:Bk w6 w4.heap.size 126 [.map (some gm)]:=b6;have n46:New w4 w6:=(Chg.trans n5.any c6 i3).tN
     clear b5 n5 c6;generalize hq6:w4.heap.size=q6 at*;refine qq2 ?_;refine dn (f1:=[]) (c1:=[pT b4,pT b2]) rfl rfl ?_;refine qq4 ?_;refine dn (f1:=[]) (c1:=[pT b2]) rfl rfl ?_;refine aX (ps:=[(0,.const (.int .u8 2)),(1,.tmp 139)]) (parts:=[(0,.int .u8 2),(1,.func (.func 91) #[] #[pT b2])]) rfl rfl (by simp [Value.cells]) ?_;(repeat' (refine aa1 ?_));refine bP (f:=89) (first:= #[]) (cap:= #[pT b4,pT b2]) (vs:=[.int .u8 (3:Nat),pT b4,pT b2]) rfl (Bh (b2:=b2) (b4:=b4) (r:=3)) rfl ?_;rintro _ w7 ⟨q1,rfl,_,bq1,n7⟩;(repeat' (refine aa1 ?_));refine bP (f:=89) (first:= #[]) (cap:= #[pT b4,pT b2]) (vs:=[.int .u8 (4:Nat),pT b4,pT b2]) rfl (Bh (b2:=b2) (b4:=b4) (r:=4)) rfl ?_;rintro _ w8 ⟨q2,rfl,_,bq2,n8⟩;(repeat' (refine aa1 ?_));refine bP (f:=89) (first:= #[]) (cap:= #[pT b4,pT b2]) (vs:=[.int .u8 (5:Nat),pT b4,pT b2]) rfl (Bh (b2:=b2) (b4:=b4) (r:=5)) rfl ?_;rintro _ w9 ⟨q3,rfl,_,bq3,n9⟩;refine dn (f1:=[]) (c1:=[pT q6,pT b2,pT b3]) rfl rfl ?_;refine aX (ps:=[(0,.const (.int .u8 6)),(1,.tmp 147)]) (parts:=[(0,.int .u8 6),(1,.func (.func 92) #[] #[pT q6,pT b2,pT b3])]) rfl rfl (by simp [Value.cells]) ?_;refine iE (R:=flat jdC) (N:=5) (ps:=[(0,.tmp 140),(1,.tmp 142),(2,.tmp 144),(3,.tmp 146),(4,.tmp 148)]) (xs:=jdL b2 b3 b4 q1 q2 q3 q6) (us:=(jdL b2 b3 b4 q1 q2 q3 q6).map fun e=>.agg (jdC e).toArray) (Pe:=NoB) XT rfl rfl ⟨rfl,rfl,rfl,rfl,rfl,rfl,rfl,rfl,rfl,rfl,trivial⟩ (by show 0<10;omega) (by show 10<=16777216;omega) fun jv w10 oj n10 s10 amB=>?_;have n49:=New.trans n46 (New.trans n7 (New.trans n8 n9));have nW:=New.trans (New.trans n4 n49) n10;have gJ:=g3.new nW;have eJ:JdF G lo bw b2 b3 b4 q1 q2 q3 q6 gm L Lg (.slice ta G.tree.length tc) (.slice ca G.cards.length cc) (.slice fa G.fails.length fc) (.slice ga G.gone.length gc) w10:= ⟨e3.new nW,bq1.chg (New.trans n8 (New.trans n9 n10)) id,bq2.chg (New.trans n9 n10) id,bq3.chg n10 id,b6.chg (New.trans n7 (New.trans n8 (New.trans n9 n10))) id,mpg.chg (New.trans n49 n10) id,(r.t.keep oh kp3).keep oh nW.keep⟩;have cJ:=Chg.trans c3 nW.any (M':=fun _=>False) fun _ _ e=>e.elim;obtain ⟨ja,jc,rfl,_,_⟩:=oj.form;clear e3 g3 c3 kp3 n4 n46 n7 n8 n9 n10 n49 nW bq1 bq2 bq3 b6 mpg;rw [<-Vu] at hb;refine qq4 ?_;refine ah (u:=pT bw) rfl (eJ.e.h2.cell (o:=0) rfl) ?_;refine qq2 ?_;refine ah (u:=.slice (some ⟨ng,0,none⟩) N.length nc) rfl (gJ.b.cell (o:=0) rfl) ?_;refine qq4 ?_;refine aA (σ:=Nat×List Nb) (fun q=>[(2,pT b2),(3,pT b3),(4,pT b4),(24,.slice ja 5 jc),(154,vi N.length),(155,vi q.1)]) (fun q W'=>q.1<=N.length/\WkM (fun b=>Pb b/\ ¬(b2<=b/\b<wB.heap.size)) bw bm q.2 [] fl (.slice (some ⟨ng,0,none⟩) N.length nc) (.slice none 0 0) W'/\q.2.length=N.length/\bnF q.2=zZ G q.1 0/\(∀k,stF q.2 k=0)/\JdF G lo bw b2 b3 b4 q1 q2 q3 q6 gm L Lg (.slice ta G.tree.length tc) (.slice ca G.cards.length cc) (.slice fa G.fails.length fc) (.slice ga G.gone.length gc) W'/\nP (flat jdC) 208 2 (fun b=>b=w9.heap.size) NoB W' (.slice ja 5 jc) (jdL b2 b3 b4 q1 q2 q3 q6)/\Chg Pb w W') (fun q=>N.length-q.1) (0,N1) (sl rfl) ⟨anq _,gJ,hN1,hb,hst,eJ,oj,cJ⟩ ?_;clear gJ hN1 hb hst eJ oj cJ;rintro ⟨k,N2⟩ F4 W4 ⟨hk,g,hN2,hb,hst,eJ,oj,cJ⟩;dsimp only at hk g hN2 hb hst eJ oj cJ;simp only [pq];(repeat' (first|refine qq4 ?_|refine aa2 (fun _=>?_) (fun _=>?_)))
     ·refine ah (u:=pT bw) rfl (eJ.e.h2.cell (o:=0) rfl) ?_;refine qq2 ?_;refine ah (u:=.slice (some ⟨ng,0,none⟩) N.length nc) rfl (g.b.cell (o:=0) rfl) ?_;(repeat' (refine aa1 ?_));refine dB rfl rfl (by omega) (by omega) ?_;refine qq2 ?_;refine aA (σ:=Nat×List Nb) (fun q=>[(2,pT b2),(3,pT b3),(4,pT b4),(24,.slice ja 5 jc),(25,vi k),(26,.pointer (some ⟨ng,k*9,none⟩)),(154,vi N.length),(155,vi k),(164,.slice ja 5 jc),(165,vi 5),(166,vi q.1)]) (fun q W'=>q.1<=5/\WkM (fun b=>Pb b/\ ¬(b2<=b/\b<wB.heap.size)) bw bm q.2 [] fl (.slice (some ⟨ng,0,none⟩) N.length nc) (.slice none 0 0) W'/\q.2.length=N.length/\bnF q.2=zZ G k q.1/\(∀k,stF q.2 k=0)/\JdF G lo bw b2 b3 b4 q1 q2 q3 q6 gm L Lg (.slice ta G.tree.length tc) (.slice ca G.cards.length cc) (.slice fa G.fails.length fc) (.slice ga G.gone.length gc) W'/\nP (flat jdC) 208 2 (fun b=>b=w9.heap.size) NoB W' (.slice ja 5 jc) (jdL b2 b3 b4 q1 q2 q3 q6)/\Chg Pb w W') (fun q=>5-q.1) (0,N2) ⟨rfl,rfl,rfl,rfl,rfl,by show Value.pointer (some ⟨ng,0+(k:Int).toNat*9,none⟩)=_;rw [ace,ant],rfl,rfl,rfl,rfl,rfl,trivial⟩ ⟨anq _,g,hN2,hb,hst,eJ,oj,cJ⟩ ?_;clear g hN2 hb hst eJ oj cJ;rintro ⟨m,N2⟩ F5 W5 ⟨hm,g,hN2,hb,hst,eJ,oj,cJ⟩;dsimp only at hm g hN2 hb hst eJ oj cJ;simp only [pq];(repeat' (first|refine qq6 ?_|refine aa2 (fun _=>?_) (fun _=>?_)))
      ·obtain ⟨e,he⟩:=nT (jdL b2 b3 b4 q1 q2 q3 q6) (k:=m) (by show m<5;omega);obtain ⟨x,hx⟩:=nT N2 (k:=k) (by omega);have hxb:=tH hx;refine aK (oj.rd (nS _)) rfl rfl (by omega) he fun b o cs hl hR hat=>?_;obtain rfl:cs=jdC e:=hR;refine aS hat rfl rfl ?_;clear hat;refine Wl.alloc fun w5 b5 n5 s5=>?_;refine aH (new:=jdC e) b5 rfl rfl rfl rfl zl2 (XT.oc (fun _=>True) w5 e (jdC e) rfl rfl) fun w6 b6 c6 s6=>?_;have n6:New W5 w6:=(Chg.trans n5.any c6 i3).tN
       replace b6:Bk w6 W5.heap.size 208 (jdC e):=b6;clear b5 n5 c6;refine qq2 ?_;refine ah (u:=.func (.func e.2.1) #[] e.2.2.toArray) rfl (b6.cell (o:=1) rfl) ?_;(repeat' (refine aa1 ?_));obtain ⟨he1,hcl⟩:=Zy (eJ.new n6) (g.new n6) cn hok (by omega) (fun i hi=>by rw [hb];exact XV G k m (by omega)) (k:=k) (by omega) he
       haveI:=RH he
       refine bP (f:=e.2.1) (first:= #[]) (cap:=e.2.2.toArray) (vs:=vi k::e.2.2) rfl hcl rfl ?_;rintro _ w7 ⟨⟨y,rfl,hy⟩,n7⟩;have n67:=New.trans n6 n7;have g7:=g.new n67;have eJ7:=eJ.new n67;have oj7:=oj.new (nK _) n67;have cJ7:=Chg.trans cJ n67.any (M':=fun _=>False) fun _ _ e=>e.elim;have b7:=b6.chg n7 id;clear g eJ oj cJ n67 n6 n7 b6 hcl;have hkt:k<G.tree.length:=by omega
       have hxr:x.bn=zi G m k:=by rw [<-hxb,hb];exact Uc G hkt
       have hsame:Bj (Dx G k m) (m+2) (Aj G k m)=Dx G k m->bnF N2=zZ G k (m+1):=fun h=>by
        rw [hb,KE G hkt,RJ h];funext i;by_cases hi:i=k
        ·rw [if_pos hi,hi,Uc G hkt]
        ·rw [if_neg hi]
       cases hh:Aj G k m with
       |none=>rw [show (none:Option Int).isSome=false from rfl];refine qq2 ?_;exact ax (m+1,N2) (sl rfl) ⟨by dsimp only;omega,g7,hN2,hsame (by rw [hh];unfold Bj;split<;>rfl),hst,eJ7,oj7,cJ7⟩ (by dsimp only;omega)
       |some u=>
        obtain rfl:=hy u hh;rw [show (some y).isSome=true from rfl];have hat:At w7 ng (k*9) (nbC x):=g7.nd.row.at rfl rfl hx;refine qq3 ?_;refine ah (u:=.int .u8 x.bn.reason) rfl (hat.get 3 rfl) ?_;(repeat' (first|refine qq2 ?_|refine bJ rfl rfl (fun _=>?_) (fun _=>?_)))
        ·have h0:x.bn.reason=0:=by omega
         have hr0:(Dx G k m).1=0:=by rw [hxr] at h0;exact h0
         refine ah (u:=.int .u8 e.1) rfl (b7.cell (o:=0) rfl) ?_;refine qq6 ?_;refine dX (f:=nbC) (sz:=9) (p:=x) (q:={x with bn:={x.bn with reason:=e.1}}) (j:=k) (o:=3) (cap:=nc) (u:=.int .u8 e.1) (fun _=>rfl) (show (3:Nat)<9 by omega) rfl hx rfl g7.nd.row (by rw [hN2]) rfl rfl fun w8 o8 c8=>?_;have g8:=g7.adL hx (y:={x with bn:={x.bn with reason:=e.1}}) rfl rfl rfl o8 c8;have XW:=(g7.nd.row.lt (k:=ng) rfl).1;have eJ8:=eJ7.row g7.nd.row (fun k e=>hlo k (g7.nd.row.lt e).1.1) c8;have oj8:=oj7.chg (nK _) c8 fun k h1 h2=>oj7.sV g7.nd.row rfl k h1 h2;have cJ8:=Chg.trans cJ7 c8 fun k _ e=>by cases e;exact XW.1
         have hx8:(N2.set k {x with bn:={x.bn with reason:=e.1}})[k]? =some {x with bn:={x.bn with reason:=e.1}}:=by rw [anO,if_pos rfl,if_pos (by omega)]
         refine qq2 ?_;refine dX (f:=nbC) (sz:=9) (p:={x with bn:={x.bn with reason:=e.1}}) (q:={x with bn:={x.bn with reason:=e.1,why:=y}}) (j:=k) (o:=5) (cap:=nc) (u:=vi y) (fun _=>rfl) (show (5:Nat)<9 by omega) rfl hx8 rfl g8.nd.row (by rw [apn,hN2]) rfl rfl fun w9' o9 c9=>?_;have g9:=g8.adL hx8 (y:={x with bn:={x.bn with reason:=e.1,why:=y}}) rfl rfl rfl o9 c9;have eJ9:=eJ8.row g8.nd.row (fun k e=>hlo k (g8.nd.row.lt e).1.1) c9;have oj9:=oj8.chg (nK _) c9 fun k h1 h2=>oj8.sV g8.nd.row rfl k h1 h2;have cJ9:=Chg.trans cJ8 c9 fun k _ e=>by cases e;exact XW.1
         refine qq6 ?_;refine ax (m+1,_) (sl rfl) ⟨by dsimp only;omega,g9,by dsimp only;rw [apn,apn];exact hN2,?_,MB (MB hst (by rw [<-yw hx];exact hst _)) (by show x.st=0;rw [<-yw hx];exact hst _),eJ9,oj9,cJ9⟩ (by dsimp only;omega);dsimp only;rw [Me (by rw [apn];omega),Me (by omega),KE G hkt];funext i;by_cases hi:i=k
         ·rw [if_pos hi,if_pos hi,hxr,he1];unfold zi;rw [show Dx G k (m+1)=Bj (Dx G k m) (m+2) (Aj G k m) from rfl,hh];unfold Bj;rw [if_pos hr0]
         ·rw [if_neg hi,if_neg hi];dsimp only;rw [if_neg hi,hb]
        ·have hr0:(Dx G k m).1≠0:=by
          have h0:x.bn.reason≠0:=by omega
          rw [hxr] at h0;exact h0
         exact ax (m+1,N2) (sl rfl) ⟨by dsimp only;omega,g7,hN2,hsame (by unfold Bj;rw [if_neg hr0]),hst,eJ7,oj7,cJ7⟩ (by dsimp only;omega)
      ·obtain rfl:m=5:=by omega
       rw [Vw] at hb;exact ax (k+1,N2) (sl rfl) ⟨by dsimp only;omega,g,hN2,hb,hst,eJ,oj,cJ⟩ (by dsimp only;omega)
     ·obtain rfl:k=N.length:=by omega
      rw [hN,XU] at hb;exact cO rfl ⟨_,rfl,N2,g.mono fun b _ hb=>hb.1,by omega,hb,hst,cJ⟩
end
class Wk.wE (Q:Po):Prop where
 out: ∀F w, ¬Q .outgrown F w
instance {L D:Nat} {W0:World} {I:World->Prop} {Ix:Code->World->Prop}:wE (Qrd L D W0 I Ix):=⟨Qrd.out⟩
instance {K:Fr->World->Prop}:wE (Qas K):=⟨Qas.out⟩
instance {P:Program} {n:Nat} {r:Option Nat} {b:Code} {Q:Po} [h:wE Q]:wE (Qsr P n r b Q):=⟨Qsr.out h.out⟩
instance {id:Nat} {Q:Po} [h:wE Q]:wE (pW id Q):=⟨pW.out h.out⟩
theorem gu {P:Program} {n:Nat} {r:Option Nat} {Q:Po} {F:Fr} {w:World} {a b:Code} (M:Fr->World->Prop) (h1:Wr P n r (Qas M) a F w) (h2: ∀F w,M F w->Wr P n r Q b F w):Wr P n r Q (.seq a b) F w:=by
 refine dh ?_;unfold Wr at h1 ⊢;refine wpIn_mono h1 ?_;rintro e a' w' ⟨F',rfl,hq⟩;refine ⟨F',rfl,?_⟩;cases e with
 |normal=>unfold Qsr;exact h2 F' w' hq
 |_=>exact hq.elim
theorem Wk.Wd.frame {P:Program} {n:Nat} {Q:Pd} {ds:List Deferred} {c:Code} {F:Fr} {w:World} (l:List (Nat×Value)) (hF:agrees F l) (h: ∀G,Wd P n Q c ds (pq G l) w):Wd P n Q c ds F w:=by
 have:=h F
 rwa [oV hF] at this
theorem JF {w:World}:(Instr.build 92 #[(1,vi (-1)),(2,vi (-1))]).run prog w=.ok (.agg #[.int .u8 0,vi (-1),vi (-1)]) w:=by
 kernel_rfl
theorem JG {w:World} {s:List UInt8} {d:Bool}:(Instr.build 130 #[(0,vs s),(1,.bool d),(3,.agg #[.int .u8 0,vi (-1),vi (-1)])]).run prog w=.ok (.agg #[vs s,.bool d,.int .u8 0,.int .u8 0,vi (-1),vi (-1),.slice none 0 0,.bool false,.bool false]) w:=by
 kernel_rfl
abbrev ndV (p:Nm) (d:Bool) (lv:Int) (rs:Nat) (c:Int) (wv:Value):List Value:=[vs p,.bool d,.int .u8 lv,.int .u8 rs,vi c,vi (-1),wv,.bool false,.bool false]
theorem aiM (p:Nm) (d:Bool) (lv:Int) (rs:Nat) (c:Int) {a:Option Addr} {l m:Nat}: ∀x∈ndV p d lv rs c (.slice a l m),x.oneCell'=true:=by
 intro x hx;simp at hx;rcases hx with rfl|rfl|rfl|rfl|rfl|rfl|rfl|rfl<;>rfl
theorem Wk.LLs.CB {P:Program} {β γ:Type} {f:β->List Value} {g:β->Value} {xs:β->List γ} {h:γ->Value} {te e sz:Nat} {Pb:Nat->Prop} {w w':World} {v:Value} {bs:List β} (H:LLs f g xs h te e sz Pb w v bs) {b:Nat} {T:TypeId} {cs:List Value} (hb:Bk w b T cs) (n1:ank te T=false) (n2:ank e T=false) (c:Chg (fun k=>k=b) w w'):LLs f g xs h te e sz Pb w' v bs:=
 ⟨H.row.chg (nK f) c fun k hk e=>H.row.oM hb n1 hk e,fun x hx=>(H.el x hx).chg (nO h) c fun k hk e=>(H.el x hx).oM hb n2 hk e,H.vz,H.sep⟩
theorem KF {α:Type} (l:List α) (y d:α) (i:Nat):(l++ [y]).getD i d=if i=l.length then y else l.getD i d:=by
 rw [an7,an7];by_cases h:i=l.length
 ·rw [if_pos h,h];simp
 ·rw [if_neg h];by_cases h2:i<l.length
  ·rw [List.getElem?_append_left h2]
  ·rw [anl (by simp;omega),anl (by omega)]
theorem XY (N:List Nb) (y:Nb) (i:Nat):bnF (N++ [y]) i=if i=N.length then y.bn else bnF N i:=by
 unfold bnF;rw [KF];split<;>rfl
theorem XZ (N:List Nb) (y:Nb) (i:Nat):stF (N++ [y]) i=if i=N.length then y.st else stF N i:=by
 unfold stF;rw [KF];split<;>rfl
theorem WkM.ZA {Pb:Nat->Prop} {bw bm:Nat} {N:List Nb} {ord adM:List Nat} {fl:List (Nm×Int)} {nv ov ov':Value} {W W1 W':World} (g:WkM Pb bw bm N ord fl nv ov W) (od:nP (Wk.one viN) 3 1 Pb NoB W1 ov' adM) (c1:Chg (fun k=>ov.ownBlock=some k) W W1) (lie:ov'.ownBlock=ov.ownBlock∨ ∀k,ov'.ownBlock=some k->W.heap.size<=k) (b':Bk W' bw 128 [nv,ov',.map (some bm)]) (c2:Chg (fun k=>k=bw) W1 W'):WkM Pb bw bm N adM fl nv ov' W':=by
 have b1:=g.b.chg c1 fun e=>g.od.oM g.b rfl e rfl;have m1:=g.mp.chg c1 fun e=>g.od.qQ g.mp e rfl;have nd1:LLs nbC (fun x=>svV x.wv) (fun x=>x.bn.wants) viN 130 3 9 Pb W1 nv N:= ⟨g.nd.row.chg (nK nbC) c1 fun k hk e=>g.nd.row.sV g.od rfl k hk e,fun x hx=>(g.nd.el x hx).chg (nO _) c1 fun k hk e=>g.so x hx k hk e,g.nd.vz,g.nd.sep⟩;refine ⟨b',nd1.CB (P:=prog) b1 rfl rfl c2,od.chg (nO _) c2 fun k hk e=>od.oM b1 rfl hk e,m1.chg c2 fun e=>b1.qQ m1 e.symm,fun x hx k h1 h2=>?_,g.win,g.nl,g.fn,g.lo2⟩;rcases lie with e|e
 ·exact g.so x hx k h1 (e▸h2)
 ·have:=e k h2;have:=((g.nd.el x hx).lt h1).2;omega
def lvC (G:Giv) (c:Option Nat):Int:=match c with|some j=>(G.cards.getD j default).level|none=>0
def X0 (G:Giv) (k i:Nat):Bn:=if i<k then xH G [] i else default
section
variable {w:World} {G:Giv} {tv cv fv gv:Value} {Pg:Nat->Prop}
theorem Pq (r:RdG Pg w G tv cv fv gv) (hfl: ∀x∈G.fails,x.length<=100000000) (hgl: ∀x∈G.gone,x.length<=100000000):
 Calls prog 40 #[.agg #[tv,cv,fv,gv]] w (Ret fun v w'=>(if qm G=0 then Ua G w.heap.size v w' else v=.tuple #[.pointer none,vi (qm G)])/\New w w'):=by
 obtain ⟨ta,tc,rfl,_,_⟩:=r.t.form;obtain ⟨ca,cc,rfl,_,_⟩:=r.c.form;obtain ⟨fa,fc,rfl,_,_⟩:=r.f.form;obtain ⟨ga,gc,rfl,_,_⟩:=r.g.form;refine tZ func40 rfl ntmps40 rfl ?_;refine qq0 ?_;refine Wl.box rfl fun w1 b1 n1 s1=>?_;replace b1:Bk w1 w.heap.size 28 [.slice ta G.tree.length tc,.slice ca G.cards.length cc,.slice fa G.fails.length fc,.slice ga G.gone.length gc]:=b1;refine BR ?_;refine ah (u:=.slice ta G.tree.length tc) rfl (b1.cell (o:=0) rfl) ?_;refine aj (vN (r.t.keep oh n1.keep)) rfl ?_;rintro _ w2 ⟨rfl,n2⟩;have n02:=New.trans n1 n2;have b12:=b1.chg n2 id;unfold F6;cases hok:og G.tree with
 |false=>
  have hE:qm G=40:=by unfold qm;rw [hok];rfl
  rw [show (if false=true then (0:Int) else 40)=40 from rfl];(repeat' (first|refine aa1 ?_|refine aa7 ?_|refine ai ?_|refine eF rfl rfl ?_|refine dO ?_|refine gy rfl ?_|refine di ?_|refine gB ?_|refine eu ?_|refine gG ?_|(refine aa4 (fun _=>?_) (fun _=>?_)<;>(first|(exfalso;omega)|skip))));exact dG (qB rfl (pJ rfl) (pJ rfl)) ⟨_,rfl,by rw [hE,if_neg (by decide)];rfl,n02⟩
 |true=>
 rw [show (if true=true then (0:Int) else 40)=0 from rfl];(repeat' (first|refine BR ?_|(refine aa4 (fun _=>?_) (fun _=>?_)<;>(first|(exfalso;omega)|skip))));refine ah (u:=.slice ca G.cards.length cc) rfl (b12.cell (o:=1) rfl) ?_;refine aj (Gi (r.c.keep qP n02.keep)) rfl ?_;rintro _ w3 ⟨⟨ck,rfl⟩,n3⟩;have n03:=New.trans n02 n3;have b13:=b12.chg n3 id;unfold Ir;cases hco:uD G.cards with
 |false=>
  have hE:qm G=70:=by unfold qm;rw [hok,hco];rfl
  rw [show (if false=true then (0:Int) else 70)=70 from rfl];(repeat' (first|refine aa1 ?_|refine aa7 ?_|refine ai ?_|refine eF rfl rfl ?_|refine dO ?_|refine gy rfl ?_|refine di ?_|refine gB ?_|refine eu ?_|refine gG ?_|(refine aa4 (fun _=>?_) (fun _=>?_)<;>(first|(exfalso;omega)|skip))));exact dG (qB rfl (pJ rfl) (pJ rfl)) ⟨_,rfl,by rw [hE,if_neg (by decide)];rfl,n03⟩
 |true=>
 rw [show (if true=true then (0:Int) else 70)=0 from rfl];(repeat' (first|refine BR ?_|(refine aa4 (fun _=>?_) (fun _=>?_)<;>(first|(exfalso;omega)|skip))));refine ah (u:=.slice fa G.fails.length fc) rfl (b13.cell (o:=2) rfl) ?_;have hlo:512<G.fails.length∨512<G.gone.length->qm G=1:=fun h=>by unfold qm;rw [hok,hco,if_neg (by decide),if_neg (by decide),if_pos h]
 have hE0: ¬512<G.fails.length-> ¬512<G.gone.length->qm G=0:=fun h1 h2=>by unfold qm;rw [hok,hco,if_neg (by decide),if_neg (by decide),if_neg fun h=>h.elim h1 h2]
 (repeat' (first|refine aa1 ?_|refine aa7 ?_|refine ai ?_|refine aO rfl rfl ?_|refine dH rfl rfl ?_|refine dK rfl (by conv=>{lhs;whnf}) ?_|refine bU rfl ?_|refine dO ?_|refine gy rfl ?_|refine di ?_|refine gB ?_|refine eu ?_|refine gG ?_|refine aa5 ?_|refine aT rfl rfl (fun _=>?_) (fun _=>?_)))
 ·have hE:=hlo (.inl (by omega));exact dG (qB rfl (pJ rfl) (pJ rfl)) ⟨_,rfl,by rw [hE,if_neg (by decide)];rfl,n03⟩
 refine ah (u:=.slice ga G.gone.length gc) rfl (b13.cell (o:=3) rfl) ?_;(repeat' (first|refine qq1 ?_|refine aT rfl rfl (fun _=>?_) (fun _=>?_)))
 ·have hE:=hlo (.inr (by omega));exact dG (qB rfl (pJ rfl) (pJ rfl)) ⟨_,rfl,by rw [hE,if_neg (by decide)];rfl,n03⟩
 have hE:=hE0 (by omega) (by omega);clear hlo hE0;refine ah (u:=.slice fa G.fails.length fc) rfl (b13.cell (o:=2) rfl) ?_;refine aj (ED (r.f.keep (nZ _) n03.keep) hfl) rfl ?_;rintro _ w4 ⟨⟨bm,L,rfl,hbm,mpL,cn⟩,n4⟩;refine aX (ps:=[(2,.tmp 48)]) (parts:=[(2,.map (some bm))]) rfl rfl (by simp [Value.cells]) ?_;refine Wl.box rfl fun w5 b5 n5 s5=>?_;replace b5:Bk w5 w4.heap.size 128 [.slice none 0 0,.slice none 0 0,.map (some bm)]:=b5;refine Wl.alloc fun w6 b6 n6 s6=>?_;refine aJ (u:=pT w4.heap.size) b6 rfl (show (0:Nat)<1 by omega) rfl rfl fun w7 b7 c7=>?_;replace b7:Bk w7 w5.heap.size 80 [pT w4.heap.size]:=b7;have n57:New w5 w7:=(Chg.trans n6.any c7 i3).tN
 have hz1:=n1.size;have hz2:=n2.size;have hz3:=n3.size;have hz4:=n4.size;have hz5:=n5.size;have abf:=n57.size;have amC:=mpL.lt;have g0:WkM (fun b=>w.heap.size<=b/\b<w5.heap.size) w4.heap.size bm [] [] L (.slice none 0 0) (.slice none 0 0) w7:= ⟨b5.chg n57 id,iY,aI,mpL.chg (New.trans n5 n57) id,by simp,by simp,by simp,⟨cn.nd,by simp⟩,⟨by omega,by have:=b5.lt;omega⟩,⟨by omega,by omega⟩⟩;have n07:=New.trans n03 (New.trans n4 (New.trans n5 n57));have b17:=b13.chg (New.trans n4 (New.trans n5 n57)) id;clear b6 n6 c7 n57 n5 b5 n4 mpL b1 b12 b13 n1 n2 n3 n02 n03;generalize hbw:w4.heap.size=bw at*;generalize hb8:w5.heap.size=b8 at*;refine qq1 ?_;refine ah (u:=.slice ca G.cards.length cc) rfl (b17.cell (o:=1) rfl) ?_;(repeat' (refine aa5 ?_));refine ah (u:=.slice ta G.tree.length tc) rfl (b17.cell (o:=0) rfl) ?_;refine aj (Oh (r.c.keep qP n07.keep) (r.t.keep oh n07.keep) hco hok) rfl ?_;rintro _ w8 ⟨⟨mv,rfl,om⟩,n8⟩;obtain ⟨ma,mc,rfl,_,_⟩:=om.form;refine BR ?_;refine Wl.alloc fun w9 b9 n9 s9=>?_;refine aJ (u:=.slice ma (allM G.cards G.tree).length mc) b9 rfl (show (0:Nat)<1 by omega) rfl rfl fun w10 b10 c10=>?_;replace b10:Bk w10 w8.heap.size 154 [.slice ma (allM G.cards G.tree).length mc]:=b10;have JH:New w8 w10:=(Chg.trans n9.any c10 i3).tN
 generalize hb9:w8.heap.size=b9' at*;refine BR ?_;refine ah (u:=.slice ta G.tree.length tc) rfl ((b17.chg (New.trans n8 JH) id).cell (o:=0) rfl) ?_;have n0a:=New.trans n07 (New.trans n8 JH);refine aj (Fh (r.t.keep oh n0a.keep) hok) rfl ?_;rintro _ w11 ⟨⟨bq,sv,rfl,hbq,hq⟩,n11⟩;have n0b:=New.trans n0a n11;have hz8:=n8.size;have alJ:=JH.size;have QT:=n11.size;have alK:=b17.lt;have adF:=b7.lt;have adN:=b10.lt;have adu:=hq.1.lt;have htl:=pF hok;have hpl:=vP G.tree;have hal:=Og G.cards G.tree;obtain ⟨D,hD⟩: ∃D,D=w11.heap.size:=⟨_,rfl⟩;have LU:=New.trans n8 (New.trans JH n11);have b1a:=b17.chg LU id;have b8a:=b7.chg LU id;have b9a:=b10.chg n11 id;have oma:=(om.new (nK _) (New.trans JH n11)).mono (Pb':=fun b=>b<D) (nS _) (fun b hb _=>by show b<D;omega) i3;have g0a:=(g0.new LU).mono (Pb':=fun b=>w.heap.size<=b/\b≠D/\b≠D+1/\b≠b8) fun b hb e=>⟨e.1,by have:=e.2;omega,by have:=e.2;omega,by have:=e.2;omega⟩;clear b17 b7 b10 om g0 n8 JH n11 n07 n0a LU;let I:Nat->World->Prop:=fun k W=>New w W/\D+2<=W.heap.size/\SqW (fun b=>w10.heap.size<=b/\b<D) bq sv (pK G.tree) W/\Bk W w.heap.size 28 [.slice ta G.tree.length tc,.slice ca G.cards.length cc,.slice fa G.fails.length fc,.slice ga G.gone.length gc]/\Bk W b8 80 [pT bw]/\Bk W b9' 154 [.slice ma (allM G.cards G.tree).length mc]/\nP QB Iu 2 (fun b=>b<D) NoB W (.slice ma (allM G.cards G.tree).length mc) (allM G.cards G.tree)/\ ∃N nv,WkM (fun b=>w.heap.size<=b/\b≠D/\b≠D+1/\b≠b8) bw bm N [] L nv (.slice none 0 0) W/\N.length=k/\bnF N=X0 G k/\(∀j,stF N j=0)/\ ∀j,nv.ownBlock=some j->D<=j;(repeat' (first|refine ai ?_|refine Wd.block ?_|refine di ?_));refine Wd.frame [(1,pT w.heap.size),(8,pT b8),(9,pT b9'),(61,.func (.func 46) #[] #[pT bq])] ⟨rfl,rfl,rfl,rfl,trivial⟩ fun G0=>?_;simp only [pq];refine gZ (gf:=46) (lb:= #[pT bq]) rfl (fun args _=>qF inferInstance args) (iter_walk (Pb:=fun b=>w10.heap.size<=b/\b<D) (bs:=bq) (v:=sv) (l:=pK G.tree)) (fun k=>rfl) I (fun _ _=>False) ?_ ?_ ?_ ?_ ?_ ?_ ?_ ?_ ?_
 ·exact fun k W h=>h.2.2.1
 ·rintro k W W' ⟨h1,h2,h3,h4,h5,h6,h7,N,nv,h8,h9⟩ n;exact ⟨h1.trans n,apR h2 n.size,h3.new n,h4.chg n id,h5.chg n id,h6.chg n id,h7.new (nK _) n,N,nv,h8.new n,h9⟩
 ·rintro k W r1 r2 ⟨h1,h2,h3,h4,h5,h6,h7,N,nv,h8,h9⟩ hL;have z:=n0b.size;have nL:NoC W (w11.heap.size+1):=.loop hL;exact ⟨h1.put _ (by omega),by simpa using h2,h3.put _ nL (by omega),h4.put _ nL,h5.put _ nL,h6.put _ nL,h7.put _ (nK _) nL,N,nv,h8.chg (Chg.putObj W _ _) (fun k hk e=>hk.2.2.1 (by omega)),h9⟩
 ·exact fun _ _ _ _ h=>h.elim
 ·intro r1;have n:=ig (w:=w11) (.deferred (some [])) (.loop r1);exact ⟨n0b.trans n,by rw [hD];simp,(hD▸hq).new n,b1a.chg n id,b8a.chg n id,b9a.chg n id,oma.new (nK _) n,[],.slice none 0 0,g0a.new n,rfl,by funext i;unfold X0 bnF;rw [if_neg (aqw i)];rfl,fun j=>rfl,fun j e=>by cases e⟩
 ·rintro k W r1 hk ⟨h1,h2,h3,h4,h5,h6,h7,N,nv,g,hN,hb,hst,hnv⟩ hL hDf;subst hD;have hkt:k<G.tree.length:=by omega
  have hgk:(pK G.tree).getD k []=oI G.tree k:=by rw [an7,sQ hkt];rfl
  show Wr _ _ _ _ _ (upd (upd _ 62 (vs ((pK G.tree).getD k []))) 63 (vi k)) W;rw [hgk];(repeat' (first|refine aa7 ?_|refine ai ?_|refine bM ?_|refine dh ?_|refine bI rfl (by repeat' (first|exact Qfn.out (by rintro _ ⟨⟨_,e⟩,_⟩;cases e)|exact Qrd.out|exact Qas.out|refine Qsr.out ?_|refine nR.out ?_|refine Qsc.out ?_|refine pW.out ?_)) ?_));refine ⟨ay _ _,fun r'=>?_⟩;have nL:NoC W (w11.heap.size+1):=.loop hL;have hLt:=nL.lt;have z0:=n0b.size;have q1:New w (W.putObj (w11.heap.size+1) (.loop r')):=h1.put _ (by omega);have q2:w11.heap.size+2<=(W.putObj (w11.heap.size+1) (.loop r')).heap.size:=by simpa using h2
  have q3:=h3.put (.loop r') nL (by omega);have q4:=h4.put (.loop r') nL;have q5:=h5.put (.loop r') nL;have q6:=h6.put (.loop r') nL;have q7:=h7.put (.loop r') (nK _) nL;have qg:=g.chg (Chg.putObj W (w11.heap.size+1) (.loop r')) (fun k hk e=>hk.2.2.1 e);have qL:NoC (W.putObj (w11.heap.size+1) (.loop r')) (w11.heap.size+1):=.loop (World.putObj_heap_same hLt);have qD:NoC (W.putObj (w11.heap.size+1) (.loop r')) w11.heap.size:=.mark ((World.putObj_heap_other (by omega)).trans hDf);generalize W.putObj (w11.heap.size+1) (.loop r')=W3 at*;clear h1 h2 h3 h4 h5 h6 h7 g hL hDf nL hLt;have adO:=qL.lt;refine Wr.block ?_;refine gu (fun F W=>agrees F [(1,pT w.heap.size),(8,pT b8),(9,pT b9'),(11,vs (oI G.tree k)),(12,vi k),(13,.bool (onM G.tree k))]/\New W3 W) ?_ ?_
  ·(repeat' (first|refine bI rfl Wk.wE.out ?_|refine aa5 ?_));refine ah (u:=.slice ta G.tree.length tc) rfl (q4.cell (o:=0) rfl) ?_;(repeat' (refine aa1 ?_));refine aj (Ea (i:=k) (r.t.keep oh q1.keep) hok hkt) rfl ?_;rintro _ W4 ⟨rfl,n4⟩;(repeat' (first|refine aa1 ?_|refine aa7 ?_|refine ai ?_|refine eF rfl rfl ?_));exact ⟨⟨rfl,rfl,rfl,rfl,rfl,rfl,trivial⟩,n4⟩
  rintro F W4 ⟨hF,n4⟩;rw [<-oV hF];simp only [pq];clear hF;refine gu (fun F W=>agrees F [(1,pT w.heap.size),(8,pT b8),(9,pT b9'),(11,vs (oI G.tree k)),(12,vi k),(13,.bool (onM G.tree k)),(15,.bool (C9 G.tree k))]/\New W4 W) ?_ ?_
  ·(repeat' (first|refine bI rfl Wk.wE.out ?_|refine aa5 ?_));refine ah (u:=.slice ta G.tree.length tc) rfl ((q4.chg n4 id).cell (o:=0) rfl) ?_;(repeat' (refine aa1 ?_));refine aj (Qu (i:=k) (r.t.keep oh (New.trans q1 n4).keep) hok hkt) rfl ?_;rintro _ W5 ⟨rfl,n5⟩;(repeat' (first|refine aa1 ?_|refine aa7 ?_|refine ai ?_|refine eF rfl rfl ?_));exact ⟨⟨rfl,rfl,rfl,rfl,rfl,rfl,rfl,trivial⟩,n5⟩
  rintro F W5 ⟨hF,n5⟩;rw [<-oV hF];simp only [pq];clear hF;have n35:=New.trans n4 n5;have adp:=n35.size;refine gu (fun F W=>agrees F [(1,pT w.heap.size),(8,pT b8),(9,pT b9'),(11,vs (oI G.tree k)),(12,vi k),(13,.bool (onM G.tree k)),(17,pT W5.heap.size)]/\Bk W W5.heap.size 130 (ndV (oI G.tree k) (qR G.tree k) 0 0 (-1) (.slice none 0 0))/\New W5 W) ?_ ?_
  ·have hdv:qR G.tree k=(decide (0<k)&&(onM G.tree k&& !C9 G.tree k)):=rfl;obtain ⟨d,hd⟩: ∃d,qR G.tree k=d:=⟨_,rfl⟩;have hd2:=hd.symm.trans hdv;rw [hd];clear hd hdv;cases hon:onM G.tree k<;>cases hpn:C9 G.tree k<;>by_cases hk0:0<k<;>rw [hon,hpn] at hd2<;>simp [hk0] at hd2<;>subst hd2<;>
   (
   (repeat' (first|refine aa1 ?_|refine aO rfl rfl ?_|refine dH rfl rfl ?_|refine dK rfl (by conv=>{lhs;whnf}) ?_|refine xO ?_|refine dw rfl ?_|refine bI rfl Wk.wE.out ?_|(refine aT rfl rfl (fun _=>?_) (fun _=>?_)<;>(first|(exfalso;omega)|skip))));refine dU (ps:=[(1,.const (vi (-1))),(2,.const (vi (-1)))]) (parts:=[(1,vi (-1)),(2,vi (-1))]) rfl JF ?_;refine dU (ps:=[(0,.tmp 78),(1,.tmp 87),(3,.tmp 88)]) (parts:=[(0,vs (oI G.tree k)),(1,.bool _),(3,.agg #[.int .u8 0,vi (-1),vi (-1)])]) rfl JG ?_;refine Wl.alloc fun W6 b6 n6 s6=>?_;refine aH (new:=ndV (oI G.tree k) _ 0 0 (-1) (.slice none 0 0)) b6 rfl rfl rfl rfl zl9 (aiM _ _ _ _ _) fun W7 b7 c7 s7=>?_;(repeat' (refine ai ?_));exact ⟨⟨rfl,rfl,rfl,rfl,rfl,rfl,rfl,trivial⟩,b7,(Chg.trans n6.any c7 i3).tN⟩)
  rintro F W6 ⟨hF,b17,n6⟩;rw [<-oV hF];simp only [pq];clear hF;refine gu (fun F W=>agrees F [(1,pT w.heap.size),(8,pT b8),(9,pT b9'),(11,vs (oI G.tree k)),(12,vi k),(13,.bool (onM G.tree k)),(17,pT W5.heap.size)]/\Bk W W5.heap.size 130 (ndV (oI G.tree k) (qR G.tree k) 0 0 (pU (if qR G.tree k=true then qV G.cards G.tree k else none)) (.slice none 0 0))/\New W5 W) ?_ ?_
  ·(repeat' (first|refine dh ?_|refine bI rfl Wk.wE.out ?_|refine aa5 ?_));refine ah (u:=.bool (qR G.tree k)) rfl (b17.cell (o:=1) rfl) ?_;cases hd:qR G.tree k with
   |false=>rw [hd] at b17;(repeat' (first|refine ai ?_|refine bM ?_|refine Wr.skip ?_|refine dZ rfl ?_));exact ⟨⟨rfl,rfl,rfl,rfl,rfl,rfl,rfl,trivial⟩,b17,n6⟩
   |true=>
    rw [hd] at b17;have n36:=New.trans n35 n6;have hm0:(yM (xw G.cards (sJ G.tree k)))[0]? =some (vi (pU (qV G.cards G.tree k))):=by unfold qV;cases xw G.cards (sJ G.tree k)<;>rfl
    have hme:(allM G.cards G.tree)[k]? =some (xw G.cards (sJ G.tree k)):=by unfold allM;rw [an3,aoT hkt];rfl
    (repeat' (first|refine ai ?_|refine bM ?_|refine bI rfl Wk.wE.out ?_|refine dY rfl ?_));refine ah (u:=.slice ma (allM G.cards G.tree).length mc) rfl ((q6.chg n36 id).cell (o:=0) rfl) ?_;(repeat' (refine aa1 ?_));refine aK ((q7.new (nK _) n36).rd (nS _)) rfl rfl (by omega) hme fun b o cs hl hR hat=>?_;obtain rfl:cs=yM _:=hR;(repeat' (refine aa5 ?_));refine ah (u:=vi (pU (qV G.cards G.tree k))) rfl (hat.get 0 hm0) ?_;clear hat;(repeat' (refine aa5 ?_));refine aJ (u:=vi (pU (qV G.cards G.tree k))) b17 rfl (show (4:Nat)<9 by omega) rfl rfl fun W7 b7 c7=>?_;(repeat' (refine ai ?_));exact ⟨⟨rfl,rfl,rfl,rfl,rfl,rfl,rfl,trivial⟩,b7,(Chg.trans n6.any c7 i3).tN⟩
  clear b17 n6;rintro F W6 ⟨hF,b17,n6⟩;rw [<-oV hF];simp only [pq];clear hF;have hcl: ∀j,(if qR G.tree k=true then qV G.cards G.tree k else none)=some j->j<G.cards.length:=fun j hj=>by
   split at hj
   ·unfold qV at hj;cases hf:xw G.cards (sJ G.tree k) with
    |none=>rw [hf] at hj;cases hj
    |some p=>rw [hf] at hj;cases hj;exact (NP (i:=p.1) (k:=p.2) hf).1
   ·cases hj
  obtain ⟨c,hc⟩: ∃c,(if qR G.tree k=true then qV G.cards G.tree k else none)=c:=⟨_,rfl⟩;rw [hc] at b17 hcl;refine gu (fun F W=>agrees F [(1,pT w.heap.size),(8,pT b8),(9,pT b9'),(11,vs (oI G.tree k)),(12,vi k),(13,.bool (onM G.tree k)),(17,pT W5.heap.size)]/\Bk W W5.heap.size 130 (ndV (oI G.tree k) (qR G.tree k) (lvC G c) 0 (pU c) (.slice none 0 0))/\New W5 W) ?_ ?_
  ·(repeat' (first|refine dh ?_|refine bI rfl Wk.wE.out ?_|refine aa5 ?_));refine ah (u:=vi (pU c)) rfl (b17.cell (o:=4) rfl) ?_;cases c with
   |none=>rw [show pU none= -1 from rfl];(repeat' (first|refine ai ?_|refine bM ?_|refine Wr.skip ?_|refine dZ rfl ?_|(refine aU rfl rfl (fun _=>?_) (fun _=>?_)<;>(first|(exfalso;omega)|skip))));exact ⟨⟨rfl,rfl,rfl,rfl,rfl,rfl,rfl,trivial⟩,b17,n6⟩
   |some j=>have hjl:=hcl j rfl;obtain ⟨x,hx⟩:=nT G.cards hjl;have n36:=New.trans n35 n6;have hkp:=(New.trans q1 n36).keep (Pb:=Pg);rw [show pU (some j)=(j:Int) from rfl];(repeat' (first|refine ai ?_|refine bM ?_|refine bI rfl Wk.wE.out ?_|refine dY rfl ?_|refine aa5 ?_|(refine aU rfl rfl (fun _=>?_) (fun _=>?_)<;>(first|(exfalso;omega)|skip))));refine ah (u:=.slice ca G.cards.length cc) rfl ((q4.chg n36 id).cell (o:=1) rfl) ?_;(repeat' (refine aa5 ?_));refine ah (u:=vi j) rfl (b17.cell (o:=4) rfl) ?_;refine aK (r.c.keep qP hkp) rfl rfl (by omega) hx fun b o cs hl hR hat=>?_;obtain ⟨va,rfl,_⟩:=hR;(repeat' (refine aa5 ?_));refine ah (u:=.int .u8 x.level) rfl (hat.get 2 rfl) ?_;clear hat;(repeat' (refine aa5 ?_));refine aJ (u:=.int .u8 x.level) b17 rfl (show (2:Nat)<9 by omega) rfl rfl fun W7 b7 c7=>?_;(repeat' (refine ai ?_));exact ⟨⟨rfl,rfl,rfl,rfl,rfl,rfl,rfl,trivial⟩,by unfold lvC;dsimp only;rw [an7,hx];exact b7,(Chg.trans n6.any c7 i3).tN⟩
  clear b17 n6;rintro F W6 ⟨hF,b17,n6⟩;rw [<-oV hF];simp only [pq];clear hF;refine gu (fun F W=> ∃wv:SV,agrees F [(1,pT w.heap.size),(8,pT b8),(9,pT b9'),(11,vs (oI G.tree k)),(12,vi k),(13,.bool (onM G.tree k)),(17,pT W5.heap.size)]/\Bk W W5.heap.size 130 (ndV (oI G.tree k) (qR G.tree k) (lvC G c) 0 (pU c) (svV wv))/\nP (Wk.one viN) 3 1 (fun b=>W3.heap.size<=b) NoB W (svV wv) (if 0<k then [par G.tree k] else [])/\New W5 W) ?_ ?_
  ·have adP:=New.trans n35 n6;have hkp:=(New.trans q1 adP).keep (Pb:=Pg);by_cases hk0:0<k
   ·rw [if_pos hk0];have hpar:=uK hok (i:=k) (by omega) hkt;(repeat' (first|refine aa1 ?_|refine ai ?_|refine bM ?_|refine dh ?_|refine bI rfl Wk.wE.out ?_|refine dY rfl ?_|refine aa5 ?_|(refine aT rfl rfl (fun _=>?_) (fun _=>?_)<;>(first|(exfalso;omega)|skip))));refine ah (u:=.slice ta G.tree.length tc) rfl ((q4.chg adP id).cell (o:=0) rfl) ?_;(repeat' (refine aa1 ?_));refine aK (r.t.keep oh hkp) rfl rfl (by omega) (GK hkt) fun b o cs hl hR hat=>?_;obtain ⟨pvn,rfl,_⟩:=hR;(repeat' (refine aa5 ?_));refine ah (u:=vi (par G.tree k)) rfl (by rw [<-hpar.2];exact hat.get 0 rfl) ?_;clear hat;refine bC (R:=Wk.one viN) (Pe:=NoB) (y:=par G.tree k) qw rfl rfl rfl rfl (by omega) (by omega) fun v7 W7 o7 n7 s7 e7=>?_;obtain ⟨xa,xc,rfl,_,_⟩:=o7.form;(repeat' (refine aa5 ?_));have hz6:=n6.size;refine aJ (u:=.slice xa [par G.tree k].length xc) (b17.chg n7 id) rfl (show (6:Nat)<9 by omega) rfl rfl fun W8 b8' c8=>?_;(repeat' (refine ai ?_));exact ⟨(xa,[par G.tree k].length,xc),⟨rfl,rfl,rfl,rfl,rfl,rfl,rfl,trivial⟩,b8',(o7.chg (nO _) c8 fun j h e=>by have h9:W6.heap.size<=j:=(o7.lt h).1;have:=b17.lt;omega).mono (nV _) (fun b _ e=>by have e:W6.heap.size<=b:=e;show W3.heap.size<=b;omega) i3,(Chg.trans (New.trans n6 n7).any c8 i3).tN⟩
   ·rw [if_neg hk0];(repeat' (first|refine aa1 ?_|refine ai ?_|refine bM ?_|refine dh ?_|refine bI rfl Wk.wE.out ?_|refine Wr.skip ?_|refine dZ rfl ?_|(refine aT rfl rfl (fun _=>?_) (fun _=>?_)<;>(first|(exfalso;omega)|skip))));exact ⟨(none,0,0),⟨rfl,rfl,rfl,rfl,rfl,rfl,rfl,trivial⟩,b17,aI,n6⟩
  clear b17 n6;rintro F W6 ⟨hwv,hF,b17,owv,n6⟩;rw [<-oV hF];simp only [pq];clear hF;refine gu (fun F W=>agrees F [(1,pT w.heap.size),(8,pT b8),(9,pT b9'),(11,vs (oI G.tree k)),(12,vi k),(17,pT W5.heap.size)]/\Bk W W5.heap.size 130 (ndV (oI G.tree k) (qR G.tree k) (lvC G c) (if onM G.tree k=false then 1 else 0) (pU c) (svV hwv))/\nP (Wk.one viN) 3 1 (fun b=>W3.heap.size<=b) NoB W (svV hwv) (if 0<k then [par G.tree k] else [])/\New W5 W) ?_ ?_
  ·cases hon:onM G.tree k with
   |true=>(repeat' (first|refine aa1 ?_|refine ai ?_|refine dw rfl ?_|refine bM ?_|refine dh ?_|refine bI rfl Wk.wE.out ?_|refine Wr.skip ?_|refine dZ rfl ?_));exact ⟨⟨rfl,rfl,rfl,rfl,rfl,rfl,trivial⟩,b17,owv,n6⟩
   |false=>(repeat' (first|refine aa1 ?_|refine ai ?_|refine dw rfl ?_|refine bM ?_|refine dh ?_|refine bI rfl Wk.wE.out ?_|refine dY rfl ?_|refine aa5 ?_));refine aJ (u:=.int .u8 1) b17 rfl (show (3:Nat)<9 by omega) rfl rfl fun W8 b8' c8=>?_;(repeat' (refine ai ?_));exact ⟨⟨rfl,rfl,rfl,rfl,rfl,rfl,trivial⟩,b8',owv.chg (nO _) c8 fun j h e=>owv.oM b17 rfl h e,(Chg.trans n6.any c8 i3).tN⟩
  clear b17 owv n6;rintro F W6 ⟨hF,b17,owv,n6⟩;rw [<-oV hF];simp only [pq];clear hF;have n36:=New.trans n35 n6;have aiN:=n36.size;have g6:=qg.new n36;have q56:=q5.chg n36 id;obtain ⟨na,nc,rfl,_,_⟩:=g6.nd.row.form;obtain ⟨Y,hY⟩: ∃Y:Nb,Y=⟨xH G [] k,hwv,0⟩:=⟨_,rfl⟩;have hYc:nbC Y=ndV (oI G.tree k) (qR G.tree k) (lvC G c) (if onM G.tree k=false then 1 else 0) (pU c) (svV hwv):=by rw [hY, <-hc];rfl
  have hYw:Y.bn.wants=if 0<k then [par G.tree k] else []:=by rw [hY];unfold xH;simp
  rw [<-hYc] at b17;rw [<-hYw] at owv;have hYv:Y.wv=hwv:=by rw [hY]
  rw [<-hYv] at owv;have JC: ∀W',Chg (fun j=>(Value.slice na N.length nc).ownBlock=some j) W6 W'->Bk W' b8 80 [pT bw]:=fun W' c=>q56.chg c fun e=>g6.nd.row.oM q56 rfl e rfl;have ZB: ∀W',Chg (fun j=>(Value.slice na N.length nc).ownBlock=some j) W6 W'->Bk W' bw 128 [.slice na N.length nc,.slice none 0 0,.map (some bm)]:=fun W' c=>g6.b.chg c fun e=>g6.nd.row.oM g6.b rfl e rfl;have adQ: ∀W',Chg (fun j=>(Value.slice na N.length nc).ownBlock=some j) W6 W'->Bk W' W5.heap.size 130 (nbC Y):=fun W' c=>b17.chg c fun e=>by have:=hnv _ e;have:=(qg.nd.row.lt e).2;omega
  refine iq rfl wE.out rfl (by kernel_rfl) (fun W'=>Chg (fun j=>(Value.slice na N.length nc).ownBlock=some j) W6 W') (Chg.drew _ _) ?_;intro W7 m7;refine aa0 (au (u:=pT bw) rfl (fun W' c=>(JC W' c).cell (o:=0) rfl) (af ?_));refine aa0 (au (u:=pT bw) rfl (fun W' c=>(JC W' c).cell (o:=0) rfl) (af ?_));refine rX ?_;refine aa0 (au (u:=.slice na N.length nc) rfl (fun W' c=>(ZB W' c).cell (o:=0) rfl) (af ?_));refine aa0 (bD (fun W' c=>(adQ W' c).at) rfl rfl (af ?_));refine aC rfl (bC (R:=flat nbC) (Pe:=NoB) (y:=Y) XO rfl rfl rfl rfl (by omega) (by omega) fun v8 W8 o8 n8 s8 e8=>?_);have m8:=New.trans m7 n8;refine ai ⟨rfl,m8.any,?_⟩;refine aC rfl (bY (R:=flat nbC) XO (g6.nd.row.new (nK _) m8) (o8.rd (nS _)) (fun z cs hz=>hz) rfl rfl (by omega) (by simp only [maxLen,anM];omega) (by simp only [anM];omega) fun u' W9 o9 c9 lie _=>?_);have c69:Chg (fun j=>(Value.slice na N.length nc).ownBlock=some j) W6 W9:=Chg.trans m8.any c9 i3;refine ai ⟨rfl,c69,?_⟩;refine rX ?_;obtain ⟨ua,uc,rfl,_,_⟩:=o9.form;refine Wt.last rfl (aJ (u:=.slice ua (N++ [Y]).length uc) (ZB W9 c69) rfl (show (0:Nat)<3 by omega) rfl rfl fun W10 abu BV=>?_);refine ai ?_;have adR:=m8.size;have aiH:=c69.size;have adS:=BV.size;have LZ:(Value.slice ua (N++ [Y]).length uc).ownBlock=(Value.slice na N.length nc).ownBlock∨ ∀k,(Value.slice ua (N++ [Y]).length uc).ownBlock=some k->W6.heap.size<=k:=lie.imp id fun h k hk=>by have:=h k hk;omega
  have Ja: ∀j,(Value.slice na N.length nc).ownBlock=some j->j<W3.heap.size:=fun j e=>(qg.nd.row.lt e).2;have aam:=g6.nd.snoc (b:=Y) (o9.mono (Pb':=fun b=>w.heap.size<=b/\b≠w11.heap.size/\b≠w11.heap.size+1/\b≠b8) (nS _) (fun b _ e=>by rcases e with e|e;exact e;exact ⟨by omega,by omega,by omega,by omega⟩) i3) c69 LZ (owv.mono (Pb':=fun b=>w.heap.size<=b/\b≠w11.heap.size/\b≠w11.heap.size+1/\b≠b8) (nV _) (fun b _ e=>by have e:W3.heap.size<=b:=e;exact ⟨by omega,by omega,by omega,by omega⟩) i3) (fun j e1 e2=>by have h9:W3.heap.size<=j:=(owv.lt e1).1;have:=Ja j e2;omega) (fun x hx j e1 e2=>by have h9:W3.heap.size<=j:=(owv.lt e1).1;have:=((qg.nd.el x hx).lt e2).2;omega);have aiO:=ZB W9 c69;have Pv:Chg (fun j=>j=bw∨(Value.slice na N.length nc).ownBlock=some j) W6 W10:=Chg.trans (c69.mono fun _ _ e=>.inr e) BV fun _ _ e=>.inl e;have hnN:(N++ [Y]).length=k+1:=by rw [am7,anM,hN]
  have gN:WkM (fun b=>w.heap.size<=b/\b≠w11.heap.size/\b≠w11.heap.size+1/\b≠b8) bw bm (N++ [Y]) [] L (.slice ua (N++ [Y]).length uc) (.slice none 0 0) W10:=by
   refine ⟨abu,aam.CB (P:=prog) aiO rfl rfl BV,aI,((g6.mp.chg c69 fun e=>g6.nd.row.qQ g6.mp e rfl).chg BV fun e=>g6.b.qQ g6.mp e.symm),fun x hx j e1 e2=>(by cases e2),fun x hx j hj=>?_,by omega,⟨g6.fn.1,fun x hx=>?_⟩,g6.lo2⟩
   ·rw [hnN];rcases List.mem_append.1 hx with hx|hx
    ·have:=g6.win x hx j hj;omega
    ·rw [List.mem_singleton.1 hx,hYw] at hj;split at hj
     ·rw [List.mem_singleton.1 hj];have:=(uK hok (i:=k) (by omega) hkt).1;omega
     ·cases hj
   ·rcases List.mem_append.1 hx with hx|hx
    ·exact g6.fn.2 x hx
    ·rw [List.mem_singleton.1 hx,hY];have:=WV hok hkt;show (oI G.tree k).length<=1000000;omega
  have hown: ∀j,(Value.slice ua (N++ [Y]).length uc).ownBlock=some j->w11.heap.size<=j:=fun j e=>by
   rcases LZ with l1|l1
   ·exact hnv j (l1▸e)
   ·have:=l1 j e;omega
  have amD:=g6.lo2.1;have hY0:Y.st=0:=by rw [hY]
  have hYb:Y.bn=xH G [] k:=by rw [hY]
  have qL6:NoC W6 (w11.heap.size+1):=by obtain ⟨o,h1,h2⟩:=qL;exact ⟨o,(n36.block _ (Array.getElem?_eq_some_iff.1 h1).1 id).trans h1,h2⟩
  have qD6:NoC W6 w11.heap.size:=by obtain ⟨o,h1,h2⟩:=qD;exact ⟨o,(n36.block _ (Array.getElem?_eq_some_iff.1 h1).1 id).trans h1,h2⟩
  clear adQ ZB JC b17 owv o8 o9 aam;(repeat' (refine dL ?_));refine ⟨(Pv.block _ qL6.lt ?_).trans (n36.block _ qL.lt id),(Pv.block _ qD6.lt ?_).trans (n36.block _ qD.lt id),Chg.trans (New.trans q1 n36) Pv fun j hj e=>?_,by omega,(q3.new n36).chg Pv ?_ ?_,(q4.chg n36 id).chg Pv ?_,q56.chg Pv ?_,(q6.chg n36 id).chg Pv ?_,(q7.new (nK _) n36).chg (nK _) Pv fun j h1 h2=>?_,N++ [Y],_,gN,hnN,?_,?_,hown⟩
  ·rintro (e|e)
   ·omega
   ·exact g6.nd.row.nl qL6 e rfl
  ·rintro (e|e)
   ·omega
   ·exact g6.nd.row.nl qD6 e rfl
  ·rcases e with e|e
   ·omega
   ·have:=hnv j e;omega
  ·rintro (e|e)
   ·omega
   ·have:=hnv _ e;omega
  ·rintro j hj (e|e)
   ·omega
   ·have:=hnv _ e;omega
  ·rintro (e|e)
   ·omega
   ·have:=hnv _ e;omega
  ·rintro (e|e)
   ·omega
   ·have:=hnv _ e;omega
  ·rintro (e|e)
   ·omega
   ·have:=hnv _ e;omega
  ·rcases h2 with e|e
   ·exact (q7.new (nK _) n36).oM g6.b rfl h1 e
   ·have h9:j<w11.heap.size:=(q7.lt h1).1;have:=hnv _ e;omega
  ·funext i;rw [XY,hb,hN,hYb];unfold X0;by_cases hi:i=k
   ·rw [if_pos hi,if_pos (by omega),hi]
   ·rw [if_neg hi];by_cases h2:i<k
    ·rw [if_pos h2,if_pos (by omega)]
    ·rw [if_neg h2,if_neg (by omega)]
  ·intro j;rw [XZ];split
   ·exact hY0
   ·exact hst j
 ·rintro W ⟨h1,h2,h3,h4,h5,h6,h7,N,nv,g,hN,hb,hst,hnv⟩ hDf;subst hD;clear h3 h6 h7 oma g0a b1a b8a b9a hq;rw [hpl] at hN hb;clear I;have z0:=n0b.size;have rW:RdG (fun b=>b<w.heap.size) W G (.slice ta G.tree.length tc) (.slice ca G.cards.length cc) (.slice fa G.fails.length fc) (.slice ga G.gone.length gc):= RdG.keep ⟨r.t.mono AQ fun b hb _=>hb,r.c.mono Qy fun b hb _=>hb,r.f.mono (nV _) fun b hb _=>hb,r.g.mono (nV _) fun b hb _=>hb⟩ h1.keep qP;(repeat' (first|refine di ?_|refine fH ?_));refine fZ ?_;refine aN ?_;(repeat' (refine aQ ?_));refine ah (u:=pT bw) rfl (h5.cell (o:=0) rfl) ?_;refine bK h4 rfl rfl ?_;refine aj (RN (lo:=w.heap.size) (Pb:=fun b=>w.heap.size<=b/\b≠w11.heap.size/\b≠w11.heap.size+1/\b≠b8) (fun b hb=>hb.1) (fun b hb=>⟨by omega,by omega,by omega,by omega⟩) hok hco hgl rW g hN hb hst) rfl ?_;rintro _ W1 ⟨N1,g1,hN1,hb1,hst1,c1⟩;have h51:=h5.chg c1 fun e=>e.2.2.2 rfl;have hD1:=(c1.block _ (Array.getElem?_eq_some_iff.1 hDf).1 fun e=>e.2.1 rfl).trans hDf;have n1':New w W1:=(Chg.trans (M:=fun k=>w.heap.size<=k) h1.any c1 fun k _ e=>e.1).tN
  clear h1 h4 h5 g hb hst hnv hDf c1 rW;generalize hD0:w11.heap.size=D at*;obtain ⟨na,nc,rfl,_,_⟩:=g1.nd.row.form;have hnl:=g1.nl;refine qq2 ?_;refine ah (u:=pT bw) rfl (h51.cell (o:=0) rfl) ?_;refine qq2 ?_;refine ah (u:=.slice na N1.length nc) rfl (g1.b.cell (o:=0) rfl) ?_;refine qq4 ?_;refine aA (σ:=Nat×Value) (fun q=>[(8,pT b8),(142,.slice na N1.length nc),(143,vi N1.length),(144,vi q.1)]) (fun q W'=>q.1<=N1.length/\WkM (fun b=>w.heap.size<=b/\b≠D/\b≠D+1/\b≠b8) bw bm N1 ((ab8 q.1).filter fun i=>decide ((oN G i).reason=0)) L (.slice na N1.length nc) q.2 W'/\Bk W' b8 80 [pT bw]/\W'.heap[D]? =some (.deferred (some []))/\New w W') (fun q=>N1.length-q.1) (0,.slice none 0 0) (sl rfl) ⟨anq _,g1,h51,hD1,n1'⟩ ?_;clear g1 h51 hD1 n1';rintro ⟨k,ov⟩ G2 W2 ⟨hk,g2,h52,hD2,n2⟩;dsimp only at hk g2 h52 hD2 n2;simp only [pq];have XH:=(Array.getElem?_eq_some_iff.1 hD2).1;obtain ⟨oa,oc,rfl,hol,amE⟩:=g2.od.form;(repeat' (first|refine qq4 ?_|refine aa2 (fun _=>?_) (fun _=>?_)))
  ·obtain ⟨x,hx⟩:=nT N1 (k:=k) (by omega);have hxb:=tH hx;rw [hb1] at hxb;refine aK (g2.nd.row.rd (nS nbC)) rfl rfl (by omega) hx fun b o cs hl hR hat=>?_;obtain rfl:cs=nbC x:=hR;refine aS hat rfl rfl ?_;clear hat;refine Wl.alloc fun w5' b5' n5' s5'=>?_;(repeat' (refine aa7 ?_));refine aH (new:=nbC x) b5' rfl rfl rfl rfl zl9 (XM x) fun w6' b6' c6' s6'=>?_;have n6':New W2 w6':=(Chg.trans n5'.any c6' i3).tN
   replace b6':Bk w6' W2.heap.size 130 (nbC x):=b6';clear b5' n5' c6';have g6:=g2.new n6';have h56:=h52.chg n6' id;have hz6:=n6'.size;refine qq2 ?_;refine ah (u:=.int .u8 x.bn.reason) rfl (b6'.cell (o:=3) rfl) ?_;have hnx:(ab8 (k+1)).filter (fun i=>decide ((oN G i).reason=0))=(ab8 k).filter (fun i=>decide ((oN G i).reason=0))++if x.bn.reason=0 then [k] else []:=by
    rw [List.range_succ,apy,aqh,List.filter_nil,hxb];by_cases h0:x.bn.reason=0
    ·rw [if_pos h0,if_pos (decide_eq_true h0)]
    ·rw [if_neg h0,if_neg (by rw [decide_eq_false h0];decide)]
   have hrl:((ab8 k).filter fun i=>decide ((oN G i).reason=0)).length<=k:=apR (apO _ _) (by rw [apP];exact aap _);(repeat' (first|refine qq2 ?_|refine bJ rfl rfl (fun _=>?_) (fun _=>?_)))
   ·rw [if_pos (by omega)] at hnx;have abv: ∀W',Chg (fun j=>(Value.slice oa ((ab8 k).filter fun i=>decide ((oN G i).reason=0)).length oc).ownBlock=some j) w6' W'->Bk W' b8 80 [pT bw]:=fun W' c=>h56.chg c fun e=>g6.od.oM h56 rfl e rfl;have adT: ∀W',Chg (fun j=>(Value.slice oa ((ab8 k).filter fun i=>decide ((oN G i).reason=0)).length oc).ownBlock=some j) w6' W'->Bk W' bw 128 [.slice na N1.length nc,.slice oa ((ab8 k).filter fun i=>decide ((oN G i).reason=0)).length oc,.map (some bm)]:=fun W' c=>g6.b.chg c fun e=>g6.od.oM g6.b rfl e rfl;refine aV rfl (by kernel_rfl) (fun W'=>Chg (fun j=>(Value.slice oa ((ab8 k).filter fun i=>decide ((oN G i).reason=0)).length oc).ownBlock=some j) w6' W') (Chg.drew _ _) ?_;intro W7 m7;refine aa0 (au (u:=pT bw) rfl (fun W' c=>(abv W' c).cell (o:=0) rfl) (af ?_));refine aa0 (au (u:=pT bw) rfl (fun W' c=>(abv W' c).cell (o:=0) rfl) (af ?_));refine rX ?_;refine aa0 (au (u:=.slice oa ((ab8 k).filter fun i=>decide ((oN G i).reason=0)).length oc) rfl (fun W' c=>(adT W' c).cell (o:=1) rfl) (af ?_));(repeat' (refine aa0 (aa3 (af ?_))));refine aC rfl (bC (R:=Wk.one viN) (Pe:=NoB) (y:=k) qw rfl rfl rfl rfl (by omega) (by omega) fun v8 W8 o8 n8 s8 e8=>?_);have m8:=New.trans m7 n8;refine ai ⟨rfl,m8.any,?_⟩;refine aC rfl (bY (R:=Wk.one viN) qw (g6.od.new (nO _) m8) (o8.rd qw.mo) (fun z cs hz=>hz) rfl rfl (by omega) (by simp only [maxLen,anM];omega) (by simp only [anM];omega) fun u' W9 o9 c9 lie _=>?_);have c69:Chg (fun j=>(Value.slice oa ((ab8 k).filter fun i=>decide ((oN G i).reason=0)).length oc).ownBlock=some j) w6' W9:=Chg.trans m8.any c9 i3;refine ai ⟨rfl,c69,?_⟩;refine rX ?_;rw [<-hnx] at o9;obtain ⟨ua,uc,rfl,_,_⟩:=o9.form;refine Wt.last rfl (aJ (u:=.slice ua _ uc) (adT W9 c69) rfl (show (1:Nat)<3 by omega) rfl rfl fun W10 abu BV=>?_);refine ai ?_;have adR:=m8.size;have gN:=g6.ZA (o9.mono (Pb':=fun b=>w.heap.size<=b/\b≠D/\b≠D+1/\b≠b8) (nV _) (fun b _ e=>by rcases e with e|e;exact e;exact ⟨by omega,by omega,by omega,by omega⟩) i3) c69 (lie.imp id fun h k hk=>by have:=h k hk;omega) abu BV;have aiP:=abv W9 c69;have hDo: ∀j,(Value.slice oa ((ab8 k).filter fun i=>decide ((oN G i).reason=0)).length oc).ownBlock=some j->w.heap.size<=j/\j≠D:=fun j e=>⟨(g2.od.lt e).1.1,(g2.od.lt e).1.2.1⟩;have abw:=g2.lo2.1;refine qq6 ?_;refine ax (k+1,_) (sl rfl) ⟨by dsimp only;omega,gN,aiP.chg BV fun e=>abw.2.2.2 e.symm,?_,?_⟩ (by dsimp only;omega)
    ·rw [BV.block _ (by have:=c69.size;omega) fun e=>abw.2.1 e.symm,c69.block _ (by omega) fun e=>(hDo _ e).2 rfl,n6'.block _ XH id];exact hD2
    ·exact (Chg.trans (M:=fun k=>w.heap.size<=k) (Chg.trans (M:=fun k=>w.heap.size<=k) (New.trans n2 n6').any c69 fun k _ e=>(hDo k e).1) BV fun k _ e=>by have:=abw.1;omega).tN
   ·rw [if_neg (by omega),aoS] at hnx;refine ax (k+1,_) (sl rfl) ⟨by dsimp only;omega,by rw [hnx];exact g6,h56,(n6'.block _ XH id).trans hD2,New.trans n2 n6'⟩ (by dsimp only;omega)
  ·obtain rfl:k=N1.length:=by omega
   have hrl:((ab8 N1.length).filter fun i=>decide ((oN G i).reason=0)).length<=N1.length:=apR (apO _ _) (by rw [apP];exact aap _);have hmem: ∀i∈(ab8 N1.length).filter (fun i=>decide ((oN G i).reason=0)),i<N1.length:=fun i hi=>List.mem_range.1 (List.mem_filter.1 hi).1;have hpt: ∀i,i<N1.length->(oN G i).path=oI G.tree i:=fun i hi=>by rw [zh (by omega)];rfl
   refine ah (u:=pT bw) rfl (h52.cell (o:=0) rfl) ?_;refine qq2 ?_;refine ah (u:=.slice oa ((ab8 N1.length).filter fun i=>decide ((oN G i).reason=0)).length oc) rfl (g2.b.cell (o:=1) rfl) ?_;refine dn (f1:=[]) (c1:=[pT b8]) rfl rfl ?_;refine aj (Df (g:=63) (cb:= #[pT b8]) (lv:=fun i=>(oN G i).level) (pt:=fun i=>(oN G i).path) g2.od (fun x hx y hy e=>Fb hok (by have:=hmem x hx;omega) (by have:=hmem y hy;omega) (by rw [<-hpt x (hmem x hx), <-hpt y (hmem y hy)];exact e)) (by omega) fun w' hw x hx y hy=>?_) rfl ?_
   ·refine (Vo (N:=N1) (a:=x) (c:=y) (b8:=b8) (bw:=bw) (na:=na) (nc:=nc) (mv:=.map (some bm)) hnl (g2.b.chg hw fun e=>g2.od.oM g2.b rfl e rfl) ((g2.nd.row.chg (nK nbC) hw fun k hk e=>g2.nd.row.sV g2.od rfl k hk e).rd (nS nbC)) (h52.chg hw fun e=>g2.od.oM h52 rfl e rfl) (hmem x hx) (hmem y hy)).mono ?_;rintro _ w'' ⟨_,rfl,rfl,h⟩;rw [hb1];exact ⟨rfl,h⟩
   rintro _ W3 ⟨os,c3⟩;have g3:=g2.ZA os c3 (.inl rfl) (g2.b.chg c3 fun e=>g2.od.oM g2.b rfl e rfl) (ay _ _);have h53:=h52.chg c3 fun e=>g2.od.oM h52 rfl e rfl;have hD3:=(c3.block _ XH fun e=>(g2.od.lt e).1.2.1 rfl).trans hD2;have n3:New w W3:=(Chg.trans (M:=fun k=>w.heap.size<=k) n2.any c3 fun k _ e=>(g2.od.lt e).1.1).tN
   refine qq2 ?_;refine ah (u:=pT bw) rfl (h53.cell (o:=0) rfl) ?_;refine qq3 ?_;refine Qdn.e ?_;refine gq (by simp) hD3 ?_;refine dG (qB rfl (pJ rfl) (pJ rfl)) ⟨_,rfl,?_,n3.put _ (by omega)⟩;rw [if_pos hE];refine ⟨bw,bm,N1,L,.slice na N1.length nc,.slice oa ((ab8 N1.length).filter fun i=>decide ((oN G i).reason=0)).length oc,rfl,?_,by omega,hb1,hst1,fun s=>?_⟩
   ·have:=(g3.chg (Chg.putObj W3 D (.deferred none)) fun k hk e=>hk.2.1 e).mono (Pb':=fun b=>w.heap.size<=b) fun b _ e=>e.1;unfold qh;rw [<-hN1];exact this
   ·cases hf:flF L s with
    |true=>obtain ⟨p,hp,e⟩:=List.any_eq_true.1 hf;have e:=(of_decide_eq_true e).1;exact (List.contains_iff_mem.2 (e▸(cn.mem p hp).2.2)).symm
    |false=>
     cases hc:G.fails.contains s with
     |false=>rfl
     |true=>obtain ⟨c,hcm⟩:=cn.all s (List.contains_iff_mem.1 hc);have h1:=(cn.mem _ hcm).1;rw [TY cn.nd hcm,decide_eq_true (by dsimp only at h1;omega)] at hf;cases hf
 ·exact fun _ h=>h.elim
 ·exact fun _ _ h=>h.elim
end
end Go.Proofs.YtfbnfhhmiiahnaaGreatDoor
namespace Go.Proofs.YtfbnfhhmiiahnaaGreatDoor
open Go Wk
theorem RP {N:Nat->Bn} {fl:Nm->Bool} {S S':St} {i:Nat} (h:rF N fl S i=some S'):S i=0/\S' i≠0/\ ∀k,S k≠0->S' k≠0:=by
 unfold rF at h;split at h
 ·rename_i hc
  cases h;refine ⟨hc.2.1,?_,fun k hk=>?_⟩
  ·dsimp only;rw [if_pos rfl];split<;>omega
  ·dsimp only;split
   ·split<;>omega
   ·exact hk
 ·cases h
theorem wV {N:Nat->Bn} {fl:Nm->Bool}: ∀(l:List Nat) (S:St),(∀k,S k≠0->(oU N fl l S).2 k≠0)/\ ∀j∈(oU N fl l S).1.tried,j∈l/\S j=0/\(oU N fl l S).2 j≠0
 | [],S=>⟨fun k h=>by rw [oU];exact h,fun j hj=>by rw [oU] at hj;cases hj⟩
 |i::r,S=>by
  rw [uh];by_cases h0:S i≠0
  ·rw [if_pos h0];obtain ⟨h1,h2⟩:=wV (N:=N) (fl:=fl) r S;exact ⟨h1,fun j hj=>⟨aoC _ (h2 j hj).1,(h2 j hj).2⟩⟩
  ·rw [if_neg h0];cases hl:rF N fl S i with
   |none=>obtain ⟨h1,h2⟩:=wV (N:=N) (fl:=fl) r S;exact ⟨h1,fun j hj=>⟨aoC _ (h2 j hj).1,(h2 j hj).2⟩⟩
   |some S'=>
    obtain ⟨h1,h2⟩:=wV (N:=N) (fl:=fl) r S';obtain ⟨k0,k1,k2⟩:=RP hl;refine ⟨fun k hk=>h1 k (k2 k hk),fun j hj=>?_⟩;rcases List.mem_cons.1 hj with e|hj
    ·subst e;exact ⟨ap2,k0,h1 _ k1⟩
    ·obtain ⟨a1,a2,a3⟩:=h2 j hj;refine ⟨aoC _ a1,?_,a3⟩;exact apX fun e=>k2 j e a2
theorem yD {N:Nat->Bn} {fl:Nm->Bool}: ∀(l:List Nat) (S:St),(oU N fl l S).1.tried.length+(oU N fl l S).1.waits.length<=l.length
 | [],S=>by rw [oU];simp
 |i::r,S=>by
  rw [uh];by_cases h0:S i≠0
  ·rw [if_pos h0];have:=yD (N:=N) (fl:=fl) r S;rw [anJ];omega
  ·rw [if_neg h0];cases hl:rF N fl S i with
   |none=>have:=yD (N:=N) (fl:=fl) r S;simp only [anJ];omega
   |some S'=>have:=yD (N:=N) (fl:=fl) r S';simp only [anJ];omega
theorem Aa {N:Nat->Bn} {fl:Nm->Bool}: ∀(l:List Nat) (S:St),(∀k,S k<=2)-> ∀k,(oU N fl l S).2 k<=2
 | [],S,h,k=>by rw [oU];exact h k
 |i::r,S,h,k=>by
  rw [uh];by_cases h0:S i≠0
  ·rw [if_pos h0];exact Aa r S h k
  ·rw [if_neg h0];cases hl:rF N fl S i with
   |none=>exact Aa r S h k
   |some S'=>have:=O9 (N:=N) (fl:=fl) (i:=i) h;rw [hl] at this;exact Aa r S' this k
def left0 (l:List Nat) (S:St):Nat:=(l.filter fun i=>S i == 0).length
theorem filter_lt {α:Type} {p q:α->Bool}: ∀ {l:List α},(∀x∈l,q x=true->p x=true)->(∃x∈l,p x=true/\q x=false)->(l.filter q).length<(l.filter p).length
 | [],_,h=>by obtain ⟨x,hx,_⟩:=h;cases hx
 |a::r,hs,h=>by
  have hr:(r.filter q).length<=(r.filter p).length:=by
   have:r.filter q=(r.filter p).filter q:=by
    rw [aqx];apply aqy;intro x hx;cases hq:q x with
    |false=>rfl
    |true=>rw [hs x (aoC _ hx) hq];rfl
   rw [this];exact apO _ _
  obtain ⟨x,hx,hp,hq⟩:=h;rcases List.mem_cons.1 hx with e|hx
  ·subst e;rw [aqh,aqh,hp,hq];simp only [anP,if_false,if_true,anJ];omega
  ·have:=filter_lt (p:=p) (q:=q) (fun y hy=>hs y (aoC _ hy)) ⟨x,hx,hp,hq⟩;rw [aqh,aqh];cases hqa:q a with
   |false=>
    simp only [anP,if_false];split
    ·simp only [anJ];omega
    ·exact this
   |true=>rw [hs a ap2 hqa];simp only [if_true,anJ];omega
theorem RQ {N:Nat->Bn} {fl:Nm->Bool} {l:List Nat} {S:St} (h:(oU N fl l S).1.tried≠ []):left0 l (oU N fl l S).2<left0 l S:=by
 obtain ⟨h1,h2⟩:=wV (N:=N) (fl:=fl) l S;obtain ⟨j,hj⟩:=aqz _ h;obtain ⟨a1,a2,a3⟩:=h2 j hj;refine filter_lt (fun x _ hx=>?_) ⟨j,a1,by simpa using a2,by simpa using a3⟩;have hx:=eq_of_beq hx;exact beq_iff_eq.2 (apX fun e=>h1 x e hx)
end Go.Proofs.YtfbnfhhmiiahnaaGreatDoor
namespace Go.Proofs.YtfbnfhhmiiahnaaGreatDoor
open Go Wk
open Go.RowKit (Below)
attribute [local irreducible] Go.Calls
theorem Wk.results3 {P:Program} {n:Nat} {F:Fr} {w:World} {fn:Func} {a b c:ResultVar} {u v x:Value} (h:fn.results= #[a,b,c]) (h1:(Il (arr n F) a).run P w=.ok u w) (h2:(Il (arr n F) b).run P w=.ok v w) (h3:(Il (arr n F) c).run P w=.ok x w):(results fn (arr n F)).run P w=.ok (.tuple #[u,v,x]) w:=by
 rw [Dj,h];simp [h1,h2,h3]
section
variable {Pb:Nat->Prop} {w:World} {g:Giv} {tv cv fv gv:Value}
theorem Vx (h:RdG Pb w g tv cv fv gv) (hok:og g.tree=true)
 (hnew: ∀w',New w w'->Calls prog 40 #[.agg #[tv,cv,fv,gv]] w' (Ret fun r w''=>Ua g w'.heap.size r w''/\New w' w'')):
 Calls prog 22 #[.agg #[tv,cv,fv,gv]] w (Ret fun r w'=>Ph g w.heap.size r w'/\New w w'):=by
 obtain ⟨ta,tc,rfl,_,_⟩:=h.t.form;obtain ⟨ca,cc,rfl,_,_⟩:=h.c.form;obtain ⟨fa,fc,rfl,_,_⟩:=h.f.form;obtain ⟨ga,gc,rfl,_,_⟩:=h.g.form;refine nM func22 rfl ntmps22 rfl ?_;refine qq4 ?_;refine Wl.box rfl fun w1 b1 n1 s1=>?_;replace b1:Bk w1 w.heap.size 28 [.slice ta g.tree.length tc,.slice ca g.cards.length cc,.slice fa g.fails.length fc,.slice ga g.gone.length gc]:=b1;refine Wl.alloc fun w2 b2 n2 s2=>?_;replace b2:Bk w2 w1.heap.size 34 [.slice none 0 0,.slice none 0 0,.slice none 0 0,.slice none 0 0]:=b2;refine qq4 ?_;refine bK (b1.chg n2 id) rfl rfl ?_;refine aj (hnew w2 (New.trans n1 n2)) rfl ?_;rintro _ w3 ⟨⟨bw,bm,N,fl,nv,ov,rfl,gW,hN,hbn,hst,hfl⟩,n3⟩;(repeat' (first|refine qq2 ?_|(refine aa4 (fun _=>?_) (fun _=>?_)<;>(first|(exfalso;omega)|skip))));refine Wl.alloc fun w4 b7 n4 s4=>?_;replace b7:Bk w4 w3.heap.size 34 [.slice none 0 0,.slice none 0 0,.slice none 0 0,.slice none 0 0]:=b7;have hz1:=n1.size;have hz2:=n2.size;have hz3:=n3.size;have n04:=New.trans (New.trans n1 n2) (New.trans n3 n4);have b1':=b1.chg (New.trans n2 (New.trans n3 n4)) id;have b2':=b2.chg (New.trans n3 n4) id;have hb1:=b1.lt;have hb2:=b2.lt;have hb7:=b7.lt;have gW4:=(gW.mono (Pb':=fun b=>w2.heap.size<=b/\b<w3.heap.size) fun b hb e=>⟨e,hb⟩).new n4;have hol:(qh (oN g) g.tree.length).length<=g.tree.length:=by unfold qh;rw [apu];exact apR (apO _ _) (by rw [apP];exact aap _)
 have hin: ∀i∈qh (oN g) g.tree.length,i<g.tree.length/\(oN g i).reason=0:=fun i hi=>by have:=List.mem_filter.1 (List.mem_mergeSort.1 hi);exact ⟨List.mem_range.1 this.1,of_decide_eq_true this.2⟩
 have htl:g.tree.length<=512:=by rw [<-hN];exact gW4.nl
 have adU:stF N=S0:=by funext i;exact hst i
 obtain ⟨DG,hDG⟩: ∃x,x=doneGo (oN g) (flF fl) (qh (oN g) g.tree.length) (g.tree.length+1) S0:=⟨_,rfl⟩;(repeat' (first|refine ai ?_|refine aP ?_));refine aN ?_;refine Wc.block ?_
 refine aA (σ:=Nat×List Nb×List Rnd×Value) (fun q=>[(1,pT w.heap.size),(2,pT w1.heap.size),(5,pT bw),(7,pT w3.heap.size)])
  (fun q w'=>WkM (fun b=>w2.heap.size<=b/\b<w3.heap.size) bw bm q.2.1 (qh (oN g) g.tree.length) fl nv ov w'/\q.2.1.length=g.tree.length/\bnF q.2.1=oN g/\(∀i,stF q.2.1 i<=2)/\left0 (qh (oN g) g.tree.length) (stF q.2.1)<q.1/\q.2.2.1.length+q.1<=g.tree.length+1/\DG=(q.2.2.1++(doneGo (oN g) (flF fl) (qh (oN g) g.tree.length) q.1 (stF q.2.1)).1,(doneGo (oN g) (flF fl) (qh (oN g) g.tree.length) q.1 (stF q.2.1)).2)/\Bk w' w3.heap.size 34 [.slice none 0 0,q.2.2.2,.slice none 0 0,.slice none 0 0]/\nP rRd 122 2 (fun b=>w4.heap.size<=b) (fun b=>w4.heap.size<=b) w' q.2.2.2 q.2.2.1/\Bk w' w.heap.size 28 [.slice ta g.tree.length tc,.slice ca g.cards.length cc,.slice fa g.fails.length fc,.slice ga g.gone.length gc]/\Bk w' w1.heap.size 34 [.slice none 0 0,.slice none 0 0,.slice none 0 0,.slice none 0 0]/\w4.heap.size<=w'.heap.size/\New w w') (fun q=>q.1)
  (g.tree.length+1,N,[],.slice none 0 0) (sl rfl) ⟨gW4,hN,hbn,fun i=>by rw [hst i];omega,by have:left0 (qh (oN g) g.tree.length) (stF N)<=(qh (oN g) g.tree.length).length:=apO _ _;show left0 (qh (oN g) g.tree.length) (stF N)<g.tree.length+1;omega,by simp,by rw [hDG,adU];rfl,b7,aI,b1',b2',aap _,n04⟩ ?_
 clear gW4 gW b7 b1' b2' hst adU n04 hN hbn;rintro ⟨f,N1,acc,bv⟩ G w5 ⟨g5,hN,hbn,hst,hlf,hal,hgo,b7,ob,b1',b2',hz5,n05⟩;dsimp only at g5 hN hbn hst hlf hal hgo b7 ob b1' b2' hz5 n05;simp only [pq];obtain ⟨f,rfl⟩: ∃k,f=k+1:=⟨f-1,by omega⟩;rw [Bg] at hgo;obtain ⟨ba,bc,rfl,_,_⟩:=ob.form;refine Hf ?_;refine aj (Rt g5 (fun i hi=>by rw [hN,hbn];exact hin i hi) hst (by omega)) rfl ?_;rintro _ w6 ⟨N2,tr,wr,rfl,g6,hl6,hb6,hs6,ot,ow,c6⟩;rw [hbn] at hs6 ot ow;have n56:New w w6:=Chg.trans n05 c6 fun k hk e=>by have h1:=(g5.nd.row.lt e).1.1;omega
 have hnv: ∀k,nv.ownBlock=some k->w2.heap.size<=k/\k<w3.heap.size:=fun k e=>(g5.nd.row.lt e).1;have b76:=b7.chg c6 fun e=>by have:=hnv _ e;omega
 have b16:=b1'.chg c6 fun e=>by have:=hnv _ e;omega
 have b26:=b2'.chg c6 fun e=>by have:=hnv _ e;omega
 have ob6:=ob.wz Dw c6 (fun k hk e=>by have h9:w4.heap.size<=k:=(ob.lt hk).1;have:=hnv _ e;omega) (fun k hk _ e=>by have h9:w4.heap.size<=k:=hk;have:=hnv _ e;omega);have abx: ∀k,(Value.slice ba acc.length bc).ownBlock=some k->k<w5.heap.size:=fun k hk=>(ob.lt hk).2;have hz6:=c6.size;clear g5 b7 b1' b2' ob n05 c6;have hrl:=yD (N:=oN g) (fl:=flF fl) (qh (oN g) g.tree.length) (stF N1);have hle:=Aa (N:=oN g) (fl:=flF fl) (qh (oN g) g.tree.length) (stF N1) hst;have hrs:=RQ (N:=oN g) (fl:=flF fl) (l:=qh (oN g) g.tree.length) (S:=stF N1);rw [<-hs6] at hgo hrs hle;generalize hR:(oU (oN g) (flF fl) (qh (oN g) g.tree.length) (stF N1)).1=R at*;obtain ⟨ra,rc,rfl,_,_⟩:=ot.form;obtain ⟨ua,uc,rfl,_,_⟩:=ow.form;refine Wl.alloc fun w7 b8 n7 s7=>?_;refine aH (new:=[.slice ra R.tried.length rc,.slice ua R.waits.length uc]) b8 rfl rfl rfl rfl zl2 (by intro c hc;simp at hc;rcases hc with rfl|rfl<;>rfl) fun w8 b8' c8 s8=>?_;replace b8':Bk w8 w6.heap.size 122 [.slice ra R.tried.length rc,.slice ua R.waits.length uc]:=b8';have n68:New w6 w8:=(Chg.trans n7.any c8 i3).tN
 clear b8 n7 c8;(repeat' (first|refine ai ?_|refine aP ?_));have hz8:=n68.size;have g8:=g6.new n68;have b78:=b76.chg n68 id;have b18:=b16.chg n68 id;have b28:=b26.chg n68 id;have ob8:=ob6.wz Dw n68 i3 (fun _ _ _ e=>e);have ot8:=ot.new (nO _) n68;have ow8:=ow.new (nK wtC) n68;have n08:=New.trans n56 n68;clear g6 b76 b16 b26 ob6 ot ow n56 n68;refine eP (fun F W=> ∃bv',agrees F [(1,pT w.heap.size),(2,pT w1.heap.size),(5,pT bw),(7,pT w3.heap.size),(8,pT w6.heap.size)]/\WkM (fun b=>w2.heap.size<=b/\b<w3.heap.size) bw bm N2 (qh (oN g) g.tree.length) fl nv ov W/\Bk W w6.heap.size 122 [.slice ra R.tried.length rc,.slice ua R.waits.length uc]/\Bk W w3.heap.size 34 [.slice none 0 0,bv',.slice none 0 0,.slice none 0 0]/\nP rRd 122 2 (fun b=>w4.heap.size<=b) (fun b=>w4.heap.size<=b) W bv' (acc++if R.tried=[]/\R.waits=[] then [] else [R])/\Bk W w.heap.size 28 [.slice ta g.tree.length tc,.slice ca g.cards.length cc,.slice fa g.fails.length fc,.slice ga g.gone.length gc]/\Bk W w1.heap.size 34 [.slice none 0 0,.slice none 0 0,.slice none 0 0,.slice none 0 0]/\w4.heap.size<=W.heap.size/\New w W) ?_ ?_
 ·(repeat' (first|refine aN ?_|refine aQ ?_|refine aa5 ?_));refine ah (u:=.slice ra R.tried.length rc) rfl (b8'.cell (o:=0) rfl) ?_;(repeat' (first|refine bU rfl ?_|refine aa5 ?_));refine ah (u:=.slice ua R.waits.length uc) rfl (b8'.cell (o:=1) rfl) ?_;(repeat' (first|refine ai ?_|refine bU rfl ?_|refine aP ?_|refine aQ ?_|refine Wc.skip ?_|refine bF rfl ?_|refine dm rfl ?_|refine aa5 ?_|refine Wl.add rfl rfl (by omega) (by omega) ?_|refine aT rfl rfl (fun _=>?_) (fun _=>?_)))
  ·have hne: ¬(R.tried=[]/\R.waits=[]):=fun e=>by have e1:=congrArg apq e.1;have e2:=congrArg apq e.2;simp only [an8] at e1 e2;omega
   refine ah (u:=.slice ba acc.length bc) rfl (b78.cell (o:=1) rfl) ?_;refine bK b8' rfl rfl ?_;refine cu (R:=rRd) (y:=R) Dw ob8 rfl rfl rfl rfl ⟨_,_,rfl,ot8.mono (nV _) (fun b hb e=>?_) i3,ow8.mono (nS wtC) (fun b hb e=>?_) i3⟩ (by omega) (by omega) (by simp only [maxLen];omega) (by omega) rfl rfl fun v9 w9 p o9 c9 lie=>?_
   ·have h9:w5.heap.size<=b:=e;exact ⟨by omega,fun h=>by have:=abx b h;omega⟩
   ·have h9:w5.heap.size<=b:=e;exact ⟨by omega,fun h=>by have:=abx b h;omega⟩
   have hz9:=c9.size;have hab: ∀k,(Value.slice ba acc.length bc).ownBlock=some k->w4.heap.size<=k:=fun k hk=>(ob8.lt hk).1;have b79:=b78.chg c9 fun e=>by have:=hab _ e;omega
   (repeat' (refine aa5 ?_));refine aJ (u:=v9) b79 rfl (show (1:Nat)<4 by omega) rfl (by obtain ⟨_,_,rfl,_⟩:=o9.form;rfl) fun w10 b10 c10=>?_;have Zd:=c10.size;refine qq9 ?_;refine bT ⟨v9,⟨rfl,rfl,rfl,rfl,rfl,trivial⟩,(g8.chg c9 fun k hk e=>by have:=hab k e;have:=hk.2;omega).chg c10 (fun k hk e=>by have:=hk.2;omega),(b8'.chg c9 fun e=>by have:=abx _ e;omega).chg c10 (fun e=>by omega),b10,?_,(b18.chg c9 fun e=>by have:=hab _ e;omega).chg c10 (fun e=>by omega),(b28.chg c9 fun e=>by have:=hab _ e;omega).chg c10 (fun e=>by omega),by omega,(Chg.trans (Chg.trans (M:=fun k=>w4.heap.size<=k∨k=w3.heap.size) n08.any c9 fun k _ e=>.inl (hab k e)) c10 fun k _ e=>.inr e).tN⟩;rw [if_neg hne];exact (o9.mono Mc (fun b _ e=>by rcases e with e|e;exact e;omega) i3).wz Dw c10 (fun k hk e=>by rcases (o9.lt hk).1 with h|h<;>omega) (fun k hk _ e=>by have h9:w4.heap.size<=k:=hk;omega)
  ·have h1:R.tried=[]:=List.length_eq_zero_iff.1 (by omega);have h2:R.waits=[]:=List.length_eq_zero_iff.1 (by omega);exact bT ⟨_,⟨rfl,rfl,rfl,rfl,rfl,trivial⟩,g8,b8',b78,by rw [if_pos ⟨h1,h2⟩,aoS];exact ob8,b18,b28,by omega,n08⟩
 ·rintro F W ⟨bv',hF,gW,b8,b7,ob',b1',b2',hzW,nW⟩;rw [<-oV hF];simp only [pq];clear hF;refine qq2 ?_;refine ah (u:=.slice ra R.tried.length rc) rfl (b8.cell (o:=0) rfl) ?_;(repeat' (first|refine aa1 ?_|refine ai ?_|refine bU rfl ?_|refine aP ?_|refine aN ?_|refine aQ ?_|refine Wc.skip ?_|refine dV ?_|refine dL ?_|refine dJ ?_|refine je rfl ?_|refine dQ ?_|refine bF rfl ?_|refine dm rfl ?_|refine bJ rfl rfl (fun _=>?_) (fun _=>?_)))
  ·have hR0:R.tried=[]:=List.length_eq_zero_iff.1 (by omega);rw [if_pos hR0] at hgo;refine aj (Vm gW) rfl ?_;rintro rv w11 ⟨orw,n11⟩;have QT:=n11.size;have orv: ∃a c,rv=.slice a (rowsOf (bnF N2) (stF N2) N2.length).length c:=by obtain ⟨a,c,e,_⟩:=orw.form;exact ⟨a,c,e⟩
   obtain ⟨rwa,rwc,rfl⟩:=orv;(repeat' (refine aa5 ?_));refine aJ (u:=.slice rwa (rowsOf (bnF N2) (stF N2) N2.length).length rwc) (b7.chg n11 id) rfl (show (0:Nat)<4 by omega) rfl rfl fun w12 b12 c12=>?_;have Ze:=c12.size;have g12:=(gW.new n11).chg c12 fun k hk e=>by have:=hk.2;omega
   have hN2:N2.length=g.tree.length:=by omega
   obtain ⟨na,nc,rfl,_,_⟩:=g12.nd.row.form;refine qq2 ?_;refine ah (u:=.slice na N2.length nc) rfl (g12.b.cell (o:=0) rfl) ?_;(repeat' (refine bU rfl ?_));refine eY (f:=vbo) (y0:=false) (Pe:=NoB) rfl rfl rfl (by omega) (by omega) (by omega) fun dv w13 o13 n13=>?_;rw [ant] at o13;have ZC:=n13.size;have g13:=g12.new n13;have adV:nP (Wk.one vbo) 4 1 (fun b=>w12.heap.size<=b) NoB w13 dv (aok N2.length false):=o13;obtain ⟨da,dc,hdv,_,_⟩:=adV.form;rw [ap1] at hdv;subst hdv;refine qq2 ?_;refine ah (u:=.slice na N2.length nc) rfl (g13.b.cell (o:=0) rfl) ?_;refine qq4 ?_;refine aA (σ:=Nat×List Bool) (fun q=>[(1,pT w.heap.size),(2,pT w1.heap.size),(5,pT bw),(7,pT w3.heap.size),(9,.slice da N2.length dc),(53,.slice na N2.length nc),(54,vi N2.length),(55,vi q.1)]) (fun q W'=>q.1<=N2.length/\q.2.length=N2.length/\(∀k,k<q.1->q.2[k]? =some (stF N2 k == 1))/\nP (Wk.one vbo) 4 1 (fun b=>w12.heap.size<=b) NoB W' (.slice da N2.length dc) q.2/\Chg (fun k=>(Value.slice da N2.length dc).ownBlock=some k) w13 W') (fun q=>N2.length-q.1) (0,aok N2.length false) (sl rfl) ⟨anq _,by simp,fun k hk=>by omega,adV,ay _ _⟩ ?_;rintro ⟨k,B⟩ G2 w14 ⟨hk,hBl,hB,oB,c14⟩;dsimp only at hk hBl hB oB c14;simp only [pq];have hdb: ∀j,(Value.slice da N2.length dc).ownBlock=some j->w12.heap.size<=j:=fun j e=>(oB.lt e).1;have g14:=g13.chg c14 fun j hj e=>by have:=hdb j e;have:=hj.2;omega
   (repeat' (first|refine qq4 ?_|refine aa2 (fun _=>?_) (fun _=>?_)))
   ·obtain ⟨x,hx⟩:=nT N2 (k:=k) (by omega);have hne:B≠ []:=by intro e;rw [e] at hBl;simp at hBl;omega
    obtain ⟨dg,dc',hde,_,amF,_⟩:=oB.blk hne;rw [hBl] at hde;cases hde;refine aK (g14.nd.row.rd (nS nbC)) rfl rfl (by omega) hx fun b o cs hl hR hat=>?_;obtain rfl:cs=nbC x:=hR;refine aS hat rfl rfl ?_;clear hat;refine Wl.alloc fun w15 b5 n15 s15=>?_;(repeat' (refine aa7 ?_));refine aH (new:=nbC x) b5 rfl rfl rfl rfl zl9 (XM x) fun w16 b5' c16 s16=>?_;replace b5':Bk w16 w14.heap.size 130 (nbC x):=b5';have adW:New w14 w16:=(Chg.trans n15.any c16 i3).tN
    clear b5 n15 c16;refine qq6 ?_;refine ah (u:=.bool (x.st == 1)) rfl (b5'.cell (o:=7) rfl) ?_;refine dB rfl rfl (by omega) (by omega) ?_;refine dS (f:=vbo) (q:=(x.st == 1)) (j:=k) (cap:=dc) (oB.new (nO _) adW) (by rw [hBl]) (by omega) (by show Value.pointer (some ⟨dg,0+(k:Int).toNat*1,none⟩)=_;simp) rfl rfl rfl fun w17 o17 c17=>?_;refine qq6 ?_;refine ax (k+1,B.set k (x.st == 1)) (sl rfl) ⟨by dsimp only;omega,by dsimp only;rw [apn];exact hBl,fun j hj=>?_,o17,Chg.trans (Chg.trans c14 adW.any i3) c17 i3⟩ (by dsimp only;omega);dsimp only at hj ⊢;rw [anO];by_cases e:k=j
    ·subst e;rw [if_pos rfl,if_pos (by omega),yw hx]
    ·rw [if_neg e];exact hB j (by omega)
   ·obtain rfl:k=N2.length:=by omega
    have amG:w.heap.size<=w2.heap.size:=by omega
    have adX:New w w14:=(Chg.trans (Chg.trans (Chg.trans (M:=fun k=>k=w3.heap.size∨w12.heap.size<=k) (New.trans nW n11).any c12 fun k _ e=>.inl e) n13.any i3) c14 fun k _ e=>.inr (hdb k e)).tN
    have hWn:w3.heap.size<W.heap.size:=by omega
    have b1e:=((((b1'.chg n11 id).chg c12 fun e=>by omega).chg n13 id).chg c14 fun e=>by have:=hdb _ e;omega);refine ah (u:=.slice ta g.tree.length tc) rfl (b1e.cell (o:=0) rfl) ?_;(repeat' (refine aa1 ?_));have hBt: ∀k,thM B k=(stF N2 k == 1):=fun k=>by
     unfold thM;by_cases hk:k<N2.length
     ·rw [hB k hk];rfl
     ·rw [anl (by omega)];unfold stF;rw [an7,anl (by omega)];rfl
    refine aj (Vj (h.t.keep oh adX.keep) (oB.rd Fj.mo) hok (by omega)) rfl ?_;rintro _ w18 ⟨⟨q1,q2,rfl,hq1,hq2⟩,n18⟩;obtain ⟨qa,qc,rfl,_,_⟩:=hq1.form;obtain ⟨ra2,rc2,rfl,_,_⟩:=hq2.form;have adh:=c14.size;have b7e:=((b12.chg n13 id).chg c14 fun e=>by have:=hdb _ e;omega).chg n18 id;refine qq6 ?_;refine aJ (u:=.slice qa _ qc) b7e rfl (show (2:Nat)<4 by omega) rfl rfl fun w19 b19 c19=>?_;(repeat' (refine aa5 ?_));refine aJ (u:=.slice ra2 _ rc2) b19 rfl (show (3:Nat)<4 by omega) rfl rfl fun w20 b20 c20=>?_;refine qq2 ?_;refine bK b20 rfl rfl ?_;have b2e:=((((((b2'.chg n11 id).chg c12 fun e=>by omega).chg n13 id).chg c14 fun e=>by have:=hdb _ e;omega).chg n18 id).chg c19 fun e=>by omega).chg c20 fun e=>by omega
    (repeat' (refine aa1 ?_));refine aH (new:=[.slice rwa (rowsOf (bnF N2) (stF N2) N2.length).length rwc,bv',.slice qa _ qc,.slice ra2 _ rc2]) b2e rfl rfl rfl rfl zl4 (by obtain ⟨_,_,rfl,_,_⟩:=ob'.form;intro c hc;simp at hc;rcases hc with rfl|rfl|rfl|rfl<;>rfl) fun w21 b21 c21 s21=>?_;have alL:=n13.size;have amH:=n18.size;have c18:Chg (fun k=>k=w3.heap.size∨k=w1.heap.size) w18 w21:=Chg.trans (Chg.trans (c19.mono fun k _ e=>.inl e) c20 fun k _ e=>.inl e) c21 fun k _ e=>.inr e;have adY:Chg (fun k=>k=w3.heap.size∨k=w1.heap.size∨w12.heap.size<=k) w11 w14:=Chg.trans (Chg.trans (c12.mono fun k _ e=>.inl e) n13.any fun k _ e=>e) c14 fun k _ e=>.inr (.inr (hdb k e));have c11:Chg (fun k=>k=w3.heap.size∨k=w1.heap.size∨w12.heap.size<=k) w11 w21:=Chg.trans (Chg.trans adY n18.any fun k _ e=>e) c18 fun k _ e=>e.elim .inl fun e=>.inr (.inl e);have cW:Chg (fun k=>k=w3.heap.size∨k=w1.heap.size) W w21:=Chg.trans n11.any c11 fun k hk e=>by rcases e with e|e|e;exact .inl e;exact .inr e;omega
    have aiQ:flF fl=g.fails.contains:=funext hfl;have hDM:vH (oN g) g.fails.contains g.tree.length=DG:=by rw [<-aiQ,hDG];rfl
    have adZ:bnF N2=oN g:=hb6.trans hbn;have hth:(fun k=>(vH (oN g) g.fails.contains g.tree.length).2 k == 1)=thM B:=funext fun k=>by rw [hBt k,hDM,hgo]
    have hrw:rowsOf (oN g) (vH (oN g) g.fails.contains g.tree.length).2 g.tree.length=rowsOf (bnF N2) (stF N2) N2.length:=by rw [hDM,hgo,adZ,hN2]
    have ex: ∀k,(fun b=>w14.heap.size<=b) k-> ¬(k=w3.heap.size∨k=w1.heap.size):=fun k hk e=>by have hk:w14.heap.size<=k:=hk;omega
    refine qq3 ?_;refine fD (results3 rfl (qO rfl rfl b21 rfl) (pJ rfl) (pJ rfl)) ⟨_,rfl,⟨_,_,_,_,bw,bm,N2,fl,.slice na N2.length nc,ov,rfl,⟨?_,?_,?_,?_⟩,?_,hN2,adZ,fun i _=>by rw [hDM,hgo],hfl⟩,?_⟩
    ·rw [hrw];exact (orw.chg (nK rwC) c11 fun k hk e=>by have h9:=orw.lt hk;have:W.heap.size<=k:=h9.1;omega).mono (nS rwC) (fun b _ e=>by have e:W.heap.size<=b:=e;show w.heap.size<=b;omega) i3
    ·rw [hDM,hgo];exact (ob'.wz Dw cW (fun k hk e=>by have h9:w4.heap.size<=k:=(ob'.lt hk).1;omega) (fun k hk _ e=>by have h9:w4.heap.size<=k:=hk;omega)).mono Mc (fun b _ e=>by have e:w4.heap.size<=b:=e;show w.heap.size<=b;omega) (fun b _ e=>by have e:w4.heap.size<=b:=e;show w.heap.size<=b;omega)
    ·rw [hth];exact (hq1.keep sG (c18.keep fun b _ hb=>ex b hb)).mono qI fun b _ e=>by have e:w14.heap.size<=b:=e;show w.heap.size<=b;omega
    ·rw [hth];exact (hq2.keep sG (c18.keep fun b _ hb=>ex b hb)).mono qI fun b _ e=>by have e:w14.heap.size<=b:=e;show w.heap.size<=b;omega
    ·exact ((g14.new n18).chg c18 fun k hk e=>by have:=hk.1;have:=hk.2;omega).mono fun b _ e=>by have:=e.1;show w.heap.size<=b;omega
    ·exact (Chg.trans (M:=fun k=>w.heap.size<=k) (New.trans adX n18).any c18 fun k _ e=>by omega).tN
  ·have hR1:R.tried≠ []:=fun e=>by have:=congrArg apq e;simp only [an8] at this;omega
   rw [if_neg hR1] at hgo;have amI:=hrs hR1;refine ax (f,N2,acc++(if R.tried=[]/\R.waits=[] then [] else [R]),_) (sl rfl) ⟨gW,by dsimp only;omega,hb6.trans hbn,hle,by dsimp only;omega,?_,?_,b7,ob',b1',b2',hzW,nW⟩ (by dsimp only;omega)
   ·dsimp only;rw [am7];split
    ·rw [an8];omega
    ·rw [anM];omega
   ·dsimp only;rw [hgo,adK]
end
structure X3 (g:Giv):Prop where
 f: ∀x∈g.fails,x.length<=100000000
 g: ∀x∈g.gone,x.length<=100000000
noncomputable abbrev uQ (g:Giv):List Rnd×St:=vH (oN g) g.fails.contains g.tree.length
noncomputable abbrev Gq (g:Giv):List Rws:=rowsOf (oN g) (uQ g).2 g.tree.length
noncomputable abbrev rM (g:Giv):List Ed×List Ed:=IY g.tree fun k=>(uQ g).2 k == 1
abbrev JI:List Value:=[.slice none 0 0,.slice none 0 0,.slice none 0 0,.slice none 0 0]
theorem X4: ∀c∈JI,c.oneCell'=true:=by
 intro c hc;simp at hc;rw [hc];rfl
theorem JJ {w:World}:(Instr.build 34 #[]).run prog w=.ok (.agg JI.toArray) w:=by
 kernel_rfl
section
variable {Pb:Nat->Prop} {w:World} {g:Giv} {tv cv fv gv:Value}
theorem X5 (h:RdG Pb w g tv cv fv gv) (sh:X3 g) (he:qm g≠0):
 Calls prog 22 #[.agg #[tv,cv,fv,gv]] w (Ret fun r w'=>r=.tuple #[.agg JI.toArray,.pointer none,vi (qm g)]/\New w w'):=by
 obtain ⟨ta,tc,rfl,_,_⟩:=h.t.form;obtain ⟨ca,cc,rfl,_,_⟩:=h.c.form;obtain ⟨fa,fc,rfl,_,_⟩:=h.f.form;obtain ⟨ga,gc,rfl,_,_⟩:=h.g.form;refine nM func22 rfl ntmps22 rfl ?_;refine qq4 ?_;refine Wl.box rfl fun w1 b1 n1 s1=>?_;replace b1:Bk w1 w.heap.size 28 [.slice ta g.tree.length tc,.slice ca g.cards.length cc,.slice fa g.fails.length fc,.slice ga g.gone.length gc]:=b1;refine Wl.alloc fun w2 b2 n2 s2=>?_;replace b2:Bk w2 w1.heap.size 34 JI:=b2;have n02:=New.trans n1 n2;refine qq4 ?_;refine bK (b1.chg n2 id) rfl rfl ?_;refine aj (Pq (h.keep n02.keep qP) sh.f sh.g) rfl ?_;rintro _ w3 ⟨hr,n3⟩;rw [if_neg he] at hr;subst hr;have hz1:=n1.size;(repeat' (first|refine qq5 ?_|(refine aa4 (fun _=>?_) (fun _=>?_)<;>(first|(exfalso;omega)|skip))));refine dU (ps:=[]) (parts:=[]) rfl JJ ?_;(repeat' (refine aa1 ?_));refine aH (new:=JI) (b2.chg n3 id) rfl rfl rfl rfl zl4 X4 fun w4 b4 c4 s4=>?_;refine qq7 ?_;exact fD (results3 rfl (qO rfl rfl b4 rfl) (pJ rfl) (pJ rfl)) ⟨_,rfl,rfl,(Chg.trans (M:=fun k=>k=w1.heap.size) (New.trans n02 n3).any c4 fun k _ e=>e).tN⟩
theorem Vy (h:RdG Pb w g tv cv fv gv) (sh:X3 g):
 Calls prog 22 #[.agg #[tv,cv,fv,gv]] w (Ret fun r w'=>(if qm g=0 then Ph g w.heap.size r w' else r=.tuple #[.agg JI.toArray,.pointer none,vi (qm g)])/\New w w'):=by
 by_cases he:qm g=0
 ·refine (Vx h (yx.1 he).1 fun w' n=>?_).mono ?_
  ·refine (Pq (h.keep n.keep qP) sh.f sh.g).mono ?_;rintro _ w'' ⟨r,rfl,h1,h2⟩;rw [if_pos he] at h1;exact ⟨r,rfl,h1,h2⟩
  ·rintro _ w'' ⟨r,rfl,h1,h2⟩;exact ⟨r,rfl,by rw [if_pos he];exact h1,h2⟩
 ·refine (X5 h sh he).mono ?_;rintro _ w'' ⟨r,rfl,h1,h2⟩;exact ⟨r,rfl,by rw [if_neg he];exact h1,h2⟩
def Bl (g:Giv) (lo:Nat) (r:Value) (w':World):Prop:=
 if qm g=0 then ∃a b c d,r=.tuple #[.agg #[a,b,c,d],vi 0]/\RdR (fun b=>lo<=b) w' (Gq g) (uQ g).1 (rM g).1 (rM g).2 a b c d
 else r=.tuple #[.agg JI.toArray,vi (qm g)]
theorem RdR.form {Pb:Nat->Prop} {w:World} {rw:List Rws} {rs:List Rnd} {us ds:List Ed} {a b c d:Value} (h:RdR Pb w rw rs us ds a b c d):(∃p q,a=.slice p rw.length q)/\(∃p q,b=.slice p rs.length q)/\(∃p q,c=.slice p us.length q)/\ ∃p q,d=.slice p ds.length q:=by
 obtain ⟨p1,q1,e1,_⟩:=h.rows.form;obtain ⟨p2,q2,e2,_⟩:=h.rounds.form;obtain ⟨p3,q3,e3,_⟩:=h.used.form;obtain ⟨p4,q4,e4,_⟩:=h.drop.form;exact ⟨⟨_,_,e1⟩,⟨_,_,e2⟩,⟨_,_,e3⟩,⟨_,_,e4⟩⟩
theorem RdR.new {Pb:Nat->Prop} {w w':World} {rw:List Rws} {rs:List Rnd} {us ds:List Ed} {a b c d:Value} (h:RdR Pb w rw rs us ds a b c d) (n:New w w'):RdR Pb w' rw rs us ds a b c d:=
 ⟨h.rows.new (nK _) n,h.rounds.wz Dw n i3 (fun _ _ _ e=>e),h.used.keep sG n.keep,h.drop.keep sG n.keep⟩
theorem RdR.mono {Pb Pb':Nat->Prop} {w:World} {rw:List Rws} {rs:List Rnd} {us ds:List Ed} {a b c d:Value} (h:RdR Pb w rw rs us ds a b c d) (hP: ∀b,b<w.heap.size->Pb b->Pb' b):RdR Pb' w rw rs us ds a b c d:=
 ⟨h.rows.mono (nS _) hP i3,h.rounds.mono Mc hP hP,h.used.mono qI hP,h.drop.mono qI hP⟩
theorem RdR.chg {Pb M:Nat->Prop} {w w':World} {rw:List Rws} {rs:List Rnd} {us ds:List Ed} {a b c d:Value} (h:RdR Pb w rw rs us ds a b c d) (n:Chg M w w') (hd: ∀k,Pb k-> ¬M k):RdR Pb w' rw rs us ds a b c d:=
 ⟨h.rows.chg (nK _) n fun k hk=>hd k (h.rows.lt hk).1,h.rounds.wz Dw n (fun k hk=>hd k (h.rounds.lt hk).1) (fun k hk _=>hd k hk),h.used.keep sG (n.keep fun b _ hb=>hd b hb),h.drop.keep sG (n.keep fun b _ hb=>hd b hb)⟩
theorem Vz (h:RdG Pb w g tv cv fv gv) (sh:X3 g):
 Calls prog 7 #[.agg #[tv,cv,fv,gv]] w (Ret fun r w'=>Bl g w.heap.size r w'/\New w w'):=by
 obtain ⟨ta,tc,rfl,_,_⟩:=h.t.form;obtain ⟨ca,cc,rfl,_,_⟩:=h.c.form;obtain ⟨fa,fc,rfl,_,_⟩:=h.f.form;obtain ⟨ga,gc,rfl,_,_⟩:=h.g.form;refine nM func7 rfl ntmps7 rfl ?_;refine qq4 ?_;refine Wl.box rfl fun w1 b1 n1 s1=>?_;replace b1:Bk w1 w.heap.size 28 [.slice ta g.tree.length tc,.slice ca g.cards.length cc,.slice fa g.fails.length fc,.slice ga g.gone.length gc]:=b1;refine Wl.alloc fun w2 b2 n2 s2=>?_;replace b2:Bk w2 w1.heap.size 34 JI:=b2;have n02:=New.trans n1 n2;have hz1:=n1.size;have hz2:=n2.size;refine qq4 ?_;refine bK (b1.chg n2 id) rfl rfl ?_;refine aj (Vy (h.keep n02.keep qP) sh) rfl ?_;rintro _ w3 ⟨hr,n3⟩;have hz3:=n3.size;unfold Bl;by_cases he:qm g=0
 ·rw [if_pos he] at hr;obtain ⟨a,b,c,d,bw,bm,N,fl,nv,ov,rfl,hR,_⟩:=hr;obtain ⟨⟨p1,q1,rfl⟩,⟨p2,q2,rfl⟩,⟨p3,q3,rfl⟩,⟨p4,q4,rfl⟩⟩:=hR.form;refine qq6 ?_;refine Wl.alloc fun w4 b4 n4 s4=>?_;refine aH (new:=[.slice p1 _ q1,.slice p2 _ q2,.slice p3 _ q3,.slice p4 _ q4]) b4 rfl rfl rfl rfl zl4 (by intro c hc;simp at hc;rcases hc with rfl|rfl|rfl|rfl<;>rfl) fun w5 b5 c5 s5=>?_;have n35:New w3 w5:=(Chg.trans n4.any c5 i3).tN
  refine qq4 ?_;refine bK b5 rfl rfl ?_;(repeat' (refine aa1 ?_));refine aH (new:=[.slice p1 _ q1,.slice p2 _ q2,.slice p3 _ q3,.slice p4 _ q4]) ((b2.chg n3 id).chg n35 id) rfl rfl rfl rfl zl4 (by intro c hc;simp at hc;rcases hc with rfl|rfl|rfl|rfl<;>rfl) fun w6 b6 c6 s6=>?_;have hb2:=b2.lt;refine qq3 ?_;refine fD (qB rfl (qO rfl rfl b6 rfl) (pJ rfl)) ⟨_,rfl,?_,(Chg.trans (M:=fun k=>k=w1.heap.size) (New.trans (New.trans n02 n3) n35).any c6 fun k _ e=>e).tN⟩;rw [if_pos he];refine ⟨.slice p1 _ q1,.slice p2 _ q2,.slice p3 _ q3,.slice p4 _ q4,rfl,((hR.new n35).chg c6 fun k hk e=>?_).mono fun b _ e=>?_⟩
  ·have hk:w2.heap.size<=k:=hk;omega
  ·have e:w2.heap.size<=b:=e;show w.heap.size<=b;omega
 ·rw [if_neg he] at hr;subst hr;refine qq6 ?_;refine Wl.alloc fun w4 b4 n4 s4=>?_;refine aH (new:=JI) b4 rfl rfl rfl rfl zl4 X4 fun w5 b5 c5 s5=>?_;have n35:New w3 w5:=(Chg.trans n4.any c5 i3).tN
  refine qq4 ?_;refine bK b5 rfl rfl ?_;(repeat' (refine aa1 ?_));refine aH (new:=JI) ((b2.chg n3 id).chg n35 id) rfl rfl rfl rfl zl4 X4 fun w6 b6 c6 s6=>?_;have hb2:=b2.lt;refine qq3 ?_;refine fD (qB rfl (qO rfl rfl b6 rfl) (pJ rfl)) ⟨_,rfl,?_,(Chg.trans (M:=fun k=>k=w1.heap.size) (New.trans (New.trans n02 n3) n35).any c6 fun k _ e=>e).tN⟩;rw [if_neg he];rfl
end
end Go.Proofs.YtfbnfhhmiiahnaaGreatDoor
namespace Go.Proofs.YtfbnfhhmiiahnaaGreatDoor
open Go Wk
theorem Rch.mono {W W':Nat->List Nat} {a b:Nat} (h:Rch W a b) (hW: ∀i k,k∈W i->k∈W' i):Rch W' a b:=by
 induction h with
 |one h1=>exact .one (hW _ _ h1)
 |more _ h1 ih=>exact .more ih (hW _ _ h1)
theorem Rch.last {W:Nat->List Nat} {a b:Nat} (h:Rch W a b): ∃c,b∈W c:=by
 cases h with
 |one h1=>exact ⟨_,h1⟩
 |more _ h1=>exact ⟨_,h1⟩
open Classical in
theorem nI {W:Nat->List Nat} {n:Nat} (hn: ∀i k,i<n->k∈W i->k<n): ∀(c i:Nat),i<n->((ab8 n).filter fun k=>decide (Rch W i k)).length=c->W i≠ []->(∀k,Rch W i k->W k≠ [])-> ∃k,(k=i∨Rch W i k)/\Rch W k k:=by
 intro c;induction c using Nat.strongRecOn with
 |ind c ih=>
  intro i hi hc h0 hr;by_cases hii:Rch W i i
  ·exact ⟨i,.inl rfl,hii⟩
  ·obtain ⟨m,hm⟩:=aqz _ h0;have h1:Rch W i m:=.one hm;have hmn:=hn _ _ hi hm;by_cases hmm:Rch W m m
   ·exact ⟨m,.inr h1,hmm⟩
   ·have hlt:((ab8 n).filter fun k=>decide (Rch W m k)).length<c:=by rw [<-hc];refine filter_lt (p:=fun k=>decide (Rch W i k)) (q:=fun k=>decide (Rch W m k)) (fun x _ hx=>?_) ⟨m,List.mem_range.2 hmn,decide_eq_true h1,decide_eq_false hmm⟩;exact decide_eq_true (Rch.trans h1 (of_decide_eq_true hx))
    obtain ⟨k,h2,h3⟩:=ih _ hlt m hmn rfl (hr m h1) (fun k hk=>hr k (Rch.trans h1 hk));refine ⟨k,.inr ?_,h3⟩;rcases h2 with e|e
    ·rw [e];exact h1
    ·exact Rch.trans h1 e
theorem VA {g:Giv} {i k:Nat} (h:k∈(yu g i).wants):k∈pR g.tree i:=by
 rw [yA] at h;unfold pR;rcases List.mem_append.1 h with h|h
 ·exact ap4 _ h
 ·obtain ⟨e,he,h1,h2,h3,h4⟩:=FB.1 h;exact aqj _ (List.mem_filterMap.2 ⟨e,he,by rw [if_pos ⟨h1,h2⟩];exact h4⟩)
section
variable (N:Nat->Bn) (c:Nat->Option Nat) (fl:Nm->Bool)
abbrev wc (N:Nat->Bn) (c:Nat->Option Nat):Nat->Bn:=fun i=>{N i with card:=c i}
theorem Jb (S:St): ∀(l:List Nat) (b:Option Nat),rJ (wc N c) S b l=rJ N S b l
 | [],b=>rfl
 |n::r,b=>by rw [rJ,rJ];exact Jb S r _
theorem VB (S:St) (i:Nat):sH (wc N c) S i=sH N S i:=Jb N c S _ _
theorem X6 (S:St) (i:Nat):(rowOf (wc N c) S i).1=(rowOf N S i).1/\(rowOf (wc N c) S i).2.2=(rowOf N S i).2.2/\(rowOf (wc N c) S i).2.1=c i/\(rowOf N S i).2.1=(N i).card:=by
 unfold rowOf;rw [VB];split
 ·exact ⟨rfl,rfl,rfl,rfl⟩
 split
 ·exact ⟨rfl,rfl,rfl,rfl⟩
 ·exact ⟨rfl,rfl,rfl,rfl⟩
end
end Go.Proofs.YtfbnfhhmiiahnaaGreatDoor
namespace Go.Proofs.YtfbnfhhmiiahnaaGreatDoor
open Go
noncomputable def X7 (g:Giv) (i:Nat) (e:Ed):Option Nat:=if e.src=i/\e.soft=false/\(oN g i).card≠none then e.dst else none
noncomputable def lwM (g:Giv) (i:Nat):List Nat:=BX g.tree i++(nX g.tree).filterMap (X7 g i)
theorem ZE {g:Giv} {i:Nat} (hi:i<g.tree.length): ∀k∈lwM g i,k∈(oN g i).wants:=by
 intro k hk;unfold lwM at hk;have hN:oN g i=yu g i:=by unfold oN;rw [if_pos hi]
 rw [hN,yA];rcases List.mem_append.1 hk with h|h
 ·exact ap4 _ h
 ·refine aqj _ (FB.2 ?_);obtain ⟨e,he,h2⟩:=List.mem_filterMap.1 h;unfold X7 at h2;split at h2
  ·rename_i hc
   refine ⟨e,he,hc.1,hc.2.1,?_,h2⟩;have h3:=hc.2.2;rw [hN] at h3;unfold yu at h3;dsimp only at h3;by_cases hd:qR g.tree i=true
   ·exact hd
   ·rw [if_neg hd] at h3;exact absurd rfl h3
  ·cases h2
theorem Rch.add {H H':Nat->List Nat} {s d:Nat} (hs: ∀i k,k∈H' i->k∈H i∨(i=s/\k=d)) {a b:Nat} (h:Rch H' a b):Rch H a b∨((a=s∨Rch H a s)/\(b=d∨Rch H d b)):=by
 induction h with
 |one h=>
  rcases hs _ _ h with h|⟨rfl,rfl⟩
  ·exact .inl (.one h)
  ·exact .inr ⟨.inl rfl,.inl rfl⟩
 |more h h2 ih=>
  rcases hs _ _ h2 with h2|⟨rfl,rfl⟩
  ·rcases ih with ih|⟨h3,h4⟩
   ·exact .inl (.more ih h2)
   ·refine .inr ⟨h3,.inr ?_⟩;rcases h4 with rfl|h4
    ·exact .one h2
    ·exact .more h4 h2
  ·rcases ih with ih|⟨h3,h4⟩
   ·exact .inr ⟨.inr ih,.inl rfl⟩
   ·exact .inr ⟨h3,.inl rfl⟩
def Acy (H:Nat->List Nat):Prop:= ∀i, ¬Rch H i i
theorem Acy.add {H H':Nat->List Nat} {s d:Nat} (ha:Acy H) (hs: ∀i k,k∈H' i->k∈H i∨(i=s/\k=d)) (hn:d≠s) (hr: ¬Rch H d s):Acy H':=by
 intro i hi;rcases hi.add hs with h|⟨h1,h2⟩
 ·exact ha i h
 ·rcases h1 with rfl|h1
  ·rcases h2 with e|h2
   ·exact hn e.symm
   ·exact hr h2
  ·rcases h2 with rfl|h2
   ·exact hr h1
   ·exact hr (h2.trans h1)
theorem Jc: ∀(l:List Ed) (W H:Nat->List Nat),(∀i k,k∈H i->k∈W i)->Acy H->(∀e∈l,e.dst.getD 0≠e.src)->Acy fun i=>H i++((tY W l).1.filter fun e=>decide (e.src=i)).map fun e=>e.dst.getD 0
 | [],W,H,_,ha,_=>by intro i hi;refine ha i (hi.mono fun i k hk=>?_);simpa [tY] using hk
 |e::r,W,H,hs,ha,hd=>by
  unfold tY;split
  ·exact Jc r W H hs ha fun e he=>hd e (aoC _ he)
  ·rename_i hr
   dsimp only;have ha':Acy fun i=>if i=e.src then H i++ [e.dst.getD 0] else H i:=by
    refine ha.add (s:=e.src) (d:=e.dst.getD 0) (fun i k hk=>?_) (hd e ap2) fun h=>hr (h.mono hs);split at hk
    ·rename_i hi
     rcases List.mem_append.1 hk with hk|hk
     ·exact .inl hk
     ·rw [aqi] at hk;exact .inr ⟨hi,hk⟩
    ·exact .inl hk
   have ih:=Jc r (fun i=>if i=e.src then W i++ [e.dst.getD 0] else W i) _ (fun i k hk=>?_) ha' fun e he=>hd e (aoC _ he)
   ·intro i hi;refine ih i (hi.mono fun i k hk=>?_);rw [aqh] at hk;by_cases h:e.src=i
    ·rw [if_pos h.symm];rw [if_pos (by simpa using h),acd] at hk;simp only [apN,List.mem_cons,List.not_mem_nil,or_false] at hk ⊢;rcases hk with hk|hk|hk
     ·exact .inl (.inl hk)
     ·exact .inl (.inr hk)
     ·exact .inr hk
    ·rw [if_neg (fun e=>h e.symm)];rw [if_neg (by simpa using h)] at hk;exact hk
   ·split
    ·rename_i hi
     rw [if_pos hi] at hk;rcases List.mem_append.1 hk with hk|hk
     ·exact ap4 _ (hs i k hk)
     ·exact aqj _ hk
    ·rename_i hi
     rw [if_neg hi] at hk;exact hs i k hk
theorem ZF {N:Nat->Bn} {fl:Nm->Bool} {i:Nat} (h:Bnd N fl i): ¬Rch (fun i=>(N i).wants) i i:=by
 have hcl: ∀ {a b:Nat},Rch (fun i=>(N i).wants) a b->Bnd N fl a->Bnd N fl b:=by
  intro a b hr ha;induction hr with
  |one h=>exact ha.inv.2.2 _ h
  |more _ h ih=>exact ih.inv.2.2 _ h
 induction h with
 |mk i h1 h2 h3 ih=>
  intro hr;have hfirst: ∀ {a b:Nat},Rch (fun i=>(N i).wants) a b->b∈(N a).wants∨ ∃c∈(N a).wants,Rch (fun i=>(N i).wants) c b:=by
   intro a b h;induction h with
   |one h=>exact .inl h
   |more h h2 ih=>
    rcases ih with ih|⟨c,hc,hcb⟩
    ·exact .inr ⟨_,ih,.one h2⟩
    ·exact .inr ⟨c,hc,.more hcb h2⟩
  rcases hfirst hr with h|⟨c,hc,hcb⟩
  ·exact ih i h (.one h)
  ·exact ih c hc (hcb.trans (.one hc))
noncomputable def qG (g:Giv) (i:Nat):Bool:=decide (i<g.tree.length)&&((rowOf (oN g) (uQ g).2 i).1 == 0)
noncomputable def Ud (g:Giv):List (Nat×Nat):=
 ((ab8 g.tree.length).filterMap fun i=>if 0<i then some (i,par g.tree i) else none)++
 ((nX g.tree).filterMap fun e=>if e.soft=false/\(rowOf (oN g) (uQ g).2 e.src).2.1≠none then e.dst.map fun d=>(e.src,d) else none)++
 (rM g).1.map fun e=>(e.src,e.dst.getD 0)
noncomputable def Bo (g:Giv):List (Nat×Nat):=(Ud g).filter fun p=>qG g p.1
noncomputable def sW (g:Giv) (i:Nat):List Nat:=((Bo g).filter fun p=>decide (p.1=i)).map fun p=>p.2
noncomputable def wF (g:Giv) (i:Nat):List Nat:=((Bo g).filter fun p=>decide (p.2=i)).map fun p=>p.1
section
variable {n:Nat} {b:Nat->Bool} {path:Nat->Nm} {h o:Nat->List Nat}
def uo (b:Nat->Bool) (path:Nat->Nm) (L:Nat->Int):Option Nat->List Nat->Option Nat
 |a,[]=>a
 |a,i::r=>uo b path L (if b i=true/\L i=0/\(∀j,a=some j->path i<path j) then some i else a) r
def zl (n:Nat) (b:Nat->Bool) (path:Nat->Nm) (L:Nat->Int):Option Nat:=uo b path L none (ab8 n)
theorem Gs {L:Nat->Int}: ∀(l:List Nat) (a:Option Nat) (k:Nat),uo b path L a l=some k->a=some k∨(k∈l/\b k=true/\L k=0)
 | [],a,k,e=>.inl e
 |i::r,a,k,e=>by
  rw [uo] at e;rcases Gs r _ k e with e|⟨e1,e2⟩
  ·split at e
   ·rename_i hc
    cases e;exact .inr ⟨ap2,hc.1,hc.2.1⟩
   ·exact .inl e
  ·exact .inr ⟨aoC _ e1,e2⟩
theorem Gt {L:Nat->Int}: ∀(l:List Nat) (a:Option Nat),uo b path L a l=none->a=none/\ ∀i∈l, ¬(b i=true/\L i=0)
 | [],a,e=>⟨e,fun i hi=>by cases hi⟩
 |i::r,a,e=>by
  rw [uo] at e;obtain ⟨e1,e2⟩:=Gt r _ e;split at e1
  ·cases e1
  ·rename_i hc
   subst e1;refine ⟨rfl,fun j hj=>?_⟩;rcases List.mem_cons.1 hj with rfl|hj
   ·exact fun q=>hc ⟨q.1,q.2,fun k hk=>by cases hk⟩
   ·exact e2 j hj
theorem Dy {L:Nat->Int} {k:Nat} (e:zl n b path L=some k):k<n/\b k=true/\L k=0:=by
 rcases Gs _ _ _ e with e|⟨e1,e2⟩
 ·cases e
 ·exact ⟨List.mem_range.1 e1,e2⟩
theorem RS {L:Nat->Int} (e:zl n b path L=none): ∀i,i<n->b i=true->L i≠0:=fun i hi hb hl=>(Gt _ _ e).2 i (List.mem_range.2 hi) ⟨hb,hl⟩
def Px (o:Nat->List Nat) (L:Nat->Int) (k:Nat):Nat->Int:=fun i=>(if i=k then-1 else L i)-((o k).count i:Nat)
def xJ (n:Nat) (b:Nat->Bool) (path:Nat->Nm) (o:Nat->List Nat):Nat->(Nat->Int)->List Nat
 |0,_=>[]
 |f+1,L=>match zl n b path L with
  |none=>[]
  |some k=>k::xJ n b path o f (Px o L k)
def EG (n:Nat) (b:Nat->Bool) (path:Nat->Nm) (h o:Nat->List Nat):List Nat:=xJ n b path o (n+1) fun i=>((h i).length:Nat)
structure WkI (n:Nat) (b:Nat->Bool) (h:Nat->List Nat) (O:List Nat) (L:Nat->Int):Prop where
 l: ∀k,L k=if k∈O then-1 else (((h k).countP fun j=>decide (j∉O):Nat):Int)
 cl: ∀k∈O, ∀j∈h k,j∈O
 nd:O.Nodup
 bn: ∀k∈O,k<n/\b k=true
theorem Je {l O:List Nat} {x:Nat} (hx:x∉O):l.countP (fun j=>decide (j∉O))=l.count x+l.countP (fun j=>decide (j∉O++ [x])):=by
 induction l with
 |nil=>rfl
 |cons y r ih=>
  rw [aqf,aqf,List.count_cons,ih];by_cases e:y=x
  ·subst e;have h1:decide (y∉O)=true:=by simpa using hx
   have h2:decide (y∉O++ [y])=false:=by simp
   rw [h1,h2];simp;omega
  ·have h1:decide (y∉O++ [x])=decide (y∉O):=by simp [e]
   rw [h1];have h2:(y == x)=false:=by simpa using e
   rw [h2];simp;omega
theorem WkI.step {O:List Nat} {L:Nat->Int} {k:Nat} (I:WkI n b h O L) (hc: ∀j k,(o j).count k=(h k).count j) (hp:zl n b path L=some k):k∉O/\(∀j∈h k,j∈O)/\WkI n b h (O++ [k]) (Px o L k):=by
 obtain ⟨hk,hbk,hl⟩:=Dy hp;have hkO:k∉O:=fun e=>by rw [I.l k,if_pos e] at hl;omega
 have hh: ∀j∈h k,j∈O:=by
  rw [I.l k,if_neg hkO] at hl;have h0:(h k).countP (fun j=>decide (j∉O))=0:=by omega
  rw [List.countP_eq_zero] at h0;intro j hj;have:=h0 j hj;simpa using this
 refine ⟨hkO,hh,⟨fun i=>?_,fun i hi j hj=>?_,?_,fun i hi=>?_⟩⟩
 ·unfold Px;rw [hc];by_cases e:i=k
  ·subst e;rw [if_pos rfl,if_pos (aqj _ (List.mem_singleton.2 rfl))];have:(h i).count i=0:=List.count_eq_zero.2 fun e=>hkO (hh i e);rw [this];rfl
  ·rw [if_neg e,I.l i];by_cases e2:i∈O
   ·rw [if_pos e2,if_pos (ap4 _ e2)];have:(h i).count k=0:=List.count_eq_zero.2 fun e=>hkO (I.cl i e2 k e);rw [this];rfl
   ·rw [if_neg e2,if_neg (by simp [e2,e]),Je hkO];omega
 ·rcases List.mem_append.1 hi with hi|hi
  ·exact ap4 _ (I.cl i hi j hj)
  ·rw [aqi] at hi;subst hi;exact ap4 _ (hh j hj)
 ·rw [aql];exact ⟨I.nd,by simp,fun a ha c hc e=>by rw [aqi] at hc;subst hc;subst e;exact hkO ha⟩
 ·rcases List.mem_append.1 hi with hi|hi
  ·exact I.bn i hi
  ·rw [aqi] at hi;subst hi;exact ⟨hk,hbk⟩
theorem WkI.full {O:List Nat} {L:Nat->Int} (I:WkI n b h O L) (hp:zl n b path L=none) (hin: ∀k,b k=true-> ∀j∈h k,j<n/\b j=true) (ha:Acy h): ∀i,i<n->b i=true->i∈O:=by
 intro i hi hbi;refine apX fun hno=>?_;let W:Nat->List Nat:=fun k=>if k<n/\b k=true then (h k).filter fun j=>decide (j∉O) else [];have hne: ∀k,k<n->b k=true->k∉O->W k≠ []:=fun k hk hbk hkO e=>by
  have h0:=RS hp k hk hbk;rw [I.l k,if_neg hkO] at h0;have h1:(h k).filter (fun j=>decide (j∉O))=[]:=by have:W k=(h k).filter fun j=>decide (j∉O):=if_pos ⟨hk,hbk⟩;rw [<-this];exact e
  rw [List.countP_eq_length_filter,h1] at h0;exact h0 rfl
 have hW: ∀k j,j∈W k->j∈h k/\j∉O/\j<n/\b j=true:=fun k j hj=>by
  dsimp only [W] at hj;split at hj
  ·rename_i hk
   obtain ⟨h1,h2⟩:=List.mem_filter.1 hj;exact ⟨h1,by simpa using h2,hin k hk.2 j h1⟩
  ·cases hj
 obtain ⟨k,_,hk⟩:=nI (W:=W) (n:=n) (fun i k _ hk=>(hW i k hk).2.2.1) _ i hi rfl (hne i hi hbi hno) fun k hk=>by obtain ⟨c,hc⟩:=hk.last;obtain ⟨_,h2,h3,h4⟩:=hW c k hc;exact hne k h3 h4 h2
 exact ha k (hk.mono fun i j hj=>(hW i j hj).1)
theorem KG (hc: ∀j k,(o j).count k=(h k).count j) (hin: ∀k,b k=true-> ∀j∈h k,j<n/\b j=true) (ha:Acy h): ∀(f:Nat) (L:Nat->Int) (O:List Nat),WkI n b h O L->((ab8 n).countP fun i=>decide (i∉O))<f->
 let R:=O++xJ n b path o f L
 R.Nodup/\(∀k∈R,k<n/\b k=true)/\(∀i,i<n->b i=true->i∈R)/\ ∀T i X,R=T++i::X->O.length<=T.length-> ∀j∈h i,j∈T
 |0,L,O,I,hf=>by omega
 |f+1,L,O,I,hf=>by
  rw [xJ];cases hp:zl n b path L with
  |none=>dsimp only;rw [aoS];refine ⟨I.nd,I.bn,I.full hp hin ha,fun T i X e hl=>?_⟩;have:=congrArg apq e;simp at this;omega
  |some k=>
   dsimp only;obtain ⟨hkO,hh,I'⟩:=I.step hc hp;have hk:=Dy hp;have hlt:((ab8 n).countP fun i=>decide (i∉O++ [k]))<((ab8 n).countP fun i=>decide (i∉O)):=by rw [Je hkO (l:=ab8 n)];have:0<(ab8 n).count k:=List.count_pos_iff.2 (List.mem_range.2 hk.1);omega
   have ih:=KG hc hin ha f (Px o L k) (O++ [k]) I' (by omega);rw [adK] at ih;obtain ⟨h1,h2,h3,h4⟩:=ih;refine ⟨h1,h2,h3,fun T i X e hl=>?_⟩;by_cases e2:O.length=T.length
   ·have he:=List.append_inj e e2;have:k=i:=by have:=he.2;simp at this;exact this.1
    subst this;rw [<-he.1];exact hh
   ·refine h4 T i X e ?_;rw [am7,anM];omega
theorem X8 (hc: ∀j k,(o j).count k=(h k).count j) (hin: ∀k,b k=true-> ∀j∈h k,j<n/\b j=true) (ha:Acy h):
 (EG n b path h o).Nodup/\(∀k∈EG n b path h o,k<n/\b k=true)/\(∀i,i<n->b i=true->i∈EG n b path h o)/\ ∀T i X,EG n b path h o=T++i::X-> ∀j∈h i,j∈T:=by
 have I0:WkI n b h [] fun i=>((h i).length:Nat):=⟨fun k=>by rw [if_neg (by simp)];simp,fun k hk=>(by cases hk),aqo,fun k hk=>(by cases hk)⟩;have:=KG (path:=path) hc hin ha (n+1) _ [] I0 (by refine Nat.lt_succ_of_le (apR aqA ?_);rw [apP];exact aap _);obtain ⟨h1,h2,h3,h4⟩:=this;exact ⟨h1,h2,h3,fun T i X e=>h4 T i X e (anq _)⟩
end
theorem Jf (j k:Nat): ∀l:List (Nat×Nat),((l.filter fun p=>decide (p.2=j)).map fun p=>p.1).count k=((l.filter fun p=>decide (p.1=k)).map fun p=>p.2).count j
 | []=>rfl
 |(x,y)::r=>by
  have ih:=Jf j k r;rw [aqh,aqh];dsimp only;by_cases h1:y=j
  ·subst h1;by_cases h2:x=k
   ·subst h2;rw [if_pos (by simp),if_pos (by simp),acd,acd,aqB,aqB,ih]
   ·rw [if_pos (by simp),if_neg (by simpa using h2),acd,aqC h2,ih]
  ·by_cases h2:x=k
   ·subst h2;rw [if_neg (by simpa using h1),if_pos (by simp),acd,aqC h1,ih]
   ·rw [if_neg (by simpa using h1),if_neg (by simpa using h2),ih]
theorem Dz (g:Giv) (j k:Nat):(wF g j).count k=(sW g k).count j:=Jf j k _
theorem DC: ∀(l:List Ed) (W:Nat->List Nat), ∀e∈(tY W l).1,e∈l
 | [],W,e,h=>by simp [tY] at h
 |x::r,W,e,h=>by
  unfold tY at h;split at h
  ·exact aoC _ (DC r _ e h)
  ·dsimp only at h;rcases List.mem_cons.1 h with rfl|h
   ·exact ap2
   ·exact aoC _ (DC r _ e h)
theorem Py {g:Giv} {e:Ed} (h:e∈(rM g).1):e∈nX g.tree/\um (fun k=>(uQ g).2 k == 1) e=true:=by
 have h1:=DC _ _ e h;rw [aqd,anj] at h1;exact h1
theorem Ue {g:Giv} {e:Ed} (h:e∈(rM g).1): ∃d,e.dst=some d/\d<g.tree.length/\d≠e.src/\(uQ g).2 e.src=1/\(uQ g).2 d=1:=by
 obtain ⟨h1,h2⟩:=Py h;unfold um at h2;simp only [ann,beq_iff_eq] at h2;obtain ⟨_,h3,h4⟩:=h2;cases hd:e.dst with
 |none=>rw [hd] at h4;cases h4
 |some d=>rw [hd] at h4;simp only [ann,beq_iff_eq,decide_eq_true_eq] at h4;exact ⟨d,rfl,(ug e h1).2 d hd,h4.2,h3,h4.1⟩
theorem xK {g:Giv} (hok:og g.tree=true) {i:Nat}:qG g i=true↔i<g.tree.length/\Bnd (oN g) g.fails.contains i:=by
 unfold qG;rw [ann,decide_eq_true_eq,beq_iff_eq];constructor
 ·rintro ⟨h1,h2⟩;exact ⟨h1,(FC hok _ h1).1 h2⟩
 ·rintro ⟨h1,h2⟩;exact ⟨h1,(FC hok _ h1).2 h2⟩
theorem RU {g:Giv} {i:Nat} (h:(uQ g).2 i=1):Bnd (oN g) g.fails.contains i:=(KC (oN g) g.fails.contains g.tree.length).1.b i h
theorem Jg {g:Giv} (hok:og g.tree=true) {i k:Nat} (h:k∈sW g i):qG g i=true/\(k∈(oN g i).wants∨ ∃e∈(rM g).1,e.src=i/\e.dst.getD 0=k):=by
 unfold sW Bo Ud at h;obtain ⟨⟨x,y⟩,hp0,rfl⟩:=List.mem_map.1 h;obtain ⟨hp1,hx⟩:=List.mem_filter.1 hp0;obtain ⟨hp,hb⟩:=List.mem_filter.1 hp1;clear hp0 hp1 h;have hx:x=i:=by simpa using hx
 subst hx;refine ⟨hb,?_⟩;have hin:=((xK hok).1 hb).1;have hN:oN g x=yu g x:=by unfold oN;rw [if_pos hin]
 rcases List.mem_append.1 hp with hp|hp
 ·rcases List.mem_append.1 hp with hp|hp
  ·left;obtain ⟨j,hj,e⟩:=List.mem_filterMap.1 hp;split at e
   ·rename_i h0
    cases e;rw [hN,yA,if_pos h0];exact ap4 _ ap2
   ·cases e
  ·left;obtain ⟨e,he,h2⟩:=List.mem_filterMap.1 hp;split at h2
   ·rename_i hc
    obtain ⟨d,hd,h3⟩:=Option.map_eq_some_iff.1 h2;cases h3;have hcd:(oN g e.src).card≠none:=by have h9:=(X6 (oN g) (fun i=>(oN g i).card) (uQ g).2 e.src).2.2.2;have h8:=hc.2;rw [h9] at h8;exact h8
    exact ZE hin _ (aqj _ (List.mem_filterMap.2 ⟨e,he,by unfold X7;rw [if_pos ⟨rfl,hc.1,hcd⟩];exact hd⟩))
   ·cases h2
 ·right;obtain ⟨e,he,h2⟩:=List.mem_map.1 hp;cases h2;exact ⟨e,he,rfl,rfl⟩
theorem ZG {g:Giv} (hok:og g.tree=true): ∀k,qG g k=true-> ∀j∈sW g k,j<g.tree.length/\qG g j=true:=by
 intro k _ j hj;obtain ⟨hb,h⟩:=Jg hok hj;obtain ⟨hk,hB⟩:=(xK hok).1 hb;rcases h with h|⟨e,he,rfl,rfl⟩
 ·have hjn:=KD hok k hk j h;exact ⟨hjn,(xK hok).2 ⟨hjn,hB.inv.2.2 j h⟩⟩
 ·obtain ⟨d,hd,hdn,_,_,h1⟩:=Ue he;rw [hd];exact ⟨hdn,(xK hok).2 ⟨hdn,RU h1⟩⟩
theorem X9 {g:Giv} (hok:og g.tree=true):Acy (sW g):=by
 let H:Nat->List Nat:=fun i=>if qG g i=true then (oN g i).wants else [];have hH: ∀i k,k∈H i->qG g i=true/\k∈(oN g i).wants:=fun i k hk=>by
  dsimp only [H] at hk;split at hk
  ·rename_i hb;exact ⟨hb,hk⟩
  ·cases hk
 have hfirst: ∀ {a b:Nat},Rch H a b->qG g a=true:=by
  intro a b h;induction h with
  |one h=>exact (hH _ _ h).1
  |more _ _ ih=>exact ih
 have hA:Acy H:=fun i hi=>ZF ((xK hok).1 (hfirst hi)).2 (hi.mono fun a b hab=>(hH a b hab).2);have hW: ∀i k,k∈H i->k∈pR g.tree i:=fun i k hk=>by obtain ⟨hb,h⟩:=hH i k hk;have hin:=((xK hok).1 hb).1;rw [zh hin] at h;exact VA h
 have hS:=Jc ((((nX g.tree).filter (um fun k=>(uQ g).2 k == 1)).mergeSort fun x y=> !decide (oI g.tree y.src<oI g.tree x.src))) (pR g.tree) H hW hA fun e he=>by
  rw [aqd,anj] at he;have h2:=he.2;unfold um at h2;simp only [ann,beq_iff_eq] at h2;obtain ⟨_,_,h4⟩:=h2;cases hd:e.dst with
  |none=>rw [hd] at h4;cases h4
  |some d=>rw [hd] at h4;simp only [ann,beq_iff_eq,decide_eq_true_eq] at h4;exact h4.2
 intro i hi;refine hS i (hi.mono fun a b hab=>?_);obtain ⟨hb,h⟩:=Jg hok hab;rcases h with h|⟨e,he,h1,h2⟩
 ·refine ap4 _ ?_;dsimp only [H];rw [if_pos hb];exact h
 ·refine aqj _ (List.mem_map.2 ⟨e,List.mem_filter.2 ⟨he,by simpa using h1⟩,h2⟩)
noncomputable def sS (g:Giv):List Nat:=EG g.tree.length (qG g) (oI g.tree) (sW g) (wF g)
theorem Ac {g:Giv} (hok:og g.tree=true):(sS g).Nodup/\(∀k∈sS g,k<g.tree.length/\qG g k=true)/\(∀i,i<g.tree.length->qG g i=true->i∈sS g)/\ ∀T i X,sS g=T++i::X-> ∀j∈sW g i,j∈T:=
 X8 (Dz g) (ZG hok) (X9 hok)
abbrev As:=Nat->Bool
abbrev Stp:=Nat×Bool
def vC (A:As) (i:Nat) (v:Bool):As:=fun k=>if k=i then v else A k
theorem tq (A:As) (i:Nat) (v:Bool):vC A i v i=v:=if_pos rfl
theorem uj {A:As} {i k:Nat} {v:Bool} (h:k≠i):vC A i v k=A k:=if_neg h
theorem VD {A:As} {i:Nat} {v u:Bool} (h:A i=u):vC (vC A i v) i u=A:=by
 funext k;unfold vC;by_cases e:k=i
 ·rw [if_pos e,e,h]
 ·rw [if_neg e,if_neg e]
def qU (A:As):List Stp->As
 | []=>A
 |(i,v)::r=>qU (vC A i v) r
theorem yE (A:As): ∀(l m:List Stp),qU A (l++m)=qU (qU A l) m
 | [],m=>rfl
 |(i,v)::r,m=>yE (vC A i v) r m
section
variable {g:Giv}
structure Bq (g:Giv) (A:As):Prop where
 s: ∀k j,j∈sW g k->A j=true->A k=true
 b: ∀k,A k=true->qG g k=true
def qM (g:Giv):As->List Stp->Prop
 |_,[]=>True
 |A,(i,v)::r=>A i≠v/\qG g i=true/\Bq g (vC A i v)/\qM g (vC A i v) r
theorem qM.append: ∀ {A:As} {l m:List Stp},qM g A l->qM g (qU A l) m->qM g A (l++m)
 |_,[],_,_,h=>h
 |A,(i,v)::r,m,⟨h1,h2,h3,h4⟩,h=>⟨h1,h2,h3,qM.append h4 h⟩
theorem qM.run: ∀ {A:As} {l:List Stp},Bq g A->qM g A l->Bq g (qU A l)
 |_,[],h,_=>h
 |A,(i,v)::r,_,⟨_,_,h3,h4⟩=>qM.run (A:=vC A i v) (l:=r) h3 h4
theorem jA: ∀ {A:As} {l:List Nat},Bq g A->qM g A (l.map fun i=>(i,true))->qM g (qU A (l.map fun i=>(i,true))) (l.reverse.map fun i=>(i,false))/\qU (qU A (l.map fun i=>(i,true))) (l.reverse.map fun i=>(i,false))=A
 |A,[],_,_=>⟨trivial,rfl⟩
 |A,i::r,hA,⟨h1,h2,h3,h4⟩=>by
  have hi:A i=false:=by simpa using h1
  obtain ⟨h5,h6⟩:=jA h3 h4;have hb:vC (vC A i true) i false=A:=VD hi;simp only [acd,List.reverse_cons,aoN,anc,qU];refine ⟨h5.append ?_,?_⟩
  ·rw [h6];exact ⟨by rw [tq];decide,h2,by rw [hb];exact hA,trivial⟩
  ·rw [yE,h6];exact hb
def pO (stop:Nat->Option Nat->Option (Nat×Bool)):List Nat->As->List Nat->List Nat×Option (Nat×Bool)
 | [],_,sl=>(sl,stop sl.length none)
 |i::r,A,sl=>if A i=true then pO stop r A sl else match stop sl.length (some i) with
  |some x=>(sl,some x)
  |none=>pO stop r (vC A i true) (sl++ [i])
theorem Bv (hok:og g.tree=true) {stop:Nat->Option Nat->Option (Nat×Bool)}: ∀(r P:List Nat) (A:As) (sl:List Nat),(sS g).reverse=P++r->(∀k∈P,A k=true)->Bq g A->
 ∃l,(pO stop r A sl).1=sl++l/\qM g A (l.map fun i=>(i,true))/\((pO stop r A sl).2=none-> ∀k∈sS g,qU A (l.map fun i=>(i,true)) k=true)
 | [],P,A,sl,hP,hA,hS=>by refine ⟨[],by simp [pO],trivial,fun _ k hk=>hA k ?_⟩;rw [aoS] at hP;rw [<-hP,aqk];exact hk
 |i::r,P,A,sl,hP,hA,hS=>by
  rw [pO];have hP':(sS g).reverse=(P++ [i])++r:=by rw [hP];simp
  by_cases hi:A i=true
  ·rw [if_pos hi];refine Bv hok r (P++ [i]) A sl hP' (fun k hk=>?_) hS;rcases List.mem_append.1 hk with hk|hk
   ·exact hA k hk
   ·rw [aqi] at hk;rw [hk];exact hi
  ·rw [if_neg hi];cases hs:stop sl.length (some i) with
   |some x=>exact ⟨[],by simp,trivial,fun e=>by cases e⟩
   |none=>
    dsimp only;obtain ⟨o1,o2,o3,o4⟩:=Ac hok;have him:i∈sS g:=by rw [<-aqk,hP];simp
    have hbi:=(o2 i him).2;have hov: ∀k,i∈sW g k->k∈P:=fun k hk=>by
     have hbk:=(Jg hok hk).1;have hkm:=o3 k ((xK hok).1 hbk).1 hbk;obtain ⟨T,X,hT⟩:=aot hkm;have hiT:=o4 T k X hT i hk;have hkP:k∈P++i::r:=by rw [<-hP,aqk];exact hkm
     rcases List.mem_append.1 hkP with h|h
     ·exact h
     ·exfalso;obtain ⟨T2,X2,hT2⟩:=aot hiT;have e1:sS g=r.reverse++i::P.reverse:=by have:=congrArg List.reverse hP;rw [List.reverse_reverse] at this;rw [this];simp
      have e2:sS g=T2++i::(X2++k::X):=by rw [hT,hT2];simp
      rw [e1] at o1 e2;have hnd:=o1;have hir:i∉r.reverse:=fun e=>(List.nodup_append.1 hnd).2.2 i e i ap2 rfl;have aiR:i∉T2:=fun e=>by rw [e2] at hnd;exact (List.nodup_append.1 hnd).2.2 i e i ap2 rfl
      have hlen:r.reverse=T2/\i::P.reverse=i::(X2++k::X):=by
       have key: ∀(a b c d:List Nat),i∉a->i∉b->a++i::c=b++i::d->a=b/\i::c=i::d:=by
        intro a;induction a with
        |nil=>
         intro b c d _ hb e;cases b with
         |nil=>exact ⟨rfl,e⟩
         |cons y b=>simp at e;exact absurd (by rw [e.1];exact ap2) hb
        |cons x a ih=>
         intro b c d ha hb e;cases b with
         |nil=>simp at e;exact absurd (by rw [e.1];exact ap2) ha
         |cons y b=>simp at e;obtain ⟨h1,h2⟩:=ih b c d (fun q=>ha (aoC _ q)) (fun q=>hb (aoC _ q)) (by simpa using e.2);exact ⟨by rw [e.1,h1],h2⟩
       exact key _ _ _ _ hir aiR e2
      have ad1:k∈P.reverse:=by
       have:=hlen.2;injection this with _ h9
       rw [h9];simp
      rcases List.mem_cons.1 h with h|h
      ·subst h;exact absurd ad1 (List.nodup_cons.1 (List.nodup_append.1 hnd).2.1).1
      ·exact (List.nodup_append.1 hnd).2.2 k (List.mem_reverse.2 h) k (aoC _ ad1) rfl
    have hS':Bq g (vC A i true):=by
     refine ⟨fun k j hj ha=>?_,fun k hk=>?_⟩
     ·by_cases e:k=i
      ·rw [e,tq]
      ·rw [uj e];by_cases e2:j=i
       ·subst e2;exact hA k (hov k hj)
       ·rw [uj e2] at ha;exact hS.s k j hj ha
     ·by_cases e:k=i
      ·rw [e];exact hbi
      ·rw [uj e] at hk;exact hS.b k hk
    obtain ⟨l,h1,h2,h3⟩:=Bv hok (stop:=stop) r (P++ [i]) (vC A i true) (sl++ [i]) hP' (fun k hk=>by
     by_cases e:k=i
     ·rw [e,tq]
     ·rw [uj e];rcases List.mem_append.1 hk with hk|hk
      ·exact hA k hk
      ·exact absurd (List.mem_singleton.1 hk) e) hS'
    refine ⟨i::l,by rw [h1];simp,⟨fun e=>hi e,hbi,hS',h2⟩,h3⟩
theorem RV {A:As} {i:Nat} (hS:Bq g A) (hb:qG g i=true) (h0:A i=false) (ho: ∀k∈wF g i,A k=true):qM g A [(i,true)]:=by
 refine ⟨by rw [h0];decide,hb,⟨fun k j hj ha=>?_,fun k hk=>?_⟩,trivial⟩
 ·by_cases e:k=i
  ·rw [e,tq]
  ·rw [uj e];by_cases e2:j=i
   ·subst e2;have:0<(wF g j).count k:=by rw [Dz];exact List.count_pos_iff.2 hj
    exact ho k (List.count_pos_iff.1 this)
   ·rw [uj e2] at ha;exact hS.s k j hj ha
 ·by_cases e:k=i
  ·rw [e];exact hb
  ·rw [uj e] at hk;exact hS.b k hk
def uw (In:Nat->Bool):List Nat->As->List Stp
 | [],_=>[]
 |k::r,A=>if In k=true/\A k=true then (k,false)::uw In r (vC A k false) else uw In r A
theorem DF (hok:og g.tree=true) {In:Nat->Bool} (hIn: ∀k,In k=true-> ∀j∈sW g k,In j=true): ∀(r T:List Nat) (A:As),sS g=T++r->(∀j∈T,In j=true->A j=false)->Bq g A->qM g A (uw In r A)
 | [],T,A,_,_,_=>trivial
 |k::r,T,A,hT,hA,hS=>by
  rw [uw];have hT':sS g=(T++ [k])++r:=by rw [hT];simp
  split
  ·rename_i hc
   have hS':Bq g (vC A k false):=by
    refine ⟨fun x j hj ha=>?_,fun x hx=>?_⟩
    ·have hjk:j≠k:=fun e=>by rw [e,tq] at ha;cases ha
     rw [uj hjk] at ha;by_cases e:x=k
     ·subst e;have:=hA j ((Ac hok).2.2.2 T x r hT j hj) (hIn x hc.1 j hj);rw [this] at ha;cases ha
     ·rw [uj e];exact hS.s x j hj ha
    ·by_cases e:x=k
     ·rw [e,tq] at hx;cases hx
     ·rw [uj e] at hx;exact hS.b x hx
   refine ⟨by rw [hc.2];decide,hS.b k hc.2,hS',DF hok hIn r (T++ [k]) _ hT' (fun j hj hji=>?_) hS'⟩;by_cases e:j=k
   ·rw [e,tq]
   ·rw [uj e];rcases List.mem_append.1 hj with hj|hj
    ·exact hA j hj hji
    ·exact absurd (List.mem_singleton.1 hj) e
  ·rename_i hc
   refine DF hok hIn r (T++ [k]) A hT' (fun j hj hji=>?_) hS;rcases List.mem_append.1 hj with hj|hj
   ·exact hA j hj hji
   ·rw [aqi] at hj;subst hj;cases hv:A j with
    |false=>rfl
    |true=>exact absurd ⟨hji,hv⟩ hc
end
structure Bd where
 a:As
 oJ:List Nat
 down:Bool
def bd0:Bd:=⟨fun _=>false,[],false⟩
abbrev Wkr:=Int×Nm
def yF:Nm:=[119,97,107,101,117,112,45,115,111,117,114,99,101]
def ve (t:List Nd) (i:Nat):Bool:=(tX t i yF).isSome
def atM (t:List Nd) (p:Nm):Option Nat:=(ab8 t.length).find? fun i=>oI t i == p
noncomputable def vS (g:Giv):List Wkr->Nat->Option Nat
 | [],_=>none
 |x::r,k=>match atM g.tree x.2 with
  |some i=>if x.1=k/\qG g i=true/\ve g.tree i=true then some i else vS g r k
  |none=>vS g r k
noncomputable def rO (g:Giv) (refuse:List Nm) (wakes:List Wkr) (k:Nat) (next:Option Nat):Option (Nat×Bool):=match vS g wakes k with
 |some i=>some (i,true)
 |none=>match next with
  |some i=>if refuse.contains (oI g.tree i)=true then some (i,false) else none
  |none=>none
def upS (l:List Nat):List Stp:=l.map fun i=>(i,true)
def dnS (l:List Nat):List Stp:=l.reverse.map fun i=>(i,false)
noncomputable def rV (g:Giv) (B:Bd) (refuse:List Nm) (wakes:List Wkr):(Bool×Bool×Int×List Stp)×Bd×Int:=
 if B.down=true then ((false,false,0,[]),B,5)
 else if 512<refuse.length∨512<wakes.length∨(∃x∈wakes,x.1<0) then ((false,false,0,[]),B,1)
 else
  let r:=pO (rO g refuse wakes) (sS g).reverse B.a []
  match r.2 with
  |some x=>((false,x.2,(x.1:Int),upS r.1++dnS r.1),B,0)
  |none=>((true,false, -1,upS r.1),⟨qU B.a (upS r.1),r.1,true⟩,0)
def EH (B:Bd):List Stp×Bd×Int:=if B.down=true then (dnS B.oJ,⟨qU B.a (dnS B.oJ),[],false⟩,0) else ([],B,5)
noncomputable def zo (g:Giv) (B:Bd) (i:Int) (v:Bool):Int:=
 if i<0∨(g.tree.length:Int)<=i∨qG g i.toNat=false then 1 else if B.down=true∨B.a i.toNat=v then 5 else 0
noncomputable def BZ (g:Giv) (B:Bd) (i:Int):List Stp×Bd×Int:=
 if zo g B i true≠0 then ([],B,zo g B i true)
 else if (wF g i.toNat).all (fun k=>B.a k)=false then ([],B,240)
 else ([(i.toNat,true)],⟨vC B.a i.toNat true,B.oJ,B.down⟩,0)
open Classical in
noncomputable def inM (g:Giv) (i k:Nat):Bool:=decide (k=i∨Rch (sW g) i k)
noncomputable def wkM (g:Giv) (B:Bd) (i:Int):List Stp×Bd×Int:=
 if zo g B i false≠0 then ([],B,zo g B i false)
 else let s:=uw (inM g i.toNat) (sS g) B.a;(s,⟨qU B.a s,B.oJ,B.down⟩,0)
structure BdI (g:Giv) (B:Bd):Prop where
 s:Bq g B.a
 d:B.down=true-> ∃A,Bq g A/\qM g A (upS B.oJ)/\B.a=qU A (upS B.oJ)
 u:B.down=false->B.oJ=[]
theorem aby (g:Giv):BdI g bd0:=⟨⟨fun _ _ _ h=>(by cases h),fun _ h=>(by cases h)⟩,fun h=>(by cases h),fun _=>rfl⟩
def VE (g:Giv) (B:Bd) (s:List Stp) (B':Bd):Prop:=qM g B.a s/\BdI g B'/\B'.a=qU B.a s
theorem VE.stay {g:Giv} {B:Bd} (h:BdI g B):VE g B [] B:=⟨trivial,h,rfl⟩
theorem ZH {g:Giv} (hok:og g.tree=true) {B:Bd} (h:BdI g B) (refuse:List Nm) (wakes:List Wkr):VE g B (rV g B refuse wakes).1.2.2.2 (rV g B refuse wakes).2.1:=by
 unfold rV;split
 ·exact .stay h
 ·rename_i hd
  split
  ·exact .stay h
  ·obtain ⟨l,h1,h2,h3⟩:=Bv hok (stop:=rO g refuse wakes) (sS g).reverse [] B.a [] rfl (fun k hk=>by cases hk) h.s;rw [ang] at h1;dsimp only;rw [h1];have hb:=jA h.s h2;cases hx:(pO (rO g refuse wakes) (sS g).reverse B.a []).2 with
   |some x=>exact ⟨h2.append hb.1,h,by rw [show upS l++dnS l=upS l++dnS l from rfl,yE];exact hb.2.symm⟩
   |none=>exact ⟨h2,⟨qM.run h.s h2,fun _=>⟨B.a,h.s,h2,rfl⟩,fun e=>by cases e⟩,rfl⟩
theorem abz {g:Giv} {B:Bd} (h:BdI g B):VE g B (EH B).1 (EH B).2.1:=by
 unfold EH;split
 ·rename_i hd
  obtain ⟨A,hA,hs,hr⟩:=h.d hd;obtain ⟨h1,h2⟩:=jA hA hs;dsimp only;have hr2:qU B.a (dnS B.oJ)=A:=by rw [hr];exact h2
  refine ⟨by rw [hr];exact h1,⟨by rw [hr2];exact hA,fun e=>(by cases e),fun _=>rfl⟩,rfl⟩
 ·exact .stay h
theorem MC {g:Giv} {B:Bd} {i:Int} {v:Bool} (h:zo g B i v=0): ∃k:Nat,i=k/\k<g.tree.length/\qG g k=true/\B.down=false/\B.a k≠v:=by
 unfold zo at h;split at h
 ·cases h
 ·rename_i h1
  split at h
  ·cases h
  ·rename_i h2
   rw [not_or,not_or] at h1;rw [not_or] at h2;obtain ⟨k,rfl⟩:=ane (show 0<=i by omega);rw [ant] at h1 h2;exact ⟨k,rfl,by omega,by simpa using h1.2.2,by simpa using h2.1,h2.2⟩
theorem abA {g:Giv} {B:Bd} (h:BdI g B) (i:Int):VE g B (BZ g B i).1 (BZ g B i).2.1:=by
 unfold BZ;split
 ·exact .stay h
 ·rename_i hm
  split
  ·exact .stay h
  ·rename_i ho
   obtain ⟨k,rfl,hk,hb,hd,ha⟩:=MC (by simpa using hm:zo g B i true=0);rw [ant] at ho ⊢;have hov: ∀x∈wF g k,B.a x=true:=by
    have:(wF g k).all (fun k=>B.a k)=true:=by simpa using ho
    exact List.all_eq_true.1 this
   have hs:=RV h.s hb (by simpa using ha) hov;exact ⟨hs,⟨qM.run h.s hs,fun e=>(by rw [hd] at e;cases e),fun _=>h.u hd⟩,rfl⟩
open Classical in
theorem abB {g:Giv} {i k:Nat} (h:inM g i k=true): ∀j∈sW g k,inM g i j=true:=by
 intro j hj;unfold inM at h ⊢;rw [decide_eq_true_eq] at h ⊢;rcases h with rfl|h
 ·exact .inr (.one hj)
 ·exact .inr (.more h hj)
theorem ad2 {g:Giv} (hok:og g.tree=true) {B:Bd} (h:BdI g B) (i:Int):VE g B (wkM g B i).1 (wkM g B i).2.1:=by
 unfold wkM;split
 ·exact .stay h
 ·rename_i hm
  obtain ⟨k,rfl,hk,hb,hd,ha⟩:=MC (by simpa using hm:zo g B i false=0);rw [ant];dsimp only;have hs:=DF hok (In:=inM g k) (fun x hx=>abB hx) (sS g) [] B.a rfl (fun j hj=>by cases hj) h.s;exact ⟨hs,⟨qM.run h.s hs,fun e=>(by rw [hd] at e;cases e),fun _=>h.u hd⟩,rfl⟩
section
variable {g:Giv}
theorem Pz {i:Nat} (hi:i<g.tree.length):sW g i=if qG g i=true then (if 0<i then [par g.tree i] else [])++((nX g.tree).filterMap fun e=>if e.src=i/\e.soft=false/\(rowOf (oN g) (uQ g).2 e.src).2.1≠none then e.dst else none)++(((rM g).1.filter fun e=>decide (e.src=i)).map fun e=>e.dst.getD 0) else []:=by
 unfold sW Bo Ud;rw [aqx];by_cases hb:qG g i=true
 ·rw [if_pos hb];have hf: ∀l:List (Nat×Nat),l.filter (fun p=>decide (p.1=i)&&qG g p.1)=l.filter fun p=>decide (p.1=i):=fun l=>by
   apply aqy;intro p _;by_cases e:p.1=i
   ·rw [e,hb,aqs]
   ·rw [decide_eq_false e,Bool.false_and]
  rw [hf,apy,apy,aoN,aoN];congr 1
  ·congr 1
   ·
    have key: ∀m,m<=g.tree.length->(((ab8 m).filterMap fun i=>if 0<i then some (i,par g.tree i) else none).filter fun p=>decide (p.1=i)).map (fun p=>p.2)=if i<m/\0<i then [par g.tree i] else []:=by
     intro m;induction m with
     |zero=>intro _;simp
     |succ m ih=>
      intro hm;rw [I9,aqt,apy,aoN,ih (by omega)];by_cases e:m=i
      ·subst e;rw [if_neg (by omega)];by_cases h0:0<m
       ·rw [if_pos ⟨by omega,h0⟩];simp [h0]
       ·rw [if_neg (by omega)];simp [h0]
      ·have hne:(((([m]:List Nat).filterMap fun i=>if 0<i then some (i,par g.tree i) else none).filter fun p=>decide (p.1=i)).map fun p=>p.2)=[]:=by
        by_cases h0:0<m
        ·simp [h0,e]
        ·simp [h0]
       rw [hne,aoS];by_cases h1:i<m/\0<i
       ·rw [if_pos h1,if_pos ⟨by omega,h1.2⟩]
       ·rw [if_neg h1,if_neg (by omega)]
    rw [key g.tree.length (aap _)];by_cases h0:0<i
    ·rw [if_pos ⟨hi,h0⟩,if_pos h0]
    ·rw [if_neg (fun e=>h0 e.2),if_neg h0]
   ·generalize nX g.tree=E;induction E with
    |nil=>rfl
    |cons e r ih=>
     rw [aqn,aqn];by_cases hc:e.soft=false/\(rowOf (oN g) (uQ g).2 e.src).2.1≠none
     ·rw [if_pos hc];cases hd:e.dst with
      |none=>
       have:(if e.src=i/\e.soft=false/\(rowOf (oN g) (uQ g).2 e.src).2.1≠none then (none:Option Nat) else none)=none:=by split<;>rfl
       rw [this];exact ih
      |some d=>
       dsimp only [Option.map_some];rw [aqh];by_cases he:e.src=i
       ·rw [if_pos (by simpa using he),if_pos ⟨he,hc⟩,acd,ih]
       ·rw [if_neg (by simpa using he),if_neg (fun q=>he q.1),ih]
     ·rw [if_neg hc,if_neg (fun q=>hc q.2)];exact ih
  ·generalize (rM g).1=U;induction U with
   |nil=>rfl
   |cons e r ih=>
    rw [acd,aqh,aqh];by_cases he:e.src=i
    ·rw [if_pos (by simpa using he),if_pos (by simpa using he),acd,acd,ih]
    ·rw [if_neg (by simpa using he),if_neg (by simpa using he),ih]
 ·rw [if_neg hb];have: ∀l:List (Nat×Nat),l.filter (fun p=>decide (p.1=i)&&qG g p.1)=[]:=fun l=>by rw [List.filter_eq_nil_iff];intro p _ hp;simp only [ann,decide_eq_true_eq] at hp;rw [hp.1] at hp;exact hb hp.2
  rw [this];rfl
end
end Go.Proofs.YtfbnfhhmiiahnaaGreatDoor
namespace Go.Proofs.YtfbnfhhmiiahnaaGreatDoor
open Go Wk
section
variable {β γ:Type} {f:β->List Value} {g g1 g2:β->Value} {xs x1 x2:β->List γ} {h:γ->Value} {te e sz:Nat} {Pb Pb' M:Nat->Prop} {w w':World} {v:Value} {bs:List β}
theorem Wk.LLs.aiS (H:LLs f g xs h te e sz Pb w v bs) (c:Chg M w w') (hr: ∀k,v.ownBlock=some k-> ¬M k) (he: ∀b∈bs, ∀k,(g b).ownBlock=some k-> ¬M k):LLs f g xs h te e sz Pb w' v bs:=
 ⟨H.row.chg (nK f) c hr,fun b hb=>(H.el b hb).chg (nO h) c (he b hb),H.vz,H.sep⟩
structure L2s (f:β->List Value) (g1 g2:β->Value) (x1 x2:β->List γ) (h:γ->Value) (te e sz:Nat) (Pb:Nat->Prop) (w:World) (v:Value) (bs:List β):Prop where
 a:LLs f g1 x1 h te e sz Pb w v bs
 b:LLs f g2 x2 h te e sz Pb w v bs
 x: ∀p∈bs, ∀q∈bs,Sep (g1 p) (g2 q)
theorem L2s.nil:L2s f g1 g2 x1 x2 h te e sz Pb w (.slice none 0 0) []:=⟨iY,iY,fun p hp=>by cases hp⟩
theorem L2s.chg (H:L2s f g1 g2 x1 x2 h te e sz Pb w v bs) (c:Chg M w w') (hd: ∀k,Pb k-> ¬M k):L2s f g1 g2 x1 x2 h te e sz Pb w' v bs:=⟨H.a.chg c hd,H.b.chg c hd,H.x⟩
theorem L2s.new (H:L2s f g1 g2 x1 x2 h te e sz Pb w v bs) (c:New w w'):L2s f g1 g2 x1 x2 h te e sz Pb w' v bs:=H.chg c i3
theorem L2s.mono (H:L2s f g1 g2 x1 x2 h te e sz Pb w v bs) (hP: ∀b,b<w.heap.size->Pb b->Pb' b):L2s f g1 g2 x1 x2 h te e sz Pb' w v bs:=⟨H.a.mono hP,H.b.mono hP,H.x⟩
theorem L2s.flip (H:L2s f g1 g2 x1 x2 h te e sz Pb w v bs):L2s f g2 g1 x2 x1 h te e sz Pb w v bs:=⟨H.b,H.a,fun p hp q hq=>(H.x q hq p hp).symm⟩
theorem L2s.Ya (H:L2s f g1 g2 x1 x2 h te e sz Pb w v bs) {b:β} {v':Value} (h1:g1 b=.slice none 0 0) (h2:g2 b=.slice none 0 0) (y1:x1 b=[]) (y2:x2 b=[]) (hr:nP (flat f) te sz Pb (fun _=>False) w' v' (bs++ [b])) (c:Chg (fun k=>v.ownBlock=some k) w w') (lie:v'.ownBlock=v.ownBlock∨ ∀k,v'.ownBlock=some k->w.heap.size<=k):
 L2s f g1 g2 x1 x2 h te e sz Pb w' v' (bs++ [b]):=by
 have n1: ∀u:Value,Sep (g1 b) u:=fun u k e=>by rw [h1] at e;cases e
 have n2: ∀u:Value,Sep (g2 b) u:=fun u k e=>by rw [h2] at e;cases e
 refine ⟨H.a.snoc hr c lie (by rw [h1,y1];exact aI) (n1 v) (fun c _=>n1 _),H.b.snoc hr c lie (by rw [h2,y2];exact aI) (n2 v) (fun c _=>n2 _),fun p hp q hq=>?_⟩;rcases List.mem_append.1 hp with hp|hp
 ·rcases List.mem_append.1 hq with hq|hq
  ·exact H.x p hp q hq
  ·rw [List.mem_singleton.1 hq];exact (n2 _).symm
 ·rw [List.mem_singleton.1 hp];exact n1 _
theorem L2s.set1 (H:L2s f g1 g2 x1 x2 h te e sz Pb w v bs) {i:Nat} {b b':β} {w1:World} (hi:bs[i]? =some b) (hg:g2 b'=g2 b) (hx:x2 b'=x2 b) (ho:nP (Wk.one h) e 1 Pb (fun _=>False) w1 (g1 b') (x1 b')) (c1:Chg (fun k=>(g1 b).ownBlock=some k) w w1)
 (lie:(g1 b').ownBlock=(g1 b).ownBlock∨ ∀k,(g1 b').ownBlock=some k->w.heap.size<=k) (hr:nP (flat f) te sz Pb (fun _=>False) w' v (bs.set i b')) (c2:Chg (fun k=>v.ownBlock=some k) w1 w'):L2s f g1 g2 x1 x2 h te e sz Pb w' v (bs.set i b'):=by
 have hb:=aop hi;have hB:=H.b.aiS c1 (fun k e1 e2=>H.a.vz b hb k e2 e1) (fun q hq k e1 e2=>H.x b hb q hq k e2 e1);refine ⟨H.a.set hi ho c1 lie hr c2,hB.put hi hg hx hr c2,fun p hp q hq=>?_⟩;have old: ∀q∈bs.set i b', ∃q0∈bs,g2 q=g2 q0:=fun q hq=>by
  rcases apZ hq with hq|rfl
  ·exact ⟨q,hq,rfl⟩
  ·exact ⟨b,hb,hg⟩
 obtain ⟨q0,hq0,eq⟩:=old q hq;rw [eq];rcases apZ hp with hp|rfl
 ·exact H.x p hp q0 hq0
 ·intro k e1 e2;rcases lie with l|l
  ·exact H.x b hb q0 hq0 k (l▸e1) e2
  ·have h1:=l k e1;have h2:=((H.b.el q0 hq0).lt e2).2;omega
theorem L2s.set2 (H:L2s f g1 g2 x1 x2 h te e sz Pb w v bs) {i:Nat} {b b':β} {w1:World} (hi:bs[i]? =some b) (hg:g1 b'=g1 b) (hx:x1 b'=x1 b) (ho:nP (Wk.one h) e 1 Pb (fun _=>False) w1 (g2 b') (x2 b')) (c1:Chg (fun k=>(g2 b).ownBlock=some k) w w1)
 (lie:(g2 b').ownBlock=(g2 b).ownBlock∨ ∀k,(g2 b').ownBlock=some k->w.heap.size<=k) (hr:nP (flat f) te sz Pb (fun _=>False) w' v (bs.set i b')) (c2:Chg (fun k=>v.ownBlock=some k) w1 w'):L2s f g1 g2 x1 x2 h te e sz Pb w' v (bs.set i b'):=
 (H.flip.set1 hi hg hx ho c1 lie hr c2).flip
theorem L2s.put (H:L2s f g1 g2 x1 x2 h te e sz Pb w v bs) {i:Nat} {b b':β} (hi:bs[i]? =some b) (h1:g1 b'=g1 b) (y1:x1 b'=x1 b) (h2:g2 b'=g2 b) (y2:x2 b'=x2 b) (hr:nP (flat f) te sz Pb (fun _=>False) w' v (bs.set i b')) (c:Chg (fun k=>v.ownBlock=some k) w w'):L2s f g1 g2 x1 x2 h te e sz Pb w' v (bs.set i b'):=by
 refine ⟨H.a.put hi h1 y1 hr c,H.b.put hi h2 y2 hr c,fun p hp q hq=>?_⟩;have hb:=aop hi;have o1: ∃p0∈bs,g1 p=g1 p0:=by
  rcases apZ hp with hp|rfl
  ·exact ⟨p,hp,rfl⟩
  ·exact ⟨b,hb,h1⟩
 have o2: ∃q0∈bs,g2 q=g2 q0:=by
  rcases apZ hq with hq|rfl
  ·exact ⟨q,hq,rfl⟩
  ·exact ⟨b,hb,h2⟩
 obtain ⟨p0,hp0,e1⟩:=o1;obtain ⟨q0,hq0,e2⟩:=o2;rw [e1,e2];exact H.x p0 hp0 q0 hq0
end
end Go.Proofs.YtfbnfhhmiiahnaaGreatDoor
namespace Go.Proofs.YtfbnfhhmiiahnaaGreatDoor
open Go Wk
open Go.RowKit (Below)
attribute [local irreducible] Go.Calls
structure Sn where
 path:Nm
 bound:Bool
 xM:Bool
 hv:SV
 hl:List Nat
 ov:SV
 ol:List Nat
 asleep:Bool
deriving Inhabited
abbrev snC (x:Sn):List Value:=[vs x.path,.bool x.bound,.bool x.xM,svV x.hv,svV x.ov,.bool x.asleep]
theorem abC (x:Sn): ∀c∈snC x,c.oneCell'=true:=by
 intro c hc;simp at hc;rcases hc with rfl|rfl|rfl|rfl|rfl|rfl<;>rfl
theorem Yb:qH (flat snC) 6:=qA _ (fun _=>rfl) abC
structure BdM (Pb:Nat->Prop) (bb:Nat) (N:List Sn) (ord oJ:List Nat) (down:Bool) (nv ov sv:Value) (W:World):Prop where
 b:Bk W bb 85 [nv,ov,sv,.bool down]
 nd:L2s snC (fun x=>svV x.hv) (fun x=>svV x.ov) (fun x=>x.hl) (fun x=>x.ol) viN 94 3 6 Pb W nv N
 od:nP (Wk.one viN) 3 1 Pb NoB W ov ord
 sl:nP (Wk.one viN) 3 1 Pb NoB W sv oJ
 so: ∀x∈N,Sep (svV x.hv) ov/\Sep (svV x.ov) ov/\Sep (svV x.hv) sv/\Sep (svV x.ov) sv
 os:Sep ov sv
 win: ∀x∈N,(∀k∈x.hl,k<N.length)/\ ∀k∈x.ol,k<N.length
 nl:N.length<=512
 lo:Pb bb
section
variable {Pb Pb':Nat->Prop} {bb:Nat} {N:List Sn} {ord oJ:List Nat} {down:Bool} {nv ov sv:Value} {W W':World}
theorem BdM.new (g:BdM Pb bb N ord oJ down nv ov sv W) (c:New W W'):BdM Pb bb N ord oJ down nv ov sv W':=
 ⟨g.b.chg c id,g.nd.new c,g.od.new (nO _) c,g.sl.new (nO _) c,g.so,g.os,g.win,g.nl,g.lo⟩
theorem BdM.chg {M:Nat->Prop} (g:BdM Pb bb N ord oJ down nv ov sv W) (c:Chg M W W') (hd: ∀k,Pb k-> ¬M k):BdM Pb bb N ord oJ down nv ov sv W':=
 ⟨g.b.chg c (hd bb g.lo),g.nd.chg c hd,g.od.chg (nO _) c fun k hk=>hd k (g.od.lt hk).1,g.sl.chg (nO _) c fun k hk=>hd k (g.sl.lt hk).1,g.so,g.os,g.win,g.nl,g.lo⟩
theorem BdM.mono (g:BdM Pb bb N ord oJ down nv ov sv W) (hP: ∀b,b<W.heap.size->Pb b->Pb' b):BdM Pb' bb N ord oJ down nv ov sv W:=
 ⟨g.b,g.nd.mono hP,g.od.mono (nV _) hP i3,g.sl.mono (nV _) hP i3,g.so,g.os,g.win,g.nl,hP _ g.b.lt g.lo⟩
end
def aF (N:List Sn) (i:Nat):Bool:=(N.getD i default).asleep
structure BdG (g:Giv) (N:List Sn):Prop where
 len:N.length=g.tree.length
 path: ∀i x,N[i]? =some x->x.path=oI g.tree i
 bound: ∀i x,N[i]? =some x->x.bound=qG g i
 xM: ∀i x,N[i]? =some x->x.xM=ve g.tree i
 hangs: ∀i x,N[i]? =some x->x.hl=sW g i
 over: ∀i x,N[i]? =some x->x.ol=wF g i
section
variable {P:Program} {n:Nat} {ds:List Deferred} {Q:Po} {F:Fr} {w:World} {ops rest:List Oper} {d:Nat} {ty:TypeId} {pos:String} {aft:Array Edge}
theorem Wk.Wl.aiT {x y:Operand} {t t':TypeId} {a b:Bool} [ht:Und P t .bool] (hx:ev n F x=.bool a) (hy:ev n F y=.bool b) (c:Wl P n ds Q ops rest (upd F d (.bool (a == b))) w):Wl P n ds Q ops (⟨some d,.binOp .eql t x y t',ty,pos,aft,none⟩::rest) F w:=by
 refine Wl.val ?_ c;have h:(Op.equalIn 10000 t (.bool a) (.bool b)).run P w=.ok (a == b) w:=run_equalIn_bool' (P:=P) w 9999 t a b ht.h;have hb:(binOp .eql t (.bool a) (.bool b)).run P w=.ok (.bool (a == b)) w:=by simp only [binOp];simp [Op.equal,Op.maxDepth,h]
 simp only [execOp,hx,hy,Sem.run_bind,EL,Result.andThen_ok,hb,Sem.run_pure]
end
section
variable {Pb:Nat->Prop} {bb:Nat} {N:List Sn} {ord oJ:List Nat} {down:Bool} {nv ov sv:Value} {W:World}
theorem BdM.put {i:Nat} {x:Sn} {v:Bool} {W':World} (g:BdM Pb bb N ord oJ down nv ov sv W) (hi:N[i]? =some x) (hr:nP (flat snC) 94 6 Pb (fun _=>False) W' nv (N.set i {x with asleep:=v})) (c:Chg (fun k=>nv.ownBlock=some k) W W'):
 BdM Pb bb (N.set i {x with asleep:=v}) ord oJ down nv ov sv W':=by
 have hx:=aop hi;refine ⟨g.b.chg c fun e=>g.nd.a.row.oM g.b rfl e rfl,g.nd.put hi rfl rfl rfl rfl hr c,g.od.chg (nO _) c fun k hk e=>?_,g.sl.chg (nO _) c fun k hk e=>?_,fun y hy=>?_,g.os,fun y hy=>?_,by rw [apn];exact g.nl,g.lo⟩
 ·exact g.od.sV g.nd.a.row rfl k hk e
 ·exact g.sl.sV g.nd.a.row rfl k hk e
 ·rcases apZ hy with hy|rfl
  ·exact g.so y hy
  ·exact g.so x hx
 ·rw [apn];rcases apZ hy with hy|rfl
  ·exact g.win y hy
  ·exact g.win x hx
theorem PD {i:Nat} {x:Sn} {v:Bool} (g:BdM Pb bb N ord oJ down nv ov sv W) (hx:N[i]? =some x):
 Calls prog 29 #[pT bb,vi i,.bool v] W (Ret fun r w'=>r=.agg #[vi i,.bool v]/\BdM Pb bb (N.set i {x with asleep:=v}) ord oJ down nv ov sv w'/\Chg (fun k=>nv.ownBlock=some k) W w'):=by
 have hnl:=g.nl;have hi:i<N.length:=(List.getElem?_eq_some_iff.1 hx).1;replace g:=g.mono (Pb':=fun b=>Pb b/\b<W.heap.size) fun b hb e=>⟨e,hb⟩;obtain ⟨gb,abD,hgv,hgp,hgl,hgo⟩:=g.nd.a.row.blk (by intro e;rw [e] at hi;simp at hi);subst hgv;refine nM func29 rfl ntmps29 rfl ?_;refine qq4 ?_;refine Wl.alloc fun w1 b6 n1 s1=>?_;replace b6:Bk w1 W.heap.size 64 [vi 0,.bool false]:=b6;have g1:=g.new n1;refine qq2 ?_;refine ah (u:=.slice (some ⟨gb,0,none⟩) N.length abD) rfl (g1.b.cell (o:=0) rfl) ?_;(repeat' (refine aa1 ?_));refine dB (b:=gb) (off:=0) (l:=N.length) (cap:=abD) rfl rfl (by omega) (by omega) ?_;(repeat' (refine aa5 ?_));refine dX (f:=snC) (sz:=6) (p:=x) (q:={x with asleep:=v}) (j:=i) (o:=5) (cap:=abD) (u:=.bool v) (fun _=>rfl) (show (5:Nat)<6 by omega) rfl hx rfl g1.nd.a.row rfl (by show Value.pointer (some ⟨gb,0+(i:Int).toNat*6+5,none⟩)=_;simp) rfl fun w2 o2 c2=>?_;have g2:=g1.put hx o2 c2;have hz1:=n1.size;have hb6:=b6.lt;have aiU: ¬gb=W.heap.size:=by omega
 have b62:=b6.chg c2 fun e=>by injection e with e;exact aiU e
 refine qq2 ?_;refine aX (ps:=[(0,.tmp 15),(1,.tmp 16)]) (parts:=[(0,vi i),(1,.bool v)]) rfl rfl (by simp [Value.cells]) ?_;refine aH (new:=[vi i,.bool v]) b62 rfl rfl rfl rfl zl2 (by intro c hc;simp at hc;rcases hc with rfl|rfl<;>rfl) fun w3 b63 c3 s3=>?_;replace b63:Bk w3 W.heap.size 64 [vi i,.bool v]:=b63;have g3:=(g2.chg c3 fun k hk e=>by have:=hk.2;omega).mono (Pb':=Pb) fun b _ e=>e.1;refine qq7 ?_;exact fD (y5 rfl (qO rfl rfl b63 rfl)) ⟨_,rfl,rfl,g3,Chg.trans (Chg.trans n1.any c2 fun k _ e=>e) c3 fun k hk e=>by omega⟩
theorem VF (g:BdM Pb bb N ord oJ down nv ov sv W):
 Calls prog 18 #[pT bb] W (Ret fun r w'=>r=.bool down/\New W w'):=by
 refine nM func18 rfl ntmps18 rfl ?_;refine qq4 ?_;refine ji rfl rfl ?_;refine qq2 ?_;refine ah (u:=.bool down) rfl (g.b.cell (o:=3) rfl) ?_;refine qq3 ?_;exact ak rfl rfl ⟨_,rfl,rfl,ay _ _⟩
def wW (N:List Sn) (down:Bool) (i:Int) (v:Bool):Int:=
 if i<0∨(N.length:Int)<=i∨(N.getD i.toNat default).bound=false then 1 else if down=true∨aF N i.toNat=v then 5 else 0
theorem PE {i:Int} {v:Bool} (g:BdM Pb bb N ord oJ down nv ov sv W):
 Calls prog 38 #[pT bb,vi i,.bool v] W (Ret fun r w'=>r=vi (wW N down i v)/\New W w'):=by
 have hnl:=g.nl;obtain ⟨na,nc,rfl,_,_⟩:=g.nd.a.row.form;have hrd:=g.nd.a.row.rd (nS snC);have out:i<0∨(N.length:Int)<=i->wW N down i v=1:=fun h=>by unfold wW;rw [if_pos (h.imp id .inl)]
 refine nM func38 rfl ntmps38 rfl ?_;refine qq2 ?_;refine fG rfl rfl ?_;(repeat' (first|refine qq2 ?_|refine aa2 (fun _=>?_) (fun _=>?_)))
 ·rw [out (.inl (by omega))];exact ak rfl rfl ⟨_,rfl,rfl,ay _ _⟩
 ·refine ah (u:=.slice na N.length nc) rfl (g.b.cell (o:=0) rfl) ?_;(repeat' (first|refine qq2 ?_|refine aU rfl rfl (fun _=>?_) (fun _=>?_)))
  ·rw [out (.inr (by omega))];exact ak rfl rfl ⟨_,rfl,rfl,ay _ _⟩
  ·obtain ⟨k,rfl⟩:=ane (show 0<=i by omega);obtain ⟨x,hx⟩:=nT N (k:=k) (by omega);have hxd:N.getD k default=x:=by rw [an7,hx];rfl
   have hm:wW N down (k:Int) v=if x.bound=false then 1 else if down=true∨x.asleep=v then 5 else 0:=by
    unfold wW aF;rw [ant,hxd];by_cases hb:x.bound=false
    ·rw [if_pos (.inr (.inr hb)),if_pos hb]
    ·rw [if_neg (fun e=>e.elim (fun e=>by omega) fun e=>e.elim (fun e=>by omega) hb),if_neg hb]
   rw [hm];clear hm out;refine ah (u:=.slice na N.length nc) rfl (g.b.cell (o:=0) rfl) ?_;refine qq5 ?_;refine aK hrd rfl rfl (by omega) hx fun b o cs hl hR hat=>?_;obtain rfl:cs=snC x:=hR;refine qq2 ?_;refine ah (u:=.bool x.bound) rfl (hat.get 1 rfl) ?_;clear hat;cases x.bound with
   |false=>refine qq3 ?_;exact ak rfl rfl ⟨_,rfl,rfl,ay _ _⟩
   |true=>
    refine qq2 ?_;refine ah (u:=.bool down) rfl (g.b.cell (o:=3) rfl) ?_;cases down with
    |true=>refine qq3 ?_;exact ak rfl rfl ⟨_,rfl,rfl,ay _ _⟩
    |false=>
     refine qq2 ?_;refine ah (u:=.slice na N.length nc) rfl (g.b.cell (o:=0) rfl) ?_;refine qq5 ?_;refine aK hrd rfl rfl (by omega) hx fun b o cs hl hR hat=>?_;obtain rfl:cs=snC x:=hR;refine qq2 ?_;refine ah (u:=.bool x.asleep) rfl (hat.get 5 rfl) ?_;clear hat;refine qq5 ?_;refine Wl.aiT rfl rfl ?_
     cases x.asleep<;>cases v<;>(
      refine qq2 ?_;exact ak rfl rfl ⟨_,rfl,rfl,ay _ _⟩)
end
abbrev stC (p:Stp):List Value:=[vi p.1,.bool p.2]
theorem Bz:qH (flat stC) 2:=qA _ (fun _=>rfl) fun x c hc=>by simp at hc;rcases hc with rfl|rfl<;>rfl
section
variable {Pb:Nat->Prop} {bb:Nat} {N:List Sn} {ord oJ:List Nat} {down:Bool} {nv ov sv:Value} {W:World}
def MF (Pb:Nat->Prop) (bb:Nat) (N:List Sn) (ord oJ:List Nat) (down:Bool) (nv ov sv:Value) (W:World) (i:Int) (r:Value) (w':World):Prop:=
 (wW N down i true≠0/\r=.tuple #[.slice none 0 0,vi (wW N down i true)]/\New W w')∨
 (wW N down i true=0/\(N.getD i.toNat default).ol.all (aF N)=false/\r=.tuple #[.slice none 0 0,vi 240]/\New W w')∨
 (wW N down i true=0/\(N.getD i.toNat default).ol.all (aF N)=true/\ ∃v,r=.tuple #[v,vi 0]/\nP (flat stC) 64 2 (fun b=>W.heap.size<=b) NoB w' v [(i.toNat,true)]/\
   BdM Pb bb (N.set i.toNat {N.getD i.toNat default with asleep:=true}) ord oJ down nv ov sv w'/\Chg (fun k=>nv.ownBlock=some k) W w')
theorem KH {i:Int} {v:Bool} (h:wW N down i v=0): ∃k:Nat,i=k/\k<N.length:=by
 unfold wW at h;split at h
 ·cases h
 ·rename_i h1
  rw [not_or,not_or] at h1;exact ⟨i.toNat,by omega,by omega⟩
theorem RX {i:Int} (g:BdM Pb bb N ord oJ down nv ov sv W):
 Calls prog 20 #[pT bb,vi i] W (Ret fun r w'=>MF Pb bb N ord oJ down nv ov sv W i r w'):=by
 have hnl:=g.nl;obtain ⟨na,nc,hnv,_,_⟩:=g.nd.a.row.form;have hrd:=g.nd.a.row.rd (nS snC);refine nM func20 rfl ntmps20 rfl ?_;refine qq4 ?_;refine aj (PE g) rfl ?_;rintro _ w1 ⟨rfl,n1⟩;have g1:=g.new n1;by_cases hm:wW N down i true=0
 ·obtain ⟨k,rfl,hk⟩:=KH hm;obtain ⟨x,hx⟩:=nT N hk;have hxd:N.getD k default=x:=by rw [an7,hx];rfl
  have hxm:=aop hx;have hov:=(g1.nd.b.el x hxm).rd qw.mo;have hwin:=(g.win x hxm).2;rw [hm];have O1:=hrd.keep (oH snC) n1.keep;subst hnv;(repeat' (first|refine qq2 ?_|(refine aa4 (fun _=>?_) (fun _=>?_)<;>(first|(exfalso;omega)|skip))));refine ah (u:=.slice na N.length nc) rfl (g1.b.cell (o:=0) rfl) ?_;(repeat' (refine aa1 ?_));refine aK O1 rfl rfl (by omega) hx fun b o cs hl hR hat=>?_;obtain rfl:cs=snC x:=hR;obtain ⟨oa,oc,hoe,_,hom⟩:=hov.form;simp only [maxLen] at hom;(repeat' (refine aa5 ?_));refine ah (u:=svV x.ov) rfl (hat.get 4 rfl) ?_;clear hat;rw [hoe] at hov ⊢;refine qq4 ?_;refine aA (σ:=Nat) (fun q=>[(0,pT bb),(1,vi k),(22,.slice oa x.ol.length oc),(23,vi x.ol.length),(24,vi q)]) (fun q w'=>q<=x.ol.length/\(∀m∈x.ol.take q,aF N m=true)/\New w1 w') (fun q=>x.ol.length-q) 0 (sl rfl) ⟨anq _,by simp,ay _ _⟩ ?_;rintro q G w2 ⟨hq,hall,n2⟩;simp only [pq];have g2:=g1.new n2;(repeat' (first|refine qq4 ?_|refine aa2 (fun _=>?_) (fun _=>?_)))
  ·obtain ⟨m,hm2⟩:=nT x.ol (k:=q) (by omega);have hml:=hwin m (aop hm2);obtain ⟨y,hy⟩:=nT N hml;have hya:aF N m=y.asleep:=by unfold aF;rw [an7,hy];rfl
   refine aZ (hov.keep (nZ _) n2.keep) rfl rfl (by omega) hm2 fun b o hcell=>?_;refine ah (u:=vi m) rfl hcell ?_;refine qq2 ?_;refine ah (u:=.slice na N.length nc) rfl (g2.b.cell (o:=0) rfl) ?_;(repeat' (refine aa1 ?_));refine aK (O1.keep (oH snC) n2.keep) rfl rfl (by omega) hy fun b o cs hl hR hat=>?_;obtain rfl:cs=snC y:=hR;(repeat' (refine aa5 ?_));refine ah (u:=.bool y.asleep) rfl (hat.get 5 rfl) ?_;clear hat;cases hys:y.asleep with
   |true=>
    refine qq2 ?_;refine ax (q+1) (sl rfl) ⟨by omega,fun m2 hm3=>?_,n2⟩ (by omega);rw [take_snoc hm2] at hm3;rcases List.mem_append.1 hm3 with h|h
    ·exact hall m2 h
    ·rw [aqi] at h;rw [h,hya,hys]
   |false=>refine qq3 ?_;refine aB rfl rfl rfl ⟨_,rfl,.inr (.inl ⟨hm,?_,rfl,New.trans n1 n2⟩)⟩;rw [ant,hxd,List.all_eq_false];exact ⟨m,aop hm2,by rw [hya,hys];decide⟩
  ·obtain rfl:q=x.ol.length:=by omega
   rw [aon] at hall;refine aj (PD (v:=true) g2 hx) rfl ?_;rintro _ w3 ⟨rfl,g3,c3⟩;refine bC (R:=flat stC) (Pe:=NoB) (y:=(k,true)) Bz rfl rfl rfl rfl (by omega) (by omega) fun v5 w5 o5 n5 s5 e5=>?_;have hz1:=n1.size;have hz2:=n2.size;have hz3:=c3.size;refine qq3 ?_;refine aB rfl rfl rfl ⟨_,rfl,.inr (.inr ⟨hm,?_,v5,rfl,?_,?_,?_⟩)⟩
   ·rw [ant,hxd,List.all_eq_true];exact hall
   ·rw [ant];exact o5.mono (nS _) (fun b _ e=>by have e:w3.heap.size<=b:=e;show W.heap.size<=b;omega) i3
   ·rw [ant,hxd];exact g3.new n5
   ·exact Chg.trans (Chg.trans (New.trans n1 n2).any c3 i3) n5.any i3
 ·have fin: ∀w',New W w'->MF Pb bb N ord oJ down nv ov sv W i (.tuple #[.slice none 0 0,vi (wW N down i true)]) w':=fun w' n=>.inl ⟨hm,rfl,n⟩;generalize wW N down i true=mm at*;(repeat' (first|refine qq5 ?_|(refine aa4 (fun _=>?_) (fun _=>?_)<;>(first|(exfalso;omega)|skip))));exact aB rfl rfl rfl ⟨_,rfl,fin _ n1⟩
end
theorem FD {Pb:Nat->Prop} {w:World} {v:Value} {l:List Sn} {p:Sn->Bool} {g:FuncId} {cap:Array Value} [hc:nN prog g] (h:RdS (flat snC) 6 Pb w v l)
 (hf: ∀y w',y∈l->New w w'->Calls prog g ([Value.agg (snC y).toArray]++cap.toList).toArray w' (Ret fun r w''=>r=.bool (p y)/\New w' w'')):
 Calls prog 52 #[v,.func (.func g) #[] cap] w (Ret fun r w'=>r=vi (idx p l)/\New w w'):=by
 obtain ⟨a,cp,rfl,hc1,hc2⟩:=h.form;simp only [maxLen] at hc2;refine nM func52 rfl ntmps52 rfl ?_;refine qq2 ?_;refine aA (σ:=Nat) (fun i=>[(0,.slice a l.length cp),(1,.func (.func g) #[] cap),(7,vi l.length),(8,vi i)]) (fun i w'=>i<=l.length/\(∀x∈l.take i,p x=false)/\New w w') (fun i=>l.length-i) 0 (sl rfl) ⟨anq _,by simp,ay _ _⟩ ?_;rintro i G w1 ⟨hi,hall,n1⟩;simp only [pq];(repeat' (first|refine qq4 ?_|refine aa2 (fun _=>?_) (fun _=>?_)))
 ·obtain ⟨y,hy⟩:=nT l (k:=i) (by omega);refine dF h n1.keep rfl rfl (by omega) hy fun b o cs hl hR hat=>?_;obtain rfl:cs=snC y:=hR;refine aS hat rfl rfl ?_;refine bP (dst:=some 16) rfl (hf y w1 (aop hy) n1) rfl ?_;rintro _ w2 ⟨rfl,n2⟩;simp only [wI];cases hp:p y with
  |true=>refine qq3 ?_;refine ak rfl rfl ⟨_,rfl,?_,New.trans n1 n2⟩;rw [Eb hy hall hp];rfl
  |false=>refine qq2 ?_;exact ax (i+1) (sl rfl) ⟨by omega,AY hy hall hp,New.trans n1 n2⟩ (by omega)
 ·have e:i=l.length:=by omega
  subst e;rw [aon] at hall;refine ak rfl rfl ⟨_,rfl,?_,n1⟩;rw [yY hall];rfl
abbrev wkC (x:Wkr):List Value:=[vi x.1,vs x.2]
theorem PG {w:World} {b:Nat} {c:Wkr} {x:Sn} (h:Bk w b 75 (wkC c)):
 Calls prog 53 #[.agg (snC x).toArray,.pointer (some ⟨b,0,none⟩)] w (Ret fun r w'=>r=.bool (x.path == c.2)/\New w w'):=by
 refine nM func53 rfl ntmps53 rfl ?_;refine qq4 ?_;refine Wl.box rfl fun w1 b1 n1 s1=>?_;replace b1:Bk w1 w.heap.size 94 (snC x):=b1;replace h:=h.chg n1 id;refine qq2 ?_;refine ah (u:=vs x.path) rfl (b1.cell (o:=0) rfl) ?_;(repeat' (refine aa5 ?_));refine ah (u:=vs c.2) rfl (h.cell (o:=1) rfl) ?_;refine eU rfl rfl (fun e=>?_) (fun e=>?_)
 ·rw [show (x.path == c.2)=true by simpa using e];refine qq3 ?_;exact ak rfl rfl ⟨_,rfl,rfl,n1⟩
 ·rw [show (x.path == c.2)=false by simpa using e];refine qq3 ?_;exact ak rfl rfl ⟨_,rfl,rfl,n1⟩
theorem MG:qH (flat wkC) 2:=qA _ (fun _=>rfl) fun x c hc=>by simp at hc;rcases hc with rfl|rfl<;>rfl
def rD (N:List Sn):List Wkr->Int->Int
 | [],_=> -1
 |x::r,k=>if x.1=k/\0<=idx (fun s:Sn=>s.path == x.2) N/\(N.getD (idx (fun s:Sn=>s.path == x.2) N).toNat default).bound=true/\(N.getD (idx (fun s:Sn=>s.path == x.2) N).toNat default).xM=true then idx (fun s:Sn=>s.path == x.2) N else rD N r k
section
variable {Pb Pw:Nat->Prop} {bb:Nat} {N:List Sn} {ord oJ:List Nat} {down:Bool} {nv ov sv wv:Value} {wakes:List Wkr} {W:World}
theorem RY {k:Int} (g:BdM Pb bb N ord oJ down nv ov sv W) (hw:RdS (flat wkC) 2 Pw W wv wakes):
 Calls prog 33 #[pT bb,wv,vi k] W (Ret fun r w'=>r=vi (rD N wakes k)/\New W w'):=by
 have hnl:=g.nl;obtain ⟨na,nc,rfl,_,_⟩:=g.nd.a.row.form;obtain ⟨wa,wc,rfl,_,hwm⟩:=hw.form;simp only [maxLen] at hwm;have hrd:=g.nd.a.row.rd (nS snC);refine nM func33 rfl ntmps33 rfl ?_;refine qq2 ?_;refine aA (σ:=Nat) (fun q=>[(0,pT bb),(2,vi k),(10,.slice wa wakes.length wc),(11,vi wakes.length),(12,vi q)]) (fun q w'=>q<=wakes.length/\rD N wakes k=rD N (wakes.drop q) k/\New W w') (fun q=>wakes.length-q) 0 (sl rfl) ⟨anq _,rfl,ay _ _⟩ ?_;rintro q G w1 ⟨hq,hgo,n1⟩;simp only [pq];(repeat' (first|refine qq4 ?_|refine aa2 (fun _=>?_) (fun _=>?_)))
 ·obtain ⟨x,hx⟩:=nT wakes (k:=q) (by omega);rw [drop_cons hx,rD] at hgo;refine aK (hw.keep (oH wkC) n1.keep) rfl rfl (by omega) hx fun b o cs hl hR hat=>?_;obtain rfl:cs=wkC x:=hR;refine aS hat rfl rfl ?_;clear hat;refine Wl.alloc fun w2 b8 n2 s2=>?_;refine aH (new:=wkC x) b8 rfl rfl rfl rfl zl2 (by intro c hc;simp at hc;rcases hc with rfl|rfl<;>rfl) fun w3 b83 c3 s3=>?_;replace b83:Bk w3 w1.heap.size 75 (wkC x):=b83;have n13:New w1 w3:=(Chg.trans n2.any c3 i3).tN
  have g3:=g.new (New.trans n1 n13);have ad3:=(hrd.keep (oH snC) n1.keep).keep (oH snC) n13.keep;clear b8 n2 c3;refine qq2 ?_;refine ah (u:=.slice na N.length nc) rfl (g3.b.cell (o:=0) rfl) ?_;refine dn (f1:=[]) (c1:=[pT w1.heap.size]) rfl rfl ?_;refine aj (FD (p:=fun s=>s.path == x.2) (g:=53) (cap:= #[pT w1.heap.size]) ad3 fun y w' _ n=>PG (b83.chg n id)) rfl ?_;rintro _ w4 ⟨rfl,n4⟩;have n04:=New.trans n1 (New.trans n13 n4);have g4:=g.new n04;have b84:=b83.chg n4 id;have ad4:=ad3.keep (oH snC) n4.keep;have ha:idx (fun s:Sn=>s.path == x.2) N= -1∨ ∃(j:Nat) (y:Sn),idx (fun s:Sn=>s.path == x.2) N=(j:Int)/\N[j]? =some y:=by
   have h:=xB (p:=fun s:Sn=>s.path == x.2) N;unfold idx;cases hf:N.findIdx? (fun s:Sn=>s.path == x.2) with
   |none=>exact .inl rfl
   |some j=>rw [hf] at h;obtain ⟨y,hy,_⟩:=h;exact .inr ⟨j,y,rfl,hy⟩
  generalize idx (fun s:Sn=>s.path == x.2) N=a at*;have next: ∀w',New w4 w'-> ¬(x.1=k/\0<=a/\(N.getD a.toNat default).bound=true/\(N.getD a.toNat default).xM=true)->q+1<=wakes.length/\rD N wakes k=rD N (wakes.drop (q+1)) k/\New W w':=fun w' n h=>⟨by omega,by rw [hgo,if_neg h],New.trans n04 n⟩
  refine qq2 ?_;refine ah (u:=vi x.1) rfl (b84.cell (o:=0) rfl) ?_;(repeat' (first|refine qq2 ?_|refine aU rfl rfl (fun _=>?_) (fun _=>?_)|refine bJ rfl rfl (fun _=>?_) (fun _=>?_)))
  ·rcases ha with rfl|⟨j,y,rfl,hy⟩
   ·omega
   ·have hj:j<N.length:=(List.getElem?_eq_some_iff.1 hy).1;have hyd:N.getD (j:Int).toNat default=y:=by rw [ant,an7,hy];rfl
    rw [hyd] at hgo next
    refine ah (u:=.slice na N.length nc) rfl (g4.b.cell (o:=0) rfl) ?_;refine qq5 ?_;refine aK ad4 rfl rfl (by omega) hy fun b o cs hl hR hat=>?_;obtain rfl:cs=snC y:=hR;refine qq2 ?_;refine ah (u:=.bool y.bound) rfl (hat.get 1 rfl) ?_;clear hat;cases hyb:y.bound with
    |false=>refine qq2 ?_;exact ax (q+1) (sl rfl) (next w4 (ay _ _) fun h=>by rw [hyb] at h;cases h.2.2.1) (by omega)
    |true=>
     refine qq2 ?_;refine ah (u:=.slice na N.length nc) rfl (g4.b.cell (o:=0) rfl) ?_;refine qq5 ?_;refine aK ad4 rfl rfl (by omega) hy fun b o cs hl hR hat=>?_;obtain rfl:cs=snC y:=hR;refine qq2 ?_;refine ah (u:=.bool y.xM) rfl (hat.get 2 rfl) ?_;clear hat;cases hyw:y.xM with
     |false=>refine qq2 ?_;exact ax (q+1) (sl rfl) (next w4 (ay _ _) fun h=>by rw [hyw] at h;cases h.2.2.2) (by omega)
     |true=>rw [if_pos ⟨by omega,by omega,hyb,hyw⟩] at hgo;refine qq3 ?_;exact ak rfl rfl ⟨_,rfl,by rw [hgo];rfl,n04⟩
  ·exact ax (q+1) (sl rfl) (next w4 (ay _ _) fun h=>by have:=h.2.1;omega) (by omega)
  ·exact ax (q+1) (sl rfl) (next w4 (ay _ _) fun h=>by have:=h.1;omega) (by omega)
 ·obtain rfl:q=wakes.length:=by omega
  rw [List.drop_length,rD] at hgo;exact ak rfl rfl ⟨_,rfl,by rw [hgo];rfl,n1⟩
end
def bdN (N:List Sn) (i:Nat):Bool:=(N.getD i default).bound
def ptN (N:List Sn) (i:Nat):Nm:=(N.getD i default).path
def hgN (N:List Sn) (i:Nat):List Nat:=(N.getD i default).hl
def ovN (N:List Sn) (i:Nat):List Nat:=(N.getD i default).ol
theorem uf {N:List Sn} {i:Nat} {x:Sn} (h:N[i]? =some x):bdN N i=x.bound/\ptN N i=x.path/\hgN N i=x.hl/\ovN N i=x.ol:=by
 have e:N.getD i default=x:=by rw [an7,h];rfl
 unfold bdN ptN hgN ovN;rw [e];exact ⟨rfl,rfl,rfl,rfl⟩
def fnL (n:Nat) (f:Nat->Int):List Int:=(ab8 n).map f
theorem tJ (n:Nat) (f:Nat->Int):(fnL n f).length=n:=by unfold fnL;rw [aoR,apP]
theorem He {n k:Nat} {f:Nat->Int} (h:k<n):(fnL n f)[k]? =some (f k):=by unfold fnL;rw [an3,aoT h];rfl
theorem Jh {n:Nat} {f g:Nat->Int} (h: ∀i,i<n->f i=g i):fnL n f=fnL n g:=by
 unfold fnL;exact List.map_congr_left fun i hi=>h i (List.mem_range.1 hi)
theorem MH {n k:Nat} {f g:Nat->Int} {v:Int} (h: ∀i,g i=if i=k then v else f i):(fnL n f).set k v=fnL n g:=by
 apply anC;intro i;rw [anO];by_cases hi:i<n
 ·rw [He (f:=g) hi,h i];by_cases e:k=i
  ·subst e;rw [if_pos rfl,if_pos (by rw [tJ];exact hi),if_pos rfl]
  ·rw [if_neg e,if_neg (fun q=>e q.symm),He hi]
 ·rw [anl (by rw [tJ];omega:(fnL n g).length<=i)];by_cases e:k=i
  ·subst e;rw [if_pos rfl,if_neg (by rw [tJ];omega)]
  ·rw [if_neg e,anl (by rw [tJ];omega)]
theorem ZI (n:Nat):aok n (0:Int)=fnL n fun _=>0:=by
 unfold fnL;rw [List.map_const',apP]
theorem Ji: ∀ {l:List Nat} {n:Nat},l.Nodup->(∀k∈l,k<n)->l.length<=n:=by
 intro l n h1 h2;have h3: ∀(m:List Nat) (l:List Nat),l.Nodup->(∀k∈l,k∈m)->l.length<=m.length:=by
  intro m;induction m with
  |nil=>
   intro l _ h;cases l with
   |nil=>exact aap _
   |cons a r=>exact absurd (h a ap2) (by simp)
  |cons a r ih=>
   intro l hl h;have:=ih (l.erase a) (hl.erase a) fun k hk=>by
    rcases List.mem_cons.1 (h k (List.mem_of_mem_erase hk)) with e|e
    ·subst e;exact absurd hk (by rw [hl.mem_erase_iff];exact fun q=>q.1 rfl)
    ·exact e
   have h4:l.length<=(l.erase a).length+1:=by rw [List.length_erase];split<;>omega
   rw [anJ];omega
 have:=h3 (ab8 n) l h1 fun k hk=>List.mem_range.2 (h2 k hk)
 rwa [apP] at this
section
variable {n:Nat} {b:Nat->Bool} {path:Nat->Nm} {h o:Nat->List Nat}
theorem WkI.init:WkI n b h [] fun i=>((h i).length:Nat):=⟨fun k=>by rw [if_neg (by simp)];simp,fun k hk=>(by cases hk),aqo,fun k hk=>(by cases hk)⟩
theorem WkI.le {O:List Nat} {L:Nat->Int} (I:WkI n b h O L):O.length<=n:=Ji I.nd fun k hk=>(I.bn k hk).1
theorem WkI.low {O:List Nat} {L:Nat->Int} (I:WkI n b h O L) (k:Nat): -1<=L k/\L k<=(h k).length:=by
 rw [I.l k];split
 ·omega
 ·have:(h k).countP (fun j=>decide (j∉O))<=(h k).length:=aqA;omega
def wP (o:Nat->List Nat) (L:Nat->Int) (k m:Nat):Nat->Int:=fun i=>(if i=k then-1 else L i)-((((o k).take m).count i:Nat):Int)
theorem VG {O:List Nat} {L:Nat->Int} {k m:Nat} (I:WkI n b h O L) (hc: ∀j k,(o j).count k=(h k).count j) (hp:zl n b path L=some k) (i:Nat): -1<=wP o L k m i/\wP o L k m i<=(h i).length:=by
 have h1:=((I.step hc hp).2.2.low i).1;have h2:=(I.low i).2;unfold Px at h1;unfold wP;have h3:((o k).take m).count i<=(o k).count i:=(List.take_sublist _ _).count_le i;split at h1<;>rename_i e
 ·rw [if_pos e];omega
 ·rw [if_neg e];omega
theorem RZ {L:Nat->Int} {k m j:Nat} (hj:(o k)[m]? =some j) (i:Nat):wP o L k (m+1) i=if i=j then wP o L k m j-1 else wP o L k m i:=by
 unfold wP;rw [take_snoc hj];by_cases e:i=j
 ·subst e;rw [if_pos rfl,aqD,List.count_singleton_self];omega
 ·rw [if_neg e,aqD,List.count_eq_zero.2 (by rw [aqi];exact e:i∉ [j])];omega
end
theorem PI {Pb:Nat->Prop} {bb:Nat} {N:List Sn} {ord oJ:List Nat} {down:Bool} {nv ov sv:Value} {W:World} (g:BdM Pb bb N ord oJ down nv ov sv W) (hc: ∀j k,(ovN N j).count k=(hgN N k).count j):
 Calls prog 27 #[pT bb] W (Ret fun r w'=>nP (Wk.one viN) 3 1 (fun b=>W.heap.size<=b) NoB w' r (EG N.length (bdN N) (ptN N) (hgN N) (ovN N))/\New W w'):=by
 have hnl:=g.nl;replace g:=g.mono (Pb':=fun b=>Pb b/\b<W.heap.size) fun b hb e=>⟨e,hb⟩;obtain ⟨na,nc,rfl,_,_⟩:=g.nd.a.row.form;have hrd:=g.nd.a.row.rd (nS snC);refine nM func27 rfl ntmps27 rfl ?_;refine qq2 ?_;refine ah (u:=.slice na N.length nc) rfl (g.b.cell (o:=0) rfl) ?_;(repeat' (refine bU rfl ?_));refine eY (f:=vi) (y0:=(0:Int)) (Pe:=NoB) rfl rfl rfl (by omega) (by omega) (by omega) fun lv w1 o1 n1=>?_;rw [ant,ZI] at o1;have g1:=g.new n1;refine qq2 ?_;refine ah (u:=.slice na N.length nc) rfl (g1.b.cell (o:=0) rfl) ?_;refine qq4 ?_;refine aA (σ:=Nat) (fun q=>[(0,pT bb),(3,lv),(21,.slice na N.length nc),(22,vi N.length),(23,vi q)]) (fun q W'=>q<=N.length/\nP (Wk.one vi) 3 1 (fun b=>W.heap.size<=b) NoB W' lv (fnL N.length fun i=>if i<q then ((hgN N i).length:Nat) else 0)/\New W W') (fun q=>N.length-q) 0 (sl rfl) ⟨anq _,by rw [Jh (g:=fun _=>0) fun i _=>if_neg (aqw i)];exact o1,n1⟩ ?_;rintro q G w2 ⟨hq,own,n2⟩;simp only [pq];have hlo: ∀k,lv.ownBlock=some k->W.heap.size<=k:=fun k hk=>(own.lt hk).1;(repeat' (first|refine qq4 ?_|refine aa2 (fun _=>?_) (fun _=>?_)))
 ·obtain ⟨x,hx⟩:=nT N (k:=q) (by omega);have hxm:=aop hx;have hxg:=uf hx;refine dF hrd n2.keep rfl rfl (by omega) hx fun b o cs hl hR hat=>?_;obtain rfl:cs=snC x:=hR;refine aS hat rfl rfl ?_;clear hat;refine Wl.alloc fun w3 b3 n3 s3=>?_;(repeat' (refine aa7 ?_));refine aH (new:=snC x) b3 rfl rfl rfl rfl zl6 (abC x) fun w4 b4 c4 s4=>?_;replace b4:Bk w4 w2.heap.size 94 (snC x):=b4;have n24:New w2 w4:=(Chg.trans n3.any c4 i3).tN
  clear b3 n3 c4;obtain ⟨ha,hcp,hhe,_,hhm⟩:=(g.nd.a.el x hxm).form;simp only [maxLen] at hhm;refine qq6 ?_;refine ah (u:=svV x.hv) rfl (b4.cell (o:=3) rfl) ?_;rw [hhe];(repeat' (refine bU rfl ?_));have own4:=own.new (nO _) n24;obtain ⟨lg,lc,hlv,_,_,_⟩:=own4.blk (by intro e;have:=congrArg apq e;rw [tJ,an8] at this;omega);rw [tJ] at hlv;refine dB (b:=lg) (off:=0) (l:=N.length) (cap:=lc) hlv rfl (by omega) (by omega) ?_;refine dS (f:=vi) (q:=((x.hl.length:Nat):Int)) (j:=q) (cap:=lc) own4 (by rw [tJ];exact hlv) (by rw [tJ];omega) (by show Value.pointer (some ⟨lg,0+(q:Int).toNat*1,none⟩)=_;simp) rfl rfl rfl fun w5 o5 c5=>?_;rw [MH (g:=fun i=>if i<q+1 then ((hgN N i).length:Nat) else 0) (fun i=>by
   by_cases e:i=q
   ·subst e;rw [if_pos rfl,if_pos (by omega),hxg.2.2.1]
   ·rw [if_neg e];by_cases e2:i<q
    ·rw [if_pos e2,if_pos (by omega)]
    ·rw [if_neg e2,if_neg (by omega)])] at o5
  refine qq6 ?_;exact ax (q+1) (sl rfl) ⟨by omega,o5,(Chg.trans (New.trans n2 n24).any c5 i3).toNew fun k hk e=>by have:=hlo k e;omega⟩ (by omega)
 obtain rfl:q=N.length:=by omega
 rw [Jh (g:=fun i=>((hgN N i).length:Nat)) fun i hi=>if_pos hi] at own;refine aA (σ:=List Nat×(Nat->Int)×Value) (fun q=>[(0,pT bb),(3,lv),(6,q.2.2)]) (fun q W'=>WkI N.length (bdN N) (hgN N) q.1 q.2.1/\EG N.length (bdN N) (ptN N) (hgN N) (ovN N)=q.1++xJ N.length (bdN N) (ptN N) (ovN N) (N.length+1-q.1.length) q.2.1/\nP (Wk.one vi) 3 1 (fun b=>W.heap.size<=b) NoB W' lv (fnL N.length q.2.1)/\nP (Wk.one viN) 3 1 (fun b=>W.heap.size<=b) NoB W' q.2.2 q.1/\Sep lv q.2.2/\New W W') (fun q=>N.length-q.1.length) ([],(fun i=>((hgN N i).length:Nat)),.slice none 0 0) (sl rfl) ⟨WkI.init,rfl,own,aI,(fun k _ e=>by cases e),n2⟩ ?_;clear own o1 n1 g1 n2;rintro ⟨O,L,v⟩ G0 w3 ⟨hI,hgo,own,oO,hsep,n3⟩;dsimp only at hI hgo own oO hsep n3;simp only [pq];have hOl:=hI.le;have g3:=g.new n3;refine qq2 ?_;refine ah (u:=.slice na N.length nc) rfl (g3.b.cell (o:=0) rfl) ?_;refine qq4 ?_;refine aA (σ:=Nat×Option Nat) (fun q=>[(0,pT bb),(3,lv),(6,v),(7,vi (pU q.2)),(38,.slice na N.length nc),(39,vi N.length),(40,vi q.1)]) (fun q W'=>q.1<=N.length/\zl N.length (bdN N) (ptN N) L=uo (bdN N) (ptN N) L q.2 ((ab8 N.length).drop q.1)/\(∀j,q.2=some j->j<N.length)/\New w3 W') (fun q=>N.length-q.1) (0,none) (sl rfl) ⟨anq _,rfl,(fun j e=>by cases e),ay _ _⟩ ?_;rintro ⟨q,a⟩ G w4 ⟨hq,hpk,haj,n4⟩;dsimp only at hq hpk haj n4;simp only [pq];(repeat' (first|refine Uu ?_|refine aa2 (fun _=>?_) (fun _=>?_)))
 ·obtain ⟨x,hx⟩:=nT N (k:=q) (by omega);have hxg:=uf hx;rw [drop_cons (show (ab8 N.length)[q]? =some q by rw [aoT (by omega)]),uo,hxg.1,hxg.2.1] at hpk;have n04:=New.trans n3 n4;refine dF hrd n04.keep rfl rfl (by omega) hx fun b o cs hl hR hat=>?_;obtain rfl:cs=snC x:=hR;refine aS hat rfl rfl ?_;clear hat;refine Wl.alloc fun w5 b5 n5 s5=>?_;(repeat' (refine aa7 ?_));refine aH (new:=snC x) b5 rfl rfl rfl rfl zl6 (abC x) fun w6 b6 c6 s6=>?_;replace b6:Bk w6 w4.heap.size 94 (snC x):=b6;have n46:New w4 w6:=(Chg.trans n5.any c6 i3).tN
  clear b5 n5 c6;have n36:=New.trans n4 n46;have nx0: ∀w',New w6 w'-> ¬(x.bound=true/\L q=0/\ ∀j,a=some j->x.path<ptN N j)->q+1<=N.length/\zl N.length (bdN N) (ptN N) L=uo (bdN N) (ptN N) L a ((ab8 N.length).drop (q+1))/\(∀j,a=some j->j<N.length)/\New w3 w':=fun w' n h=>by rw [if_neg h] at hpk;exact ⟨by omega,hpk,haj,New.trans n36 n⟩
  have nx1: ∀w',New w6 w'->(x.bound=true/\L q=0/\ ∀j,a=some j->x.path<ptN N j)->q+1<=N.length/\zl N.length (bdN N) (ptN N) L=uo (bdN N) (ptN N) L (some q) ((ab8 N.length).drop (q+1))/\(∀j,some q=some j->j<N.length)/\New w3 w':=fun w' n h=>by rw [if_pos h] at hpk;exact ⟨by omega,hpk,fun j e=>by cases e;omega,New.trans n36 n⟩
  clear hpk;have g6:=g.new (New.trans n3 n36);have oL:=(own.new (nO _) n36).rd (nV _);have hLq:=He (f:=L) (show q<N.length by omega);refine qq4 ?_;refine fF rfl (by kernel_rfl) ?_;(repeat' (refine aa6 ?_));refine au (u:=.bool x.bound) rfl (fun w' hw=>(b6.chg hw id).cell (o:=1) rfl) ?_;cases hb:x.bound with
  |false=>(repeat' (first|refine aa3 ?_|refine af ?_|refine fE rfl rfl ?_|refine iU rfl ?_|refine yO ?_));intro w7 n7;refine qq2 ?_;exact ax (q+1,a) (sl rfl) (nx0 w7 n7 fun h=>by rw [hb] at h;cases h.1) (by dsimp only;omega)
  |true=>
   (repeat' (first|refine aa3 ?_|refine aW rfl rfl ?_));refine dD oL (fun w' hw=>hw.keep) rfl rfl (by omega) hLq fun b o hcell=>?_;(try refine aW rfl rfl ?_);refine au (u:=vi (L q)) rfl hcell ?_;clear hcell;by_cases hL0:L q=0
   ·rw [hL0];cases a with
    |none=>rw [show pU none=(-1:Int) from rfl];(repeat' (first|refine aa3 ?_|refine af ?_|refine aW rfl rfl ?_|refine fE rfl rfl ?_|refine aa9 ?_|(refine dN rfl rfl (fun _=>?_) (fun _=>?_)<;>(first|(exfalso;omega)|skip))|(refine gQ rfl rfl (fun _=>?_) (fun _=>?_)<;>(first|(exfalso;omega)|skip))));intro w7 n7;refine qq6 ?_;exact ax (q+1,some q) (sl rfl) (nx1 w7 n7 ⟨hb,hL0,fun j e=>by cases e⟩) (by dsimp only;omega)
    |some j=>
     rw [show pU (some j)=(j:Int) from rfl];have hjl:=haj j rfl;obtain ⟨y,hy⟩:=nT N hjl;have hyg:=uf hy;(repeat' (first|refine aa3 ?_|refine aW rfl rfl ?_|refine aa9 ?_|refine aa6 ?_|(refine dN rfl rfl (fun _=>?_) (fun _=>?_)<;>(first|(exfalso;omega)|skip))|(refine gQ rfl rfl (fun _=>?_) (fun _=>?_)<;>(first|(exfalso;omega)|skip))));refine au (u:=vs x.path) rfl (fun w' hw=>(b6.chg hw id).cell (o:=0) rfl) ?_;(repeat' (first|refine aa3 ?_|refine aW rfl rfl ?_|refine dA rfl ?_|refine aa6 ?_));refine au (u:=.slice na N.length nc) rfl (fun w' hw=>(g6.b.chg hw id).cell (o:=0) rfl) ?_;(repeat' (first|refine aa3 ?_|refine aW rfl rfl ?_));refine bQ (w:=w6) (hrd.keep (oH snC) (New.trans n3 n36).keep) (fun w' hw=>hw.keep) rfl rfl (by omega) hy fun b o cs hl hR hat=>?_;obtain rfl:cs=snC y:=hR;(repeat' (first|refine aW rfl rfl ?_|refine aa6 ?_));refine au (u:=vs y.path) rfl (fun w' hw=>(hat w' hw).get 0 rfl) ?_;(try refine aW rfl rfl ?_);refine kC rfl rfl (fun e=>?_) (fun e=>?_)
     ·(repeat' (first|refine af ?_|refine aW rfl rfl ?_|refine aa9 ?_|refine yO ?_));intro w7 n7;refine qq6 ?_;exact ax (q+1,some q) (sl rfl) (nx1 w7 n7 ⟨hb,hL0,fun j' e'=>by cases e';rw [hyg.2.1];exact e⟩) (by dsimp only;omega)
     ·(repeat' (first|refine af ?_|refine aW rfl rfl ?_|refine aa9 ?_|refine yO ?_));intro w7 n7;refine qq2 ?_;exact ax (q+1,some j) (sl rfl) (nx0 w7 n7 fun h=>e (by have:=h.2.2 j rfl;rwa [hyg.2.1] at this)) (by dsimp only;omega)
   ·(repeat' (first|refine aa3 ?_|refine af ?_|refine aW rfl rfl ?_|refine fE rfl rfl ?_|refine iU rfl ?_|refine aa9 ?_|refine yO ?_|(refine gQ rfl rfl (fun _=>?_) (fun _=>?_)<;>(first|(exfalso;omega)|skip))));intro w7 n7;refine qq2 ?_;exact ax (q+1,a) (sl rfl) (nx0 w7 n7 fun h=>hL0 h.2.1) (by dsimp only;omega)
 ·have n04:=New.trans n3 n4;obtain rfl:q=N.length:=by omega
  rw [aoO (by rw [apP];exact aap _),uo] at hpk;rw [show N.length+1-O.length=(N.length-O.length)+1 by omega,xJ,hpk] at hgo;have e0:pU a<0:=by omega
  cases a with
  |none=>dsimp only at hgo;rw [aoS] at hgo;exact ak rfl rfl ⟨_,rfl,by rw [hgo];exact oO.new (nO _) n4,n04⟩
  |some k=>have e1:pU (some k)=(k:Int):=rfl;omega
 ·have n04:=New.trans n3 n4;obtain rfl:q=N.length:=by omega
  rw [aoO (by rw [apP];exact aap _),uo] at hpk;rw [show N.length+1-O.length=(N.length-O.length)+1 by omega,xJ,hpk] at hgo;have e0: ¬pU a<0:=by omega
  cases a with
  |none=>exact absurd (show pU none<0 by decide) e0
  |some k=>
   clear e0;dsimp only at hgo;have own4:=own.new (nO _) n4;have oO4:=oO.new (nO _) n4;obtain ⟨hkl,hkb,hkL⟩:=Dy hpk;obtain ⟨x,hx⟩:=nT N hkl;have hxg:=uf hx;have hxm:=aop hx;obtain ⟨hkO,_,hI'⟩:=hI.step hc hpk;have aiV:=hI'.le;rw [am7,anM] at aiV;obtain ⟨lg,lc,hlv,_,_,_⟩:=own4.blk (by intro e;have:=congrArg apq e;rw [tJ,an8] at this;omega);rw [tJ] at hlv;rw [show pU (some k)=(k:Int) from rfl];refine dB (b:=lg) (off:=0) (l:=N.length) (cap:=lc) hlv rfl (by omega) (by omega) ?_;refine dS (f:=vi) (q:=(-1:Int)) (j:=k) (cap:=lc) own4 (by rw [tJ];exact hlv) (by rw [tJ];omega) (by show Value.pointer (some ⟨lg,0+(k:Int).toNat*1,none⟩)=_;simp) rfl rfl rfl fun w5 o5 c5=>?_;rw [MH (g:=wP (ovN N) L k 0) (fun i=>by unfold wP;rw [List.take_zero,List.count_nil];split<;>simp)] at o5;have n5:New W w5:=(Chg.trans n04.any c5 i3).toNew fun j hj e=>by have:=hlo j e;omega
   have g5:=g.new n5;have oO5:=oO4.chg (nO _) c5 fun j hj e=>hsep j e hj;clear own4 oO4 c5 n04 own oO n4;refine qq2 ?_;refine ah (u:=.slice na N.length nc) rfl (g5.b.cell (o:=0) rfl) ?_;(repeat' (refine aa1 ?_));refine dF hrd n5.keep rfl rfl (by omega) hx fun b o cs hl hR hat=>?_;obtain rfl:cs=snC x:=hR;obtain ⟨oa,oc,hoe,_,hom⟩:=((g.nd.b.el x hxm).rd qw.mo).form;simp only [maxLen] at hom;(repeat' (refine aa5 ?_));refine ah (u:=svV x.ov) rfl (hat.get 4 rfl) ?_;clear hat;have hov:=(g5.nd.b.el x hxm).rd qw.mo;rw [hoe] at hov ⊢;refine qq4 ?_;refine aA (σ:=Nat) (fun q=>[(0,pT bb),(3,lv),(6,v),(7,vi k),(86,.slice oa x.ol.length oc),(87,vi x.ol.length),(88,vi q)]) (fun q W'=>q<=x.ol.length/\nP (Wk.one vi) 3 1 (fun b=>W.heap.size<=b) NoB W' lv (fnL N.length (wP (ovN N) L k q))/\Chg (fun b=>lv.ownBlock=some b) w5 W') (fun q=>x.ol.length-q) 0 (sl rfl) ⟨anq _,o5,ay _ _⟩ ?_;rintro m G w6 ⟨hm,o6,c6⟩;simp only [pq];(repeat' (first|refine qq4 ?_|refine aa2 (fun _=>?_) (fun _=>?_)))
   ·obtain ⟨j,hj⟩:=nT x.ol (k:=m) (by omega);have hjl:=(g.win x hxm).2 j (aop hj);obtain ⟨y,hy⟩:=nT N hjl;have hyg:=uf hy;obtain ⟨ya,yc,hye,_,hym⟩:=((g.nd.a.el y (aop hy)).rd qw.mo).form;simp only [maxLen] at hym;have hlow:=VG (m:=m) hI hc hpk j;rw [hyg.2.2.1] at hlow;refine aZ (hov.keep (nZ _) (c6.keep fun b _ hb e=>by have:=hlo b e;have:=(hb.elim id fun q=>q.elim).2;omega)) rfl rfl (by omega) hj fun b o hcell=>?_;refine ah (u:=vi j) rfl hcell ?_;refine qq6 ?_;refine dB (b:=lg) (off:=0) (l:=N.length) (cap:=lc) hlv rfl (by omega) (by omega) ?_;refine ah (u:=vi (wP (ovN N) L k m j)) rfl (show w6.cell? ⟨lg,0+(j:Int).toNat*1,none⟩=some (vi (wP (ovN N) L k m j)) by have:=o6.cell1 hlv (He (f:=wP (ovN N) L k m) hjl);simpa using this) ?_;(repeat' (refine Wl.sub rfl rfl (by omega) (by omega) ?_));refine dB (b:=lg) (off:=0) (l:=N.length) (cap:=lc) hlv rfl (by omega) (by omega) ?_;refine dS (f:=vi) (q:=wP (ovN N) L k m j-1) (j:=j) (cap:=lc) o6 (by rw [tJ];exact hlv) (by rw [tJ];omega) (by show Value.pointer (some ⟨lg,0+(j:Int).toNat*1,none⟩)=_;simp) rfl rfl rfl fun w7 o7 c7=>?_;rw [MH (g:=wP (ovN N) L k (m+1)) (RZ (by rw [hxg.2.2.2];exact hj))] at o7;refine qq6 ?_;exact ax (m+1) (sl rfl) ⟨by omega,o7,Chg.trans c6 c7 i3⟩ (by omega)
   ·obtain rfl:m=x.ol.length:=by omega
    rw [Jh (g:=Px (ovN N) L k) fun i _=>by unfold wP Px;rw [hxg.2.2.2,aon]] at o6;have oO6:=oO5.chg (nO _) c6 fun j hj e=>hsep j e hj;have n6:New W w6:=(Chg.trans n5.any c6 i3).toNew fun j hj e=>by have:=hlo j e;omega
    have hlO: ∀j,v.ownBlock=some j->W.heap.size<=j:=fun j hj=>(oO6.lt hj).1;have hz6:=n6.size;refine cu (R:=Wk.one viN) (y:=k) qw oO6 rfl rfl rfl rfl rfl (by omega) (by omega) (by simp only [maxLen];omega) (by omega) rfl rfl fun v7 w7 p o7 c7 lie=>?_;refine qq6 ?_;refine ax (O++ [k],Px (ovN N) L k,v7) (sl rfl) ⟨hI',?_,o6.chg (nO _) c7 fun j hj e=>hsep j hj e,o7.mono (nV _) (fun b _ e=>e.elim id fun e=>by have e:w6.heap.size<=b:=e;show W.heap.size<=b;omega) i3,?_,(Chg.trans n6.any c7 i3).toNew fun j hj e=>by have:=hlO j e;omega⟩ ?_
    ·dsimp only;rw [hgo,adK,am7,anM,show N.length+1-(O.length+1)=N.length-O.length by omega];rfl
    ·intro j e1 e2;rcases lie with l|l
     ·exact hsep j e1 (l▸e2)
     ·have:=l j e2;have:=(o6.lt e1).2;omega
    ·dsimp only;rw [am7,anM];omega
def SqB (Pb:Nat->Prop) (bs:Nat) (v:Value) (l:List Nat) (W:World):Prop:=Bk W bs 65 [v]/\RdS (Wk.one viN) 1 Pb W v l
def xR (l:List Nat) (k:Nat):Nat:=l.getD (l.length-1-k) 0
theorem Jj {l:List Nat} {k:Nat} (h:k<l.length):l.reverse[k]? =some (xR l k):=by
 unfold xR;rw [List.getElem?_reverse h,an7];obtain ⟨y,hy⟩:=nT l (k:=l.length-1-k) (by omega);rw [hy];rfl
theorem KI {Pb:Nat->Prop} {bs:Nat} {v:Value} {l:List Nat}:TQ prog 50 #[pT bs] l.length (fun k=> #[vi ((l.length-1-k:Nat):Int),vi (xR l k)]) (SqB Pb bs v l):=by
 intro L J Jx W hRd hN hY h0;obtain ⟨hb,hr⟩:=hRd _ _ h0;obtain ⟨a,cp,rfl,hc1,hc2⟩:=hr.form;simp only [maxLen] at hc2;show CallsIn Fence.wide 0 prog _ ([.func (.yield L) #[] #[],pT bs]:List Value).toArray W _;refine jy func50 rfl ntmps50 rfl ?_;(repeat' (first|refine dh ?_|refine bI rfl (by repeat' (first|exact Qfn.out (by rintro _ ⟨⟨_,e⟩,_⟩;cases e)|exact Qrd.out|exact Qas.out|refine Qsr.out ?_|refine nR.out ?_|refine Qsc.out ?_|refine pW.out ?_)) ?_));refine ah rfl (hb.cell (o:=0) rfl) ?_;(repeat' (first|refine aa7 ?_|refine ai ?_|refine bU rfl ?_|refine bM ?_|refine Wr.block ?_|refine Wl.sub rfl rfl (by omega) (by omega) ?_));refine jr (σ:=Nat) (fun k=>[(0,.func (.yield L) #[] #[]),(1,pT bs),(3,vi ((l.length:Int)-1-(k:Int)))]) (fun k W'=>k<=l.length/\J k W') (fun k=>l.length-k) 0 ⟨rfl,rfl,by show vi ((l.length:Int)-1)=vi ((l.length:Int)-1-((0:Nat):Int));simp,trivial⟩ ⟨anq _,h0⟩ ?_;rintro k G W1 ⟨hk,hJ⟩;obtain ⟨hb1,hr1⟩:=hRd _ _ hJ;simp only [pq];obtain ⟨m,hm⟩: ∃m:Int,(l.length:Int)-1-(k:Int)=m:=⟨_,rfl⟩;rw [hm];(repeat' (refine dh ?_));refine bI rfl (by repeat' (first|exact Qfn.out (by rintro _ ⟨⟨_,e⟩,_⟩;cases e)|exact Qrd.out|exact Qas.out|refine Qsr.out ?_|refine nR.out ?_|refine Qsc.out ?_|refine pW.out ?_)) ?_;(repeat' (first|refine aa1 ?_|refine ai ?_|refine bM ?_|refine dh ?_|refine Wr.block ?_|refine Wr.skip ?_|refine iG ?_|refine iH ?_|refine dJ ?_|refine dQ ?_|refine dY rfl ?_|refine dZ rfl ?_|refine aU rfl rfl (fun _=>?_) (fun _=>?_)))
 ·obtain ⟨q,rfl⟩:=ane (show 0<=m by omega);obtain ⟨y,hy⟩:=nT l (k:=q) (by omega);have hq:q=l.length-1-k:=by omega
  have hg:xR l k=y:=by unfold xR;rw [<-hq,an7,hy];rfl
  refine jw (l1:=[_,_,_,_,_,_]) (l2:=[_]) rfl rfl rfl (by repeat' (first|exact Qfn.out (by rintro _ ⟨⟨_,e⟩,_⟩;cases e)|exact Qrd.out|exact Qas.out|refine Qsr.out ?_|refine nR.out ?_|refine Qsc.out ?_|refine pW.out ?_)) ?_;(repeat' (refine aa1 ?_));refine ah rfl (hb1.cell (o:=0) rfl) ?_;(repeat' (refine aa1 ?_));refine aZ hr1 rfl rfl (by omega) hy fun bb o hcell=>?_;refine ah (u:=vi y) rfl hcell ?_;(repeat' (refine ai ?_));refine ⟨rfl,L,vi q,vi y,rfl,rfl,rfl,?_⟩;have hy2:=hY k W1 (by omega) hJ;dsimp only at hy2;rw [hg, <-hq] at hy2;refine Wk.YieldAt.mono hy2 ?_;rintro e W4 (⟨rfl,hJ4⟩|⟨rfl,hJ4⟩)
  ·refine ⟨_,rfl,?_⟩;(repeat' (first|refine aa1 ?_|refine aa7 ?_|refine ai ?_|refine dw rfl ?_|refine bM ?_|refine bI rfl (by repeat' (first|exact Qfn.out (by rintro _ ⟨⟨_,e⟩,_⟩;cases e)|exact Qrd.out|exact Qas.out|refine Qsr.out ?_|refine nR.out ?_|refine Qsc.out ?_|refine pW.out ?_)) ?_|refine Wr.skip ?_|refine dL ?_|refine dZ rfl ?_|refine Wl.sub rfl rfl (by omega) (by omega) ?_));exact ax (k+1) ⟨rfl,rfl,by show vi ((q:Int)-1)=vi ((l.length:Int)-1-((k+1:Nat):Int));congr 1;omega,trivial⟩ ⟨by omega,hJ4⟩ (by omega)
  ·refine ⟨_,rfl,?_⟩;(repeat' (first|refine ai ?_|refine dw rfl ?_|refine bM ?_|refine jo ?_|refine jq ?_|refine fJ ?_|refine fK ?_|refine dY rfl ?_));exact eX rfl ⟨⟨_,rfl⟩,.inr hJ4⟩
 ·have e:k=l.length:=by omega
  subst e;exact cO rfl ⟨⟨_,rfl⟩,.inl hJ⟩
theorem CG {w:World} {v:Value} {a:Option Addr} {n m:Nat} (hv:v=.slice a n m):
 Calls prog 28 #[v] w (Ret fun r w'=>r=.func (.func 50) #[] #[pT w.heap.size]/\Bk w' w.heap.size 65 [v]/\New w w'):=by
 subst hv;refine nM func28 rfl ntmps28 rfl ?_;refine qq4 ?_;refine Wl.box rfl fun w1 b1 n1 s1=>?_;replace b1:Bk w1 w.heap.size 65 [.slice a n m]:=b1;refine qq4 ?_;refine dn (f1:=[]) (c1:=[pT w.heap.size]) rfl rfl ?_;refine qq3 ?_;exact ak rfl rfl ⟨_,rfl,rfl,b1,n1⟩
def snA (N:List Sn) (A:As):List Sn:=(ab8 N.length).map fun i=>{N.getD i default with asleep:=A i}
theorem rY (N:List Sn) (A:As):(snA N A).length=N.length:=by unfold snA;rw [aoR,apP]
theorem wX {N:List Sn} {A:As} {i:Nat} (h:i<N.length):(snA N A)[i]? =some {N.getD i default with asleep:=A i}:=by unfold snA;rw [an3,aoT h];rfl
theorem PK {N:List Sn} {A:As} {i:Nat} (h:i<N.length):(snA N A).getD i default={N.getD i default with asleep:=A i}:=by rw [an7,wX h];rfl
theorem Uf {N:List Sn} {A:As} {i:Nat} (h: ¬i<N.length):(snA N A).getD i default=N.getD i default:=by rw [an7,an7,anl (by rw [rY];omega),anl (by omega)]
theorem EI (N:List Sn) (A:As) (i:Nat):bdN (snA N A) i=bdN N i/\ptN (snA N A) i=ptN N i/\hgN (snA N A) i=hgN N i/\ovN (snA N A) i=ovN N i:=by
 unfold bdN ptN hgN ovN;by_cases h:i<N.length
 ·rw [PK h];exact ⟨rfl,rfl,rfl,rfl⟩
 ·rw [Uf h];exact ⟨rfl,rfl,rfl,rfl⟩
theorem Si {N:List Sn} {A:As} {i:Nat} (h:i<N.length):aF (snA N A) i=A i:=by unfold aF;rw [PK h]
theorem Ug {N:List Sn} {A:As} {i:Nat} {v:Bool} (h:i<N.length):(snA N A).set i {({N.getD i default with asleep:=A i}:Sn) with asleep:=v}=snA N (vC A i v):=by
 apply anC;intro k;rw [anO];by_cases hk:k<N.length
 ·rw [wX (A:=vC A i v) hk];by_cases e:i=k
  ·subst e;rw [if_pos rfl,if_pos (by rw [rY];exact hk),tq]
  ·rw [if_neg e,wX hk,uj (fun q=>e q.symm)]
 ·rw [anl (l:=snA N (vC A i v)) (by rw [rY];omega)];by_cases e:i=k
  ·subst e;exact absurd h hk
  ·rw [if_neg e,anl (by rw [rY];omega)]
theorem Yc (N:List Sn):snA N (aF N)=N:=by
 apply anC;intro k;by_cases hk:k<N.length
 ·rw [wX hk];obtain ⟨x,hx⟩:=nT N hk;have e:N.getD k default=x:=by rw [an7,hx];rfl
  unfold aF;rw [e,hx]
 ·rw [anl (by rw [rY];omega),anl (by omega)]
section
variable {Pb:Nat->Prop} {bb:Nat} {N:List Sn} {A:As} {ord oJ:List Nat} {down:Bool} {nv ov sv:Value} {W:World}
theorem BN {i:Nat} {v:Bool} (g:BdM Pb bb (snA N A) ord oJ down nv ov sv W) (hi:i<N.length):
 Calls prog 29 #[pT bb,vi i,.bool v] W (Ret fun r w'=>r=.agg #[vi i,.bool v]/\BdM Pb bb (snA N (vC A i v)) ord oJ down nv ov sv w'/\Chg (fun k=>nv.ownBlock=some k) W w'):=
 (PD (v:=v) g (wX hi)).mono fun e w' h=>by obtain ⟨r,rfl,h1,h2,h3⟩:=h;rw [Ug hi] at h2;exact ⟨r,rfl,h1,h2,h3⟩
theorem MI (l:List Nat):(dnS l).length=l.length:=by unfold dnS;rw [aoR,List.length_reverse]
theorem Yd {l:List Nat} {k:Nat} (h:k<l.length):(dnS l)[k]? =some (xR l k,false):=by
 unfold dnS;rw [an3,Jj h];rfl
theorem Jk {l:List Nat} {k:Nat} (h:k<l.length):xR l k∈l:=by
 have:=aop (Jj h)
 rwa [aqk] at this
theorem xf (A:As) (l:List Stp) (i:Nat) (v:Bool):qU A (l++ [(i,v)])=vC (qU A l) i v:=by rw [yE];rfl
def ZJ (Pb:Nat->Prop) (bb:Nat) (N:List Sn) (A:As) (ord oJ:List Nat) (down:Bool) (nv ov:Value) (W:World) (r:Value) (w':World):Prop:=
 (down=false/\r=.tuple #[.slice none 0 0,vi 5]/\New W w')∨
 (down=true/\ ∃v,r=.tuple #[v,vi 0]/\nP (flat stC) 64 2 (fun b=>W.heap.size<=b) NoB w' v (dnS oJ)/\
   BdM Pb bb (snA N (qU A (dnS oJ))) ord [] false nv ov (.slice none 0 0) w'/\Chg (fun k=>nv.ownBlock=some k∨k=bb) W w')
theorem PL (g:BdM Pb bb (snA N A) ord oJ down nv ov sv W) (hs: ∀i∈oJ,i<N.length) (hsl:oJ.length<=512):
 Calls prog 14 #[pT bb] W (Ret fun r w'=>ZJ Pb bb N A ord oJ down nv ov W r w'):=by
 obtain ⟨sa,sc,rfl,_,_⟩:=g.sl.form;replace g:=g.mono (Pb':=fun b=>Pb b/\b<W.heap.size) fun b hb e=>⟨e,hb⟩;refine tZ func14 rfl ntmps14 rfl ?_;refine qq0 ?_;refine Wl.box rfl fun w1 b1 n1 s1=>?_;replace b1:Bk w1 W.heap.size 38 [pT bb]:=b1;refine qq1 ?_;refine ah (u:=pT bb) rfl (b1.cell (o:=0) rfl) ?_;refine fG rfl rfl ?_;refine qq1 ?_;refine ah (u:=pT bb) rfl (b1.cell (o:=0) rfl) ?_;have g1:=g.new n1;refine BR ?_;refine ah (u:=.bool down) rfl (g1.b.cell (o:=3) rfl) ?_;cases hdn:down with
 |false=>refine qq0 ?_;exact dG (qB rfl (pJ rfl) (pJ rfl)) ⟨_,rfl,.inl ⟨rfl,rfl,n1⟩⟩
 |true=>
 subst hdn;(repeat' (first|refine aa7 ?_|refine ai ?_|refine dw rfl ?_|refine dO ?_|refine iI rfl ?_|refine di ?_|refine fH ?_|refine eu ?_|refine Wd.skip ?_));refine Wl.alloc fun w2 b2 n2 s2=>?_;replace b2:Bk w2 w1.heap.size 46 [.slice none 0 0]:=b2;have b12:=b1.chg n2 id;have g2:=g1.new n2;refine qq1 ?_;refine ah (u:=pT bb) rfl (b12.cell (o:=0) rfl) ?_;refine BR ?_;refine ah (u:=.slice sa oJ.length sc) rfl (g2.b.cell (o:=2) rfl) ?_;refine aj (CG rfl) rfl ?_;rintro _ w3 ⟨rfl,b3,n3⟩;have hz1:=n1.size;have hz2:=n2.size;have hz3:=n3.size;have aiW:=b1.lt;have abo:=b2.lt;have abp:=b3.lt;generalize hbs:w2.heap.size=bs at*;generalize hbl:w1.heap.size=bl at*;have g3:=g2.new n3;have b13:=b12.chg n3 id;have b23:=b2.chg n3 id;have hnv: ∀j,nv.ownBlock=some j->j<W.heap.size:=fun j e=>(g.nd.a.row.lt e).1.2;have n03:=New.trans n1 (New.trans n2 n3);have aiX:bb<W.heap.size:=g.lo.2;clear b1 b2 b12 g1 g2 n1 n2 n3;let I:Nat->World->Prop:=fun k V=>Chg (fun j=>nv.ownBlock=some j) W V/\w3.heap.size+2<=V.heap.size/\Bk V bs 65 [.slice sa oJ.length sc]/\Bk V W.heap.size 38 [pT bb]/\BdM (fun b=>Pb b/\b<W.heap.size) bb (snA N (qU A ((dnS oJ).take k))) ord oJ true nv ov (.slice sa oJ.length sc) V/\ ∃lv,Bk V bl 46 [lv]/\nP (flat stC) 64 2 (fun b=>W.heap.size<=b) NoB V lv ((dnS oJ).take k);(repeat' (first|refine ai ?_|refine Wd.block ?_|refine di ?_));refine gZ (gf:=50) (lb:= #[pT bs]) rfl (fun args _=>qF inferInstance args) (KI (Pb:=fun _=>True) (bs:=bs) (v:=.slice sa oJ.length sc) (l:=oJ)) (fun k=>rfl) I (fun _ _=>False) ?_ ?_ ?_ ?_ ?_ ?_ ?_ ?_ ?_
 ·exact fun k V h=>⟨h.2.2.1,(h.2.2.2.2.1.sl.rd (nV _)).mono (nV _) fun _ _ _=>trivial⟩
 ·rintro k V V' ⟨h1,h2,h3,h4,h5,lv,h6,h7⟩ n;exact ⟨Chg.trans h1 n.any i3,apR h2 n.size,h3.chg n id,h4.chg n id,h5.new n,lv,h6.chg n id,h7.new (nK _) n⟩
 ·rintro k V r1 r2 ⟨h1,h2,h3,h4,h5,lv,h6,h7⟩ hL;have nL:NoC V (w3.heap.size+1):=.loop hL;exact ⟨h1.put _ (by omega),by simpa using h2,h3.put _ nL,h4.put _ nL,h5.chg (Chg.putObj V _ _) (fun j hj e=>by have:=hj.2;omega),lv,h6.put _ nL,h7.put _ (nK _) nL⟩
 ·exact fun _ _ _ _ h=>h.elim
 ·intro r1;have n:=ig (w:=w3) (.deferred (some [])) (.loop r1);exact ⟨(New.trans n03 n).any,by simp,b3.chg n id,b13.chg n id,g3.new n,_,b23.chg n id,aI⟩
 ·rintro k V r1 hk ⟨h1,h2,h3,h4,h5,lv,h6,h7⟩ hL hDf;have hi:=hs _ (Jk hk);have hlt:((dnS oJ).take k).length=k:=by rw [List.length_take,MI];omega
  show Wr _ _ _ _ _ (upd (upd _ 21 (vi _)) 22 (vi (xR oJ k))) V;(repeat' (first|refine aa7 ?_|refine ai ?_|refine bI rfl (by repeat' (first|exact Qfn.out (by rintro _ ⟨⟨_,e⟩,_⟩;cases e)|exact Qrd.out|exact Qas.out|refine Qsr.out ?_|refine nR.out ?_|refine Qsc.out ?_|refine pW.out ?_)) ?_));refine ⟨ay _ _,fun r'=>?_⟩;have nL:NoC V (w3.heap.size+1):=.loop hL;have hLt:=nL.lt;have q1:=h1.put (.loop r') (L:=w3.heap.size+1) (by omega);have q2:w3.heap.size+2<=(V.putObj (w3.heap.size+1) (.loop r')).heap.size:=by simpa using h2
  have q3:=h3.put (.loop r') nL;have q4:=h4.put (.loop r') nL;have q5:=h5.chg (Chg.putObj V (w3.heap.size+1) (.loop r')) (fun j hj e=>by have:=hj.2;omega);have q6:=h6.put (.loop r') nL;have q7:=h7.put (.loop r') (nK _) nL;have qL:NoC (V.putObj (w3.heap.size+1) (.loop r')) (w3.heap.size+1):=.loop (World.putObj_heap_same hLt);have qD:NoC (V.putObj (w3.heap.size+1) (.loop r')) w3.heap.size:=.mark ((World.putObj_heap_other (by omega)).trans hDf);generalize V.putObj (w3.heap.size+1) (.loop r')=V3 at*;clear h1 h2 h3 h4 h5 h6 h7 hL hDf nL hLt;have adO:=qL.lt;have hno: ∀ {b:Nat} {T:TypeId} {cs:List Value},Bk V3 b T cs->ank 64 T=false->W.heap.size<=b-> ¬(nv.ownBlock=some b∨lv.ownBlock=some b):=fun hb hT hW e=>by
   rcases e with e|e
   ·have:=hnv _ e;omega
   ·exact q7.oM hb hT e rfl
  have hqv: ∀j,lv.ownBlock=some j->W.heap.size<=j:=fun j e=>(q7.lt e).1;(repeat' (refine Wr.block ?_));refine iq rfl (by repeat' (first|exact Qfn.out (by rintro _ ⟨⟨_,e⟩,_⟩;cases e)|exact Qrd.out|exact Qas.out|refine Qsr.out ?_|refine nR.out ?_|refine Qsc.out ?_|refine pW.out ?_)) rfl (by kernel_rfl) (fun W'=>Chg (fun j=>nv.ownBlock=some j∨lv.ownBlock=some j) V3 W') (Chg.drew _ _) ?_;intro W4 m4;refine aa0 (au (u:=lv) rfl (fun W' c=>(q6.chg c (hno q6 rfl (by omega))).cell (o:=0) rfl) (af ?_));refine aa0 (au (u:=pT bb) rfl (fun W' c=>(q4.chg c (hno q4 rfl (by omega))).cell (o:=0) rfl) (af ?_));(repeat' (refine aa0 (aa3 (af ?_))));refine aC rfl (aj (BN (v:=false) (q5.new m4) hi) rfl ?_);rintro _ W5 ⟨rfl,g5,c5⟩;have c35:Chg (fun j=>nv.ownBlock=some j) V3 W5:=Chg.trans m4.any c5 i3;refine ai ⟨rfl,c35.mono fun _ _ e=>.inl e,?_⟩;refine aC rfl (bC (R:=flat stC) (Pe:=NoB) (y:=(xR oJ k,false)) Bz rfl rfl rfl rfl (by omega) (by omega) fun v6 W6 o6 n6 s6 e6=>?_);have c36:Chg (fun j=>nv.ownBlock=some j) V3 W6:=Chg.trans c35 n6.any i3;refine ai ⟨rfl,c36.mono fun _ _ e=>.inl e,?_⟩;refine aC rfl (bY (R:=flat stC) Bz (q7.chg (nK _) c36 fun j hj e=>by have:=hnv j e;have:=hqv j hj;omega) (o6.rd (nS _)) (fun y cs hy=>hy) rfl rfl (by omega) (by simp only [maxLen,anM];omega) (by simp only [anM];omega) fun u' W7 o7 c7 lie _=>?_);have c37:Chg (fun j=>nv.ownBlock=some j∨lv.ownBlock=some j) V3 W7:=Chg.trans (c36.mono fun _ _ e=>.inl e) c7 fun _ _ e=>.inr e;refine ai ⟨rfl,c37,?_⟩;refine Wt.last rfl (aJ (u:=u') (q6.chg c37 (hno q6 rfl (by omega))) rfl (show (0:Nat)<1 by omega) rfl (by obtain ⟨_,_,rfl,_⟩:=o7.form;rfl) fun W8 b8 c8=>?_);refine ai ?_;have hz6:=c36.size;have hz7:=c37.size;have hz1:=q1.size;have ah3:=q6.lt;have hul: ∀j,u'.ownBlock=some j->W.heap.size<=j/\j≠bl:=fun j e=>by
   have h9:=o7.oM (q6.chg c37 (hno q6 rfl (by omega))) rfl e;refine ⟨?_,h9⟩;rcases lie with l|l
   ·exact hqv j (l▸e)
   ·have:=l j e;omega
  have g8:=((g5.new n6).chg c7 fun j hj e=>by have:=hj.2;have:=hqv j e;omega).chg c8 fun j hj e=>by have:=hj.2;omega
  have e38:Chg (fun j=>j=bl∨nv.ownBlock=some j∨lv.ownBlock=some j) V3 W8:=Chg.trans (c37.mono fun _ _ e=>.inr e) c8 fun _ _ e=>.inl e;have ht:=take_snoc (Yd hk);rw [<-ht] at o7;rw [show vC (qU A ((dnS oJ).take k)) (xR oJ k) false=qU A ((dnS oJ).take (k+1)) by rw [ht,xf]] at g8;(repeat' (refine dL ?_));refine ⟨e38.block _ qL.lt ?_,e38.block _ qD.lt ?_,Chg.trans q1 e38 fun j hj e=>?_,by have:=e38.size;omega,q3.chg e38 ?_,q4.chg e38 ?_,g8,u',b8,(o7.chg (nK _) c8 fun j hj e=>(hul j hj).2 e).yQ fun j hj _=>(hul j hj).1⟩
  ·rintro (e|e|e)
   ·omega
   ·have:=hnv _ e;omega
   ·exact q7.nl qL e rfl
  ·rintro (e|e|e)
   ·omega
   ·have:=hnv _ e;omega
   ·exact q7.nl qD e rfl
  ·rcases e with e|e|e
   ·omega
   ·exact e
   ·have:=hqv j e;omega
  ·rintro (e|e)
   ·omega
   ·exact hno q3 rfl (by omega) e
  ·rintro (e|e)
   ·omega
   ·exact hno q4 rfl (by omega) e
 ·rintro V ⟨h1,h2,h3,h4,h5,lv,h6,h7⟩ hDf;have ht:(dnS oJ).take oJ.length=dnS oJ:=by rw [<-MI,aon]
  rw [ht] at h5 h7;have hlv: ∀j,lv.ownBlock=some j->W.heap.size<=j:=fun j e=>(h7.lt e).1;(repeat' (first|refine di ?_|refine fH ?_));refine fZ ?_;refine aN ?_;refine aV rfl (by kernel_rfl) (fun W'=>Chg (fun j=>j=bb) V W') (Chg.drew _ _) ?_;intro V1 m1;have hb4: ∀W',Chg (fun j=>j=bb) V W'->Bk W' W.heap.size 38 [pT bb]:=fun W' c=>h4.chg c fun e=>by omega
  refine aa0 (au (u:=pT bb) rfl (fun W' c=>(hb4 W' c).cell (o:=0) rfl) (af ?_));refine aa0 (au (u:=pT bb) rfl (fun W' c=>(hb4 W' c).cell (o:=0) rfl) (af ?_));refine rX ?_;refine aC rfl (aJ (u:=.slice none 0 0) (h5.b.chg m1 id) rfl (show (2:Nat)<4 by omega) rfl rfl fun V2 b2 c2=>?_);have c12:Chg (fun j=>j=bb) V V2:=Chg.trans m1.any c2 i3;refine ai ⟨rfl,c12,?_⟩;refine rX ?_;refine Wt.last rfl (aJ (u:=.bool false) b2 rfl (show (3:Nat)<4 by omega) rfl rfl fun V3 b3' c3=>?_);refine ai ?_;have c13:Chg (fun j=>j=bb) V V3:=Chg.trans c12 c3 i3;have g9:BdM (fun b=>Pb b/\b<W.heap.size) bb (snA N (qU A (dnS oJ))) ord [] false nv ov (.slice none 0 0) V3:= ⟨b3',⟨h5.nd.a.CB (P:=prog) h5.b rfl rfl c13,h5.nd.b.CB (P:=prog) h5.b rfl rfl c13,h5.nd.x⟩,h5.od.chg (nO _) c13 (fun j hj e=>h5.od.oM h5.b rfl hj e),aI,(fun x hx=>⟨(h5.so x hx).1,(h5.so x hx).2.1,(fun k _ e=>by cases e),(fun k _ e=>by cases e)⟩),(fun k _ e=>by cases e),h5.win,h5.nl,h5.lo⟩;have h63:=h6.chg c13 fun e=>by omega
  have h73:=h7.chg (nK _) c13 fun j hj e=>by have:=hlv j hj;omega
  have hD3:=(c13.block _ (Array.getElem?_eq_some_iff.1 hDf).1 fun e=>by omega).trans hDf;have c03:Chg (fun k=>nv.ownBlock=some k∨k=bb) W V3:=Chg.trans (h1.mono fun _ _ e=>.inl e) c13 fun _ _ e=>.inr e;clear h1 h3 h4 h5 h6 h7 hDf c12 c13 c2 c3 b2 b3';refine qq4 ?_;refine ah (u:=lv) rfl (h63.cell (o:=0) rfl) ?_;refine qq3 ?_;refine Qdn.e ?_;refine gq (by simp) hD3 ?_;refine dG (qB rfl (pJ rfl) (pJ rfl)) ⟨_,rfl,.inr ⟨rfl,lv,rfl,h73.put _ (nK _) (.mark hD3),?_,c03.put _ (by omega)⟩⟩;exact (g9.chg (Chg.putObj V3 _ _) (fun j hj e=>by have:=hj.2;omega)).mono fun b _ e=>e.1
 ·exact fun _ h=>h.elim
 ·exact fun _ _ h=>h.elim
end
end Go.Proofs.YtfbnfhhmiiahnaaGreatDoor
