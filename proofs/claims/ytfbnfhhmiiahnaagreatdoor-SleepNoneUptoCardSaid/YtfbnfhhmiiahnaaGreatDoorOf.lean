/-
  Texts of this claim, one behind the other: Wh, Wl, Wm, Wg, Wi, Wj, Wk, Wo, Wp, L4, Wq, Wr, Ws, Aa, Ab, Ac, Ad, Ae, Af, Bulk, Ag, I3.
-/
import Derived.Test.YtfbnfhhmiiahnaaGreatDoorOe
import Derived.Test.YtfbnfhhmiiahnaaGreatDoorRows
import Derived.ChangeSame
import Derived.ProofKit
import Derived.JoinedCond
set_option linter.all false
set_option maxHeartbeats 16000000
set_option maxRecDepth 8000
open List renaming getD_eq_getElem?_getD → an7,mem_of_getElem? → aop,length_singleton → anM,mem_cons_self → ap2,length_map → aoR,getElem?_eq_none → anl,length_append → am7,getElem?_map → an3,range → ab8,mem_cons_of_mem → aoC,length_filter_le → apO,map_append → aoN,length_range → apP,replicate → aok,filter_append → apy,getElem?_range → aoT,length_set → apn,take_length → aon,ext_getElem? → anC,append_assoc → adK,getElem?_set → anO,length_cons → anJ,mem_append → apN,eq_nil_of_length_eq_zero → anf,findIdx?_map → aqE,length_take → anD,append_of_mem → aot,mem_cons → aqF,not_mem_nil → aqG,getElem?_append_left → anm,getElem?_append_right → anb,append_nil → aoS,getElem?_replicate → ap0,filter_cons_of_neg → aqI,mem_or_eq_of_mem_set → apZ,range_succ → apQ,filterMap_append → aqt,length_filterMap_le → aqb,find?_eq_none → aqJ,getElem_range → aqK,all_eq_true → apD,length_replicate → ap1
open Nat renaming le_refl → aap,zero_le → anq,beq → ank,le_trans → apR,sub_self → aps,zero_add → ace
open Int renaming toNat_natCast → ant,le_refl → aoj,eq_ofNat_of_zero_le → ane,toNat_of_nonneg → aqH
open Bool renaming and_eq_true → ann,eq_iff_iff → aqL
open Go.Proofs.Tryz
namespace Go.Proofs.YtfbnfhhmiiahnaaGreatDoor
open Go Wk
open Go.RowKit (Below)
attribute [local irreducible] Go.Calls
theorem FH {Pb:Nat->Prop} {w:World} {v:Value} {l:List Wkr} {p:Wkr->Bool} {g:FuncId} {cap:Array Value} [hc:nN prog g] (h:RdS (flat wkC) 2 Pb w v l)
 (hf: ∀y w',y∈l->New w w'->Calls prog g ([Value.agg (wkC y).toArray]++cap.toList).toArray w' (Ret fun r w''=>r=.bool (p y)/\New w' w'')):
 Calls prog 51 #[v,.func (.func g) #[] cap] w (Ret fun r w'=>r=vi (idx p l)/\New w w'):=by
 obtain ⟨a,cp,rfl,hc1,hc2⟩:=h.form;simp only [maxLen] at hc2;refine nM func51 rfl ntmps51 rfl ?_;refine qq2 ?_;refine aA (σ:=Nat) (fun i=>[(0,.slice a l.length cp),(1,.func (.func g) #[] cap),(7,vi l.length),(8,vi i)]) (fun i w'=>i<=l.length/\(∀x∈l.take i,p x=false)/\New w w') (fun i=>l.length-i) 0 (sl rfl) ⟨anq _,by simp,ay _ _⟩ ?_;rintro i G w1 ⟨hi,hall,n1⟩;simp only [pq];(repeat' (first|refine qq4 ?_|refine aa2 (fun _=>?_) (fun _=>?_)))
 ·obtain ⟨y,hy⟩:=nT l (k:=i) (by omega);refine dF h n1.keep rfl rfl (by omega) hy fun b o cs hl hR hat=>?_;obtain rfl:cs=wkC y:=hR;refine aS hat rfl rfl ?_;refine bP (dst:=some 16) rfl (hf y w1 (aop hy) n1) rfl ?_;rintro _ w2 ⟨rfl,n2⟩;simp only [wI];cases hp:p y with
  |true=>refine qq3 ?_;refine ak rfl rfl ⟨_,rfl,?_,New.trans n1 n2⟩;rw [Eb hy hall hp];rfl
  |false=>refine qq2 ?_;exact ax (i+1) (sl rfl) ⟨by omega,AY hy hall hp,New.trans n1 n2⟩ (by omega)
 ·have e:i=l.length:=by omega
  subst e;rw [aon] at hall;refine ak rfl rfl ⟨_,rfl,?_,n1⟩;rw [yY hall];rfl
def early (x:Wkr):Bool:=decide (x.1<0)
theorem Sj {w:World} {x:Wkr}:Calls prog 30 #[.agg (wkC x).toArray] w (Ret fun r w'=>r=.bool (early x)/\New w w'):=by
 refine nM func30 rfl ntmps30 rfl ?_;refine qq4 ?_;refine Wl.box rfl fun w1 b1 n1 s1=>?_;replace b1:Bk w1 w.heap.size 75 (wkC x):=b1;refine qq2 ?_;refine ah (u:=vi x.1) rfl (b1.cell (o:=0) rfl) ?_;(repeat' (first|refine qq3 ?_|refine aa2 (fun _=>?_) (fun _=>?_)))
 ·exact ak rfl rfl ⟨_,rfl,by unfold early;rw [decide_eq_true (by omega)];rfl,n1⟩
 ·exact ak rfl rfl ⟨_,rfl,by unfold early;rw [decide_eq_false (by omega)];rfl,n1⟩
theorem GY {Pb:Nat->Prop} {w:World} {v:Value} {l:List Wkr} (h:RdS (flat wkC) 2 Pb w v l):
 Calls prog 31 #[v,.func (.func 30) #[] #[]] w (Ret fun r w'=>r=.bool (l.any early)/\New w w'):=by
 refine nM func31 rfl ntmps31 rfl ?_;refine qq4 ?_;refine aj (FH (p:=early) (g:=30) (cap:= #[]) h fun y w' _ n=>Sj) rfl ?_;rintro _ w1 ⟨rfl,n1⟩;have hi:=xB (p:=early) l;unfold idx;cases hf:l.findIdx? early with
 |none=>
  have ha:l.any early=false:=by rw [List.any_eq_false];intro x hx;rw [List.findIdx?_eq_none_iff.1 hf x hx];decide
  rw [ha];(repeat' (first|refine qq3 ?_|(refine aU rfl rfl (fun _=>?_) (fun _=>?_)<;>(first|(exfalso;contradiction)|skip))));exact ak rfl rfl ⟨_,rfl,rfl,n1⟩
 |some j=>rw [hf] at hi;obtain ⟨y,hy,hp⟩:=hi;have ha:l.any early=true:=List.any_eq_true.2 ⟨y,aop hy,List.find?_some hp⟩;rw [ha];(repeat' (first|refine qq3 ?_|(refine aU rfl rfl (fun _=>?_) (fun _=>?_)<;>(first|(exfalso;contradiction)|skip))));exact ak rfl rfl ⟨_,rfl,rfl,n1⟩
def qZ (N:List Sn) (refuse:List Nm) (wakes:List Wkr) (sl:Int) (next:Int):Int×Bool:=
 if 0<=rD N wakes sl then (rD N wakes sl,true) else if 0<=next/\refuse.contains (ptN N next.toNat)=true then (next,false) else (rD N wakes sl,false)
theorem Gu (N:List Sn) (wakes:List Wkr) (sl:Int):rD N wakes sl= -1∨ ∃j:Nat,rD N wakes sl=j/\j<N.length:=by
 induction wakes with
 |nil=>exact .inl rfl
 |cons x r ih=>
  unfold rD;split
  ·rename_i h
   right;have hi:=xB (p:=fun s:Sn=>s.path == x.2) N;unfold idx at h ⊢;cases hf:N.findIdx? (fun s:Sn=>s.path == x.2) with
   |none=>rw [hf] at h;exact absurd h.2.1 (by decide)
   |some j=>rw [hf] at hi;obtain ⟨y,hy,_⟩:=hi;exact ⟨j,rfl,(List.getElem?_eq_some_iff.1 hy).1⟩
  ·exact ih
abbrev oC (d k:Bool) (by0:Int) (v:Value):List Value:=[.bool d,.bool k,vi by0,v]
section
variable {Pb Pw Pr:Nat->Prop} {bb b1 b2 b3 b4 b5:Nat} {N:List Sn} {ord oJ:List Nat} {down:Bool} {nv ov sv wv rv stv:Value} {refuse:List Nm} {wakes:List Wkr} {W:World}
theorem KJ {next:Int} {sa:Option Addr} {sl sc:Nat} {d k0:Bool} {by0:Int} (g:BdM Pb bb N ord oJ down nv ov sv W) (v1:Bk W b1 38 [pT bb]) (v2:Bk W b2 55 [wv]) (hw:RdS (flat wkC) 2 Pw W wv wakes) (v3:Bk W b3 65 [.slice sa sl sc])
 (v4:Bk W b4 59 (oC d k0 by0 stv)) (v5:Bk W b5 24 [rv]) (hr:RdS (Wk.one vs) 1 Pr W rv refuse) (hn:next<N.length) (h1: ∀k,Pb k->k≠b4) (h2: ∀k,Pw k->k≠b4) (h3: ∀k,Pr k->k≠b4) (hsl:sl<=512):
 Calls prog 32 #[vi next,pT b1,pT b2,pT b3,pT b4,pT b5] W (Ret fun r w'=>r=.bool (decide (0<=(qZ N refuse wakes sl next).1))/\Bk w' b4 59 (oC d (qZ N refuse wakes sl next).2 (qZ N refuse wakes sl next).1 stv)/\Chg (fun j=>j=b4) W w'):=by
 have hnl:=g.nl;obtain ⟨na,nc,hnv,_,_⟩:=g.nd.a.row.form;have n14:b1≠b4:=v1.oM v4 rfl;have n34:b3≠b4:=v3.oM v4 rfl;have n54:b5≠b4:=v5.oM v4 rfl;refine nM func32 rfl ntmps32 rfl ?_;refine qq4 ?_;refine ah (u:=pT bb) rfl (v1.cell (o:=0) rfl) ?_;refine ah (u:=wv) rfl (v2.cell (o:=0) rfl) ?_;refine ah (u:=.slice sa sl sc) rfl (v3.cell (o:=0) rfl) ?_;(repeat' (refine bU rfl ?_));refine aj (RY (k:=sl) g hw) rfl ?_;rintro _ w1 ⟨rfl,m1⟩;have hwk:=Gu N wakes sl;have hst:qZ N refuse wakes sl next=if 0<=rD N wakes sl then (rD N wakes sl,true) else if 0<=next/\refuse.contains (ptN N next.toNat)=true then (next,false) else (rD N wakes sl,false):=rfl
 rw [hst];clear hst;generalize rD N wakes sl=a at*;(repeat' (refine aa5 ?_));refine aJ (u:=vi a) (v4.chg m1 id) rfl (show (2:Nat)<4 by omega) rfl rfl fun w2 b42 c2=>?_;replace b42:Bk w2 b4 59 (oC d k0 a stv):=b42;refine qq2 ?_;refine ah (u:=vi a) rfl (b42.cell (o:=2) rfl) ?_;by_cases ha:0<=a
 ·rw [if_pos ha];(repeat' (first|refine aa5 ?_|(refine aU rfl rfl (fun _=>?_) (fun _=>?_)<;>(first|(exfalso;omega)|skip))));refine aJ (u:=.bool true) b42 rfl (show (1:Nat)<4 by omega) rfl rfl fun w3 b43 c3=>?_;replace b43:Bk w3 b4 59 (oC d true a stv):=b43;have c03:Chg (fun j=>j=b4) W w3:=Chg.trans (Chg.trans m1.any c2 i3) c3 i3;refine qq4 ?_;refine aV rfl (by kernel_rfl) (fun w'=>New w3 w') (Chg.drew _ _) ?_;intro w4 m4;(repeat' (refine aa0 (aa6 (af ?_))));refine aa0 (au (u:=.bool true) rfl (fun w' hw=>(b43.chg hw id).cell (o:=1) rfl) (af ?_));(repeat' (first|refine bH ?_|refine fV rfl rfl (by assumption) ?_|refine aa0 (aa3 (af ?_))|refine aa0 (yO (af ?_))|refine aa0 (dM rfl (af ?_))));refine qq2 ?_;have b44:=b43.chg m4 id;refine ah (u:=vi a) rfl (b44.cell (o:=2) rfl) ?_;(repeat' (first|refine qq3 ?_|(refine aU rfl rfl (fun _=>?_) (fun _=>?_)<;>(first|(exfalso;omega)|skip))));exact ak rfl rfl ⟨_,rfl,by rw [decide_eq_true ha]<;>rfl,b44,Chg.trans c03 m4.any i3⟩
 ·rw [if_neg ha];(repeat' (first|refine aa5 ?_|(refine aU rfl rfl (fun _=>?_) (fun _=>?_)<;>(first|(exfalso;omega)|skip))));refine aJ (u:=.bool false) b42 rfl (show (1:Nat)<4 by omega) rfl rfl fun w3 b43 c3=>?_;replace b43:Bk w3 b4 59 (oC d false a stv):=b43;have c03:Chg (fun j=>j=b4) W w3:=Chg.trans (Chg.trans m1.any c2 i3) c3 i3;have g3:=g.chg c03 h1;have v13:=v1.chg c03 n14;have v53:=v5.chg c03 n54;have hr3:=hr.keep (nZ _) (c03.keep fun b _ hb=>h3 b hb);subst hnv;have hrd:=g3.nd.a.row.rd (nS snC);refine qq4 ?_;by_cases hx:0<=next
  ·obtain ⟨q,rfl⟩:=ane hx;obtain ⟨x,hxq⟩:=nT N (k:=q) (by omega);have hxg:=uf hxq;rw [ant,hxg.2.1];refine aV rfl (by kernel_rfl) (fun w'=>New w3 w') (Chg.drew _ _) ?_;intro w4 m4;(repeat' (refine aa0 (aa6 (af ?_))));refine aa0 (au (u:=.bool false) rfl (fun w' hw=>(b43.chg hw id).cell (o:=1) rfl) (af ?_));(repeat' (first|refine bG rfl rfl ?_|refine aa0 (aa3 (af ?_))|refine aa0 (aa9 (af ?_))|refine aa0 (dM rfl (af ?_))|(refine aa0 (iP rfl rfl (fun _=>af ?_) (fun _=>af ?_))<;>(first|(exfalso;omega)|skip))));refine aa0 (au (u:=rv) rfl (fun w' hw=>(v53.chg hw id).cell (o:=0) rfl) (af ?_));(repeat' (refine bG rfl rfl ?_));refine aa0 (au (u:=pT bb) rfl (fun w' hw=>(v13.chg hw id).cell (o:=0) rfl) (af ?_));refine rX ?_;refine aa0 (au (u:=.slice na N.length nc) rfl (fun w' hw=>(g3.b.chg hw id).cell (o:=0) rfl) (af ?_));(repeat' (first|refine bG rfl rfl ?_|refine aa0 (aa3 (af ?_))));refine aa0 (bQ hrd (fun w' hw=>hw.keep) rfl rfl (by omega) hxq fun b o cs hl hR hat=>af ?_);obtain rfl:cs=snC x:=hR;refine rX ?_;refine aa0 (au (u:=vs x.path) rfl (fun w' hw=>(hat w' hw).get 0 rfl) (af ?_));(repeat' (refine bG rfl rfl ?_));refine aC rfl (aj (xC (hr3.keep (nZ _) m4.keep)) rfl ?_);rintro _ _ ⟨rfl,rfl⟩;refine ai ⟨rfl,m4,?_⟩;(repeat' (first|refine bH ?_|refine aa0 (aa9 (af ?_))));refine qq4 ?_;have b44:=b43.chg m4 id;have c04:Chg (fun j=>j=b4) W w4:=Chg.trans c03 m4.any i3;cases hc:refuse.contains x.path with
   |true=>rw [if_pos ⟨by omega,rfl⟩];refine qq2 ?_;refine aJ (u:=vi q) b44 rfl (show (2:Nat)<4 by omega) rfl rfl fun w5 b45 c5=>?_;replace b45:Bk w5 b4 59 (oC d false q stv):=b45;refine qq2 ?_;refine ah (u:=vi q) rfl (b45.cell (o:=2) rfl) ?_;(repeat' (first|refine qq3 ?_|(refine aU rfl rfl (fun _=>?_) (fun _=>?_)<;>(first|(exfalso;omega)|skip))));exact ak rfl rfl ⟨_,rfl,by rw [decide_eq_true (by dsimp only;omega)]<;>rfl,b45,Chg.trans c04 c5 i3⟩
   |false=>rw [if_neg (fun h=>by cases h.2)];refine qq2 ?_;refine ah (u:=vi a) rfl (b44.cell (o:=2) rfl) ?_;(repeat' (first|refine qq3 ?_|(refine aU rfl rfl (fun _=>?_) (fun _=>?_)<;>(first|(exfalso;omega)|skip))));exact ak rfl rfl ⟨_,rfl,by rw [decide_eq_false ha]<;>rfl,b44,c04⟩
  ·rw [if_neg (fun h=>hx h.1)];refine aV rfl (by kernel_rfl) (fun w'=>New w3 w') (Chg.drew _ _) ?_;intro w4 m4;(repeat' (refine aa0 (aa6 (af ?_))));refine aa0 (au (u:=.bool false) rfl (fun w' hw=>(b43.chg hw id).cell (o:=1) rfl) (af ?_));(repeat' (first|refine bH ?_|refine bG rfl rfl ?_|refine fV rfl rfl (by assumption) ?_|refine aa0 (aa3 (af ?_))|refine aa0 (aa9 (af ?_))|refine aa0 (yO (af ?_))|refine aa0 (dM rfl (af ?_))|(refine aa0 (iP rfl rfl (fun _=>af ?_) (fun _=>af ?_))<;>(first|(exfalso;omega)|skip))));have b44:=b43.chg m4 id;refine qq2 ?_;refine ah (u:=vi a) rfl (b44.cell (o:=2) rfl) ?_;(repeat' (first|refine qq3 ?_|(refine aU rfl rfl (fun _=>?_) (fun _=>?_)<;>(first|(exfalso;omega)|skip))));exact ak rfl rfl ⟨_,rfl,by rw [decide_eq_false ha]<;>rfl,b44,Chg.trans c03 m4.any i3⟩
end
abbrev fnV (bx b3:Nat) (c:Nat):Value:=.func (.func 35) #[] #[pT bx,pT b3,pT c]
theorem ad5 (bx b3:Nat):qH (Wk.one (fnV bx b3)) 1:=tN _ fun _=>rfl
def SqF (Pb:Nat->Prop) (bs:Nat) (v:Value) (f:Nat->Value) (l:List Nat) (W:World):Prop:=Bk W bs 108 [v]/\RdS (Wk.one f) 1 Pb W v l
theorem Sl {Pb:Nat->Prop} {bs:Nat} {v:Value} {f:Nat->Value} {l:List Nat}:TQ prog 55 #[pT bs] l.length (fun k=> #[vi ((l.length-1-k:Nat):Int),f (xR l k)]) (SqF Pb bs v f l):=by
 intro L J Jx W hRd hN hY h0;obtain ⟨hb,hr⟩:=hRd _ _ h0;obtain ⟨a,cp,rfl,hc1,hc2⟩:=hr.form;simp only [maxLen] at hc2;show CallsIn Fence.wide 0 prog _ ([.func (.yield L) #[] #[],pT bs]:List Value).toArray W _;refine jy func55 rfl ntmps55 rfl ?_;(repeat' (first|refine dh ?_|refine bI rfl (by repeat' (first|exact Qfn.out (by rintro _ ⟨⟨_,e⟩,_⟩;cases e)|exact Qrd.out|exact Qas.out|refine Qsr.out ?_|refine nR.out ?_|refine Qsc.out ?_|refine pW.out ?_)) ?_));refine ah rfl (hb.cell (o:=0) rfl) ?_;(repeat' (first|refine aa7 ?_|refine ai ?_|refine bU rfl ?_|refine bM ?_|refine Wr.block ?_|refine Wl.sub rfl rfl (by omega) (by omega) ?_));refine jr (σ:=Nat) (fun k=>[(0,.func (.yield L) #[] #[]),(1,pT bs),(3,vi ((l.length:Int)-1-(k:Int)))]) (fun k W'=>k<=l.length/\J k W') (fun k=>l.length-k) 0 ⟨rfl,rfl,by show vi ((l.length:Int)-1)=vi ((l.length:Int)-1-((0:Nat):Int));simp,trivial⟩ ⟨anq _,h0⟩ ?_;rintro k G W1 ⟨hk,hJ⟩;obtain ⟨hb1,hr1⟩:=hRd _ _ hJ;simp only [pq];obtain ⟨m,hm⟩: ∃m:Int,(l.length:Int)-1-(k:Int)=m:=⟨_,rfl⟩;rw [hm];(repeat' (refine dh ?_));refine bI rfl (by repeat' (first|exact Qfn.out (by rintro _ ⟨⟨_,e⟩,_⟩;cases e)|exact Qrd.out|exact Qas.out|refine Qsr.out ?_|refine nR.out ?_|refine Qsc.out ?_|refine pW.out ?_)) ?_;(repeat' (first|refine aa1 ?_|refine ai ?_|refine bM ?_|refine dh ?_|refine Wr.block ?_|refine Wr.skip ?_|refine iG ?_|refine iH ?_|refine dJ ?_|refine dQ ?_|refine dY rfl ?_|refine dZ rfl ?_|refine aU rfl rfl (fun _=>?_) (fun _=>?_)))
 ·obtain ⟨q,rfl⟩:=ane (show 0<=m by omega);obtain ⟨y,hy⟩:=nT l (k:=q) (by omega);have hq:q=l.length-1-k:=by omega
  have hg:xR l k=y:=by unfold xR;rw [<-hq,an7,hy];rfl
  refine jw (l1:=[_,_,_,_,_,_]) (l2:=[_]) rfl rfl rfl (by repeat' (first|exact Qfn.out (by rintro _ ⟨⟨_,e⟩,_⟩;cases e)|exact Qrd.out|exact Qas.out|refine Qsr.out ?_|refine nR.out ?_|refine Qsc.out ?_|refine pW.out ?_)) ?_;(repeat' (refine aa1 ?_));refine ah rfl (hb1.cell (o:=0) rfl) ?_;(repeat' (refine aa1 ?_));refine aZ hr1 rfl rfl (by omega) hy fun bb o hcell=>?_;refine ah (u:=f y) rfl hcell ?_;(repeat' (refine ai ?_));refine ⟨rfl,L,vi q,f y,rfl,rfl,rfl,?_⟩;have hy2:=hY k W1 (by omega) hJ;dsimp only at hy2;rw [hg, <-hq] at hy2;refine Wk.YieldAt.mono hy2 ?_;rintro e W4 (⟨rfl,hJ4⟩|⟨rfl,hJ4⟩)
  ·refine ⟨_,rfl,?_⟩;(repeat' (first|refine aa1 ?_|refine aa7 ?_|refine ai ?_|refine dw rfl ?_|refine bM ?_|refine bI rfl (by repeat' (first|exact Qfn.out (by rintro _ ⟨⟨_,e⟩,_⟩;cases e)|exact Qrd.out|exact Qas.out|refine Qsr.out ?_|refine nR.out ?_|refine Qsc.out ?_|refine pW.out ?_)) ?_|refine Wr.skip ?_|refine dL ?_|refine dZ rfl ?_|refine Wl.sub rfl rfl (by omega) (by omega) ?_));exact ax (k+1) ⟨rfl,rfl,by show vi ((q:Int)-1)=vi ((l.length:Int)-1-((k+1:Nat):Int));congr 1;omega,trivial⟩ ⟨by omega,hJ4⟩ (by omega)
  ·refine ⟨_,rfl,?_⟩;(repeat' (first|refine ai ?_|refine dw rfl ?_|refine bM ?_|refine jo ?_|refine jq ?_|refine fJ ?_|refine fK ?_|refine dY rfl ?_));exact eX rfl ⟨⟨_,rfl⟩,.inr hJ4⟩
 ·have e:k=l.length:=by omega
  subst e;exact cO rfl ⟨⟨_,rfl⟩,.inl hJ⟩
theorem Jl {w:World} {v:Value} {a:Option Addr} {n m:Nat} (hv:v=.slice a n m):
 Calls prog 36 #[v] w (Ret fun r w'=>r=.func (.func 55) #[] #[pT w.heap.size]/\Bk w' w.heap.size 108 [v]/\New w w'):=by
 subst hv;refine nM func36 rfl ntmps36 rfl ?_;refine qq4 ?_;refine Wl.box rfl fun w1 b1 n1 s1=>?_;replace b1:Bk w1 w.heap.size 108 [.slice a n m]:=b1;refine qq4 ?_;refine dn (f1:=[]) (c1:=[pT w.heap.size]) rfl rfl ?_;refine qq3 ?_;exact ak rfl rfl ⟨_,rfl,rfl,b1,n1⟩
section
variable {Pb:Nat->Prop} {bb:Nat} {N:List Sn} {A:As} {ord oJ:List Nat} {down:Bool} {nv ov sv stv:Value} {W:World}
theorem VH {lo bx b3 c i:Nat} {d k:Bool} {by0:Int} {S:List Stp} (g:BdM Pb bb (snA N A) ord oJ down nv ov sv W) (vx:Bk W bx 59 (oC d k by0 stv)) (oS:nP (flat stC) 64 2 (fun b=>lo<=b) NoB W stv S)
 (v3:Bk W b3 38 [pT bb]) (vc:Bk W c 3 [vi i]) (hi:i<N.length) (hP: ∀b,Pb b->b<lo) (hx:lo<=bx) (h3:lo<=b3) (hc:lo<=c) (hlo:lo<=W.heap.size) (hS:S.length<=2000):
 Calls prog 35 #[pT bx,pT b3,pT c] W (Ret fun _ w'=> ∃zq,Bk w' bx 59 (oC d k by0 zq)/\nP (flat stC) 64 2 (fun b=>lo<=b) NoB w' zq (S++ [(i,false)])/\
  BdM Pb bb (snA N (vC A i false)) ord oJ down nv ov sv w'/\Chg (fun j=>nv.ownBlock=some j∨j=bx∨stv.ownBlock=some j) W w'):=by
 have hnv: ∀j,nv.ownBlock=some j->j<lo:=fun j e=>hP j (g.nd.a.row.lt e).1;have hsv: ∀j,stv.ownBlock=some j->lo<=j:=fun j e=>(oS.lt e).1;have hno: ∀ {b:Nat} {T:TypeId} {cs:List Value},Bk W b T cs->ank 64 T=false->lo<=b-> ∀W',Chg (fun j=>nv.ownBlock=some j∨stv.ownBlock=some j) W W'->Bk W' b T cs:=fun hb hT hW W' c=>hb.chg c fun e=>by
  rcases e with e|e
  ·have:=hnv _ e;omega
  ·exact oS.oM hb hT e rfl
 refine nM func35 rfl ntmps35 rfl ?_;refine aV rfl (by kernel_rfl) (fun w'=>Chg (fun j=>nv.ownBlock=some j∨stv.ownBlock=some j) W w') (Chg.drew _ _) ?_;intro w1 m1;(repeat' (refine aa0 (aa6 (af ?_))));refine aa0 (au (u:=stv) rfl (fun W' c=>(hno vx rfl hx W' c).cell (o:=3) rfl) (af ?_));refine aa0 (au (u:=pT bb) rfl (fun W' c=>(hno v3 rfl h3 W' c).cell (o:=0) rfl) (af ?_));refine aa0 (au (u:=vi i) rfl (fun W' c'=>(hno vc rfl hc W' c').cell (o:=0) rfl) (af ?_));refine aC rfl (aj (BN (v:=false) (g.new m1) hi) rfl ?_);rintro _ w2 ⟨rfl,g2,c2⟩;have c02:Chg (fun j=>nv.ownBlock=some j) W w2:=Chg.trans m1.any c2 i3;refine ai ⟨rfl,c02.mono fun _ _ e=>.inl e,?_⟩;refine aC rfl (bC (R:=flat stC) (Pe:=NoB) (y:=(i,false)) Bz rfl rfl rfl rfl (by omega) (by omega) fun v3' w3 o3 n3 s3' e3=>?_);have c03:Chg (fun j=>nv.ownBlock=some j) W w3:=Chg.trans c02 n3.any i3;refine ai ⟨rfl,c03.mono fun _ _ e=>.inl e,?_⟩;refine aC rfl (bY (R:=flat stC) Bz (oS.chg (nK _) c03 fun j hj e=>by have:=hnv j e;have:=hsv j hj;omega) (o3.rd (nS _)) (fun y cs hy=>hy) rfl rfl (by omega) (by simp only [maxLen,anM];omega) (by simp only [anM];omega) fun u' w4 o4 c4 lie _=>?_);have c04:Chg (fun j=>nv.ownBlock=some j∨stv.ownBlock=some j) W w4:=Chg.trans (c03.mono fun _ _ e=>.inl e) c4 fun _ _ e=>.inr e;refine ai ⟨rfl,c04,?_⟩;(repeat' (refine aa0 (aa6 (af ?_))));have vx4:=hno vx rfl hx w4 c04;refine Wt.last rfl (aJ (u:=u') vx4 rfl (show (3:Nat)<4 by omega) rfl (by obtain ⟨_,_,rfl,_⟩:=o4.form;rfl) fun w5 b5 c5=>?_);refine ai ?_;have hz3:=c03.size;refine cO rfl ⟨_,rfl,u',b5,(o4.chg (nK _) c5 fun j hj e=>o4.oM vx4 rfl hj e).mono (nS _) (fun b _ e=>e.elim id fun e=>by have e:w3.heap.size<=b:=e;show lo<=b;omega) i3,((g2.new n3).chg c4 fun j hj e=>by have:=hP j hj;have:=hsv j e;omega).chg c5 fun j hj e=>by have:=hP j hj;omega,Chg.trans (c04.mono fun j _ e=>?_) c5 fun j _ e=>.inr (.inl e)⟩;rcases e with e|e
 ·exact .inl e
 ·exact .inr (.inr e)
end
structure SuE (Pb:Nat->Prop) (lo bb b3 b4 b5 b6 bx bk bl bf:Nat) (N:List Sn) (A:As) (ord oJ:List Nat) (nv ov sv:Value) (refuse:List Nm) (wakes:List Wkr) (rv wv:Value) (kb:Bool) (by0:Int) (S:List Stp) (sl B:List Nat) (stv slv bkv:Value) (V:World):Prop where
 g:BdM Pb bb (snA N A) ord oJ false nv ov sv V
 v3:Bk V b3 38 [pT bb]
 v4:Bk V b4 24 [rv]
 v5:Bk V b5 55 [wv]
 v6:Bk V b6 59 (oC false false 0 (.slice none 0 0))
 vx:Bk V bx 59 (oC false kb by0 stv)
 vk:Bk V bk 108 [bkv]
 vl:Bk V bl 65 [slv]
 vf:Bk V bf 51 [.func (.func 32) #[] #[pT b3,pT b5,pT bl,pT bx,pT b4]]
 oS:nP (flat stC) 64 2 (fun b=>lo<=b) NoB V stv S
 oL:nP (Wk.one viN) 3 1 (fun b=>lo<=b) NoB V slv sl
 oB:nP (Wk.one (fnV bx b3)) 1 1 (fun b=>lo<=b) NoB V bkv B
 len:B.length=sl.length
 box: ∀(m c i:Nat),B[m]? =some c->sl[m]? =some i->Bk V c 3 [vi i]/\lo<=c/\slv.ownBlock≠some c
 rr:RdS (Wk.one vs) 1 (fun b=>b<lo/\ ¬Pb b) V rv refuse
 rw:RdS (flat wkC) 2 (fun b=>b<lo/\ ¬Pb b) V wv wakes
 hP: ∀b,Pb b->b<lo
 lo0:lo<=b3/\lo<=b4/\lo<=b5/\lo<=b6/\lo<=bx/\lo<=bk/\lo<=bl/\lo<=bf/\lo<=V.heap.size
 ne:b6≠bx
section
variable {Pb:Nat->Prop} {lo bb b3 b4 b5 b6 bx bk bl bf:Nat} {N:List Sn} {A:As} {ord oJ:List Nat} {nv ov sv:Value} {refuse:List Nm} {wakes:List Wkr} {rv wv:Value} {kb:Bool} {by0:Int} {S:List Stp} {sl B:List Nat} {stv slv bkv:Value} {V V':World} {M:Nat->Prop}
theorem SuE.nvl (h:SuE Pb lo bb b3 b4 b5 b6 bx bk bl bf N A ord oJ nv ov sv refuse wakes rv wv kb by0 S sl B stv slv bkv V): ∀j,nv.ownBlock=some j->j<lo:=fun j e=>h.hP j (h.g.nd.a.row.lt e).1
theorem SuE.VI (h:SuE Pb lo bb b3 b4 b5 b6 bx bk bl bf N A ord oJ nv ov sv refuse wakes rv wv kb by0 S sl B stv slv bkv V) (c:Chg M V V') (hM: ∀j,M j->NoC V j/\lo<=j):SuE Pb lo bb b3 b4 b5 b6 bx bk bl bf N A ord oJ nv ov sv refuse wakes rv wv kb by0 S sl B stv slv bkv V':=by
 have hk:Keep (fun b=>b<lo/\ ¬Pb b) V V':=c.keep fun b _ hb e=>by have:=(hM b e).2;have:=hb.1;omega
 refine ⟨h.g.chg c fun k hk e=>by have:=h.hP k hk;have:=(hM k e).2;omega,h.v3.chg c fun e=>h.v3.nl (hM _ e).1 rfl,h.v4.chg c fun e=>h.v4.nl (hM _ e).1 rfl,h.v5.chg c fun e=>h.v5.nl (hM _ e).1 rfl,h.v6.chg c fun e=>h.v6.nl (hM _ e).1 rfl,h.vx.chg c fun e=>h.vx.nl (hM _ e).1 rfl,h.vk.chg c fun e=>h.vk.nl (hM _ e).1 rfl,h.vl.chg c fun e=>h.vl.nl (hM _ e).1 rfl,h.vf.chg c fun e=>h.vf.nl (hM _ e).1 rfl,
  h.oS.chg (nK _) c fun k hk e=>h.oS.nl (hM k e).1 hk rfl,h.oL.chg (nO _) c fun k hk e=>h.oL.nl (hM k e).1 hk rfl,h.oB.chg (nO _) c fun k hk e=>h.oB.nl (hM k e).1 hk rfl,h.len,fun m x i h1 h2=>?_,h.rr.keep (nZ _) hk,h.rw.keep (oH _) hk,h.hP,?_,h.ne⟩
 ·obtain ⟨q1,q2⟩:=h.box m x i h1 h2;exact ⟨q1.chg c fun e=>q1.nl (hM _ e).1 rfl,q2⟩
 ·have:=h.lo0;have:=c.size;omega
theorem SuE.new (h:SuE Pb lo bb b3 b4 b5 b6 bx bk bl bf N A ord oJ nv ov sv refuse wakes rv wv kb by0 S sl B stv slv bkv V) (n:New V V'):SuE Pb lo bb b3 b4 b5 b6 bx bk bl bf N A ord oJ nv ov sv refuse wakes rv wv kb by0 S sl B stv slv bkv V':=h.VI n fun _ e=>e.elim
theorem SuE.stop {kb':Bool} {by':Int} (h:SuE Pb lo bb b3 b4 b5 b6 bx bk bl bf N A ord oJ nv ov sv refuse wakes rv wv kb by0 S sl B stv slv bkv V) (vx:Bk V' bx 59 (oC false kb' by' stv)) (c:Chg (fun j=>j=bx) V V'):SuE Pb lo bb b3 b4 b5 b6 bx bk bl bf N A ord oJ nv ov sv refuse wakes rv wv kb' by' S sl B stv slv bkv V':=by
 have hk:Keep (fun b=>b<lo/\ ¬Pb b) V V':=c.keep fun b _ hb e=>by have:=h.lo0;have:=hb.1;omega
 refine ⟨h.g.chg c fun k hk e=>by have:=h.hP k hk;have:=h.lo0;omega,h.v3.chg c fun e=>h.v3.oM h.vx rfl e,h.v4.chg c fun e=>h.v4.oM h.vx rfl e,h.v5.chg c fun e=>h.v5.oM h.vx rfl e,h.v6.chg c h.ne,vx,h.vk.chg c fun e=>h.vk.oM h.vx rfl e,h.vl.chg c fun e=>h.vl.oM h.vx rfl e,h.vf.chg c fun e=>h.vf.oM h.vx rfl e,
  h.oS.chg (nK _) c fun k hk e=>h.oS.oM h.vx rfl hk e,h.oL.chg (nO _) c fun k hk e=>h.oL.oM h.vx rfl hk e,h.oB.chg (nO _) c fun k hk e=>h.oB.oM h.vx rfl hk e,h.len,fun m x i h1 h2=>?_,h.rr.keep (nZ _) hk,h.rw.keep (oH _) hk,h.hP,?_,h.ne⟩
 ·obtain ⟨q1,q2⟩:=h.box m x i h1 h2;exact ⟨q1.chg c fun e=>q1.oM h.vx rfl e,q2⟩
 ·have:=h.lo0;have:=c.size;omega
theorem SuE.step {A':As} {S':List Stp} {zq:Value} (h:SuE Pb lo bb b3 b4 b5 b6 bx bk bl bf N A ord oJ nv ov sv refuse wakes rv wv kb by0 S sl B stv slv bkv V) (g:BdM Pb bb (snA N A') ord oJ false nv ov sv V') (vx:Bk V' bx 59 (oC false kb by0 zq)) (oS:nP (flat stC) 64 2 (fun b=>lo<=b) NoB V' zq S')
 (c:Chg (fun j=>nv.ownBlock=some j∨j=bx∨stv.ownBlock=some j) V V'):SuE Pb lo bb b3 b4 b5 b6 bx bk bl bf N A' ord oJ nv ov sv refuse wakes rv wv kb by0 S' sl B zq slv bkv V':=by
 have hnv:=h.nvl;have hl:=h.lo0;have hb: ∀ {b:Nat} {T:TypeId} {cs:List Value},Bk V b T cs->ank 64 T=false->b≠bx->lo<=b->Bk V' b T cs:=fun hb hT hx hl=>hb.chg c fun e=>by
  rcases e with e|e|e
  ·have:=hnv _ e;omega
  ·exact hx e
  ·exact h.oS.oM hb hT e rfl
 have aiY: ∀j,stv.ownBlock=some j->lo<=j:=fun j e=>(h.oS.lt e).1;have hk:Keep (fun b=>b<lo/\ ¬Pb b) V V':=c.keep fun b _ hb e=>by
  have h1:=hb.1;rcases e with e|e|e
  ·exact hb.2 (h.g.nd.a.row.lt e).1
  ·omega
  ·have:=aiY b e;omega
 refine ⟨g,hb h.v3 rfl (h.v3.oM h.vx rfl) (by omega),hb h.v4 rfl (h.v4.oM h.vx rfl) (by omega),hb h.v5 rfl (h.v5.oM h.vx rfl) (by omega),hb h.v6 rfl h.ne (by omega),vx,hb h.vk rfl (h.vk.oM h.vx rfl) (by omega),hb h.vl rfl (h.vl.oM h.vx rfl) (by omega),hb h.vf rfl (h.vf.oM h.vx rfl) (by omega),oS, h.oL.chg (nO _) c fun k hk e=>?_,h.oB.chg (nO _) c fun k hk e=>?_,h.len,fun m x i h1 h2=>?_,h.rr.keep (nZ _) hk,h.rw.keep (oH _) hk,h.hP,?_,h.ne⟩
 ·have h9:lo<=k:=(h.oL.lt hk).1;rcases e with e|e|e
  ·have:=hnv k e;omega
  ·exact h.oL.oM h.vx rfl hk e
  ·exact h.oS.sV h.oL rfl k e hk
 ·have h9:lo<=k:=(h.oB.lt hk).1;rcases e with e|e|e
  ·have:=hnv k e;omega
  ·exact h.oB.oM h.vx rfl hk e
  ·exact h.oS.sV h.oB rfl k e hk
 ·obtain ⟨q1,q2,q3⟩:=h.box m x i h1 h2;exact ⟨hb q1 rfl (q1.oM h.vx rfl) q2,q2,q3⟩
 ·have:=c.size;omega
end
theorem kF {P:Program} {n:Nat} {Q:Pd} {ds:List Deferred} {F:Fr} {w:World} {a b:Code} (M:List Deferred->Fr->World->Prop)
 (h1:Wd P n (fun e ds' F w=>e=.normal/\M ds' F w) a ds F w) (h2: ∀ds' F w,M ds' F w->Wd P n Q b ds' F w):Wd P n Q (.seq a b) ds F w:=by
 refine dO ?_;unfold Wd at h1 ⊢;refine wp_mono h1 ?_;rintro e a' w' ⟨ds',F',rfl,rfl,hM⟩;refine ⟨_,F',rfl,?_⟩;unfold Qds;exact h2 ds' F' w' hM
theorem ZK {N:List Sn} {A:As} (q:Nm):idx (fun s:Sn=>s.path == q) (snA N A)=idx (fun s:Sn=>s.path == q) N:=by
 have hm:(snA N A).map (·.path)=N.map (·.path):=by
  apply anC;intro k;rw [an3,an3];by_cases hk:k<N.length
  ·rw [wX hk];obtain ⟨x,hx⟩:=nT N hk;have e:N.getD k default=x:=by rw [an7,hx];rfl
   rw [hx,e];rfl
  ·rw [anl (by rw [rY];omega),anl (by omega)]
 have h1: ∀l:List Sn,l.findIdx? (fun s:Sn=>s.path == q)=(l.map (·.path)).findIdx? (· == q):=fun l=>by rw [aqE];rfl
 unfold idx;rw [h1,h1,hm]
theorem VJ {N:List Sn} {A:As} (l:List Wkr) (k:Int):rD (snA N A) l k=rD N l k:=by
 induction l with
 |nil=>rfl
 |cons x r ih=>
  unfold rD;rw [ZK,ih];have h1: ∀i,((snA N A).getD i default).bound=(N.getD i default).bound:=fun i=>(EI N A i).1;have h2: ∀i,((snA N A).getD i default).xM=(N.getD i default).xM:=fun i=>by
   by_cases h:i<N.length
   ·rw [PK h]
   ·rw [Uf h]
  rw [h1,h2]
theorem PN {N:List Sn} {A:As} (refuse:List Nm) (wakes:List Wkr) (k next:Int):qZ (snA N A) refuse wakes k next=qZ N refuse wakes k next:=by
 unfold qZ;rw [VJ,(EI N A next.toNat).2.1]
theorem PO (N:List Sn) (refuse:List Nm) (wakes:List Wkr) (k next:Int):(0<=(qZ N refuse wakes k next).1)∨qZ N refuse wakes k next=(-1,false):=by
 unfold qZ;rcases Gu N wakes k with h|⟨j,h,_⟩
 ·rw [h,if_neg (by decide)];split
  ·rename_i h2;exact .inl h2.1
  ·exact .inr rfl
 ·rw [h,if_pos (by omega)];exact .inl (by dsimp only;omega)
def Gv (N:List Sn) (refuse:List Nm) (wakes:List Wkr) (m:Nat) (o:Option Nat):Option (Nat×Bool):=
 if 0<=(qZ N refuse wakes m (pU o)).1 then some ((qZ N refuse wakes m (pU o)).1.toNat,(qZ N refuse wakes m (pU o)).2) else none
section
variable {Pb:Nat->Prop} {lo bb b3 b4 b5 b6 bx bk bl bf:Nat} {N:List Sn} {A:As} {ord oJ:List Nat} {nv ov sv:Value} {refuse:List Nm} {wakes:List Wkr} {rv wv:Value} {kb:Bool} {by0:Int} {S:List Stp} {sl B:List Nat} {stv slv bkv:Value} {V V':World} {M:Nat->Prop}
theorem SuE.push {Ye abE:Value} {i c:Nat} (h:SuE Pb lo bb b3 b4 b5 b6 bx bk bl bf N A ord oJ nv ov sv refuse wakes rv wv kb by0 S sl B stv slv bkv V) (vl:Bk V' bl 65 [Ye]) (vk:Bk V' bk 108 [abE]) (oL:nP (Wk.one viN) 3 1 (fun b=>lo<=b) NoB V' Ye (sl++ [i])) (oB:nP (Wk.one (fnV bx b3)) 1 1 (fun b=>lo<=b) NoB V' abE (B++ [c]))
 (vc:Bk V' c 3 [vi i]) (hc:lo<=c) (hs:Ye.ownBlock≠some c) (hs2: ∀j,Ye.ownBlock=some j->slv.ownBlock=some j∨V.heap.size<=j) (cg:Chg (fun j=>j=bl∨j=bk∨slv.ownBlock=some j∨bkv.ownBlock=some j) V V'):SuE Pb lo bb b3 b4 b5 b6 bx bk bl bf N A ord oJ nv ov sv refuse wakes rv wv kb by0 S (sl++ [i]) (B++ [c]) stv Ye abE V':=by
 have hl:=h.lo0;have hlL: ∀j,slv.ownBlock=some j->lo<=j:=fun j e=>(h.oL.lt e).1;have hlB: ∀j,bkv.ownBlock=some j->lo<=j:=fun j e=>(h.oB.lt e).1;have low: ∀j,j<lo-> ¬(j=bl∨j=bk∨slv.ownBlock=some j∨bkv.ownBlock=some j):=fun j hj e=>by
  rcases e with e|e|e|e
  ·omega
  ·omega
  ·have:=hlL j e;omega
  ·have:=hlB j e;omega
 have hb: ∀ {b:Nat} {T:TypeId} {cs:List Value},Bk V b T cs->ank T 65=false->ank T 108=false->ank 3 T=false->ank 1 T=false->Bk V' b T cs:=fun hb h1 h2 h3 h4=>hb.chg cg fun e=>by
  rcases e with e|e|e|e
  ·exact hb.oM h.vl h1 e
  ·exact hb.oM h.vk h2 e
  ·exact h.oL.oM hb h3 e rfl
  ·exact h.oB.oM hb h4 e rfl
 have hk:Keep (fun b=>b<lo/\ ¬Pb b) V V':=cg.keep fun b _ hb e=>low b hb.1 e;refine ⟨h.g.chg cg fun k hk e=>low k (h.hP k hk) e,hb h.v3 rfl rfl rfl rfl,hb h.v4 rfl rfl rfl rfl,hb h.v5 rfl rfl rfl rfl,hb h.v6 rfl rfl rfl rfl,hb h.vx rfl rfl rfl rfl,vk,vl,hb h.vf rfl rfl rfl rfl,h.oS.chg (nK _) cg fun k hk e=>?_,oL,oB,by rw [am7,am7,h.len];rfl,fun m x j h1 h2=>?_,h.rr.keep (nZ _) hk,h.rw.keep (oH _) hk,h.hP,?_,h.ne⟩
 ·rcases e with e|e|e|e
  ·exact h.oS.oM h.vl rfl hk e
  ·exact h.oS.oM h.vk rfl hk e
  ·exact h.oS.sV h.oL rfl k hk e
  ·exact h.oS.sV h.oB rfl k hk e
 ·by_cases hm:m<sl.length
  ·rw [anm (by rw [h.len];exact hm)] at h1;rw [anm hm] at h2;obtain ⟨r1,r2,r3⟩:=h.box m x j h1 h2;have hxl:=r1.lt;refine ⟨r1.chg cg fun e=>?_,r2,fun e=>?_⟩
   ·rcases e with e|e|e|e
    ·exact r1.oM h.vl rfl e
    ·exact r1.oM h.vk rfl e
    ·exact r3 e
    ·exact h.oB.oM r1 rfl e rfl
   ·rcases hs2 x e with e|e
    ·exact r3 e
    ·omega
  ·have hml:m=sl.length:=by have:=(List.getElem?_eq_some_iff.1 h2).1;rw [am7,anM] at this;omega
   subst hml;rw [anb (by rw [h.len];exact aap _),h.len,aps] at h1;rw [anb (aap _),aps] at h2;cases h1;cases h2;exact ⟨vc,hc,hs⟩
 ·have:=cg.size;omega
theorem BdM.aiZ (g:BdM Pb bb N ord oJ false nv ov sv V) (hP: ∀b,Pb b->b<lo) (oL:nP (Wk.one viN) 3 1 (fun b=>lo<=b) NoB V slv sl) (b':Bk V' bb 85 [nv,ov,slv,.bool true]) (c:Chg (fun k=>k=bb) V V'):BdM (fun b=>Pb b∨slv.ownBlock=some b) bb N ord sl true nv ov slv V':=by
 have sep: ∀u:Value,(∀k,u.ownBlock=some k->Pb k)->Sep u slv:=fun u hu k e1 e2=>by have h1:=hP k (hu k e1);have h2:lo<=k:=(oL.lt e2).1;omega
 refine ⟨b',⟨(g.nd.a.CB (P:=prog) g.b rfl rfl c).mono fun b _ e=>.inl e,(g.nd.b.CB (P:=prog) g.b rfl rfl c).mono fun b _ e=>.inl e,g.nd.x⟩,(g.od.chg (nO _) c fun k hk e=>g.od.oM g.b rfl hk e).mono (nV _) (fun b _ e=>.inl e) i3,(oL.chg (nO _) c fun k hk e=>oL.oM g.b rfl hk e).yQ fun b hb _=>.inr hb, fun x hx=>⟨(g.so x hx).1,(g.so x hx).2.1,sep _ fun k e=>((g.nd.a.el x hx).lt e).1,sep _ fun k e=>((g.nd.b.el x hx).lt e).1⟩,sep _ fun k e=>(g.od.lt e).1,g.win,g.nl,.inl g.lo⟩
end
theorem vg {w:World}:(Instr.build 59 #[]).run prog w=.ok (.agg (oC false false 0 (.slice none 0 0)).toArray) w:=by
 kernel_rfl
theorem JK {w:World}:(Instr.build 59 #[(2,vi (-1))]).run prog w=.ok (.agg (oC false false (-1) (.slice none 0 0)).toArray) w:=by
 kernel_rfl
theorem oC1 {d k:Bool} {by0:Int} {a:Option Addr} {l m:Nat}: ∀c∈oC d k by0 (.slice a l m),c.oneCell'=true:=by
 intro c hc;simp at hc;rcases hc with rfl|rfl|rfl|rfl<;>rfl
def Yf (Pb:Nat->Prop) (bb:Nat) (N:List Sn) (A:As) (ord oJ:List Nat) (down:Bool) (nv ov sv:Value) (refuse:List Nm) (wakes:List Wkr) (W:World) (r:Value) (w':World):Prop:=
 (down=true/\r=.tuple #[.agg (oC false false 0 (.slice none 0 0)).toArray,vi 5]/\New W w')∨
 (down=false/\(512<refuse.length∨512<wakes.length∨wakes.any early=true)/\r=.tuple #[.agg (oC false false 0 (.slice none 0 0)).toArray,vi 1]/\New W w')∨
 (down=false/\ ¬(512<refuse.length∨512<wakes.length∨wakes.any early=true)/\ ∃(l:List Nat) (o:Option (Nat×Bool)) (v:Value),pO (Gv N refuse wakes) ord.reverse A []=(l,o)/\
   match o with
   |some x=>r=.tuple #[.agg (oC false x.2 x.1 v).toArray,vi 0]/\nP (flat stC) 64 2 (fun b=>W.heap.size<=b) NoB w' v (upS l++dnS l)/\BdM Pb bb (snA N (qU A (upS l++dnS l))) ord oJ false nv ov sv w'/\Chg (fun k=>nv.ownBlock=some k) W w'
   |none=> ∃slv,r=.tuple #[.agg (oC true false (-1) v).toArray,vi 0]/\nP (flat stC) 64 2 (fun b=>W.heap.size<=b) NoB w' v (upS l)/\BdM Pb bb (snA N (qU A (upS l))) ord l true nv ov slv w'/\Chg (fun k=>nv.ownBlock=some k∨k=bb) W w')
theorem DI {stop:Nat->Option Nat->Option (Nat×Bool)}: ∀(r:List Nat) (A:As) (sl:List Nat), ∀i∈(pO stop r A sl).1,i∈r∨i∈sl
 | [],A,sl,i,h=>.inr h
 |k::r,A,sl,i,h=>by
  rw [pO] at h;split at h
  ·rcases DI r A sl i h with e|e
   ·exact .inl (aoC _ e)
   ·exact .inr e
  ·cases hs:stop sl.length (some k) with
   |some x=>rw [hs] at h;exact .inr h
   |none=>
    rw [hs] at h;rcases DI r _ _ i h with e|e
    ·exact .inl (aoC _ e)
    ·rcases List.mem_append.1 e with e|e
     ·exact .inr e
     ·rw [List.mem_singleton.1 e];exact .inl ap2
section
variable {Pb Pr Pw:Nat->Prop} {bb:Nat} {N:List Sn} {A:As} {ord oJ:List Nat} {down:Bool} {nv ov sv rv wv:Value} {refuse:List Nm} {wakes:List Wkr} {W:World}
theorem MJ (g:BdM Pb bb (snA N A) ord oJ down nv ov sv W) (hP: ∀b,W.heap.size<=b->Pb b) (ho: ∀k∈ord,k<N.length) (hol:ord.length<=512) (hr:RdS (Wk.one vs) 1 Pr W rv refuse) (hrP: ∀b,Pr b-> ¬Pb b) (hw:RdS (flat wkC) 2 Pw W wv wakes) (hwP: ∀b,Pw b-> ¬Pb b):
 Calls prog 16 #[pT bb,rv,wv] W (Ret fun r w'=>Yf Pb bb N A ord oJ down nv ov sv refuse wakes W r w'):=by
 have hnl:=g.nl;rw [rY] at hnl;obtain ⟨oa,oc,rfl,_,_⟩:=g.od.form;obtain ⟨ra,rc,rfl,_,_⟩:=hr.form;obtain ⟨wa,wc,rfl,_,_⟩:=hw.form;have gP:=g;replace g:=g.mono (Pb':=fun b=>Pb b/\b<W.heap.size) fun b hb e=>⟨e,hb⟩;refine tZ func16 rfl ntmps16 rfl ?_;refine qq0 ?_;refine Wl.box rfl fun w1 b1 n1 s1=>?_;replace b1:Bk w1 W.heap.size 38 [pT bb]:=b1;refine Wl.box rfl fun w2 b2 n2 s2=>?_;replace b2:Bk w2 w1.heap.size 24 [.slice ra refuse.length rc]:=b2;refine Wl.box rfl fun w3 b3 n3 s3=>?_;replace b3:Bk w3 w2.heap.size 55 [.slice wa wakes.length wc]:=b3;refine Wl.alloc fun w4 b4 n4 s4=>?_;replace b4:Bk w4 w3.heap.size 59 (oC false false 0 (.slice none 0 0)):=b4;have n04:=New.trans n1 (New.trans n2 (New.trans n3 n4));have v1:=b1.chg (New.trans n2 (New.trans n3 n4)) id;have v2:=b2.chg (New.trans n3 n4) id;have v3:=b3.chg n4 id;have g4:=g.new n04;have hz1:=n1.size;have hz2:=n2.size;have hz3:=n3.size;have hz4:=n4.size;have abo:=b2.lt;have abp:=b3.lt;have abr:=b4.lt;clear b1 b2 b3 n1 n2 n3 n4;generalize hbr:w1.heap.size=br at*;generalize hbw:w2.heap.size=bw at*;generalize hb6:w3.heap.size=b6 at*;refine qq1 ?_;refine ah (u:=pT bb) rfl (v1.cell (o:=0) rfl) ?_;refine fG rfl rfl ?_;refine qq1 ?_;refine ah (u:=pT bb) rfl (v1.cell (o:=0) rfl) ?_;refine BR ?_;refine ah (u:=.bool down) rfl (g4.b.cell (o:=3) rfl) ?_;cases hdn:down with
 |true=>refine qq1 ?_;refine dU (ps:=[]) (parts:=[]) rfl vg ?_;refine aH (new:=oC false false 0 (.slice none 0 0)) b4 rfl rfl rfl rfl zl4 oC1 fun w5 b5 c5 s5=>?_;refine qq0 ?_;exact dG (qB rfl (qO rfl rfl b5 rfl) (pJ rfl)) ⟨_,rfl,.inl ⟨rfl,rfl,(Chg.trans (M:=fun k=>k=b6) n04.any c5 i3).tN⟩⟩
 |false=>
 subst hdn;have c45: ∀ {w5:World},Chg (fun k=>k=b6) w4 w5->New W w5:=fun c=>(Chg.trans (M:=fun k=>k=b6) n04.any c i3).tN
 refine qq1 ?_;refine ah (u:=.slice ra refuse.length rc) rfl (v2.cell (o:=0) rfl) ?_;(repeat' (first|refine qq1 ?_|refine aT rfl rfl (fun _=>?_) (fun _=>?_)))
 ·refine dU (ps:=[]) (parts:=[]) rfl vg ?_;refine aH (new:=oC false false 0 (.slice none 0 0)) b4 rfl rfl rfl rfl zl4 oC1 fun w5 b5 c5 s5=>?_;refine qq0 ?_;exact dG (qB rfl (qO rfl rfl b5 rfl) (pJ rfl)) ⟨_,rfl,.inr (.inl ⟨rfl,.inl (by omega),rfl,c45 c5⟩)⟩
 refine ah (u:=.slice wa wakes.length wc) rfl (v3.cell (o:=0) rfl) ?_;(repeat' (first|refine qq1 ?_|refine aT rfl rfl (fun _=>?_) (fun _=>?_)))
 ·refine dU (ps:=[]) (parts:=[]) rfl vg ?_;refine aH (new:=oC false false 0 (.slice none 0 0)) b4 rfl rfl rfl rfl zl4 oC1 fun w5 b5 c5 s5=>?_;refine qq0 ?_;exact dG (qB rfl (qO rfl rfl b5 rfl) (pJ rfl)) ⟨_,rfl,.inr (.inl ⟨rfl,.inr (.inl (by omega)),rfl,c45 c5⟩)⟩
 refine ah (u:=.slice wa wakes.length wc) rfl (v3.cell (o:=0) rfl) ?_;(repeat' (refine aa1 ?_));refine aj (GY (hw.keep (oH _) n04.keep)) rfl ?_;rintro _ w5 ⟨rfl,n5⟩;cases hea:wakes.any early with
 |true=>refine qq1 ?_;refine dU (ps:=[]) (parts:=[]) rfl vg ?_;refine aH (new:=oC false false 0 (.slice none 0 0)) (b4.chg n5 id) rfl rfl rfl rfl zl4 oC1 fun w6 b5 c5 s5=>?_;refine qq0 ?_;exact dG (qB rfl (qO rfl rfl b5 rfl) (pJ rfl)) ⟨_,rfl,.inr (.inl ⟨rfl,.inr (.inr hea),rfl,c45 (Chg.trans n5.any c5 i3)⟩)⟩
 |false=>
 have hno: ¬(512<refuse.length∨512<wakes.length∨wakes.any early=true):=by
  rintro (h|h|h)
  ·omega
  ·omega
  ·rw [hea] at h;cases h
 clear c45;(repeat' (first|refine aa7 ?_|refine ai ?_|refine dO ?_|refine iI rfl ?_|refine di ?_|refine fH ?_|refine eu ?_|refine Wd.skip ?_));refine dU (ps:=[(2,.const (vi (-1)))]) (parts:=[(2,vi (-1))]) rfl JK ?_;refine Wl.alloc fun w6 b7 n6 s6=>?_;refine aH (new:=oC false false (-1) (.slice none 0 0)) b7 rfl rfl rfl rfl zl4 oC1 fun w7 b7' c7 s7=>?_;replace b7':Bk w7 w5.heap.size 59 (oC false false (-1) (.slice none 0 0)):=b7';refine qq1 ?_;refine Wl.alloc fun w8 b8 n8 s8=>?_;replace b8:Bk w8 w7.heap.size 108 [.slice none 0 0]:=b8;refine qq1 ?_;refine Wl.alloc fun w9 b9 n9 s9=>?_;replace b9:Bk w9 w8.heap.size 65 [.slice none 0 0]:=b9;refine qq1 ?_;refine dn (f1:=[]) (c1:=[pT W.heap.size,pT bw,pT w8.heap.size,pT w5.heap.size,pT br]) rfl rfl ?_;refine Wl.alloc fun w10 b10 n10 s10=>?_;refine aJ (u:=.func (.func 32) #[] #[pT W.heap.size,pT bw,pT w8.heap.size,pT w5.heap.size,pT br]) b10 rfl (show (0:Nat)<1 by omega) rfl rfl fun w11 b11 c11=>?_;replace b11:Bk w11 w9.heap.size 51 [.func (.func 32) #[] #[pT W.heap.size,pT bw,pT w8.heap.size,pT w5.heap.size,pT br]]:=b11;have n57:New w5 w7:=(Chg.trans n6.any c7 i3).tN
 have Fz:New w9 w11:=(Chg.trans n10.any c11 i3).tN
 have hz5:=n5.size;have abf:=n57.size;have hz8:=n8.size;have hz9:=n9.size;have alM:=Fz.size;have ah8:=b7'.lt;have amJ:=b8.lt;have amK:=b9.lt;have amL:=b11.lt;have Sm:=New.trans n5 (New.trans n57 (New.trans n8 (New.trans n9 Fz)));have Rn:=New.trans n04 Sm;have E:SuE (fun b=>Pb b/\b<W.heap.size) W.heap.size bb W.heap.size br bw b6 w5.heap.size w7.heap.size w8.heap.size w9.heap.size N A ord oJ nv (.slice oa ord.length oc) sv refuse wakes (.slice ra refuse.length rc) (.slice wa wakes.length wc) false (-1) [] [] [] (.slice none 0 0) (.slice none 0 0) (.slice none 0 0) w11:= ⟨g4.new Sm,v1.chg Sm id,v2.chg Sm id,v3.chg Sm id,b4.chg Sm id,b7'.chg (New.trans n8 (New.trans n9 Fz)) id,b8.chg (New.trans n9 Fz) id,b9.chg Fz id,b11,aI,aI,aI,rfl,(fun m c i h=>by cases h), (hr.mono (Pb':=fun b=>b<W.heap.size/\ ¬(Pb b/\b<W.heap.size)) (nV _) fun b hb e=>⟨hb,fun q=>hrP b e q.1⟩).keep (nZ _) Rn.keep,(hw.mono (Pb':=fun b=>b<W.heap.size/\ ¬(Pb b/\b<W.heap.size)) (nS _) fun b hb e=>⟨hb,fun q=>hwP b e q.1⟩).keep (oH _) Rn.keep,fun b e=>e.2,⟨by omega,by omega,by omega,by omega,by omega,by omega,by omega,by omega,by omega⟩,by omega⟩;clear b4 b7 b7' b8 b9 b10 b11 v1 v2 v3 g4 n5 n6 c7 n8 n9 n10 c11 n57 Fz Sm n04;generalize hbx:w5.heap.size=bx at*;generalize hbk:w7.heap.size=bk at*;generalize hbl:w8.heap.size=bl at*;generalize hbf:w9.heap.size=bf at*;obtain ⟨stop,hstop⟩: ∃stop,stop=Gv N refuse wakes:=⟨_,rfl⟩;let Sg:Bool->Int->List Nat->List Nat->Value->Value->Value->World->Prop:=fun kb by0 sl B stv slv bkv V=>SuE (fun b=>Pb b/\b<W.heap.size) W.heap.size bb W.heap.size br bw b6 bx bk bl bf N (qU A (upS sl)) ord oJ nv (.slice oa ord.length oc) sv refuse wakes (.slice ra refuse.length rc) (.slice wa wakes.length wc) kb by0 (upS sl) sl B stv slv bkv V;(repeat' (first|refine ai ?_|refine di ?_));refine kF (fun ds' F V=> ∃D,ds'=[{target:=.collected D,args:= #[]}]/\agrees F [(3,pT W.heap.size),(6,pT b6),(9,pT bx),(10,pT bk),(11,pT bl),(12,pT bf)]/\V.heap[D]? =some (.deferred (some []))/\W.heap.size<=D/\ ∃(kb:Bool) (by0:Int) (sl B:List Nat) (stv slv bkv:Value), Sg kb by0 sl B stv slv bkv V/\Chg (fun j=>nv.ownBlock=some j) W V/\sl.length<=ord.length/\((by0= -1/\kb=false/\pO stop ord.reverse A []=(sl,stop sl.length none))∨ ∃x:Nat,by0=x/\pO stop ord.reverse A []=(sl,some (x,kb)))) ?_ ?_
 ·refine qq0 ?_;refine ah (u:=pT bb) rfl (E.v3.cell (o:=0) rfl) ?_;refine BR ?_;refine ah (u:=.slice oa ord.length oc) rfl (E.g.b.cell (o:=1) rfl) ?_;refine aj (CG rfl) rfl ?_;rintro _ w12 ⟨rfl,b12,n12⟩;have E12:=E.new n12;have Ze:=n12.size;have ad7:=b12.lt;generalize hbs:w11.heap.size=bs at*;let I:Nat->World->Prop:=fun k V=>w12.heap.size+2<=V.heap.size/\Bk V bs 65 [.slice oa ord.length oc]/\Chg (fun j=>nv.ownBlock=some j) W V/\ ∃(sl B:List Nat) (stv slv bkv:Value),Sg false (-1) sl B stv slv bkv V/\sl.length<=k/\pO stop ord.reverse A []=pO stop (ord.reverse.drop k) (qU A (upS sl)) sl;let Ix:Code->World->Prop:=fun c V=>c=.exit 1/\Chg (fun j=>nv.ownBlock=some j) W V/\w12.heap.size+2<=V.heap.size/\ ∃(kb:Bool) (x:Nat) (sl B:List Nat) (stv slv bkv:Value),Sg kb x sl B stv slv bkv V/\sl.length<=ord.length/\pO stop ord.reverse A []=(sl,some (x,kb));(repeat' (first|refine ai ?_|refine Wd.block ?_|refine di ?_));refine Wd.frame [(3,pT W.heap.size),(6,pT b6),(9,pT bx),(10,pT bk),(11,pT bl),(12,pT bf),(44,.func (.func 50) #[] #[pT bs])] ⟨rfl,rfl,rfl,rfl,rfl,rfl,rfl,trivial⟩ fun G0=>?_;simp only [pq];refine gZ (gf:=50) (lb:= #[pT bs]) rfl (fun args _=>qF inferInstance args) (KI (Pb:=fun _=>True) (bs:=bs) (v:=.slice oa ord.length oc) (l:=ord)) (fun k=>rfl) I Ix ?_ ?_ ?_ ?_ ?_ ?_ ?_ ?_ ?_
  ·rintro k V ⟨h1,h2,h3,sl,B,stv,slv,bkv,h4,h5⟩;exact ⟨h2,(h4.g.od.rd (nV _)).mono (nV _) fun _ _ _=>trivial⟩
  ·rintro k V V' ⟨h1,h2,h3,sl,B,stv,slv,bkv,h4,h5⟩ n;exact ⟨apR h1 n.size,h2.chg n id,Chg.trans h3 n.any i3,sl,B,stv,slv,bkv,SuE.new h4 n,h5⟩
  ·rintro k V r1 r2 ⟨h1,h2,h3,sl,B,stv,slv,bkv,h4,h5⟩ hL;have nL:NoC V (w12.heap.size+1):=.loop hL;exact ⟨by simpa using h1,h2.put _ nL,h3.put _ (by omega),sl,B,stv,slv,bkv,SuE.VI h4 (Chg.putObj V _ _) (fun j e=>by subst e;exact ⟨nL,by omega⟩),h5⟩
  ·rintro c V r1 r2 ⟨rfl,h3,h1,kb,x,sl,B,stv,slv,bkv,h4,h5⟩ hL;have nL:NoC V (w12.heap.size+1):=.loop hL;exact ⟨rfl,h3.put _ (by omega),by simpa using h1,kb,x,sl,B,stv,slv,bkv,SuE.VI h4 (Chg.putObj V _ _) (fun j e=>by subst e;exact ⟨nL,by omega⟩),h5⟩
  ·intro r1;have n:=ig (w:=w12) (.deferred (some [])) (.loop r1);exact ⟨by simp,b12.chg n id,(New.trans Rn (New.trans n12 n)).any,[],[],_,_,_,E12.new n,aap _,rfl⟩
  ·rintro k V r1 hk ⟨h1,h2,h3,sl,B,stv,slv,bkv,h4,h5,h6⟩ hL hDf;have hi:=ho _ (Jk hk);have hrv:=Jj hk;rw [drop_cons hrv,pO] at h6;show Wr _ _ _ _ _ (upd (upd _ 45 (vi _)) 46 (vi (xR ord k))) V;(repeat' (refine bI rfl (by repeat' (first|exact Qfn.out (by rintro _ ⟨⟨_,e⟩,_⟩;cases e)|exact Qrd.out|exact Qas.out|refine Qsr.out ?_|refine nR.out ?_|refine Qsc.out ?_|refine pW.out ?_)) ?_));refine Wl.alloc fun V1 bc1 n1 s1=>?_;refine aJ (u:=vi (xR ord k)) bc1 rfl (show (0:Nat)<1 by omega) rfl rfl fun V2 bc2 c2=>?_;replace bc2:Bk V2 V.heap.size 3 [vi (xR ord k)]:=bc2;have n02:New V V2:=(Chg.trans n1.any c2 i3).tN
   (repeat' (refine ai ?_));refine ⟨n02,fun r'=>?_⟩;have hL2:=(n02.block _ (Array.getElem?_eq_some_iff.1 hL).1 id).trans hL;have hD2:=(n02.block _ (Array.getElem?_eq_some_iff.1 hDf).1 id).trans hDf;have amM:=n02.size;have nL:NoC V2 (w12.heap.size+1):=.loop hL2;have hLt:=nL.lt;have hslB: ∀j,slv.ownBlock=some j->j<V.heap.size:=fun j e=>(h4.oL.lt e).2;have E3:=SuE.VI (SuE.new h4 n02) (Chg.putObj V2 (w12.heap.size+1) (.loop r')) (fun j e=>by subst e;exact ⟨nL,by omega⟩);have bs3:=(h2.chg n02 id).put (.loop r') nL;have bc3:=bc2.put (.loop r') nL;have cW3:Chg (fun j=>nv.ownBlock=some j) W (V2.putObj (w12.heap.size+1) (.loop r')):=(Chg.trans h3 n02.any i3).put _ (by omega);have hz3:V.heap.size<(V2.putObj (w12.heap.size+1) (.loop r')).heap.size:=by have:=bc2.lt;simpa using this
   have qL:NoC (V2.putObj (w12.heap.size+1) (.loop r')) (w12.heap.size+1):=.loop (World.putObj_heap_same hLt);have qD:NoC (V2.putObj (w12.heap.size+1) (.loop r')) w12.heap.size:=.mark ((World.putObj_heap_other (by omega)).trans hD2);generalize V2.putObj (w12.heap.size+1) (.loop r')=V3 at*;clear h2 h3 h4 hL hDf hL2 hD2 bc1 bc2 n1 c2 n02 nL hLt;generalize hbc:V.heap.size=bc at*;generalize hiv:xR ord k=iv at*;have Ja:=E3.nvl;have hlo:=E3.lo0;obtain ⟨la,lc,hle,_,_⟩:=E3.oL.form;(repeat' (first|refine dh ?_|refine Wr.block ?_));refine iq rfl wE.out rfl (by kernel_rfl) (fun V'=>New V3 V') (Chg.drew _ _) ?_;intro V4 m4;refine aa0 (au (u:=pT bb) rfl (fun V' c=>(E3.v3.chg c id).cell (o:=0) rfl) (af ?_));refine rX ?_;refine aa0 (au (u:=nv) rfl (fun V' c=>(E3.g.b.chg c id).cell (o:=0) rfl) (af ?_));refine aa0 (au (u:=vi iv) rfl (fun V' c=>(bc3.chg c id).cell (o:=0) rfl) (af ?_));refine aa0 (bQ (w:=V3) (E3.g.nd.a.row.rd (nS snC)) (fun V' c=>c.keep) rfl rfl (by omega) (wX hi) fun b o cs hl hR hat=>af ?_);obtain rfl:cs=snC _:=hR;(repeat' (refine aa0 (aa6 (af ?_))));refine aa0 (au (u:=.bool (qU A (upS sl) iv)) rfl (fun V' c=>(hat V' c).get 5 rfl) (af ?_));clear hat;(repeat' (refine bH ?_));have E4:=E3.new m4;have bs4:=bs3.chg m4 id;have bc4:=bc3.chg m4 id;have cW4:Chg (fun j=>nv.ownBlock=some j) W V4:=Chg.trans cW3 m4.any i3;have hz4:=m4.size;cases hrs:qU A (upS sl) iv with
   |true=>rw [if_pos hrs] at h6;(repeat' (first|refine bM ?_|refine iG ?_|refine iH ?_|refine dJ ?_|refine dY rfl ?_));exact ⟨m4.block _ qL.lt id,m4.block _ qD.lt id,by omega,bs4,cW4,sl,B,stv,slv,bkv,E4,by omega,h6⟩
   |false=>
    rw [if_neg (by rw [hrs];decide)] at h6;(repeat' (first|refine bM ?_|refine dh ?_|refine bI rfl Wk.wE.out ?_|refine Wr.skip ?_|refine dZ rfl ?_));refine ah (u:=.func (.func 32) #[] #[pT W.heap.size,pT bw,pT bl,pT bx,pT br]) rfl (E4.vf.cell (o:=0) rfl) ?_;refine ah (u:=vi iv) rfl (bc4.cell (o:=0) rfl) ?_;refine bP (dst:=some 57) rfl (KJ (sa:=la) (sl:=sl.length) (sc:=lc) E4.g E4.v3 E4.v5 E4.rw (by rw [<-hle];exact E4.vl) E4.vx E4.v4 E4.rr (by rw [rY];omega) (fun j hj=>by have:=hj.2;omega) (fun j hj=>by have:=hj.1;omega) (fun j hj=>by have:=hj.1;omega) (by omega)) rfl ?_;rintro _ V5 ⟨rfl,vx5,c5⟩;simp only [wI];rw [PN] at vx5 ⊢;have E5:=E4.stop vx5 c5;have c45:Chg (fun j=>j=bx) V3 V5:=Chg.trans m4.any c5 i3;have hz5:=c5.size;have nbL:w12.heap.size+1≠bx:=fun e=>E3.vx.nl qL e.symm;have nbD:w12.heap.size≠bx:=fun e=>E3.vx.nl qD e.symm;have hst:stop sl.length (some iv)=if 0<=(qZ N refuse wakes sl.length iv).1 then some ((qZ N refuse wakes sl.length iv).1.toNat,(qZ N refuse wakes sl.length iv).2) else none:=by rw [hstop];rfl
    rw [hst] at h6;rcases PO N refuse wakes sl.length iv with h|h
    ·rw [if_pos h] at h6;rw [decide_eq_true h];(repeat' (first|refine ai ?_|refine bM ?_|refine iG ?_|refine iH ?_|refine je rfl ?_|refine dY rfl ?_));refine ⟨c45.block _ qL.lt nbL,c45.block _ qD.lt nbD,rfl,Chg.trans cW4 c5 fun j _ e=>by omega,by omega,(qZ N refuse wakes sl.length iv).2,(qZ N refuse wakes sl.length iv).1.toNat,sl,B,stv,slv,bkv,?_,by omega,h6⟩;rw [aqH h];exact E5
    ·rw [h] at E5 h6 ⊢;rw [if_neg (by decide)] at h6;dsimp only at E5 h6;rw [show decide ((0:Int)<=(-1,false).1)=false from rfl];have hsv: ∀j,stv.ownBlock=some j->W.heap.size<=j:=fun j e=>(E3.oS.lt e).1;have MK: ∀ {b:Nat} {T:TypeId} {cs:List Value},Bk V5 b T cs->ank 64 T=false->W.heap.size<=b-> ∀W',Chg (fun j=>nv.ownBlock=some j∨stv.ownBlock=some j) V5 W'->Bk W' b T cs:=fun hb hT hW W' c=>hb.chg c fun e=>by
      rcases e with e|e
      ·have:=Ja _ e;omega
      ·exact E5.oS.oM hb hT e rfl
     have bc5:=bc4.chg c5 fun e=>bc4.oM E4.vx rfl e;have bs5:=bs4.chg c5 fun e=>bs4.oM E4.vx rfl e;(repeat' (first|refine ai ?_|refine bM ?_|refine dh ?_|refine Wr.skip ?_|refine dZ rfl ?_));refine iq rfl wE.out rfl (by kernel_rfl) (fun V'=>Chg (fun j=>nv.ownBlock=some j∨stv.ownBlock=some j) V5 V') (Chg.drew _ _) ?_;intro V6 m6;(repeat' (refine aa0 (aa6 (af ?_))));refine aa0 (au (u:=stv) rfl (fun V' c=>(MK E5.vx rfl (by omega) V' c).cell (o:=3) rfl) (af ?_));refine aa0 (au (u:=pT bb) rfl (fun V' c=>(MK E5.v3 rfl (by omega) V' c).cell (o:=0) rfl) (af ?_));refine aa0 (au (u:=vi iv) rfl (fun V' c=>(MK bc5 rfl (by omega) V' c).cell (o:=0) rfl) (af ?_));refine aC rfl (aj (BN (v:=true) (E5.g.new m6) hi) rfl ?_);rintro _ V7 ⟨rfl,g7,c7⟩;have c57:Chg (fun j=>nv.ownBlock=some j) V5 V7:=Chg.trans m6.any c7 i3;refine ai ⟨rfl,c57.mono fun _ _ e=>.inl e,?_⟩;refine aC rfl (bC (R:=flat stC) (Pe:=NoB) (y:=(iv,true)) Bz rfl rfl rfl rfl (by omega) (by omega) fun v8 V8 o8 n8 s8 e8=>?_);have c58:Chg (fun j=>nv.ownBlock=some j) V5 V8:=Chg.trans c57 n8.any i3;refine ai ⟨rfl,c58.mono fun _ _ e=>.inl e,?_⟩;have amN:(upS sl).length=sl.length:=by unfold upS;rw [aoR]
     refine aC rfl (bY (R:=flat stC) Bz (E5.oS.chg (nK _) c58 fun j hj e=>by have:=Ja j e;have:=hsv j hj;omega) (o8.rd (nS _)) (fun y cs hy=>hy) rfl rfl (by omega) (by simp only [maxLen,anM];omega) (by simp only [anM];omega) fun u' V9 o9 c9 ai0 _=>?_);have c59:Chg (fun j=>nv.ownBlock=some j∨stv.ownBlock=some j) V5 V9:=Chg.trans (c58.mono fun _ _ e=>.inl e) c9 fun _ _ e=>.inr e;refine ai ⟨rfl,c59,?_⟩;(repeat' (refine aa0 (aa6 (af ?_))));have vx9:=MK E5.vx rfl (by omega) V9 c59;refine Wt.last rfl (aJ (u:=u') vx9 rfl (show (3:Nat)<4 by omega) rfl (by obtain ⟨_,_,rfl,_⟩:=o9.form;rfl) fun V10 ai1 c10=>?_);refine ai ?_;have adR:=c58.size;have amO:=c59.size;have adS:=c10.size;have ad8:Chg (fun j=>nv.ownBlock=some j∨j=bx∨stv.ownBlock=some j) V5 V10:=Chg.trans (c59.mono fun j _ e=>e.imp id fun e=>.inr e) c10 fun j _ e=>.inr (.inl e);have o10:=(o9.chg (nK _) c10 fun j hj e=>o9.oM vx9 rfl hj e).mono (Pb':=fun b=>W.heap.size<=b) (nS _) (fun b _ e=>e.elim id fun e=>by have e:V8.heap.size<=b:=e;show W.heap.size<=b;omega) i3;have E10:=E5.step (((g7.new n8).chg c9 fun j hj e=>by have:=hj.2;have:=hsv j e;omega).chg c10 fun j hj e=>by have:=hj.2;omega) ai1 o10 ad8;have ad9:=(MK bc5 rfl (by omega) V9 c59).chg c10 fun e=>(MK bc5 rfl (by omega) V9 c59).oM vx9 rfl e;have ZL:=(MK bs5 rfl (by omega) V9 c59).chg c10 fun e=>(MK bs5 rfl (by omega) V9 c59).oM vx9 rfl e;clear MK c57 c58 c59 c9 c10 o8 o9 vx9 g7 c7 n8 m6 ai0;rw [show upS sl++ [(iv,true)]=upS (sl++ [iv]) by unfold upS;rw [aoN];rfl,show vC (qU A (upS sl)) iv true=qU A (upS (sl++ [iv])) by rw [show upS (sl++ [iv])=upS sl++ [(iv,true)] by unfold upS;rw [aoN];rfl,xf]] at E10;rw [show vC (qU A (upS sl)) iv true=qU A (upS (sl++ [iv])) by rw [show upS (sl++ [iv])=upS sl++ [(iv,true)] by unfold upS;rw [aoN];rfl,xf]] at h6;have hBl:=E10.len;(repeat' (first|refine bM ?_|refine dh ?_|refine bI rfl Wk.wE.out ?_));refine ah (u:=slv) rfl (E10.vl.cell (o:=0) rfl) ?_;refine ah (u:=vi iv) rfl (ad9.cell (o:=0) rfl) ?_;refine cu (R:=Wk.one viN) (y:=iv) qw E10.oL rfl rfl rfl rfl rfl (by omega) (by omega) (by simp only [maxLen];omega) (by omega) rfl rfl fun v11 V11 p11 o11 c11 aan=>?_;have Yg:=E10.vl.chg c11 fun e=>E10.oL.oM E10.vl rfl e rfl;refine aJ (u:=v11) Yg rfl (show (0:Nat)<1 by omega) rfl (by obtain ⟨_,_,rfl,_⟩:=o11.form;rfl) fun V12 aea c12=>?_;have aeb:=E10.vk.chg c11 fun e=>E10.oL.oM E10.vk rfl e rfl;have abG:=aeb.chg c12 fun e=>aeb.oM Yg rfl e;have aec:=E10.oB.chg (nO _) c11 fun j hj e=>E10.oL.sV E10.oB rfl j e hj;have Yh:=aec.chg (nO _) c12 fun j hj e=>aec.oM Yg rfl hj e;have aed:=o11.chg (nO _) c12 fun j hj e=>o11.oM Yg rfl hj e;have aee:slv.ownBlock≠some bc:=fun e=>by have:=hslB bc e;omega
     have aef:=ad9.chg c11 aee;have aeg:=aef.chg c12 fun e=>aef.oM Yg rfl e;have QT:=c11.size;have alN:=c12.size;have hlB: ∀j,bkv.ownBlock=some j->W.heap.size<=j:=fun j e=>(E10.oB.lt e).1;have hlL: ∀j,slv.ownBlock=some j->W.heap.size<=j:=fun j e=>(E10.oL.lt e).1;(repeat' (first|refine ai ?_|refine bM ?_|refine bI rfl Wk.wE.out ?_));refine ah (u:=bkv) rfl (abG.cell (o:=0) rfl) ?_;refine dn (f1:=[]) (c1:=[pT bx,pT W.heap.size,pT bc]) rfl rfl ?_;refine cu (R:=Wk.one (fnV bx W.heap.size)) (y:=bc) (ad5 bx W.heap.size) Yh rfl rfl rfl rfl rfl (by omega) (by omega) (by simp only [maxLen];omega) (by omega) rfl rfl fun v13 V13 p13 o13 c13 Z8=>?_;have Yi:=abG.chg c13 fun e=>Yh.oM abG rfl e rfl;refine aJ (u:=v13) Yi rfl (show (0:Nat)<1 by omega) rfl (by obtain ⟨_,_,rfl,_⟩:=o13.form;rfl) fun V14 ai2 c14=>?_;have aeh:=aea.chg c13 fun e=>Yh.oM aea rfl e rfl;have ai3:=aeh.chg c14 fun e=>aeh.oM Yi rfl e;have aei:=aed.chg (nO _) c13 fun j hj e=>Yh.sV aed rfl j e hj;have ai4:=aei.chg (nO _) c14 fun j hj e=>aei.oM Yi rfl hj e;have ai5:=o13.chg (nO _) c14 fun j hj e=>o13.oM Yi rfl hj e;have aej:=aeg.chg c13 fun e=>Yh.oM aeg rfl e rfl;have ai6:=aej.chg c14 fun e=>aej.oM Yi rfl e;have ZC:=c13.size;have adh:=c14.size;have Yj:Chg (fun j=>j=bl∨j=bk∨slv.ownBlock=some j∨bkv.ownBlock=some j) V10 V14:=Chg.trans (Chg.trans (Chg.trans (c11.mono fun j _ e=>.inr (.inr (.inl e))) c12 fun j _ e=>.inl e) c13 fun j _ e=>.inr (.inr (.inr e))) c14 fun j _ e=>.inr (.inl e);have E14:=E10.push ai3 ai2 (ai4.mono (nV _) (fun b _ e=>e.elim id fun e=>by have e:V10.heap.size<=b:=e;show W.heap.size<=b;omega) i3) (ai5.mono (nV _) (fun b _ e=>e.elim id fun e=>by have e:V12.heap.size<=b:=e;show W.heap.size<=b;omega) i3) ai6 (by omega) (fun e=>by rcases aan with l|l;exact aee (l▸e);have:=l bc e;omega) (fun j e=>by rcases aan with l|l;exact .inl (l▸e);exact .inr (l j e)) Yj;have abH:Chg (fun j=>(nv.ownBlock=some j∨j=bx∨stv.ownBlock=some j)∨(j=bl∨j=bk∨slv.ownBlock=some j∨bkv.ownBlock=some j)) V3 V14:=Chg.trans (Chg.trans (c45.mono fun j _ e=>.inl (.inr (.inl e))) ad8 fun j _ e=>.inl e) Yj fun j _ e=>.inr e;have hnc: ∀j,NoC V3 j-> ¬((nv.ownBlock=some j∨j=bx∨stv.ownBlock=some j)∨(j=bl∨j=bk∨slv.ownBlock=some j∨bkv.ownBlock=some j)):=fun j hj e=>by
      rcases e with (e|e|e)|(e|e|e|e)
      ·exact E3.g.nd.a.row.nl hj e rfl
      ·exact E3.vx.nl hj e.symm
      ·exact E3.oS.nl hj e rfl
      ·exact E3.vl.nl hj e.symm
      ·exact E3.vk.nl hj e.symm
      ·exact E3.oL.nl hj e rfl
      ·exact E3.oB.nl hj e rfl
     have ai7:Bk V14 bs 65 [.slice oa ord.length oc]:=ZL.chg Yj fun e=>by
      rcases e with e|e|e|e
      ·omega
      ·exact ZL.oM E10.vk rfl e
      ·exact E10.oL.oM ZL rfl e rfl
      ·exact E10.oB.oM ZL rfl e rfl
     (repeat' (first|refine ai ?_|refine dL ?_));refine ⟨abH.block _ qL.lt (hnc _ qL),abH.block _ qD.lt (hnc _ qD),by omega,ai7,Chg.trans cW3 abH fun j hj e=>?_,sl++ [iv],B++ [bc],u',v11,v13,E14,by rw [am7,anM];omega,h6⟩;rcases e with (e|e|e)|(e|e|e|e)
     ·exact e
     ·omega
     ·have:=hsv j e;omega
     ·omega
     ·omega
     ·have:=hlL j e;omega
     ·have:=hlB j e;omega
  ·rintro V ⟨h1,h2,h3,sl,B,stv,slv,bkv,h4,h5,h6⟩ hDf;rw [show ord.reverse.drop ord.length=[] from List.drop_eq_nil_of_le (by rw [List.length_reverse];exact aap _),pO] at h6;refine fH ⟨rfl,w12.heap.size,rfl,⟨rfl,rfl,rfl,rfl,rfl,rfl,trivial⟩,hDf,by omega,false, -1,sl,B,stv,slv,bkv,h4,h3,h5,.inl ⟨rfl,rfl,h6⟩⟩
  ·rintro V ⟨h,_⟩ _;cases h
  ·rintro id V ⟨hid,h3,h1,kb,x,sl,B,stv,slv,bkv,h4,h5,h6⟩ hDf;cases hid;exact Qdb.hit ⟨rfl,w12.heap.size,rfl,⟨rfl,rfl,rfl,rfl,rfl,rfl,trivial⟩,hDf,by omega,kb,x,sl,B,stv,slv,bkv,h4,h3,h5,.inr ⟨x,rfl,h6⟩⟩
 ·rintro ds' F V ⟨D,rfl,hF,hDm,aek,kb,by0,sl,B,stv,slv,bkv,E0,cV,hsl,hor⟩;rw [<-oV hF];simp only [pq];clear hF E;have hlo:=E0.lo0;obtain ⟨la,lc,hle,_,_⟩:=E0.oL.form;refine dO ?_;refine kF (fun ds' F V=>ds'=[{target:=.collected D,args:= #[]}]/\V.heap[D]? =some (.deferred (some []))/\ ∃(st kb:Bool) (by0:Int),agrees F [(3,pT W.heap.size),(6,pT b6),(9,pT bx),(10,pT bk),(11,pT bl),(80,.bool st)]/\ Sg kb by0 sl B stv slv bkv V/\Chg (fun j=>nv.ownBlock=some j) W V/\((st=true/\ ∃x:Nat,by0=x/\pO stop ord.reverse A []=(sl,some (x,kb)))∨(st=false/\by0= -1/\kb=false/\pO stop ord.reverse A []=(sl,none)))) ?_ ?_
  ·refine BR ?_;refine ah (u:=vi by0) rfl (E0.vx.cell (o:=2) rfl) ?_;rcases hor with ⟨rfl,rfl,hgo⟩|⟨x,rfl,hgo⟩
   ·have hst:stop sl.length none=if 0<=(qZ N refuse wakes sl.length (-1)).1 then some ((qZ N refuse wakes sl.length (-1)).1.toNat,(qZ N refuse wakes sl.length (-1)).2) else none:=by rw [hstop];rfl
    rw [hst] at hgo;(repeat' (first|refine BR ?_|(refine aU rfl rfl (fun _=>?_) (fun _=>?_)<;>(first|(exfalso;omega)|skip))));refine ah (u:=.func (.func 32) #[] #[pT W.heap.size,pT bw,pT bl,pT bx,pT br]) rfl (E0.vf.cell (o:=0) rfl) ?_;(try refine aO rfl rfl ?_);refine bP (dst:=some 79) rfl (KJ (next:= -1) (sa:=la) (sl:=sl.length) (sc:=lc) E0.g E0.v3 E0.v5 E0.rw (by rw [<-hle];exact E0.vl) E0.vx E0.v4 E0.rr (by omega) (fun j hj=>by have:=hj.2;omega) (fun j hj=>by have:=hj.1;omega) (fun j hj=>by have:=hj.1;omega) (by omega)) rfl ?_;rintro _ V1 ⟨rfl,vx1,c1⟩;simp only [wI];rw [PN] at vx1 ⊢;have E1:=E0.stop vx1 c1;have cW1:Chg (fun j=>nv.ownBlock=some j) W V1:=Chg.trans cV c1 fun j _ e=>by omega
    have nbD:D≠bx:=fun e=>E0.vx.nl (.mark hDm) e.symm;have hD1:=(c1.block _ (Array.getElem?_eq_some_iff.1 hDm).1 nbD).trans hDm;rcases PO N refuse wakes sl.length (-1) with h|h
    ·rw [if_pos h] at hgo;rw [decide_eq_true h];(repeat' (first|refine ai ?_|refine xO ?_|refine Qdn.e ?_));refine ⟨rfl,rfl,hD1,true,(qZ N refuse wakes sl.length (-1)).2,(qZ N refuse wakes sl.length (-1)).1,⟨rfl,rfl,rfl,rfl,rfl,rfl,trivial⟩,E1,cW1,.inl ⟨rfl,(qZ N refuse wakes sl.length (-1)).1.toNat,(aqH h).symm,hgo⟩⟩
    ·rw [h] at E1 hgo ⊢;rw [if_neg (by decide)] at hgo;dsimp only at E1 hgo;rw [show decide ((0:Int)<=(-1,false).1)=false from rfl];(repeat' (first|refine ai ?_|refine xO ?_|refine Qdn.e ?_));exact ⟨rfl,rfl,hD1,false,false, -1,⟨rfl,rfl,rfl,rfl,rfl,rfl,trivial⟩,E1,cW1,.inr ⟨rfl,rfl,rfl,hgo⟩⟩
   ·(repeat' (first|refine aa1 ?_|refine ai ?_|refine dH rfl rfl ?_|refine dK rfl (by conv=>{lhs;whnf}) ?_|refine Qdn.e ?_|(refine aU rfl rfl (fun _=>?_) (fun _=>?_)<;>(first|(exfalso;omega)|skip))));exact ⟨rfl,rfl,hDm,true,kb,x,⟨rfl,rfl,rfl,rfl,rfl,rfl,trivial⟩,E0,cV,.inl ⟨rfl,x,rfl,hgo⟩⟩
  clear hor cV hDm E0 hle;rintro ds' F V ⟨rfl,hDm,st,kb,by0,hF,E0,cV,hor⟩;rw [<-oV hF];simp only [pq];clear hF;have hDl:=(Array.getElem?_eq_some_iff.1 hDm).1;have hlo:=E0.lo0;have Ja:=E0.nvl;have ai8: ∀i∈sl,i<N.length:=fun i hi=>by
   have hs:(pO stop ord.reverse A []).1=sl:=by rcases hor with ⟨_,x,_,h⟩|⟨_,_,_,h⟩<;>rw [h]
   rcases DI ord.reverse A [] i (by rw [hs];exact hi) with e|e
   ·exact ho i (List.mem_reverse.1 e)
   ·cases e
  rcases hor with ⟨rfl,x,rfl,hgo⟩|⟨rfl,rfl,rfl,hgo⟩
  ·obtain ⟨ba,bc,hbe,_,_⟩:=E0.oB.form;have hBl:=E0.len;refine qq0 ?_;refine ah (u:=bkv) rfl (E0.vk.cell (o:=0) rfl) ?_;rw [hbe];refine aj (Jl rfl) rfl ?_;rw [<-hbe];rintro _ w12 ⟨rfl,b12,n12⟩;have E12:=SuE.new E0 n12;have Ze:=n12.size;have ad7:=b12.lt;have ai9:=(n12.block _ hDl id).trans hDm;generalize hbs:V.heap.size=bs at*;let I:Nat->World->Prop:=fun m V=>w12.heap.size+2<=V.heap.size/\Bk V bs 108 [bkv]/\V.heap[D]? =some (.deferred (some []))/\Chg (fun j=>nv.ownBlock=some j) W V/\ ∃zq,SuE (fun b=>Pb b/\b<W.heap.size) W.heap.size bb W.heap.size br bw b6 bx bk bl bf N (qU A (upS sl++(dnS sl).take m)) ord oJ nv (.slice oa ord.length oc) sv refuse wakes (.slice ra refuse.length rc) (.slice wa wakes.length wc) kb x (upS sl++(dnS sl).take m) sl B zq slv bkv V;(repeat' (first|refine ai ?_|refine Wd.block ?_|refine di ?_));refine Wd.frame [(6,pT b6),(9,pT bx),(82,.func (.func 55) #[] #[pT bs])] ⟨rfl,rfl,rfl,trivial⟩ fun G0=>?_;simp only [pq];refine gZ (gf:=55) (lb:= #[pT bs]) rfl (fun args _=>qF inferInstance args) (Sl (Pb:=fun _=>True) (bs:=bs) (v:=bkv) (f:=fnV bx W.heap.size) (l:=B)) (fun k=>rfl) I (fun _ _=>False) ?_ ?_ ?_ ?_ ?_ ?_ ?_ ?_ ?_
   ·rintro k V ⟨h1,h2,hd,h3,zq,h4⟩;exact ⟨h2,(h4.oB.rd (nV _)).mono (nV _) fun _ _ _=>trivial⟩
   ·rintro k V V' ⟨h1,h2,hd,h3,zq,h4⟩ n;exact ⟨apR h1 n.size,h2.chg n id,(n.block _ (Array.getElem?_eq_some_iff.1 hd).1 id).trans hd,Chg.trans h3 n.any i3,zq,h4.new n⟩
   ·rintro k V r1 r2 ⟨h1,h2,hd,h3,zq,h4⟩ hL;have nL:NoC V (w12.heap.size+1):=.loop hL;exact ⟨by simpa using h1,h2.put _ nL,(World.putObj_heap_other (by omega)).trans hd,h3.put _ (by omega),zq,h4.VI (Chg.putObj V _ _) (fun j e=>by subst e;exact ⟨nL,by omega⟩)⟩
   ·exact fun _ _ _ _ h=>h.elim
   ·intro r1;have n:=ig (w:=w12) (.deferred (some [])) (.loop r1);refine ⟨by simp,b12.chg n id,(n.block _ (by omega) id).trans ai9,Chg.trans (Chg.trans cV n12.any i3) n.any i3,stv,?_⟩;rw [List.take_zero,aoS];exact E12.new n
   ·rintro m V1 r1 hm ⟨h1,h2,hd,h3,zq,h4⟩ hL hDf;show Wr _ _ _ _ _ (upd (upd _ 83 (vi _)) 84 (fnV bx W.heap.size (xR B m))) V1;(repeat' (first|refine aa7 ?_|refine ai ?_|refine bI rfl (by repeat' (first|exact Qfn.out (by rintro _ ⟨⟨_,e⟩,_⟩;cases e)|exact Qrd.out|exact Qas.out|refine Qsr.out ?_|refine nR.out ?_|refine Qsc.out ?_|refine pW.out ?_)) ?_));refine ⟨ay _ _,fun r'=>?_⟩;have nL:NoC V1 (w12.heap.size+1):=.loop hL;have hLt:=nL.lt;have E3:=h4.VI (Chg.putObj V1 (w12.heap.size+1) (.loop r')) (fun j e=>by subst e;exact ⟨nL,by omega⟩);have bs3:=h2.put (.loop r') nL;have cW3:=h3.put (.loop r') (L:=w12.heap.size+1) (by omega);have hz3:w12.heap.size+2<=(V1.putObj (w12.heap.size+1) (.loop r')).heap.size:=by simpa using h1
    have hd3:(V1.putObj (w12.heap.size+1) (.loop r')).heap[D]? =some (.deferred (some [])):=(World.putObj_heap_other (by omega)).trans hd;have qL:NoC (V1.putObj (w12.heap.size+1) (.loop r')) (w12.heap.size+1):=.loop (World.putObj_heap_same hLt);have qD:NoC (V1.putObj (w12.heap.size+1) (.loop r')) w12.heap.size:=.mark ((World.putObj_heap_other (by omega)).trans hDf);generalize V1.putObj (w12.heap.size+1) (.loop r')=V3 at*;clear h1 h2 h3 h4 hd hL hDf nL hLt;have hms:m<sl.length:=by omega
    have hBm:B[B.length-1-m]? =some (xR B m):=by obtain ⟨y,hy⟩:=nT B (k:=B.length-1-m) (by omega);unfold xR;rw [an7,hy];rfl
    have hSm:sl[B.length-1-m]? =some (xR sl m):=by rw [hBl];obtain ⟨y,hy⟩:=nT sl (k:=sl.length-1-m) (by omega);unfold xR;rw [an7,hy];rfl
    obtain ⟨vc,hcl,_⟩:=E3.box _ _ _ hBm hSm;have hi:=ai8 _ (Jk hms);have hlen:(upS sl++(dnS sl).take m).length<=2000:=by
     have h1:(upS sl).length=sl.length:=by unfold upS;rw [aoR]
     have h2:((dnS sl).take m).length<=m:=by rw [anD];exact Nat.min_le_left _ _
     rw [am7];omega
    have ht:=take_snoc (Yd hms);(repeat' (first|refine aa1 ?_|refine bI rfl Wk.wE.out ?_|refine Wr.block ?_));refine bP (dst:=some 86) rfl (VH E3.g E3.vx E3.oS E3.v3 vc hi (fun b hb=>hb.2) (by omega) (by omega) hcl (by omega) hlen) rfl ?_;rintro u V4 ⟨aja,vx4,oS4,g4,c4⟩;simp only [wI];rw [<-xf,adK, <-ht] at g4;rw [adK, <-ht] at oS4;have E4:=E3.step g4 vx4 oS4 c4;have hsv: ∀j,zq.ownBlock=some j->W.heap.size<=j:=fun j e=>(E3.oS.lt e).1;have hnc: ∀j,NoC V3 j-> ¬(nv.ownBlock=some j∨j=bx∨zq.ownBlock=some j):=fun j hj e=>by
     rcases e with e|e|e
     ·exact E3.g.nd.a.row.nl hj e rfl
     ·exact E3.vx.nl hj e.symm
     ·exact E3.oS.nl hj e rfl
    (repeat' (first|refine ai ?_|refine dL ?_));refine ⟨c4.block _ qL.lt (hnc _ qL),c4.block _ qD.lt (hnc _ qD),by have:=c4.size;omega,bs3.chg c4 fun e=>?_,(c4.block _ (by omega) (hnc _ (.mark hd3))).trans hd3,Chg.trans cW3 c4 fun j hj e=>?_,aja,E4⟩
    ·rcases e with e|e|e
     ·have:=Ja _ e;omega
     ·exact bs3.oM E3.vx rfl e
     ·exact E3.oS.oM bs3 rfl e rfl
    ·rcases e with e|e|e
     ·exact e
     ·omega
     ·have:=hsv j e;omega
   ·rintro V1 ⟨h1,h2,hd,h3,zq,h4⟩ hDf;rw [hBl,show (dnS sl).take sl.length=dnS sl by rw [<-MI,aon]] at h4;obtain ⟨ua,uc,hue,_,_⟩:=h4.oS.form;have E4:=h4;(repeat' (first|refine dO ?_|refine di ?_|refine fH ?_|refine eu ?_));refine bK h4.vx rfl rfl ?_;refine aH (new:=oC false kb x zq) h4.v6 rfl rfl rfl rfl zl4 (by rw [hue];exact oC1) fun V2 b2 c2 s2=>?_;replace b2:Bk V2 b6 59 (oC false kb x zq):=b2;refine qq0 ?_;have hd2:V2.heap[D]? =some (.deferred (some [])):=(c2.block _ (Array.getElem?_eq_some_iff.1 hd).1 fun e=>h4.v6.nl (.mark hd) e.symm).trans hd;have hD2:V2.heap[w12.heap.size]? =some (.deferred (some [])):=(c2.block _ (Array.getElem?_eq_some_iff.1 hDf).1 fun e=>h4.v6.nl (.mark hDf) e.symm).trans hDf;have oS2:=h4.oS.chg (nK _) c2 fun j hj e=>h4.oS.oM h4.v6 rfl hj e;have g2:=h4.g.chg c2 fun j hj e=>by have:=hj.2;omega
    have cW2:Chg (fun j=>nv.ownBlock=some j) W V2:=Chg.trans h3 c2 fun j hj e=>by omega
    refine gq (by simp) hD2 ?_;have nD2:NoC V2 w12.heap.size:=.mark hD2;have hd3:(V2.putObj w12.heap.size (.deferred none)).heap[D]? =some (.deferred (some [])):=(World.putObj_heap_other (by omega)).trans hd2;refine gq (by simp) hd3 ?_;have nd3:NoC (V2.putObj w12.heap.size (.deferred none)) D:=.mark hd3;refine dG (qB rfl (qO rfl rfl ((b2.put _ nD2).put _ nd3) rfl) (pJ rfl)) ⟨_,rfl,.inr (.inr ⟨rfl,hno,sl,some (x,kb),zq,by rw [<-hstop];exact hgo,rfl,(oS2.put _ (nK _) nD2).put _ (nK _) nd3,?_,(cW2.put _ (by omega)).put _ aek⟩)⟩;exact ((g2.chg (Chg.putObj V2 _ _) (fun j hj e=>by have:=hj.2;omega)).chg (Chg.putObj _ _ _) (fun j hj e=>by have:=hj.2;omega)).mono fun b _ e=>e.1
   ·exact fun _ h=>h.elim
   ·exact fun _ _ h=>h.elim
  ·refine BR ?_;refine fZ ?_;refine aV rfl (by kernel_rfl) (fun w'=>Chg (fun j=>j=bb) V w') (Chg.drew _ _) ?_;intro V1 m1;have aiX:bb<W.heap.size:=E0.g.lo.2;have hb3: ∀V',Chg (fun j=>j=bb) V V'->Bk V' W.heap.size 38 [pT bb]:=fun V' c=>E0.v3.chg c fun e=>by omega
   have ajb: ∀V',Chg (fun j=>j=bb) V V'->Bk V' bl 65 [slv]:=fun V' c=>E0.vl.chg c fun e=>by omega
   refine aa0 (au (u:=pT bb) rfl (fun V' c=>(hb3 V' c).cell (o:=0) rfl) (af ?_));refine aa0 (au (u:=pT bb) rfl (fun V' c=>(hb3 V' c).cell (o:=0) rfl) (af ?_));refine aa0 (au (u:=slv) rfl (fun V' c=>(ajb V' c).cell (o:=0) rfl) (af ?_));refine rX ?_;obtain ⟨la,lc,hle,_,_⟩:=E0.oL.form;refine aC rfl (aJ (u:=slv) (E0.g.b.chg m1 id) rfl (show (2:Nat)<4 by omega) rfl (by rw [hle];rfl) fun V2 b2 c2=>?_);have c02:Chg (fun j=>j=bb) V V2:=Chg.trans m1.any c2 i3;refine ai ⟨rfl,c02,?_⟩;refine rX ?_;refine Wt.last rfl (aJ (u:=.bool true) b2 rfl (show (3:Nat)<4 by omega) rfl rfl fun V3 b3' c3=>?_);refine ai ?_;have c03:Chg (fun j=>j=bb) V V3:=Chg.trans c02 c3 i3;have g3:=E0.g.aiZ E0.hP E0.oL b3' c03;have vx3:=E0.vx.chg c03 fun e=>by omega
   have v63:=E0.v6.chg c03 fun e=>by omega
   have oS3:=E0.oS.chg (nK _) c03 fun j hj e=>by have h9:W.heap.size<=j:=(E0.oS.lt hj).1;omega
   have hD3:=(c03.block _ hDl fun e=>by omega).trans hDm;obtain ⟨ua,uc,hue,_,_⟩:=E0.oS.form;have hne:=E0.ne;refine Qdn.e ?_;refine qq1 ?_;refine aJ (u:=.bool true) vx3 rfl (show (0:Nat)<4 by omega) rfl rfl fun V4 vx4 c4=>?_;replace vx4:Bk V4 bx 59 (oC true false (-1) stv):=vx4;refine qq1 ?_;refine bK vx4 rfl rfl ?_;have v64:=v63.chg c4 hne;refine aH (new:=oC true false (-1) stv) v64 rfl rfl rfl rfl zl4 (by rw [hue];exact oC1) fun V5 b5 c5 s5=>?_;replace b5:Bk V5 b6 59 (oC true false (-1) stv):=b5;have o4:=oS3.chg (nK _) c4 fun j hj e=>oS3.oM vx3 rfl hj e;have o5:=o4.chg (nK _) c5 fun j hj e=>o4.oM v64 rfl hj e;have hD4:=(c4.block _ (Array.getElem?_eq_some_iff.1 hD3).1 fun e=>vx3.nl (.mark hD3) e.symm).trans hD3;have hD5:=(c5.block _ (Array.getElem?_eq_some_iff.1 hD4).1 fun e=>v64.nl (.mark hD4) e.symm).trans hD4;have hnD:bx≠D:=vx3.nl (.mark hD3);have g5:=(g3.chg c4 fun j hj e=>by
    rcases hj with hj|hj
    ·have:=hj.2;omega
    ·exact E0.oL.oM E0.vx rfl hj e).chg c5 fun j hj e=>by
    rcases hj with hj|hj
    ·have:=hj.2;omega
    ·exact E0.oL.oM E0.v6 rfl hj e
   have hlD: ∀j,slv.ownBlock=some j->W.heap.size<=j/\j≠D:=fun j e=>⟨(E0.oL.lt e).1,E0.oL.nl (.mark hDm) e⟩;refine qq0 ?_;refine gq (by simp) hD5 ?_;have nD5:NoC V5 D:=.mark hD5;have c05:Chg (fun k=>nv.ownBlock=some k∨k=bb) W V5:=Chg.trans (Chg.trans (Chg.trans (cV.mono fun _ _ e=>.inl e) c03 fun _ _ e=>.inr e) c4 fun j hj e=>by omega) c5 fun j hj e=>by omega
   refine dG (qB rfl (qO rfl rfl (b5.put _ nD5) rfl) (pJ rfl)) ⟨_,rfl,.inr (.inr ⟨rfl,hno,sl,none,stv,by rw [<-hstop];exact hgo,slv,rfl,o5.put _ (nK _) nD5,?_,c05.put _ aek⟩)⟩;exact (g5.chg (Chg.putObj V5 _ _) fun j hj e=>by
    rcases hj with hj|hj
    ·have:=hj.2;omega
    ·exact (hlD j hj).2 e).mono fun b _ e=>e.elim (fun e=>e.1) fun e=>hP b (hlD b e).1
end
section
variable {n:Nat} {ds:List Deferred} {Q:Po} {F:Fr} {w w':World} {ops rest:List Oper} {d:Nat} {ty:TypeId} {pos:String} {aft:Array Edge}
theorem jB {x i:Operand} {t e:TypeId} {b k:Nat} {bytes:Nat} {f:Nat->Option Int} {v:Int} [ht:Und prog t (.map 3 e)] [he:ElT prog e 1 bytes false (vi 0)] (h:ImL w b f) (hk:k<9223372036854775808)
 (hx:ev n F x=.map (some b)) (hi:ev n F i=vi k) (hv:(f k).getD 0=v) (c:Wl prog n ds Q ops rest (upd F d (vi v)) w):
 Wl prog n ds Q ops (⟨some d,.lookup t x i false,ty,pos,aft,none⟩::rest) F w:=by
 obtain ⟨L,h1,h2,h3⟩:=h;subst hv;refine iQ Zw h2 (Zx hk) hx hi ?_;rintro r (hr|⟨rfl,hr⟩)
 ·obtain ⟨⟨k',v⟩,hm,e⟩:=List.mem_map.1 hr;simp only [Prod.mk.injEq,Value.int.injEq,true_and] at e;obtain ⟨e1,rfl⟩:=e;obtain rfl:k'=k:=by omega
  rw [(h3 _ _).2 hm] at c;exact c
 ·have:f k=none:=by
   cases hf:f k with
   |none=>rfl
   |some v=>exact absurd rfl (hr _ (List.mem_map.2 ⟨_,(h3 _ _).1 hf,rfl⟩))
  rw [this] at c;exact c
end
def cF (c:Nat->Int):Nat->Option Int:=fun k=>if c k=0 then none else some (c k)
theorem Sr (c:Nat->Int) (k:Nat):(cF c k).getD 0=c k:=by
 unfold cF;split
 ·rename_i h;rw [h];rfl
 ·rfl
def cU (c:Nat->Int) (i:Nat):Nat->Int:=fun k=>if k=i then c i+1 else c k
theorem abI {c:Nat->Int} {i:Nat} (h:0<=c i):EF (cF c) i (c i+1)=cF (cU c i):=by
 funext k;unfold EF cF cU;by_cases e:k=i
 ·subst e;rw [if_pos rfl,if_pos rfl,if_neg (by omega)]
 ·rw [if_neg e,if_neg e]
def mkS (n:Nat) (c:Nat->Int):List Bool:=(ab8 n).map fun k=>decide (c k≠0)
theorem BO (n:Nat) (c:Nat->Int):(mkS n c).length=n:=by unfold mkS;rw [aoR,apP]
theorem BP {n k:Nat} {c:Nat->Int} (h:k<n):(mkS n c)[k]? =some (decide (c k≠0)):=by unfold mkS;rw [an3,aoT h];rfl
theorem Uh {n i:Nat} {c:Nat->Int} (hi:i<n) (h:0<=c i):mkS n (cU c i)=(mkS n c).set i true:=by
 apply anC;intro k;rw [anO];by_cases hk:k<n
 ·rw [BP hk];unfold cU;by_cases e:i=k
  ·subst e;rw [if_pos rfl,if_pos rfl,if_pos (by rw [BO];exact hk),decide_eq_true (by omega)]
  ·rw [if_neg e,if_neg (fun q=>e q.symm),BP hk]
 ·rw [anl (by rw [BO];omega)];by_cases e:i=k
  ·subst e;exact absurd hi hk
  ·rw [if_neg e,anl (by rw [BO];omega)]
theorem Ui {n i:Nat} {c:Nat->Int} (hi:i<n) (h:0<c i):mkS n (cU c i)=mkS n c:=by
 rw [Uh hi (by omega)];apply anC;intro k;rw [anO];by_cases e:i=k
 ·subst e;rw [if_pos rfl,if_pos (by rw [BO];exact hi),BP hi,decide_eq_true (by omega)]
 ·rw [if_neg e]
def ML (W:Nat->List Nat) (i:Nat) (S S':List Bool):Prop:=(S[i]? =some true/\S'=S)∨(S[i]? =some false/\Mrk W i (W i) (S.set i true) S')
theorem Mrk.to {W:Nat->List Nat} {i k:Nat} {ks:List Nat} {S S1 S2:List Bool} (h:Mrk W i ks S S1) (hk:k∈W i) (hl:k<S1.length) (h2:ML W k S1 S2):Mrk W i (ks++ [k]) S S2:=by
 rcases h2 with ⟨h3,rfl⟩|⟨_,h3⟩
 ·exact h.skip h3
 ·exact h.step hk hl h3
theorem ML.all {W:Nat->List Nat} {i n:Nat} {S':List Bool} (hi:i<n) (h:ML W i (aok n false) S') (k:Nat):S'[k]? =some true↔k=i∨Rch W i k:=by
 have hf: ∀k:Nat,(aok n false)[k]? ≠some true:=fun k e=>by rw [ap0] at e;split at e<;>cases e
 have hset: ∀m:Nat,((aok n false).set i true)[m]? =some true->m=i:=fun m e=>by
  rw [anO] at e;by_cases q:i=m
  ·exact q.symm
  ·rw [if_neg q] at e;exact absurd e (hf m)
 rcases h with ⟨h,_⟩|⟨_,h⟩
 ·exact absurd h (hf i)
 have h0:S'[i]? =some true:=h.mo i (by rw [anO,if_pos rfl,if_pos (by simpa using hi)]);have hcl: ∀m:Nat,S'[m]? =some true-> ∀q∈W m,S'[q]? =some true:=fun m hm q hq=>by
  rcases h.cl m hm with e|e
  ·have:=hset m e;subst this;exact h.all q hq
  ·exact e q hq
 constructor
 ·intro e;rcases h.snd k e with e|e
  ·exact .inl (hset k e)
  ·exact .inr e
 ·rintro (rfl|e)
  ·exact h0
  ·induction e with
   |one h1=>exact hcl _ h0 _ h1
   |more _ h1 ih=>exact hcl _ ih _ h1
structure Rw (W0:World) (bb bm b1 b2 b3:Nat) (W:World):Prop where
 n:Chg (fun k=>k=bm) W0 W
 v1:Bk W b1 116 [.map (some bm)]
 v2:Bk W b2 38 [pT bb]
 v3:Bk W b3 117 [.func (.func 39) #[] #[pT b1,pT b2,pT b3]]
theorem Rw.chg {W0 W W':World} {bb bm b1 b2 b3:Nat} {f:Nat->Option Int} (h:Rw W0 bb bm b1 b2 b3 W) (hm:ImL W bm f) (c:Chg (fun k=>k=bm) W W'):Rw W0 bb bm b1 b2 b3 W':=by
 obtain ⟨L,_,hm,_⟩:=hm;exact ⟨Chg.trans h.n c i3,h.v1.chg c fun e=>h.v1.qQ hm e,h.v2.chg c fun e=>h.v2.qQ hm e,h.v3.chg c fun e=>h.v3.qQ hm e⟩
theorem Sv {Pb:Nat->Prop} {bb bm b1 b2 b3:Nat} {N:List Sn} {ord oJ:List Nat} {down:Bool} {nv ov sv:Value} {W0:World} (g0:BdM Pb bb N ord oJ down nv ov sv W0) (hP: ∀k,Pb k->k≠bm) (hB: ∀i,(hgN N i).length<=1000000000):
 ∀(M:Nat) (w:World) (c:Nat->Int) (i:Nat) (C:Int),opn (mkS N.length c)<=M->i<N.length->(∀k,0<=c k/\c k+opn (mkS N.length c)*1000000000+1<=C)->C<=1000000000000000->Rw W0 bb bm b1 b2 b3 w->ImL w bm (cF c)->
  Calls prog 39 #[vi i,pT b1,pT b2,pT b3] w (Ret fun _ w'=> ∃c',ML (hgN N) i (mkS N.length c) (mkS N.length c')/\(∀k,0<=c' k/\c' k+opn (mkS N.length c')*1000000000<=C)/\ImL w' bm (cF c')/\Chg (fun k=>k=bm) w w'):=by
 intro M;induction M using Nat.strongRecOn with
 |ind M IH=>
  intro w c i C hM hi hC hCl rw0 hm;have hnl:=g0.nl;obtain ⟨x,hx⟩:=nT N hi;have hxm:=aop hx;have hxg:=uf hx;have hBi:=hB i;have hCi:=hC i;have g:=g0.chg rw0.n hP;obtain ⟨na,nc,hnv,_,_⟩:=g.nd.a.row.form;have hrd:=g.nd.a.row.rd (nS snC);subst hnv;refine nM func39 rfl ntmps39 rfl ?_;refine qq4 ?_;refine ah (u:=.map (some bm)) rfl (rw0.v1.cell (o:=0) rfl) ?_;(repeat' (refine aa1 ?_));refine jB hm (by omega) rfl rfl (Sr c i) ?_;(repeat' (refine Wl.add rfl rfl (by omega) (by omega) ?_));refine jb (u:=c i+1) hm (by omega) rfl rfl rfl fun w1 m1 c1 s1=>?_;rw [abI hCi.1] at m1;have rw1:=rw0.chg hm c1;have g1:=g.chg c1 hP;refine qq2 ?_;refine ah (u:=.map (some bm)) rfl (rw1.v1.cell (o:=0) rfl) ?_;(repeat' (refine aa1 ?_));refine jB (v:=c i+1) m1 (by omega) rfl rfl (by rw [Sr];unfold cU;rw [if_pos rfl]) ?_;(repeat' (first|refine qq7 ?_|refine aT rfl rfl (fun _=>?_) (fun _=>?_)))
  ·refine eX rfl ⟨_,rfl,cU c i,.inl ⟨?_,Ui hi (by omega)⟩,fun k=>?_,m1,c1⟩
   ·rw [BP hi,decide_eq_true (by omega)]
   ·rw [Ui hi (by omega)];have hk:=hC k;unfold cU;split
    ·omega
    ·omega
  ·have h0:c i=0:=by omega
   have hS:(mkS N.length c)[i]? =some false:=by rw [BP hi,decide_eq_false (fun e=>e h0)]
   have hset:=Uh hi hCi.1;have hop:=TU hS;rw [<-hset] at hop;refine ah (u:=pT bb) rfl (rw1.v2.cell (o:=0) rfl) ?_;refine qq2 ?_;refine ah (u:=.slice na N.length nc) rfl (g1.b.cell (o:=0) rfl) ?_;(repeat' (refine aa1 ?_));refine aK (hrd.keep (oH snC) (c1.keep fun b _ hb e=>hP b (hb.elim id fun q=>q.elim) e)) rfl rfl (by omega) hx fun b o cs hl hR hat=>?_;obtain rfl:cs=snC x:=hR;obtain ⟨oa,oc,hoe,_,hom⟩:=((g0.nd.a.el x hxm).rd qw.mo).form;simp only [maxLen] at hom;rw [hxg.2.2.1] at hBi;(repeat' (refine aa5 ?_));refine ah (u:=svV x.hv) rfl (hat.get 3 rfl) ?_;clear hat;have hov:=(g1.nd.a.el x hxm).rd qw.mo;rw [hoe] at hov ⊢;refine qq4 ?_;refine aA (σ:=Nat×(Nat->Int)) (fun q=>[(1,pT b1),(2,pT b2),(3,pT b3),(22,.slice oa x.hl.length oc),(23,vi x.hl.length),(24,vi q.1)]) (fun q W=>q.1<=x.hl.length/\Mrk (hgN N) i (x.hl.take q.1) (mkS N.length (cU c i)) (mkS N.length q.2)/\(∀k,0<=q.2 k/\q.2 k+opn (mkS N.length q.2)*1000000000+(x.hl.length-q.1)<=C)/\ImL W bm (cF q.2)/\Rw W0 bb bm b1 b2 b3 W/\Chg (fun k=>k=bm) w1 W) (fun q=>x.hl.length-q.1) (0,cU c i) (sl rfl) ⟨anq _,kz _ _ _,fun k=>?_,m1,rw1,ay _ _⟩ ?_
   ·have hk:=hC k;dsimp only;unfold cU at hop ⊢;split<;>omega
   rintro ⟨q,cq⟩ G W ⟨hq,hMk,hCq,mW,rwW,cW⟩;dsimp only at hq hMk hCq mW rwW cW;simp only [pq];(repeat' (first|refine qq4 ?_|refine aa2 (fun _=>?_) (fun _=>?_)))
   ·obtain ⟨j,hj⟩:=nT x.hl (k:=q) (by omega);have hjl:=(g0.win x hxm).1 j (aop hj);have amP:=hMk.opn;refine aZ (hov.keep (nZ _) (cW.keep fun b _ hb e=>hP b (hb.elim id fun q=>q.elim) e)) rfl rfl (by omega) hj fun b o hcell=>?_;refine ah (u:=vi j) rfl hcell ?_;refine qq6 ?_;refine ah (u:=.func (.func 39) #[] #[pT b1,pT b2,pT b3]) rfl (rwW.v3.cell (o:=0) rfl) ?_;(repeat' (refine aa1 ?_));refine bP (dst:=some 30) rfl (IH (opn (mkS N.length cq)) (by omega) W cq j (C-(x.hl.length-q-1)) (aap _) hjl (fun k=>by have:=hCq k;omega) (by omega) rwW mW) rfl ?_;rintro u w3 ⟨c3',hT,hC3,m3,c3⟩;simp only [wI];refine qq6 ?_;refine ax (q+1,c3') (sl rfl) ⟨by dsimp only;omega,?_,fun k=>by have:=hC3 k;dsimp only;omega,m3,rwW.chg mW c3,Chg.trans cW c3 i3⟩ (by dsimp only;omega);dsimp only;rw [take_snoc hj];exact hMk.to (by rw [hxg.2.2.1];exact aop hj) (by rw [BO];exact hjl) hT
   ·obtain rfl:q=x.hl.length:=by omega
    rw [aon] at hMk;refine cO rfl ⟨_,rfl,cq,.inr ⟨hS,?_⟩,fun k=>by have:=hCq k;omega,mW,Chg.trans c1 cW i3⟩;rw [<-hset,hxg.2.2.1];exact hMk
theorem Yl (n:Nat):mkS n (fun _=>0)=aok n false:=by
 unfold mkS;rw [show (fun k:Nat=>decide ((fun _=>(0:Int)) k≠0))=fun _=>false from funext fun _=>by simp,List.map_const',apP]
theorem abJ (n:Nat) (c:Nat->Int):opn (mkS n c)<=n:=by
 have h:(mkS n c).count false<=(mkS n c).length:=List.count_le_length;rw [BO] at h;exact h
section
variable {Pb:Nat->Prop} {bb:Nat} {N:List Sn} {A:As} {ord oJ:List Nat} {down:Bool} {nv ov sv:Value} {W:World}
def Sz (Pb:Nat->Prop) (bb:Nat) (N:List Sn) (A:As) (ord oJ:List Nat) (down:Bool) (nv ov sv:Value) (W:World) (i:Int) (r:Value) (w':World):Prop:=
 (wW (snA N A) down i false≠0/\r=.tuple #[.slice none 0 0,vi (wW (snA N A) down i false)]/\New W w')∨
 (wW (snA N A) down i false=0/\ ∃(In:Nat->Bool) (v:Value),(∀k,k<N.length->(In k=true↔k=i.toNat∨Rch (hgN N) i.toNat k))/\r=.tuple #[v,vi 0]/\nP (flat stC) 64 2 (fun b=>W.heap.size<=b) NoB w' v (uw In ord A)/\
   BdM Pb bb (snA N (qU A (uw In ord A))) ord oJ down nv ov sv w'/\Chg (fun k=>nv.ownBlock=some k) W w')
theorem VK {i:Int} (g:BdM Pb bb (snA N A) ord oJ down nv ov sv W) (hB: ∀i,(hgN N i).length<=1000000000) (ho: ∀k∈ord,k<N.length) (hol:ord.length<=512):
 Calls prog 21 #[pT bb,vi i] W (Ret fun r w'=>Sz Pb bb N A ord oJ down nv ov sv W i r w'):=by
 have hnl:=g.nl;rw [rY] at hnl;have hhg:hgN (snA N A)=hgN N:=funext fun i=>(EI N A i).2.2.1;replace g:=g.mono (Pb':=fun b=>Pb b/\b<W.heap.size) fun b hb e=>⟨e,hb⟩;have hnv: ∀j,nv.ownBlock=some j->j<W.heap.size:=fun j e=>(g.nd.a.row.lt e).1.2;obtain ⟨na,nc,abK,_,_⟩:=g.nd.a.row.form;rw [rY] at abK;refine nM func21 rfl ntmps21 rfl ?_;refine qq4 ?_;refine Wl.box rfl fun w1 b1 n1 s1=>?_;replace b1:Bk w1 W.heap.size 38 [pT bb]:=b1;refine qq4 ?_;refine ah (u:=pT bb) rfl (b1.cell (o:=0) rfl) ?_;(repeat' (refine aa1 ?_));refine aj (PE (g.new n1)) rfl ?_;rintro _ w2 ⟨rfl,n2⟩;have n02:=New.trans n1 n2;have b12:=b1.chg n2 id;by_cases hm:wW (snA N A) down i false=0
 ·obtain ⟨k,rfl,hk⟩:=KH hm;rw [rY] at hk;rw [hm];(repeat' (first|refine qq2 ?_|(refine aa4 (fun _=>?_) (fun _=>?_)<;>(first|(exfalso;omega)|skip))));refine fU (k:=3) fun w3 m3 n3 s3=>?_;refine Wl.alloc fun w4 b4 n4 s4=>?_;replace b4:Bk w4 w3.heap.size 116 [.map none]:=b4;refine aJ (u:=.map (some w2.heap.size)) b4 rfl (show (0:Nat)<1 by omega) rfl rfl fun w5 b5 c5=>?_;replace b5:Bk w5 w3.heap.size 116 [.map (some w2.heap.size)]:=b5;refine qq2 ?_;refine Wl.alloc fun w6 b6 n6 s6=>?_;replace b6:Bk w6 w5.heap.size 117 [.nilFunc]:=b6;refine qq2 ?_;refine dn (f1:=[]) (c1:=[pT w3.heap.size,pT W.heap.size,pT w5.heap.size]) rfl rfl ?_;refine aJ (u:=.func (.func 39) #[] #[pT w3.heap.size,pT W.heap.size,pT w5.heap.size]) b6 rfl (show (0:Nat)<1 by omega) rfl rfl fun w7 b7 c7=>?_;replace b7:Bk w7 w5.heap.size 117 [.func (.func 39) #[] #[pT w3.heap.size,pT W.heap.size,pT w5.heap.size]]:=b7;have hz1:=n02.size;have hz3:=n3.size;have hz4:=n4.size;have hz5:=c5.size;have hz6:=n6.size;have hbm:=m3.lt;have ajc:=b5.lt;have n25:New w2 w5:=(Chg.trans (New.trans n3 n4).any c5 i3).tN
  have n57:New w5 w7:=(Chg.trans n6.any c7 i3).tN
  have m7:=((m3.chg n4 id).chg c5 fun e=>by omega).chg n57 id;have n07:=New.trans n02 (New.trans n25 n57);have b17:=b12.chg (New.trans n25 n57) id;have b57:=b5.chg n57 id;have g7:=g.new n07;clear b1 b12 b4 c5 b5 b6 c7 n1 n2 n3 n4 n6 n25 n57 m3;generalize amQ:w3.heap.size=bv at*;generalize amR:w2.heap.size=bm at*;generalize amS:w5.heap.size=bf at*;have rw7:Rw w7 bb bm bv W.heap.size bf w7:=⟨ay _ _,b57,b17,b7⟩;have hP: ∀j,(Pb j/\j<W.heap.size)->j≠bm:=fun j hj e=>by have:=hj.2;omega
  have im7:ImL w7 bm (cF fun _=>0):=kE m7;refine qq2 ?_;refine ah (u:=.func (.func 39) #[] #[pT bv,pT W.heap.size,pT bf]) rfl (b7.cell (o:=0) rfl) ?_;(repeat' (refine aa1 ?_));refine bP (dst:=some 22) rfl (Sv g7 hP (by rw [hhg];exact hB) _ w7 (fun _=>0) k 1000000000000000 (aap _) (by rw [rY];exact hk) (fun j=>⟨aoj _,by have:=abJ (snA N A).length (fun _=>0);rw [rY] at this ⊢;omega⟩) (aoj _) rw7 im7) rfl ?_;rintro u w8 ⟨c',hT,hC',m8,c8⟩;simp only [wI];rw [rY,Yl,hhg] at hT;have rw8:=rw7.chg im7 c8;have g8:=g7.chg c8 hP;have hIn: ∀j,j<N.length->(decide (c' j≠0)=true↔j=k∨Rch (hgN N) k j):=fun j hj=>by have h:=hT.all hk j;rw [BP hj] at h;rw [<-h];simp
  have n08:Chg (fun j=>nv.ownBlock=some j) W w8:=(Chg.trans (M:=fun j=>j=bm) n07.any c8 i3).toNew (fun j hj e=>by omega) |>.any
  clear hT c8 m7 im7 rw7 g7 b7 b17 b57;obtain ⟨In,abL⟩: ∃In:Nat->Bool,In=fun j=>decide (c' j≠0):=⟨_,rfl⟩;have ajd: ∀j,j<N.length->(In j=true↔j=k∨Rch (hgN N) k j):=fun j hj=>by rw [abL];exact hIn j hj
  have ael: ∀j,In j=decide (c' j≠0):=fun j=>by rw [abL]
  clear abL hIn;obtain ⟨oa,oc,hoe,_,_⟩:=g8.od.form;refine qq4 ?_;refine ah (u:=pT bb) rfl (rw8.v2.cell (o:=0) rfl) ?_;refine qq2 ?_;refine ah (u:=ov) rfl (g8.b.cell (o:=1) rfl) ?_;rw [hoe];refine qq4 ?_;refine aA (σ:=Nat×List Stp×Value) (fun q=>[(2,pT W.heap.size),(7,pT bv),(9,q.2.2),(26,.slice oa ord.length oc),(27,vi ord.length),(28,vi q.1)]) (fun q V=>q.1<=ord.length/\q.2.1.length<=q.1/\uw In ord A=q.2.1++uw In (ord.drop q.1) (qU A q.2.1)/\nP (flat stC) 64 2 (fun b=>W.heap.size<=b) NoB V q.2.2 q.2.1/\BdM (fun b=>Pb b/\b<W.heap.size) bb (snA N (qU A q.2.1)) ord oJ down nv ov sv V/\ Bk V bv 116 [.map (some bm)]/\Bk V W.heap.size 38 [pT bb]/\ImL V bm (cF c')/\Chg (fun j=>nv.ownBlock=some j) W V) (fun q=>ord.length-q.1) (0,[],.slice none 0 0) (sl rfl) ⟨anq _,aap _,rfl,aI,g8,rw8.v1,rw8.v2,m8,n08⟩ ?_;clear g8 rw8 m8 n08;rintro ⟨q,S,lv⟩ G V ⟨hq,hSl,hro,own,gV,bV,b2V,mV,cV⟩;dsimp only at hq hSl hro own gV bV b2V mV cV;simp only [pq];have hlv: ∀j,lv.ownBlock=some j->W.heap.size<=j:=fun j e=>(own.lt e).1;have hzV:=cV.size;(repeat' (first|refine qq4 ?_|refine aa2 (fun _=>?_) (fun _=>?_)))
  ·obtain ⟨j,hj⟩:=nT ord (k:=q) (by omega);have hjl:=ho j (aop hj);rw [drop_cons hj,uw] at hro;have hov:=gV.od.rd qw.mo;rw [hoe] at hov;refine aZ hov rfl rfl (by omega) hj fun b o hcell=>?_;refine ah (u:=vi j) rfl hcell ?_;refine qq4 ?_;refine ah (u:=.map (some bm)) rfl (bV.cell (o:=0) rfl) ?_;(repeat' (refine aa1 ?_));refine jB mV (by omega) rfl rfl (Sr c' j) ?_
   have next: ∀V',New V V'-> ¬(In j=true/\qU A S j=true)->q+1<=ord.length/\S.length<=q+1/\uw In ord A=S++uw In (ord.drop (q+1)) (qU A S)/\nP (flat stC) 64 2 (fun b=>W.heap.size<=b) NoB V' lv S/\BdM (fun b=>Pb b/\b<W.heap.size) bb (snA N (qU A S)) ord oJ down nv ov sv V'/\
    Bk V' bv 116 [.map (some bm)]/\Bk V' W.heap.size 38 [pT bb]/\ImL V' bm (cF c')/\Chg (fun j=>nv.ownBlock=some j) W V':=fun V' n h=>by
    rw [if_neg h] at hro;exact ⟨by omega,by omega,hro,own.new (nK _) n,gV.new n,bV.chg n id,b2V.chg n id,mV.chg n id,Chg.trans cV n.any i3⟩
   by_cases hc0:In j=true
   ·have hpos:0<c' j:=by
     have h0:=(hC' j).1;rw [ael] at hc0;have h1:c' j≠0:=by simpa using hc0
     omega
    (repeat' (first|refine qq5 ?_|(refine aT rfl rfl (fun _=>?_) (fun _=>?_)<;>(first|(exfalso;omega)|skip))));refine ah (u:=pT bb) rfl (b2V.cell (o:=0) rfl) ?_;refine qq2 ?_;refine ah (u:=nv) rfl (gV.b.cell (o:=0) rfl) ?_;refine qq5 ?_;refine aK (gV.nd.a.row.rd (nS snC)) rfl rfl (by omega) (wX hjl) fun b o cs hl hR hat=>?_;obtain rfl:cs=snC _:=hR;refine qq2 ?_;refine ah (u:=.bool (qU A S j)) rfl (hat.get 5 rfl) ?_;clear hat;cases hrs:qU A S j with
    |true=>
     rw [if_pos ⟨hc0,hrs⟩] at hro;refine qq3 ?_;refine ah (u:=pT bb) rfl (b2V.cell (o:=0) rfl) ?_;(repeat' (refine aa1 ?_));refine aj (BN (v:=false) gV hjl) rfl ?_;rintro _ V1 ⟨rfl,g1,c1⟩;have Ar:=own.chg (nK _) c1 fun k hk e=>by have:=hlv k hk;have:=hnv k e;omega
     have bV1:=bV.chg c1 fun e=>by have:=hnv _ e;omega
     have aem:=b2V.chg c1 fun e=>by have:=hnv _ e;omega
     have mV1:=mV.chg c1 fun e=>by have:=hnv _ e;omega
     have amT:=c1.size;refine cu (R:=flat stC) (y:=(j,false)) Bz Ar rfl rfl rfl rfl rfl (by omega) (by omega) (by simp only [maxLen];omega) (by omega) rfl rfl fun v2 V2 p o2 c2 lie=>?_;refine qq6 ?_;refine ax (q+1,S++ [(j,false)],v2) (sl rfl) ⟨by dsimp only;omega,by dsimp only;rw [am7,anM];omega,?_,o2.mono (nS _) (fun b _ e=>e.elim id fun e=>by have e:V1.heap.size<=b:=e;show W.heap.size<=b;omega) i3,?_,bV1.chg c2 fun e=>Ar.oM bV1 rfl e rfl,aem.chg c2 fun e=>Ar.oM aem rfl e rfl,mV1.chg c2 fun e=>?_,Chg.trans (Chg.trans cV c1 i3) c2 fun k hk e=>by have:=hlv k e;omega⟩ (by dsimp only;omega)
     ·dsimp only;rw [xf,adK];exact hro
     ·dsimp only;rw [xf];exact g1.chg c2 fun k hk e=>by have:=hlv k e;have:=hk.2;omega
     ·obtain ⟨L,_,hml,_⟩:=mV1;exact Ar.qQ hml e rfl
    |false=>refine qq2 ?_;exact ax (q+1,S,lv) (sl rfl) (next V (ay _ _) fun h=>by rw [hrs] at h;cases h.2) (by dsimp only;omega)
   ·have hzero:c' j=0:=by rw [ael] at hc0;simpa using hc0
    (repeat' (first|refine qq2 ?_|(refine aT rfl rfl (fun _=>?_) (fun _=>?_)<;>(first|(exfalso;omega)|skip))));exact ax (q+1,S,lv) (sl rfl) (next V (ay _ _) fun h=>hc0 h.1) (by dsimp only;omega)
  ·obtain rfl:q=ord.length:=by omega
   rw [List.drop_length,uw,aoS] at hro;exact aB rfl rfl rfl ⟨_,rfl,.inr ⟨hm,In,lv,ajd,rfl,by rw [hro];exact own,by rw [hro, <-hoe];exact gV.mono fun b _ e=>e.1,cV⟩⟩
 ·have fin: ∀w',New W w'->Sz Pb bb N A ord oJ down nv ov sv W i (.tuple #[.slice none 0 0,vi (wW (snA N A) down i false)]) w':=fun w' n=>.inl ⟨hm,rfl,n⟩;generalize wW (snA N A) down i false=mm at*;(repeat' (first|refine qq5 ?_|(refine aa4 (fun _=>?_) (fun _=>?_)<;>(first|(exfalso;omega)|skip))));exact aB rfl rfl rfl ⟨_,rfl,fin _ n02⟩
end
theorem xN (N:List Sn) {i:Nat} {x y:Sn} (h:N[i]? =some x) (k:Nat):(N.set i y).getD k default=if k=i then y else N.getD k default:=by
 have hi:=(List.getElem?_eq_some_iff.1 h).1;rw [an7,an7,anO];by_cases e:k=i
 ·subst e;rw [if_pos rfl,if_pos rfl,if_pos hi];rfl
 ·rw [if_neg (fun q=>e q.symm),if_neg e]
def SmN (N N':List Sn):Prop:=N'.length=N.length/\ ∀k,bdN N' k=bdN N k/\ptN N' k=ptN N k/\(N'.getD k default).xM=(N.getD k default).xM/\aF N' k=aF N k
theorem SmN.trans {N N1 N2:List Sn} (h:SmN N N1) (h':SmN N1 N2):SmN N N2:=⟨h'.1.trans h.1,fun k=>⟨(h'.2 k).1.trans (h.2 k).1,(h'.2 k).2.1.trans (h.2 k).2.1,(h'.2 k).2.2.1.trans (h.2 k).2.2.1,(h'.2 k).2.2.2.trans (h.2 k).2.2.2⟩⟩
theorem SmN.set {N:List Sn} {i:Nat} {x y:Sn} (h:N[i]? =some x) (h1:y.path=x.path) (h2:y.bound=x.bound) (h3:y.xM=x.xM) (h4:y.asleep=x.asleep):SmN N (N.set i y):=by
 have e:N.getD i default=x:=by rw [an7,h];rfl
 refine ⟨apn,fun k=>?_⟩;unfold bdN ptN aF;rw [xN N h];by_cases q:k=i
 ·subst q;rw [if_pos rfl,e];exact ⟨h2,h1,h3,h4⟩
 ·rw [if_neg q];exact ⟨rfl,rfl,rfl,rfl⟩
structure LkI (N:List Sn) (L:List (Nat×Nat)):Prop where
 h: ∀k,hgN N k=(L.filter fun p=>decide (p.1=k)).map (·.2)
 o: ∀k,ovN N k=(L.filter fun p=>decide (p.2=k)).map (·.1)
theorem LkI.lens {N:List Sn} {L:List (Nat×Nat)} (I:LkI N L) (k:Nat):(hgN N k).length<=L.length/\(ovN N k).length<=L.length:=by
 rw [I.h,I.o,aoR,aoR];exact ⟨apO _ _,apO _ _⟩
theorem LkI.step {N:List Sn} {L:List (Nat×Nat)} {i d:Nat} {x y:Sn} {v1 v2:SV} (I:LkI N L) (hx:N[i]? =some x) (hy:(N.set i {x with hv:=v1,hl:=x.hl++ [d]})[d]? =some y):LkI ((N.set i {x with hv:=v1,hl:=x.hl++ [d]}).set d {y with ov:=v2,ol:=y.ol++ [i]}) (L++ [(i,d)]):=by
 have hxg:=uf hx;have hyg:=uf hy;refine ⟨fun k=>?_,fun k=>?_⟩
 ·have h1:hgN ((N.set i {x with hv:=v1,hl:=x.hl++ [d]}).set d {y with ov:=v2,ol:=y.ol++ [i]}) k=if k=i then hgN N k++ [d] else hgN N k:=by
   unfold hgN;rw [xN _ hy];by_cases q:k=d
   ·subst q;rw [if_pos rfl];show y.hl=_;rw [<-hyg.2.2.1];unfold hgN;rw [xN _ hx];by_cases q2:k=i
    ·subst q2;rw [if_pos rfl,if_pos rfl];have:=hxg.2.2.1;unfold hgN at this;rw [this]
    ·rw [if_neg q2,if_neg q2]
   ·rw [if_neg q,xN _ hx];by_cases q2:k=i
    ·subst q2;rw [if_pos rfl,if_pos rfl];have:=hxg.2.2.1;unfold hgN at this;rw [this]
    ·rw [if_neg q2,if_neg q2]
  rw [h1,I.h,apy,aoN];by_cases q:k=i
  ·subst q;simp
  ·rw [if_neg q,aqI (by simpa using fun e=>q e.symm)];simp
 ·have h1:ovN ((N.set i {x with hv:=v1,hl:=x.hl++ [d]}).set d {y with ov:=v2,ol:=y.ol++ [i]}) k=if k=d then ovN N k++ [i] else ovN N k:=by
   have h2: ∀k,ovN (N.set i {x with hv:=v1,hl:=x.hl++ [d]}) k=ovN N k:=fun k=>by
    unfold ovN;rw [xN _ hx];by_cases q2:k=i
    ·subst q2;rw [if_pos rfl];have:=hxg.2.2.2;unfold ovN at this;rw [this]
    ·rw [if_neg q2]
   have h3:=hyg.2.2.2;rw [h2] at h3;rw [<-h2 k];unfold ovN at h3 ⊢;rw [xN _ hy];by_cases q:k=d
   ·subst q;rw [if_pos rfl,if_pos rfl];show y.ol++ [i]=_;have h4:=hyg.2.2.2;unfold ovN at h4;rw [h4]
   ·rw [if_neg q,if_neg q]
  rw [h1,I.o,apy,aoN];by_cases q:k=d
  ·subst q;simp
  ·rw [if_neg q,aqI (by simpa using fun e=>q e.symm)];simp
section
variable {Pb:Nat->Prop} {bb:Nat} {N:List Sn} {down:Bool} {nv:Value} {W W':World}
theorem BdM.XJ (g:BdM Pb bb N [] [] down nv (.slice none 0 0) (.slice none 0 0) W) {i d:Nat} {x:Sn} {w1:World} {v':SV} (hx:N[i]? =some x) (hd:d<N.length) (ho:nP (Wk.one viN) 3 1 Pb NoB w1 (svV v') (x.hl++ [d])) (c1:Chg (fun k=>(svV x.hv).ownBlock=some k) W w1) (lie:(svV v').ownBlock=(svV x.hv).ownBlock∨ ∀k,(svV v').ownBlock=some k->W.heap.size<=k)
 (hr:nP (flat snC) 94 6 Pb NoB W' nv (N.set i {x with hv:=v',hl:=x.hl++ [d]})) (c2:Chg (fun k=>nv.ownBlock=some k) w1 W'):BdM Pb bb (N.set i {x with hv:=v',hl:=x.hl++ [d]}) [] [] down nv (.slice none 0 0) (.slice none 0 0) W':=by
 have hxm:=aop hx;have b1:=g.b.chg c1 fun e=>(g.nd.a.el x hxm).oM g.b rfl e rfl;have hrow:=g.nd.a.row.chg (nK snC) c1 fun k hk e=>g.nd.a.vz x hxm k e hk;refine ⟨b1.chg c2 fun e=>hrow.oM b1 rfl e rfl,g.nd.set1 hx rfl rfl ho c1 lie hr c2,aI,aI,fun y hy=>⟨fun k _ e=>(by cases e),fun k _ e=>(by cases e),fun k _ e=>(by cases e),fun k _ e=>(by cases e)⟩,fun k _ e=>(by cases e),fun y hy=>?_,by rw [apn];exact g.nl,g.lo⟩;rw [apn];rcases apZ hy with hy|rfl
 ·exact g.win y hy
 ·refine ⟨fun k hk=>?_,(g.win x hxm).2⟩;rcases List.mem_append.1 hk with hk|hk
  ·exact (g.win x hxm).1 k hk
  ·rw [List.mem_singleton.1 hk];exact hd
theorem BdM.aen (g:BdM Pb bb N [] [] down nv (.slice none 0 0) (.slice none 0 0) W) {i d:Nat} {x:Sn} {w1:World} {v':SV} (hx:N[i]? =some x) (hd:d<N.length) (ho:nP (Wk.one viN) 3 1 Pb NoB w1 (svV v') (x.ol++ [d])) (c1:Chg (fun k=>(svV x.ov).ownBlock=some k) W w1) (lie:(svV v').ownBlock=(svV x.ov).ownBlock∨ ∀k,(svV v').ownBlock=some k->W.heap.size<=k)
 (hr:nP (flat snC) 94 6 Pb NoB W' nv (N.set i {x with ov:=v',ol:=x.ol++ [d]})) (c2:Chg (fun k=>nv.ownBlock=some k) w1 W'):BdM Pb bb (N.set i {x with ov:=v',ol:=x.ol++ [d]}) [] [] down nv (.slice none 0 0) (.slice none 0 0) W':=by
 have hxm:=aop hx;have b1:=g.b.chg c1 fun e=>(g.nd.b.el x hxm).oM g.b rfl e rfl;have hrow:=g.nd.a.row.chg (nK snC) c1 fun k hk e=>g.nd.b.vz x hxm k e hk;refine ⟨b1.chg c2 fun e=>hrow.oM b1 rfl e rfl,g.nd.set2 hx rfl rfl ho c1 lie hr c2,aI,aI,fun y hy=>⟨fun k _ e=>(by cases e),fun k _ e=>(by cases e),fun k _ e=>(by cases e),fun k _ e=>(by cases e)⟩,fun k _ e=>(by cases e),fun y hy=>?_,by rw [apn];exact g.nl,g.lo⟩;rw [apn];rcases apZ hy with hy|rfl
 ·exact g.win y hy
 ·refine ⟨(g.win x hxm).1,fun k hk=>?_⟩;rcases List.mem_append.1 hk with hk|hk
  ·exact (g.win x hxm).2 k hk
  ·rw [List.mem_singleton.1 hk];exact hd
theorem DJ {i d b2:Nat} {L:List (Nat×Nat)} (g:BdM Pb bb N [] [] down nv (.slice none 0 0) (.slice none 0 0) W) (hP: ∀b,W.heap.size<=b->Pb b) (v2:Bk W b2 38 [pT bb]) (hi:i<N.length) (hd:d<N.length) (I:LkI N L) (hL:L.length<=100000000):
 Calls prog 25 #[vi i,vi d,pT b2] W (Ret fun _ w'=> ∃N',SmN N N'/\LkI N' (if bdN N i=true then L++ [(i,d)] else L)/\BdM Pb bb N' [] [] down nv (.slice none 0 0) (.slice none 0 0) w'/\Bk w' b2 38 [pT bb]/\Chg Pb W w'):=by
 have hnl:=g.nl;obtain ⟨x,hx⟩:=nT N hi;have hxm:=aop hx;have hxg:=uf hx;obtain ⟨ng,nc,abK,_,_,_⟩:=g.nd.a.row.blk (by intro e;rw [e] at hi;simp at hi);subst abK;refine nM func25 rfl ntmps25 rfl ?_;refine qq4 ?_;refine ah (u:=pT bb) rfl (v2.cell (o:=0) rfl) ?_;refine qq2 ?_;refine ah (u:=.slice (some ⟨ng,0,none⟩) N.length nc) rfl (g.b.cell (o:=0) rfl) ?_;(repeat' (refine aa1 ?_));refine dB rfl rfl (by omega) (by omega) ?_;(repeat' (refine aa5 ?_));refine ah (u:=.bool x.bound) rfl (by have:=(g.nd.a.row.at rfl rfl hx).get 1 rfl;simpa using this) ?_;rw [hxg.1];cases hb:x.bound with
 |false=>refine qq6 ?_;exact cO rfl ⟨_,rfl,N,⟨rfl,fun k=>⟨rfl,rfl,rfl,rfl⟩⟩,by rw [if_neg (by decide)];exact I,g,v2,ay _ _⟩
 |true=>
 rw [if_pos rfl];refine qq4 ?_;have hel:=g.nd.a.el x hxm;have hll:=(I.lens i).1;rw [hxg.2.2.1] at hll;have hrow:=fun (w':World) (c:Chg (fun j=>(svV x.hv).ownBlock=some j) W w')=>g.nd.a.row.chg (nK snC) c fun k hk e=>g.nd.a.vz x hxm k e hk;have hb2:=fun (w':World) (c:Chg (fun j=>(svV x.hv).ownBlock=some j) W w')=>v2.chg c fun e=>hel.oM v2 rfl e rfl;have hbb:=fun (w':World) (c:Chg (fun j=>(svV x.hv).ownBlock=some j) W w')=>g.b.chg c fun e=>hel.oM g.b rfl e rfl;refine aV rfl (by kernel_rfl) (fun w'=>Chg (fun j=>(svV x.hv).ownBlock=some j) W w') (Chg.drew _ _) ?_;intro w1 m1;refine aa0 (au (u:=pT bb) rfl (fun w' c=>(hb2 w' c).cell (o:=0) rfl) (af ?_));refine rX ?_;refine aa0 (au (u:=.slice (some ⟨ng,0,none⟩) N.length nc) rfl (fun w' c=>(hbb w' c).cell (o:=0) rfl) (af ?_));(repeat' (refine aa0 (aa3 (af ?_))));refine aa0 (au (u:=pT bb) rfl (fun w' c=>(hb2 w' c).cell (o:=0) rfl) (af ?_));refine rX ?_;refine aa0 (au (u:=.slice (some ⟨ng,0,none⟩) N.length nc) rfl (fun w' c=>(hbb w' c).cell (o:=0) rfl) (af ?_));(repeat' (refine aa0 (aa3 (af ?_))));refine aa0 (aa8 (af ?_));(repeat' (refine aa0 (aa6 (af ?_))));refine aa0 (au (u:=svV x.hv) rfl (fun w' c=>by have:=((hrow w' c).at rfl rfl hx).get 3 rfl;simpa using this) (af ?_));(repeat' (refine aa0 (aa3 (af ?_))));refine aC rfl (bC (R:=Wk.one viN) (Pe:=NoB) (y:=d) qw rfl rfl rfl rfl (by omega) (by omega) fun v3 w3 o3 n3 s3 e3=>?_);have m3:=New.trans m1 n3;refine ai ⟨rfl,m3.any,?_⟩;refine aC rfl (bY (R:=Wk.one viN) qw (hel.new (nO _) m3) (o3.rd qw.mo) (fun z cs hz=>hz) rfl rfl (by omega) (by simp only [maxLen,anM];omega) (by simp only [anM];omega) fun u' w4 o4 c4 lie _=>?_);have c04:Chg (fun j=>(svV x.hv).ownBlock=some j) W w4:=Chg.trans m3.any c4 i3;refine ai ⟨rfl,c04,?_⟩;refine aa0 (aa8 (af ?_));(repeat' (refine aa0 (aa6 (af ?_))));obtain ⟨ua,uc,rfl,_,_⟩:=o4.form;have hz3:=m3.size;have hz4:=c04.size;refine Wt.last rfl (dX (f:=snC) (sz:=6) (p:=x) (q:={x with hv:=(ua,(x.hl++ [d]).length,uc),hl:=x.hl++ [d]}) (j:=i) (o:=3) (cap:=nc) (u:=.slice ua (x.hl++ [d]).length uc) (fun _=>rfl) (show (3:Nat)<6 by omega) rfl hx rfl (hrow w4 c04) rfl (by show Value.pointer (some ⟨ng,0+(i:Int).toNat*6+3,none⟩)=_;rw [ace,ant]) rfl fun w5 o5 c5=>?_);refine ai ?_;have hz5:=c5.size;have g5:=g.XJ hx hd (v':=(ua,(x.hl++ [d]).length,uc)) (o4.mono (nV _) (fun b _ e=>by rcases e with e|e;exact e;exact hP b (by have e:w3.heap.size<=b:=e;omega)) i3) c04 (by rcases lie with l1|l1;exact .inl l1;exact .inr fun k hk=>by have:=l1 k hk;omega) o5 c5;have S5:SmN N (N.set i {x with hv:=(ua,(x.hl++ [d]).length,uc),hl:=x.hl++ [d]}):=SmN.set hx rfl rfl rfl rfl;have v25:=(hb2 w4 c04).chg c5 fun e=>(hrow w4 c04).oM (hb2 w4 c04) rfl e rfl;have c05:Chg Pb W w5:=Chg.trans (c04.mono fun k _ e=>(hel.lt e).1) c5 fun k _ e=>(g.nd.a.row.lt e).1;have aje:=(I.lens d).2;have hlen:(N.set i {x with hv:=(ua,(x.hl++ [d]).length,uc),hl:=x.hl++ [d]}).length=N.length:=apn;obtain ⟨y,hy⟩:=nT (N.set i {x with hv:=(ua,(x.hl++ [d]).length,uc),hl:=x.hl++ [d]}) (k:=d) (by rw [hlen];exact hd);have hyo:ovN N d=y.ol:=by
  rw [<-(uf hy).2.2.2];unfold ovN;rw [xN _ hx];by_cases q2:d=i
  ·subst q2;rw [if_pos rfl];have:=hxg.2.2.2;unfold ovN at this;rw [this]
  ·rw [if_neg q2]
 rw [hyo] at aje;have I':=fun v2=>I.step (v1:=(ua,(x.hl++ [d]).length,uc)) (v2:=v2) hx hy;clear c04 m3 m1 n3 c4 o3 o4 o5 c5 hrow hb2 hbb hel lie;generalize N.set i {x with hv:=(ua,(x.hl++ [d]).length,uc),hl:=x.hl++ [d]}=N1 at*;have hym:=aop hy;have hel:=g5.nd.b.el y hym;have hrow:=fun (w':World) (c:Chg (fun j=>(svV y.ov).ownBlock=some j) w5 w')=>g5.nd.a.row.chg (nK snC) c fun k hk e=>g5.nd.b.vz y hym k e hk;have hb2:=fun (w':World) (c:Chg (fun j=>(svV y.ov).ownBlock=some j) w5 w')=>v25.chg c fun e=>hel.oM v25 rfl e rfl;have hbb:=fun (w':World) (c:Chg (fun j=>(svV y.ov).ownBlock=some j) w5 w')=>g5.b.chg c fun e=>hel.oM g5.b rfl e rfl;refine qq4 ?_;refine aV rfl (by kernel_rfl) (fun w'=>Chg (fun j=>(svV y.ov).ownBlock=some j) w5 w') (Chg.drew _ _) ?_;intro w6 m6;refine aa0 (au (u:=pT bb) rfl (fun w' c=>(hb2 w' c).cell (o:=0) rfl) (af ?_));refine rX ?_;refine aa0 (au (u:=.slice (some ⟨ng,0,none⟩) N.length nc) rfl (fun w' c=>(hbb w' c).cell (o:=0) rfl) (af ?_));(repeat' (refine aa0 (aa3 (af ?_))));refine aa0 (au (u:=pT bb) rfl (fun w' c=>(hb2 w' c).cell (o:=0) rfl) (af ?_));refine rX ?_;refine aa0 (au (u:=.slice (some ⟨ng,0,none⟩) N.length nc) rfl (fun w' c=>(hbb w' c).cell (o:=0) rfl) (af ?_));(repeat' (refine aa0 (aa3 (af ?_))));refine aa0 (aa8 (af ?_));(repeat' (refine aa0 (aa6 (af ?_))));refine aa0 (au (u:=svV y.ov) rfl (fun w' c=>by have:=((hrow w' c).at rfl rfl hy).get 4 rfl;simpa using this) (af ?_));(repeat' (refine aa0 (aa3 (af ?_))));refine aC rfl (bC (R:=Wk.one viN) (Pe:=NoB) (y:=i) qw rfl rfl rfl rfl (by omega) (by omega) fun v7 w7 o7 n7 s7 e7=>?_);have m7:=New.trans m6 n7;refine ai ⟨rfl,m7.any,?_⟩;refine aC rfl (bY (R:=Wk.one viN) qw (hel.new (nO _) m7) (o7.rd qw.mo) (fun z cs hz=>hz) rfl rfl (by omega) (by simp only [maxLen,anM];omega) (by simp only [anM];omega) fun u' w8 o8 c8 lie _=>?_);have c58:Chg (fun j=>(svV y.ov).ownBlock=some j) w5 w8:=Chg.trans m7.any c8 i3;refine ai ⟨rfl,c58,?_⟩;refine aa0 (aa8 (af ?_));(repeat' (refine aa0 (aa6 (af ?_))));obtain ⟨ta,tc,rfl,_,_⟩:=o8.form;have hz7:=m7.size;have hz8:=c58.size;refine Wt.last rfl (dX (f:=snC) (sz:=6) (p:=y) (q:={y with ov:=(ta,(y.ol++ [i]).length,tc),ol:=y.ol++ [i]}) (j:=d) (o:=4) (cap:=nc) (u:=.slice ta (y.ol++ [i]).length tc) (fun _=>rfl) (show (4:Nat)<6 by omega) rfl hy rfl (hrow w8 c58) (by rw [hlen]) (by show Value.pointer (some ⟨ng,0+(d:Int).toNat*6+4,none⟩)=_;rw [ace,ant]) rfl fun w9 o9 c9=>?_);refine ai ?_;have g9:=g5.aen hy (by rw [hlen];exact hi) (v':=(ta,(y.ol++ [i]).length,tc)) (o8.mono (nV _) (fun b _ e=>by rcases e with e|e;exact e;exact hP b (by have e:w7.heap.size<=b:=e;omega)) i3) c58 (by rcases lie with l1|l1;exact .inl l1;exact .inr fun k hk=>by have:=l1 k hk;omega) o9 c9;have S9:=S5.trans (SmN.set (y:={y with ov:=(ta,(y.ol++ [i]).length,tc),ol:=y.ol++ [i]}) hy rfl rfl rfl rfl);have v29:=(hb2 w8 c58).chg c9 fun e=>(hrow w8 c58).oM (hb2 w8 c58) rfl e rfl;have c09:Chg Pb W w9:=Chg.trans (Chg.trans c05 c58 fun k _ e=>(hel.lt e).1) c9 fun k _ e=>(g.nd.a.row.lt e).1;exact cO rfl ⟨_,rfl,_,S9,I' _,g9,v29,c09⟩
end
section
variable {P:Program} {n:Nat} {ds:List Deferred} {C:World->Prop} {K:Fr->Prop} {F:Fr} {ops rest:List Oper} {d:Nat} {ty t t':TypeId} {pos:String} {aft:Array Edge} {x y:Operand} {k:IntKind} {a b:Int}
theorem Wk.Wq.eqD (hx:ev n F x=.int k a) (hy:ev n F y=.int k b) (c:Wq P n ds C K ops rest (upd F d (.bool (decide (a=b))))):Wq P n ds C K ops (⟨some d,.binOp .eql t x y t',ty,pos,aft,none⟩::rest) F:=
 gQ hx hy (fun h=>by rw [decide_eq_true h] at c;exact c) (fun h=>by rw [decide_eq_false h] at c;exact c)
end
noncomputable def n0L (G:Giv) (k:Nat):List Sn:=(ab8 k).map fun i=>⟨oI G.tree i,qG G i,ve G.tree i,(none,0,0),[],(none,0,0),[],false⟩
theorem yG (G:Giv) (k:Nat):(n0L G k).length=k:=by unfold n0L;rw [aoR,apP]
theorem EJ {G:Giv} {k i:Nat} (h:i<k):(n0L G k)[i]? =some ⟨oI G.tree i,qG G i,ve G.tree i,(none,0,0),[],(none,0,0),[],false⟩:=by unfold n0L;rw [an3,aoT h];rfl
theorem abM (G:Giv) (k:Nat):LkI (n0L G k) []:=by
 have key: ∀i,((n0L G k).getD i default).hl=[]/\((n0L G k).getD i default).ol=[]:=fun i=>by
  rw [an7];by_cases h:i<k
  ·rw [EJ h];exact ⟨rfl,rfl⟩
  ·rw [anl (by rw [yG];omega)];exact ⟨rfl,rfl⟩
 exact ⟨fun i=>(key i).1,fun i=>(key i).2⟩
theorem abN (G:Giv) (k i:Nat):aF (n0L G k) i=false:=by
 unfold aF;rw [an7];by_cases h:i<k
 ·rw [EJ h];rfl
 ·rw [anl (by rw [yG];omega)];rfl
theorem Ym (G:Giv) (i:Nat):bdN (n0L G G.tree.length) i=qG G i:=by
 by_cases h:i<G.tree.length
 ·exact (uf (EJ (G:=G) h)).1
 ·unfold bdN qG;rw [an7,anl (by rw [yG];omega),decide_eq_false h];rfl
theorem BA {b:Nat->Bool} {p p':Nat->Nm} {L:Nat->Int}: ∀(l:List Nat) (a:Option Nat),(∀i∈l,p i=p' i)->(∀j,a=some j->p j=p' j)->uo b p L a l=uo b p' L a l
 | [],a,_,_=>rfl
 |i::r,a,h,ha=>by
  have e:(b i=true/\L i=0/\ ∀j,a=some j->p i<p j)=(b i=true/\L i=0/\ ∀j,a=some j->p' i<p' j):=by
   apply propext;constructor
   ·rintro ⟨h1,h2,h3⟩;exact ⟨h1,h2,fun j hj=>by rw [<-h i ap2, <-ha j hj];exact h3 j hj⟩
   ·rintro ⟨h1,h2,h3⟩;exact ⟨h1,h2,fun j hj=>by rw [h i ap2,ha j hj];exact h3 j hj⟩
  rw [uo,uo];by_cases hc:b i=true/\L i=0/\ ∀j,a=some j->p i<p j
  ·rw [if_pos hc,if_pos (e▸hc)];exact BA r _ (fun i hi=>h i (aoC _ hi)) fun j hj=>by cases hj;exact h i ap2
  ·rw [if_neg hc,if_neg (fun q=>hc (e▸q))];exact BA r _ (fun i hi=>h i (aoC _ hi)) ha
theorem Gw {n:Nat} {b:Nat->Bool} {p p':Nat->Nm} {o:Nat->List Nat} (h: ∀i,i<n->p i=p' i): ∀(f:Nat) (L:Nat->Int),xJ n b p o f L=xJ n b p' o f L
 |0,_=>rfl
 |f+1,L=>by
  have e:zl n b p L=zl n b p' L:=BA _ _ (fun i hi=>h i (List.mem_range.1 hi)) fun j hj=>by cases hj
  rw [xJ,xJ,e];cases zl n b p' L with
  |none=>rfl
  |some k=>dsimp only;rw [Gw h f]
noncomputable def lk1 (G:Giv) (q:Nat):List (Nat×Nat):=((ab8 q).filterMap fun i=>if 0<i then some (i,par G.tree i) else none).filter fun p=>qG G p.1
noncomputable def lkE (G:Giv) (e:Ed):Option (Nat×Nat):=if e.soft=false/\(rowOf (oN G) (uQ G).2 e.src).2.1≠none then e.dst.map fun d=>(e.src,d) else none
noncomputable def lk2 (G:Giv) (q:Nat):List (Nat×Nat):=lk1 G G.tree.length++(((nX G.tree).take q).filterMap (lkE G)).filter fun p=>qG G p.1
noncomputable def lk3 (G:Giv) (q:Nat):List (Nat×Nat):=lk2 G (nX G.tree).length++(((rM G).1.take q).map fun e=>(e.src,e.dst.getD 0)).filter fun p=>qG G p.1
theorem PS (G:Giv) (q:Nat):lk1 G (q+1)=lk1 G q++(if 0<q then [(q,par G.tree q)] else []).filter fun p=>qG G p.1:=by
 unfold lk1;rw [apQ,aqt,apy];congr 1;by_cases h:0<q
 ·simp [h]
 ·simp [h]
theorem Yn (G:Giv):lk2 G 0=lk1 G G.tree.length:=by unfold lk2;simp
theorem Yo {G:Giv} {q:Nat} {e:Ed} (h:(nX G.tree)[q]? =some e):lk2 G (q+1)=lk2 G q++(lkE G e).toList.filter fun p=>qG G p.1:=by
 unfold lk2;have h1:[e].filterMap (lkE G)=(lkE G e).toList:=by cases hk:lkE G e<;>simp [hk]
 rw [take_snoc h,aqt,apy,adK,h1]
theorem Yp (G:Giv):lk3 G 0=lk2 G (nX G.tree).length:=by unfold lk3;simp
theorem Yq {G:Giv} {q:Nat} {e:Ed} (h:(rM G).1[q]? =some e):lk3 G (q+1)=lk3 G q++ [(e.src,e.dst.getD 0)].filter fun p=>qG G p.1:=by
 unfold lk3;rw [take_snoc h,aoN,apy,adK]<;>rfl
theorem PU (G:Giv):lk3 G (rM G).1.length=Bo G:=by
 unfold lk3 lk2 lk1 Bo Ud;rw [aon,aon,apy,apy];rfl
theorem DK: ∀(l:List Ed) (W:Nat->List Nat),(tY W l).1.length<=l.length
 | [],W=>aap _
 |x::r,W=>by
  unfold tY;split
  ·have h1:=DK r W;dsimp only;rw [anJ];omega
  ·dsimp only;rw [anJ,anJ];exact Nat.succ_le_succ (DK r _)
theorem PV (G:Giv):(rM G).1.length<=(nX G.tree).length:=by
 refine apR (DK _ _) ?_;rw [List.length_mergeSort];exact apO _ _
theorem Uj (G:Giv) (q:Nat):(lk1 G q).length<=q:=by
 unfold lk1;refine apR (apO _ _) (apR (aqb _ _) ?_);rw [apP];exact aap _
theorem Uk (G:Giv) (q:Nat):(lk2 G q).length<=G.tree.length+(nX G.tree).length:=by
 unfold lk2;rw [am7];have h1:=Uj G G.tree.length;have h2:((((nX G.tree).take q).filterMap (lkE G)).filter fun p=>qG G p.1).length<=((nX G.tree).take q).length:=apR (apO _ _) (aqb _ _);have h4:((nX G.tree).take q).length<=(nX G.tree).length:=by rw [anD];exact Nat.min_le_right _ _
 omega
theorem Ul (G:Giv) (q:Nat):(lk3 G q).length<=G.tree.length+2*(nX G.tree).length:=by
 unfold lk3;rw [am7];have h1:=Uk G (nX G.tree).length;have h2:=apO (fun p:Nat×Nat=>qG G p.1) (((rM G).1.take q).map fun e=>(e.src,e.dst.getD 0));rw [aoR] at h2;have h4:((rM G).1.take q).length<=(rM G).1.length:=by rw [anD];omega
 have h5:=PV G;omega
theorem SA {G:Giv} {N:List Sn} (S:SmN (n0L G G.tree.length) N) {L:List (Nat×Nat)} {i d:Nat}:(if bdN N i=true then L++ [(i,d)] else L)=L++ [(i,d)].filter fun p=>qG G p.1:=by
 rw [(S.2 i).1,Ym];cases h:qG G i<;>simp [h]
theorem abO {G:Giv} {N:List Sn} (S:SmN (n0L G G.tree.length) N) (I:LkI N (Bo G)):BdG G N/\(∀i,aF N i=false)/\(∀j k,(ovN N j).count k=(hgN N k).count j)/\EG N.length (bdN N) (ptN N) (hgN N) (ovN N)=sS G:=by
 have hlen:N.length=G.tree.length:=by rw [S.1,yG]
 have hd: ∀ {i x},N[i]? =some x->N.getD i default=x:=fun h=>by rw [an7,h];rfl
 have hil: ∀ {i x},N[i]? =some x->i<G.tree.length:=fun h=>by have:=(List.getElem?_eq_some_iff.1 h).1;omega
 have hp: ∀i,i<G.tree.length->ptN N i=oI G.tree i:=fun i hi=>(S.2 i).2.1.trans (uf (EJ hi)).2.1;have hh:hgN N=sW G:=funext I.h;have ho:ovN N=wF G:=funext I.o;have hb:bdN N=qG G:=funext fun i=>(S.2 i).1.trans (Ym G i);refine ⟨⟨hlen,fun i x hx=>?_,fun i x hx=>?_,fun i x hx=>?_,fun i x hx=>?_,fun i x hx=>?_⟩,fun i=>(S.2 i).2.2.2.trans (abN _ _ _),fun j k=>?_,?_⟩
 ·rw [<-(uf hx).2.1];exact hp i (hil hx)
 ·rw [<-(uf hx).1,hb]
 ·have h1:=(S.2 i).2.2.1;rw [hd hx] at h1;rw [h1,an7,EJ (hil hx)];rfl
 ·rw [<-(uf hx).2.2.1,hh]
 ·rw [<-(uf hx).2.2.2,ho]
 ·rw [ho,hh];exact Dz G j k
 ·unfold sS EG;rw [hlen,hb,hh,ho];exact Gw hp _ _
section
variable {Pb:Nat->Prop} {bb:Nat} {N:List Sn} {down:Bool} {nv:Value} {W W':World}
theorem BdM.Ya (g:BdM Pb bb N [] [] down nv (.slice none 0 0) (.slice none 0 0) W) {x:Sn} {w1:World} {v':Value} (h1:x.hv=(none,0,0)) (h2:x.ov=(none,0,0)) (h3:x.hl=[]) (h4:x.ol=[]) (hr:nP (flat snC) 94 6 Pb NoB w1 v' (N++ [x])) (c:Chg (fun k=>nv.ownBlock=some k) W w1)
 (lie:v'.ownBlock=nv.ownBlock∨ ∀k,v'.ownBlock=some k->W.heap.size<=k) (b':Bk W' bb 85 [v',.slice none 0 0,.slice none 0 0,.bool down]) (c2:Chg (fun k=>k=bb) w1 W') (hl:N.length<512):BdM Pb bb (N++ [x]) [] [] down v' (.slice none 0 0) (.slice none 0 0) W':=by
 have b1:=g.b.chg c fun e=>g.nd.a.row.oM g.b rfl e rfl;have nd:=g.nd.Ya (b:=x) (by rw [h1]) (by rw [h2]) h3 h4 hr c lie;refine ⟨b',⟨nd.a.CB (P:=prog) b1 rfl rfl c2,nd.b.CB (P:=prog) b1 rfl rfl c2,nd.x⟩,aI,aI,fun y hy=>⟨fun k _ e=>(by cases e),fun k _ e=>(by cases e),fun k _ e=>(by cases e),fun k _ e=>(by cases e)⟩,fun k _ e=>(by cases e),fun y hy=>?_,by rw [am7,anM];omega,g.lo⟩;rw [am7,anM];rcases List.mem_append.1 hy with hy|hy
 ·have:=g.win y hy;exact ⟨fun k hk=>by have:=this.1 k hk;omega,fun k hk=>by have:=this.2 k hk;omega⟩
 ·rw [List.mem_singleton.1 hy,h3,h4];exact ⟨(fun k hk=>by cases hk),(fun k hk=>by cases hk)⟩
theorem BdM.ZA (g:BdM Pb bb N [] [] down nv (.slice none 0 0) (.slice none 0 0) W) {w1:World} {ov:Value} {ord:List Nat} (n:New W w1) (od:nP (Wk.one viN) 3 1 (fun b=>W.heap.size<=b) NoB w1 ov ord) (hP: ∀b,W.heap.size<=b->Pb b) (b':Bk W' bb 85 [nv,ov,.slice none 0 0,.bool down]) (c2:Chg (fun k=>k=bb) w1 W'):BdM Pb bb N ord [] down nv ov (.slice none 0 0) W':=by
 have b1:=g.b.chg n id;refine ⟨b',⟨(g.nd.a.new n).CB (P:=prog) b1 rfl rfl c2,(g.nd.b.new n).CB (P:=prog) b1 rfl rfl c2,g.nd.x⟩,(od.chg (nO _) c2 fun k hk e=>od.oM b1 rfl hk e).mono (nV _) (fun b _ e=>hP b e) i3,aI,fun y hy=>⟨fun k e1 e2=>?_,fun k e1 e2=>?_,fun k _ e=>(by cases e),fun k _ e=>(by cases e)⟩,fun k _ e=>(by cases e),g.win,g.nl,g.lo⟩
 ·have h1:=(od.lt e2).1;have h2:=((g.nd.a.el y hy).lt e1).2;have h1:W.heap.size<=k:=h1;omega
 ·have h1:=(od.lt e2).1;have h2:=((g.nd.b.el y hy).lt e1).2;have h1:W.heap.size<=k:=h1;omega
end
theorem Bl.frm {g:Giv} {lo:Nat} {r:Value} {w':World} (h:Bl g lo r w'): ∃p1 l1 q1 p2 l2 q2 p3 l3 q3 p4 l4 q4,r=.tuple #[.agg #[.slice p1 l1 q1,.slice p2 l2 q2,.slice p3 l3 q3,.slice p4 l4 q4],vi (qm g)]/\
 (qm g=0->RdR (fun b=>lo<=b) w' (Gq g) (uQ g).1 (rM g).1 (rM g).2 (.slice p1 l1 q1) (.slice p2 l2 q2) (.slice p3 l3 q3) (.slice p4 l4 q4))/\(qm g=0->l1=g.tree.length/\l3=(rM g).1.length):=by
 unfold Bl at h;by_cases he:qm g=0
 ·rw [if_pos he] at h;obtain ⟨a,b,c,d,rfl,hR⟩:=h;obtain ⟨⟨p1,q1,rfl⟩,⟨p2,q2,rfl⟩,⟨p3,q3,rfl⟩,⟨p4,q4,rfl⟩⟩:=hR.form;exact ⟨p1,_,q1,p2,_,q2,p3,_,q3,p4,_,q4,by rw [he],fun _=>hR,fun _=>⟨by unfold Gq rowsOf;rw [aoR,apP],rfl⟩⟩
 ·rw [if_neg he] at h;exact ⟨none,0,0,none,0,0,none,0,0,none,0,0,h,fun e=>absurd e he,fun e=>absurd e he⟩
theorem ajf {p1 p2 p3 p4:Option Addr} {l1 q1 l2 q2 l3 q3 l4 q4:Nat}: ∀x∈([.slice p1 l1 q1,.slice p2 l2 q2,.slice p3 l3 q3,.slice p4 l4 q4]:List Value),x.oneCell'=true:=by
 intro x hx;simp at hx;rcases hx with rfl|rfl|rfl|rfl<;>rfl
theorem VL (o:Option (List UInt8)): ∃s e,Y0 o=.tuple #[vs s,vi e]/\decide (e=0)=o.isSome:=by
 cases o with
 |none=>exact ⟨[],6,rfl,rfl⟩
 |some x=>exact ⟨x,0,rfl,rfl⟩
def MN (G:Giv) (lo:Nat) (v:Value) (w':World):Prop:=
 if qm G=0 then ∃bb nv ov N,v=.tuple #[pT bb,vi 0]/\BdG G N/\(∀i,aF N i=false)/\BdM (fun b=>lo<=b) bb N (sS G) [] false nv ov (.slice none 0 0) w'
 else v=.tuple #[.pointer none,vi (qm G)]
section
variable {w:World} {G:Giv} {tv cv fv gv:Value} {Pg:Nat->Prop}
theorem VN (r:RdG Pg w G tv cv fv gv) (sh:X3 G):
 Calls prog 8 #[.agg #[tv,cv,fv,gv]] w (Ret fun v w'=>MN G w.heap.size v w'/\New w w'):=by
 obtain ⟨ta,tc,rfl,_,_⟩:=r.t.form;obtain ⟨ca,cc,rfl,_,_⟩:=r.c.form;obtain ⟨fa,fc,rfl,_,_⟩:=r.f.form;obtain ⟨ga,gc,rfl,_,_⟩:=r.g.form;unfold MN;refine tZ func8 rfl ntmps8 rfl ?_;refine qq0 ?_;refine Wl.box rfl fun w1 b1 n1 s1=>?_;replace b1:Bk w1 w.heap.size 28 [.slice ta G.tree.length tc,.slice ca G.cards.length cc,.slice fa G.fails.length fc,.slice ga G.gone.length gc]:=b1;refine qq1 ?_;refine bK b1 rfl rfl ?_;refine aj (Vz (r.keep n1.keep qP) sh) rfl ?_;rintro _ w2 ⟨hr,n2⟩;obtain ⟨p1,l1,q1,p2,l2,q2,p3,l3,q3,p4,l4,q4,rfl,hR,aeo⟩:=hr.frm;refine BR ?_;refine Wl.alloc fun w3 b3 n3 s3=>?_;refine aH (new:=[.slice p1 l1 q1,.slice p2 l2 q2,.slice p3 l3 q3,.slice p4 l4 q4]) b3 rfl rfl rfl rfl zl4 ajf fun w4 b4 c4 s4=>?_;replace b4:Bk w4 w2.heap.size 34 [.slice p1 l1 q1,.slice p2 l2 q2,.slice p3 l3 q3,.slice p4 l4 q4]:=b4;have n24:New w2 w4:=(Chg.trans n3.any c4 i3).tN
 clear b3 n3 c4;have n04:=New.trans n1 (New.trans n2 n24);have b14:=b1.chg (New.trans n2 n24) id;by_cases he:qm G=0
 rotate_left
 ·have fin: ∀w',New w w'->(if qm G=0 then ∃bb nv ov N,Value.tuple #[.pointer none,vi (qm G)]=.tuple #[pT bb,vi 0]/\BdG G N/\(∀i,aF N i=false)/\BdM (fun b=>w.heap.size<=b) bb N (sS G) [] false nv ov (.slice none 0 0) w' else Value.tuple #[.pointer none,vi (qm G)]=.tuple #[.pointer none,vi (qm G)])/\New w w':=fun w' n=>by rw [if_neg he];exact ⟨rfl,n⟩
  generalize qm G=e0 at*;(repeat' (first|refine aa1 ?_|refine aa7 ?_|refine ai ?_|refine dO ?_|refine gy rfl ?_|refine di ?_|refine gB ?_|refine eu ?_|refine gG ?_|(refine aa4 (fun _=>?_) (fun _=>?_)<;>(first|(exfalso;omega)|skip))));exact dG (qB rfl (pJ rfl) (pJ rfl)) ⟨_,rfl,fin _ n04⟩
 have hok:=(yx.1 he).1;have hR4:=(hR he).new n24;obtain ⟨rfl,rfl⟩:=aeo he;rw [he];clear hR aeo;have hpl:=vP G.tree;have htl:=pF hok;(repeat' (first|refine BR ?_|(refine aa4 (fun _=>?_) (fun _=>?_)<;>(first|(exfalso;omega)|skip))));refine aX (ps:=[]) (parts:=[]) rfl rfl (by simp [Value.cells]) ?_;refine Wl.box rfl fun w5 b5 n5 s5=>?_;replace b5:Bk w5 w4.heap.size 85 [.slice none 0 0,.slice none 0 0,.slice none 0 0,.bool false]:=b5;refine Wl.alloc fun w6 b6 n6 s6=>?_;refine aJ (u:=pT w4.heap.size) b6 rfl (show (0:Nat)<1 by omega) rfl rfl fun w7 b7 c7=>?_;replace b7:Bk w7 w5.heap.size 38 [pT w4.heap.size]:=b7;have n57:New w5 w7:=(Chg.trans n6.any c7 i3).tN
 have g0:BdM (fun b=>w4.heap.size<=b/\b<w5.heap.size) w4.heap.size [] [] [] false (.slice none 0 0) (.slice none 0 0) (.slice none 0 0) w7:= ⟨b5.chg n57 id,L2s.nil,aI,aI,(fun x hx=>by cases hx),(fun k _ e=>by cases e),(fun x hx=>by cases hx),anq _,⟨aap _,by have:=b5.lt;omega⟩⟩;have n07:=New.trans n04 (New.trans n5 n57);have b17:=b14.chg (New.trans n5 n57) id;have b47:=b4.chg (New.trans n5 n57) id;have hR7:=(hR4.mono (Pb':=fun b=>b<w4.heap.size) fun b hb _=>hb).new (New.trans n5 n57);have aiB:=n04.size;have hz5:=n5.size;have abf:=n57.size;have aiW:=b14.lt;have abr:=b4.lt;have ady:=b6.lt;clear b1 b4 b5 b6 c7 n1 n2 n24 n5 n6 n57 n04 b14 hR4;generalize amU:w2.heap.size=b4' at*;generalize amV:w5.heap.size=b6' at*;generalize amW:w4.heap.size=bb at*;refine qq1 ?_;refine ah (u:=.slice ta G.tree.length tc) rfl (b17.cell (o:=0) rfl) ?_;refine aj (Fh (r.t.keep oh n07.keep) hok) rfl ?_;rintro _ w8 ⟨⟨bq,sv,rfl,hbq,hq⟩,n8⟩;have hz8:=n8.size;have adu:=hq.1.lt;have adF:=b7.lt;have n08:=New.trans n07 n8;have b18:=b17.chg n8 id;have b48:=b47.chg n8 id;have b78:=b7.chg n8 id;have hR8:=hR7.new n8;have g8:=(g0.new n8).mono (Pb':=fun b=>bb<=b/\b≠w8.heap.size/\b≠w8.heap.size+1) fun b hb e=>⟨e.1,by omega,by omega⟩;have amX:=n08.size;clear b17 b47 b7 hR7 g0 n07;let I:Nat->World->Prop:=fun k V=>New w V/\w8.heap.size+2<=V.heap.size/\SqW (fun b=>w7.heap.size<=b/\b<w8.heap.size) bq sv (pK G.tree) V/\Bk V w.heap.size 28 [.slice ta G.tree.length tc,.slice ca G.cards.length cc,.slice fa G.fails.length fc,.slice ga G.gone.length gc]/\ Bk V b4' 34 [.slice p1 G.tree.length q1,.slice p2 l2 q2,.slice p3 (rM G).1.length q3,.slice p4 l4 q4]/\Bk V b6' 38 [pT bb]/\RdR (fun b=>b<bb) V (Gq G) (uQ G).1 (rM G).1 (rM G).2 (.slice p1 G.tree.length q1) (.slice p2 l2 q2) (.slice p3 (rM G).1.length q3) (.slice p4 l4 q4)/\ ∃nv,BdM (fun b=>bb<=b/\b≠w8.heap.size/\b≠w8.heap.size+1) bb (n0L G k) [] [] false nv (.slice none 0 0) (.slice none 0 0) V/\ ∀j,nv.ownBlock=some j->w8.heap.size<=j;(repeat' (first|refine ai ?_|refine Wd.block ?_|refine di ?_));refine Wd.frame [(1,pT w.heap.size),(4,pT b4'),(6,pT b6'),(32,.func (.func 46) #[] #[pT bq])] ⟨rfl,rfl,rfl,rfl,trivial⟩ fun G0=>?_;simp only [pq];refine gZ (gf:=46) (lb:= #[pT bq]) rfl (fun args _=>qF inferInstance args) (iter_walk (Pb:=fun b=>w7.heap.size<=b/\b<w8.heap.size) (bs:=bq) (v:=sv) (l:=pK G.tree)) (fun k=>rfl) I (fun _ _=>False) ?_ ?_ ?_ ?_ ?_ ?_ ?_ ?_ ?_
 ·exact fun k V h=>h.2.2.1
 ·rintro k V V' ⟨h1,h2,h3,h4,h5,h6,h7,nv,h8,h9⟩ n;exact ⟨h1.trans n,apR h2 n.size,h3.new n,h4.chg n id,h5.chg n id,h6.chg n id,h7.new n,nv,h8.new n,h9⟩
 ·rintro k V r1 r2 ⟨h1,h2,h3,h4,h5,h6,h7,nv,h8,h9⟩ hL;have nL:NoC V (w8.heap.size+1):=.loop hL;exact ⟨h1.put _ (by omega),by simpa using h2,h3.put _ nL (by omega),h4.put _ nL,h5.put _ nL,h6.put _ nL,h7.chg (Chg.putObj V _ _) (fun j hj e=>by have hj:j<bb:=hj;omega),nv,h8.chg (Chg.putObj V _ _) (fun j hj e=>hj.2.2 e),h9⟩
 ·exact fun _ _ _ _ h=>h.elim
 ·intro r1;have n:=ig (w:=w8) (.deferred (some [])) (.loop r1);exact ⟨n08.trans n,by simp,hq.new n,b18.chg n id,b48.chg n id,b78.chg n id,hR8.new n,.slice none 0 0,g8.new n,fun j e=>by cases e⟩
 ·rintro k V r1 hk ⟨h1,h2,h3,h4,h5,h6,h7,nv,h8,h9⟩ hL hDf;have hkt:k<G.tree.length:=by omega
  have hgk:(pK G.tree).getD k []=oI G.tree k:=by rw [an7,sQ hkt];rfl
  show Wr _ _ _ _ _ (upd (upd _ 33 (vs ((pK G.tree).getD k []))) 34 (vi k)) V;rw [hgk];(repeat' (first|refine aa7 ?_|refine ai ?_|refine bM ?_|refine dh ?_|refine bI rfl (by repeat' (first|exact Qfn.out (by rintro _ ⟨⟨_,e⟩,_⟩;cases e)|exact Qrd.out|exact Qas.out|refine Qsr.out ?_|refine nR.out ?_|refine Qsc.out ?_|refine pW.out ?_)) ?_));refine ⟨ay _ _,fun r'=>?_⟩;have nL:NoC V (w8.heap.size+1):=.loop hL;have hLt:=nL.lt;have q1':New w (V.putObj (w8.heap.size+1) (.loop r')):=h1.put _ (by omega);have q2':w8.heap.size+2<=(V.putObj (w8.heap.size+1) (.loop r')).heap.size:=by simpa using h2
  have q3':=h3.put (.loop r') nL (by omega);have q4':=h4.put (.loop r') nL;have q5':=h5.put (.loop r') nL;have q6':=h6.put (.loop r') nL;have q7':=h7.chg (Chg.putObj V (w8.heap.size+1) (.loop r')) (fun j hj e=>by have hj:j<bb:=hj;omega);have qg:=h8.chg (Chg.putObj V (w8.heap.size+1) (.loop r')) (fun j hj e=>hj.2.2 e);have qL:NoC (V.putObj (w8.heap.size+1) (.loop r')) (w8.heap.size+1):=.loop (World.putObj_heap_same hLt);have qD:NoC (V.putObj (w8.heap.size+1) (.loop r')) w8.heap.size:=.mark ((World.putObj_heap_other (by omega)).trans hDf);generalize V.putObj (w8.heap.size+1) (.loop r')=V3 at*;clear h1 h2 h3 h4 h5 h6 h7 h8 hL hDf nL hLt;have adO:=qL.lt;have hlen:=yG G k;obtain ⟨na,nc,rfl,_,_⟩:=qg.nd.a.row.form;(repeat' (first|refine dh ?_|refine bI rfl Wk.wE.out ?_|refine Wr.block ?_|refine aa5 ?_));refine ah (u:=.slice ta G.tree.length tc) rfl (q4'.cell (o:=0) rfl) ?_;(repeat' (refine aa1 ?_));refine aj (Ig (i:=k) (nm:=yF) (r.t.keep oh q1'.keep) hok hkt) rfl ?_;rintro _ V4 ⟨rfl,n4⟩;obtain ⟨sx,ex,hve,hwk⟩:=VL (tX G.tree k yF);rw [hve];have ajg:ve G.tree k=decide (ex=0):=by unfold ve;exact hwk.symm
  have hrk:(Gq G)[k]? =some (rowOf (oN G) (uQ G).2 k):=by unfold Gq rowsOf;rw [an3,aoT hkt];rfl
  have hbk:qG G k=decide (((rowOf (oN G) (uQ G).2 k).1:Int)=0):=by
   unfold qG;rw [decide_eq_true hkt,Bool.true_and];by_cases h0:(rowOf (oN G) (uQ G).2 k).1=0
   ·rw [h0];rfl
   ·rw [decide_eq_false (by omega)];simpa using h0
  have g4:=qg.new n4;have q14:=New.trans q1' n4;have q44:=q4'.chg n4 id;have q54:=q5'.chg n4 id;have q64:=q6'.chg n4 id;have q74:=q7'.new n4;have hz4:=n4.size;obtain ⟨NV,hNV⟩: ∃NV:Value,NV=.slice na (n0L G k).length nc:=⟨_,rfl⟩;rw [<-hNV] at g4 h9;have hnb: ∀ {b:Nat} {T:TypeId} {cs:List Value},Bk V4 b T cs->ank 94 T=false-> ∀V',Chg (fun j=>NV.ownBlock=some j) V4 V'->Bk V' b T cs:=fun hb hT V' c=>hb.chg c fun e=>g4.nd.a.row.oM hb hT e rfl;(repeat' (first|refine aa1 ?_|refine aa7 ?_|refine ai ?_|refine eF rfl rfl ?_|refine bM ?_));refine iq rfl wE.out rfl (by kernel_rfl) (fun V'=>Chg (fun j=>NV.ownBlock=some j) V4 V') (Chg.drew _ _) ?_;intro V5 m5;refine aa0 (au (u:=pT bb) rfl (fun V' c=>(hnb q64 rfl V' c).cell (o:=0) rfl) (af ?_));refine aa0 (au (u:=pT bb) rfl (fun V' c=>(hnb q64 rfl V' c).cell (o:=0) rfl) (af ?_));refine rX ?_;refine aa0 (au (u:=NV) rfl (fun V' c=>(hnb g4.b rfl V' c).cell (o:=0) rfl) (af ?_));(repeat' (first|refine aa0 (aa3 (af ?_))|refine aa0 (aa6 (af ?_))));refine aa0 (au (u:=.slice p1 G.tree.length q1) rfl (fun V' c=>(hnb q54 rfl V' c).cell (o:=0) rfl) (af ?_));(repeat' (refine aa0 (aa3 (af ?_))));refine aa0 (bQ (w:=V4) (q74.rows.rd (nS _)) (fun V' c=>c.keep fun b _ hb e=>by have:=h9 _ e;have hb:=hb.elim id fun q=>q.elim;have hb:b<bb:=hb;omega) rfl rfl (by omega) hrk fun b o cs hl hRR hat=>af ?_);obtain rfl:cs=rwC _:=hRR;(repeat' (refine aa0 (aa6 (af ?_))));refine aa0 (au (u:=.int .u8 (rowOf (oN G) (uQ G).2 k).1) rfl (fun V' c=>(hat V' c).get 0 rfl) (af ?_));clear hat;refine aa0 (Wq.eqD rfl rfl (af ?_));rw [<-hbk];(repeat' (refine aa0 (aa3 (af ?_))));refine aa0 (Wq.eqD rfl rfl (af ?_));rw [<-ajg];refine aC rfl (aX (ps:=[(0,.tmp 47),(1,.tmp 54),(2,.tmp 56)]) (parts:=[(0,vs (oI G.tree k)),(1,.bool (qG G k)),(2,.bool (ve G.tree k))]) rfl rfl (by simp [Value.cells]) ?_);refine ai ⟨rfl,m5.any,?_⟩;refine aC rfl (bC (R:=flat snC) (Pe:=NoB) (y:=⟨oI G.tree k,qG G k,ve G.tree k,(none,0,0),[],(none,0,0),[],false⟩) Yb rfl rfl rfl rfl (by omega) (by omega) fun v6 V6 o6 n6 s6 e6=>?_);have m6:=New.trans m5 n6;refine ai ⟨rfl,m6.any,?_⟩;refine aC rfl (bY (R:=flat snC) Yb (g4.nd.a.row.new (nK _) m6) (o6.rd (nS _)) (fun z cs hz=>hz) rfl rfl (by omega) (by simp only [maxLen,anM];omega) (by simp only [anM];omega) fun u' V7 o7 c7 lie _=>?_);have c47:Chg (fun j=>NV.ownBlock=some j) V4 V7:=Chg.trans m6.any c7 i3;refine ai ⟨rfl,c47,?_⟩;refine rX ?_;refine Wt.last rfl (aJ (u:=u') (hnb g4.b rfl V7 c47) rfl (show (0:Nat)<4 by omega) rfl (by obtain ⟨_,_,rfl,_⟩:=o7.form;rfl) fun V8 b8 c8=>?_);refine ai ?_;have hz6:=m6.size;have hz7:=c47.size;have hz8:=c8.size;have LZ:u'.ownBlock=NV.ownBlock∨ ∀j,u'.ownBlock=some j->V4.heap.size<=j:=lie.imp id fun h j hj=>by have:=h j hj;omega
  have hsn:n0L G (k+1)=n0L G k++ [⟨oI G.tree k,qG G k,ve G.tree k,(none,0,0),[],(none,0,0),[],false⟩]:=by unfold n0L;rw [apQ,aoN];rfl
  have gN:=g4.Ya (x:=⟨oI G.tree k,qG G k,ve G.tree k,(none,0,0),[],(none,0,0),[],false⟩) rfl rfl rfl rfl (o7.mono (nS _) (fun b _ e=>by rcases e with e|e;exact e;exact ⟨by omega,by omega,by omega⟩) i3) c47 LZ b8 c8 (by rw [hlen];omega);rw [<-hsn] at gN;have hown: ∀j,u'.ownBlock=some j->w8.heap.size<=j:=fun j e=>by
   rcases LZ with l|l
   ·exact h9 j (l▸e)
   ·have:=l j e;omega
  have e48:Chg (fun j=>j=bb∨NV.ownBlock=some j) V4 V8:=Chg.trans (c47.mono fun _ _ e=>.inr e) c8 fun _ _ e=>.inl e;have qL4:NoC V4 (w8.heap.size+1):=by obtain ⟨o,h1,h2⟩:=qL;exact ⟨o,(n4.block _ (Array.getElem?_eq_some_iff.1 h1).1 id).trans h1,h2⟩
  have qD4:NoC V4 w8.heap.size:=by obtain ⟨o,h1,h2⟩:=qD;exact ⟨o,(n4.block _ (Array.getElem?_eq_some_iff.1 h1).1 id).trans h1,h2⟩
  have amY:=qD.lt;(repeat' (refine dL ?_));refine ⟨(e48.block _ qL4.lt ?_).trans (n4.block _ qL.lt id),(e48.block _ qD4.lt ?_).trans (n4.block _ qD.lt id),Chg.trans q14 e48 fun j hj e=>?_,by omega,(q3'.new n4).chg e48 ?_ ?_,q44.chg e48 ?_,q54.chg e48 ?_,q64.chg e48 ?_,q74.chg e48 fun j hj e=>?_,u',gN,hown⟩
  ·rintro (e|e)
   ·omega
   ·exact g4.nd.a.row.nl qL4 e rfl
  ·rintro (e|e)
   ·omega
   ·exact g4.nd.a.row.nl qD4 e rfl
  ·rcases e with e|e
   ·omega
   ·have:=h9 j e;omega
  ·rintro (e|e)
   ·omega
   ·have:=h9 _ e;omega
  ·rintro j hj (e|e)
   ·omega
   ·have:=h9 _ e;omega
  ·rintro (e|e)
   ·omega
   ·have:=h9 _ e;omega
  ·rintro (e|e)
   ·omega
   ·have:=h9 _ e;omega
  ·rintro (e|e)
   ·omega
   ·have:=h9 _ e;omega
  ·have hj:j<bb:=hj;rcases e with e|e
   ·omega
   ·have:=h9 _ e;omega
 ·rintro V ⟨h1,h2,h3,h4,h5,h6,h7,nv,g,hnv⟩ hDf;clear h3 g8 b18 b48 b78 hR8 hq I;rw [hpl] at g;have hel:=uO hok G.tree.length (aap _);replace hel:(nX G.tree).length<=10240*G.tree.length:=hel;have hul:=PV G;have S0:SmN (n0L G G.tree.length) (n0L G G.tree.length):=⟨rfl,fun k=>⟨rfl,rfl,rfl,rfl⟩⟩;have I0:LkI (n0L G G.tree.length) (lk1 G 0):=abM G _;have hDl:=(Array.getElem?_eq_some_iff.1 hDf).1;generalize hD0:w8.heap.size=D at*;have abP: ∀ {V':World},V.heap.size<=V'.heap.size-> ∀b,V'.heap.size<=b->bb<=b/\b≠D/\b≠D+1:=fun hV b hb=>⟨by omega,by omega,by omega⟩;have hn4: ∀ {V':World},Chg (fun b=>bb<=b/\b≠D/\b≠D+1) V V'->New w V':=fun c=>(Chg.trans (M:=fun b=>bb<=b) h1.any c fun k _ e=>e.1).tN
  (repeat' (first|refine di ?_|refine fH ?_));refine fZ ?_;refine qq4 ?_;refine dn (f1:=[]) (c1:=[pT b6']) rfl rfl ?_;refine qq2 ?_;refine ah (u:=.slice ta G.tree.length tc) rfl (h4.cell (o:=0) rfl) ?_;refine qq4 ?_;refine aA (σ:=Nat) (fun q=>[(1,pT w.heap.size),(4,pT b4'),(6,pT b6'),(11,.func (.func 25) #[] #[pT b6']),(64,.slice ta G.tree.length tc),(65,vi G.tree.length),(66,vi q)]) (fun q V'=>q<=G.tree.length/\Bk V' b6' 38 [pT bb]/\Chg (fun b=>bb<=b/\b≠D/\b≠D+1) V V'/\ ∃N nv,SmN (n0L G G.tree.length) N/\LkI N (lk1 G q)/\BdM (fun b=>bb<=b/\b≠D/\b≠D+1) bb N [] [] false nv (.slice none 0 0) (.slice none 0 0) V') (fun q=>G.tree.length-q) 0 (sl rfl) ⟨anq _,h6,ay _ _,_,nv,S0,I0,g⟩ ?_;clear g hnv h6 I0 S0;rintro q F1 V1 ⟨hq,b61,c1,N,nv,S,Lk,g⟩;simp only [pq];have hz1:=c1.size;(repeat' (first|refine qq4 ?_|refine aa2 (fun _=>?_) (fun _=>?_)))
  ·have hqt:q<G.tree.length:=by omega
   have hN:N.length=G.tree.length:=by rw [S.1,yG]
   have hl1:=Uj G q;refine aK (r.t.keep oh (hn4 c1).keep) rfl rfl (by omega) (GK hqt) fun b o cs hl hRR hat=>?_;obtain ⟨pv,rfl,hpv⟩:=hRR;obtain ⟨pa,pc,rfl,_,_⟩:=hpv.form;refine aS hat rfl rfl ?_;clear hat;refine Wl.alloc fun V2 b2 n2 s2=>?_;(repeat' (refine aa7 ?_));refine aH (new:=[vi (ndA G.tree q).parent,vs (ndA G.tree q).name,.slice pa (ndA G.tree q).pz.length pc]) b2 rfl rfl rfl rfl zl3 (by intro c hc;simp at hc;rcases hc with rfl|rfl|rfl<;>rfl) fun V3 b3 c3 s3=>?_;have n13:New V1 V3:=(Chg.trans n2.any c3 i3).tN
   have ZC:=n13.size;(repeat' (first|refine qq2 ?_|refine aT rfl rfl (fun _=>?_) (fun _=>?_)))
   ·have hpar:=uK hok (i:=q) (by omega) hqt;refine ah (u:=vi (par G.tree q)) rfl (by rw [<-hpar.2];exact b3.cell (o:=0) rfl) ?_;refine bP (dst:=some 77) rfl (DJ (i:=q) (d:=par G.tree q) (g.new n13) (abP (by omega)) (b61.chg n13 id) (by omega) (by omega) Lk (by omega)) rfl ?_;rintro u V4 ⟨N',S',Lk',g',b64,c4⟩;simp only [wI];rw [SA S,show [(q,par G.tree q)]=if 0<q then [(q,par G.tree q)] else [] from (if_pos (by omega)).symm, <-PS] at Lk';refine qq6 ?_;exact ax (q+1) (sl rfl) ⟨by omega,b64,Chg.trans (Chg.trans c1 n13.any i3) c4 i3,N',_,S.trans S',Lk',g'⟩ (by omega)
   ·refine ax (q+1) (sl rfl) ⟨by omega,b61.chg n13 id,Chg.trans c1 n13.any i3,N,_,S,?_,g.new n13⟩ (by omega);rw [PS,if_neg (by omega)];simpa using Lk
  obtain rfl:q=G.tree.length:=by omega
  rw [<-Yn] at Lk;have h41:=h4.chg c1 fun e=>by omega
  have h51:=h5.chg c1 fun e=>by omega
  have h71:=h7.chg c1 fun k hk e=>by have hk:k<bb:=hk;omega
  refine ah (u:=.slice ta G.tree.length tc) rfl (h41.cell (o:=0) rfl) ?_;refine aj (IX (r.t.keep oh (hn4 c1).keep) hok) rfl ?_;rintro _ V2 ⟨⟨eq,rfl,hE⟩,n2⟩;obtain ⟨ea,ec,rfl,_,_⟩:=hE.form;have hz2:=n2.size;have hE2:=hE.mono (Pb':=fun b=>V1.heap.size<=b/\b<V2.heap.size) qI fun b hb e=>⟨e,hb⟩;have g2:=(g.mono (Pb':=fun b=>(bb<=b/\b≠D/\b≠D+1)/\(b<V1.heap.size∨V2.heap.size<=b)) fun b hb e=>⟨e,.inl hb⟩).new n2;have c2:Chg (fun b=>bb<=b/\b≠D/\b≠D+1) V V2:=Chg.trans c1 n2.any i3;have b62:=b61.chg n2 id;have h52:=h51.chg n2 id;have h72:=h71.new n2;clear g b61 hE h41 h51 h71 h4 h5 h7;refine qq2 ?_;refine aA (σ:=Nat) (fun q=>[(4,pT b4'),(6,pT b6'),(11,.func (.func 25) #[] #[pT b6']),(85,.slice ea (nX G.tree).length ec),(86,vi (nX G.tree).length),(87,vi q)]) (fun q V'=>q<=(nX G.tree).length/\Bk V' b6' 38 [pT bb]/\Chg (fun b=>(bb<=b/\b≠D/\b≠D+1)/\(b<V1.heap.size∨V2.heap.size<=b)) V2 V'/\ ∃N nv,SmN (n0L G G.tree.length) N/\LkI N (lk2 G q)/\BdM (fun b=>(bb<=b/\b≠D/\b≠D+1)/\(b<V1.heap.size∨V2.heap.size<=b)) bb N [] [] false nv (.slice none 0 0) (.slice none 0 0) V') (fun q=>(nX G.tree).length-q) 0 (sl rfl) ⟨anq _,b62,ay _ _,_,nv,S,Lk,g2⟩ ?_;clear g2 b62 S Lk;rintro q F2 V3 ⟨hq,b63,c3,N,nv,S,Lk,g⟩;simp only [pq];have hz3:=c3.size;have h53:=h52.chg c3 fun e=>by omega
  have h73:=h72.chg c3 fun k hk e=>by have hk:k<bb:=hk;omega
  have hN:N.length=G.tree.length:=by rw [S.1,yG]
  have hl2:=Uk G q;(repeat' (first|refine qq4 ?_|refine aa2 (fun _=>?_) (fun _=>?_)))
  ·obtain ⟨e,hee⟩:=nT (nX G.tree) (k:=q) (by omega);have hem:=ug e (aop hee);have hls:=Yo hee;have hrk:(Gq G)[e.src]? =some (rowOf (oN G) (uQ G).2 e.src):=by unfold Gq rowsOf;rw [an3,aoT hem.1];rfl
   refine aK (hE2.keep sG (c3.keep fun b _ hb e=>by omega)) rfl rfl (by omega) hee fun b o cs hl hRR hat=>?_;obtain ⟨pv,rfl,hpv⟩:=hRR;obtain ⟨pa,pc,rfl,_,_⟩:=hpv.form;refine aS hat rfl rfl ?_;clear hat;refine Wl.alloc fun V4 b4 n4 s4=>?_;refine aH (new:=edC e (.slice pa e.args.length pc)) b4 rfl rfl rfl rfl zl6 Ot fun V5 b5 c5 s5=>?_;replace b5:Bk V5 V3.heap.size 100 (edC e (.slice pa e.args.length pc)):=b5;have n35:New V3 V5:=(Chg.trans n4.any c5 i3).tN
   have adp:=n35.size;clear b4 n4 c5;have g5:=g.new n35;have b65:=b63.chg n35 id;have h55:=h53.chg n35 id;have h75:=h73.new n35;have next: ∀V',New V5 V'->lkE G e=none->q+1<=(nX G.tree).length/\Bk V' b6' 38 [pT bb]/\Chg (fun b=>(bb<=b/\b≠D/\b≠D+1)/\(b<V1.heap.size∨V2.heap.size<=b)) V2 V'/\ ∃N nv,SmN (n0L G G.tree.length) N/\LkI N (lk2 G (q+1))/\BdM (fun b=>(bb<=b/\b≠D/\b≠D+1)/\(b<V1.heap.size∨V2.heap.size<=b)) bb N [] [] false nv (.slice none 0 0) (.slice none 0 0) V':=fun V' n h=>by refine ⟨by omega,b65.chg n id,Chg.trans (Chg.trans c3 n35.any i3) n.any i3,N,nv,S,?_,g5.new n⟩;rw [hls,h];simpa using Lk
   refine qq2 ?_;refine ah (u:=.bool e.soft) rfl (b5.cell (o:=3) rfl) ?_;cases hsf:e.soft with
   |true=>refine qq2 ?_;exact ax (q+1) (sl rfl) (next V5 (ay _ _) (by unfold lkE;exact if_neg fun h=>by rw [hsf] at h;cases h.1)) (by omega)
   |false=>
    refine qq2 ?_;refine ah (u:=vi (pU e.dst)) rfl (b5.cell (o:=1) rfl) ?_;cases hds:e.dst with
    |none=>rw [show pU none=(-1:Int) from rfl];(repeat' (first|refine qq2 ?_|(refine aU rfl rfl (fun _=>?_) (fun _=>?_)<;>(first|(exfalso;omega)|skip))));exact ax (q+1) (sl rfl) (next V5 (ay _ _) (by unfold lkE;rw [hds];split<;>rfl)) (by omega)
    |some d=>
     have hdl:=hem.2 d hds;rw [show pU (some d)=(d:Int) from rfl];(repeat' (first|refine qq2 ?_|(refine aU rfl rfl (fun _=>?_) (fun _=>?_)<;>(first|(exfalso;omega)|skip))));refine ah (u:=.slice p1 G.tree.length q1) rfl (h55.cell (o:=0) rfl) ?_;refine qq2 ?_;refine ah (u:=vi e.src) rfl (b5.cell (o:=0) rfl) ?_;(repeat' (refine aO rfl rfl ?_));refine aK (h75.rows.rd (nS _)) rfl rfl (by omega) hrk fun b o cs hl hRR hat=>?_;obtain rfl:cs=rwC _:=hRR;refine qq2 ?_;refine ah (u:=vi (pU (rowOf (oN G) (uQ G).2 e.src).2.1)) rfl (hat.get 1 rfl) ?_;clear hat;cases hcd:(rowOf (oN G) (uQ G).2 e.src).2.1 with
     |none=>rw [show pU none=(-1:Int) from rfl];(repeat' (first|refine qq2 ?_|(refine aU rfl rfl (fun _=>?_) (fun _=>?_)<;>(first|(exfalso;omega)|skip))));exact ax (q+1) (sl rfl) (next V5 (ay _ _) (by unfold lkE;exact if_neg fun h=>h.2 hcd)) (by omega)
     |some cj=>
      have hlk:lkE G e=some (e.src,d):=by unfold lkE;rw [if_pos ⟨hsf,by rw [hcd];simp⟩,hds];rfl
      rw [show pU (some cj)=(cj:Int) from rfl];(repeat' (first|refine qq3 ?_|(refine aU rfl rfl (fun _=>?_) (fun _=>?_)<;>(first|(exfalso;omega)|skip))));refine ah (u:=vi e.src) rfl (b5.cell (o:=0) rfl) ?_;(repeat' (refine aa5 ?_));refine ah (u:=vi d) rfl (b5.cell (o:=1) (by show some (vi (pU e.dst))=_;rw [hds];rfl)) ?_;refine bP (dst:=some 114) rfl (DJ (i:=e.src) (d:=d) g5 (fun b hb=>⟨⟨by omega,by omega,by omega⟩,.inr (by omega)⟩) b65 (by omega) (by omega) Lk (by omega)) rfl ?_;rintro u V6 ⟨N',S',Lk',g',b66,c6⟩;simp only [wI];rw [SA S] at Lk';rw [hlk] at hls;replace Lk':LkI N' (lk2 G (q+1)):=by rw [hls];exact Lk'
      refine qq6 ?_;exact ax (q+1) (sl rfl) ⟨by omega,b66,Chg.trans (Chg.trans c3 n35.any i3) c6 i3,N',_,S.trans S',Lk',g'⟩ (by omega)
  obtain rfl:q=(nX G.tree).length:=by omega
  rw [<-Yp] at Lk;replace g:=g.mono (Pb':=fun b=>bb<=b/\b≠D/\b≠D+1) fun b _ e=>e.1;have c03:Chg (fun b=>bb<=b/\b≠D/\b≠D+1) V V3:=Chg.trans c2 c3 fun _ _ e=>e.1;clear h52 h72 hE2 c2 c3 c1;refine ah (u:=.slice p3 (rM G).1.length q3) rfl (h53.cell (o:=2) rfl) ?_;refine qq4 ?_;refine aA (σ:=Nat) (fun q=>[(6,pT b6'),(11,.func (.func 25) #[] #[pT b6']),(117,.slice p3 (rM G).1.length q3),(118,vi (rM G).1.length),(119,vi q)]) (fun q V'=>q<=(rM G).1.length/\Bk V' b6' 38 [pT bb]/\Chg (fun b=>bb<=b/\b≠D/\b≠D+1) V3 V'/\ ∃N nv,SmN (n0L G G.tree.length) N/\LkI N (lk3 G q)/\BdM (fun b=>bb<=b/\b≠D/\b≠D+1) bb N [] [] false nv (.slice none 0 0) (.slice none 0 0) V') (fun q=>(rM G).1.length-q) 0 (sl rfl) ⟨anq _,b63,ay _ _,N,nv,S,Lk,g⟩ ?_;clear g b63 S Lk hN;rintro q F3 V4 ⟨hq,b64,c4,N,nv,S,Lk,g⟩;simp only [pq];have hz4:=c4.size;have h74:=h73.chg c4 fun k hk e=>by have hk:k<bb:=hk;omega
  have hN:N.length=G.tree.length:=by rw [S.1,yG]
  have hl3:=Ul G q;(repeat' (first|refine qq4 ?_|refine aa2 (fun _=>?_) (fun _=>?_)))
  ·obtain ⟨e,hee⟩:=nT (rM G).1 (k:=q) (by omega);obtain ⟨d,hds,hdl,amZ,_,_⟩:=Ue (aop hee);have hem:=ug e (Py (aop hee)).1;have hls:=Yq hee;refine aK h74.used rfl rfl (by omega) hee fun b o cs hl hRR hat=>?_;obtain ⟨pv,rfl,hpv⟩:=hRR;obtain ⟨pa,pc,rfl,_,_⟩:=hpv.form;refine aS hat rfl rfl ?_;clear hat;refine Wl.alloc fun V5 b5 n5 s5=>?_;refine aH (new:=edC e (.slice pa e.args.length pc)) b5 rfl rfl rfl rfl zl6 Ot fun V6 b6 c6 s6=>?_;replace b6:Bk V6 V4.heap.size 100 (edC e (.slice pa e.args.length pc)):=b6;have n46:New V4 V6:=(Chg.trans n5.any c6 i3).tN
   have ah7:=n46.size;clear b5 n5 c6;refine qq6 ?_;refine ah (u:=vi e.src) rfl (b6.cell (o:=0) rfl) ?_;(repeat' (refine aa5 ?_));refine ah (u:=vi d) rfl (b6.cell (o:=1) (by show some (vi (pU e.dst))=_;rw [hds];rfl)) ?_;refine bP (dst:=some 128) rfl (DJ (i:=e.src) (d:=d) (g.new n46) (abP (by omega)) (b64.chg n46 id) (by omega) (by omega) Lk (by omega)) rfl ?_;rintro u V7 ⟨N',S',Lk',g',b67,c7⟩;simp only [wI];rw [SA S] at Lk';rw [hds] at hls;replace Lk':LkI N' (lk3 G (q+1)):=by rw [hls];exact Lk'
   refine qq6 ?_;exact ax (q+1) (sl rfl) ⟨by omega,b67,Chg.trans (Chg.trans c4 n46.any i3) c7 i3,N',_,S.trans S',Lk',g'⟩ (by omega)
  obtain rfl:q=(rM G).1.length:=by omega
  rw [PU] at Lk;obtain ⟨hG,hA,hc,ho⟩:=abO S Lk;have c04:Chg (fun b=>bb<=b/\b≠D/\b≠D+1) V V4:=Chg.trans c03 c4 i3;have hb4: ∀V',New V4 V'->Bk V' b6' 38 [pT bb]:=fun V' n=>b64.chg n id;refine aV rfl (by kernel_rfl) (fun V'=>New V4 V') (Chg.drew _ _) ?_;intro V5 m5;refine aa0 (au (u:=pT bb) rfl (fun V' c=>(hb4 V' c).cell (o:=0) rfl) (af ?_));refine aa0 (au (u:=pT bb) rfl (fun V' c=>(hb4 V' c).cell (o:=0) rfl) (af ?_));refine aC rfl (aj (PI (g.new m5) hc) rfl ?_);rintro ov V6 ⟨oo,n6⟩;rw [ho] at oo;have m6:=New.trans m5 n6;refine ai ⟨rfl,m6,?_⟩;refine rX ?_;refine Wt.last rfl (aJ (u:=ov) (g.b.chg m6 id) rfl (show (1:Nat)<4 by omega) rfl (by obtain ⟨_,_,rfl,_⟩:=oo.form;rfl) fun V7 b7 c7=>?_);refine ai ?_;have hz6:=m6.size;have hz5:=m5.size;have gF:=(g.new m5).ZA n6 oo (abP (by omega)) b7 c7;have hbP:=g.lo;have b67:=(b64.chg m6 id).chg c7 fun e=>by omega
  have c07:Chg (fun b=>bb<=b/\b≠D/\b≠D+1) V V7:=Chg.trans (Chg.trans c04 m6.any i3) c7 fun k _ e=>by rw [e];exact hbP
  have hD7:=(c07.block _ hDl fun e=>e.2.1 rfl).trans hDf;have n07:=hn4 c07;refine qq4 ?_;refine ah (u:=pT bb) rfl (b67.cell (o:=0) rfl) ?_;refine qq3 ?_;refine Qdn.e ?_;refine gq (by simp) hD7 ?_;refine dG (qB rfl (pJ rfl) (pJ rfl)) ⟨_,rfl,?_,n07.put _ (by omega)⟩;rw [if_pos trivial];exact ⟨bb,nv,ov,N,rfl,hG,hA,(gF.chg (Chg.putObj V7 _ _) (fun j hj e=>hj.2.1 e)).mono fun b _ e=>by have:=e.1;show w.heap.size<=b;omega⟩
 ·exact fun _ h=>h.elim
 ·exact fun _ _ h=>h.elim
end
theorem VO {g:Giv} {i:Nat} (h: ¬i<g.tree.length):sW g i=[]/\wF g i=[]∨sW g i=[]:=by
 right;unfold sW Bo;rw [List.filter_filter,List.map_eq_nil_iff,List.filter_eq_nil_iff];intro p _ hp;simp only [ann,decide_eq_true_eq] at hp;have h2:=hp.2;rw [hp.1] at h2;unfold qG at h2;rw [decide_eq_false h] at h2;cases h2
theorem Yr (g:Giv):(Bo g).length<=g.tree.length+2*(nX g.tree).length:=by rw [<-PU];exact Ul g _
theorem Yt {g:Giv} (hok:og g.tree=true) (i:Nat):(sW g i).length<=1000000000/\(wF g i).length<=1000000000:=by
 have h1:=Yr g;have h2:(nX g.tree).length<=10240*g.tree.length:=uO hok g.tree.length (aap _);have h3:=pF hok;unfold sW wF;rw [aoR,aoR];have h4:=apO (fun p:Nat×Nat=>decide (p.1=i)) (Bo g);have h5:=apO (fun p:Nat×Nat=>decide (p.2=i)) (Bo g);omega
theorem PW {g:Giv} (hok:og g.tree=true):(sS g).length<=512:=by
 obtain ⟨h1,h2,_⟩:=Ac hok;have:=Ji h1 fun k hk=>(h2 k hk).1;have:=pF hok;omega
theorem qM.nd {g:Giv}: ∀ {l:List Nat} {A:As},qM g A (upS l)->l.Nodup/\ ∀i∈l,A i=false/\qG g i=true
 | [],A,_=>⟨List.nodup_nil,fun i hi=>by cases hi⟩
 |i::r,A,h=>by
  obtain ⟨h1,h2,_,h4⟩:=h;obtain ⟨h5,h6⟩:=qM.nd (l:=r) h4;have hi:A i=false:=by simpa using h1
  refine ⟨List.nodup_cons.2 ⟨fun e=>?_,h5⟩,fun k hk=>?_⟩
  ·have:=(h6 i e).1;rw [tq] at this;cases this
  ·rcases List.mem_cons.1 hk with rfl|hk
   ·exact ⟨hi,h2⟩
   ·obtain ⟨q1,q2⟩:=h6 k hk;by_cases e:k=i
    ·rw [e,tq] at q1;cases q1
    ·rw [uj e] at q1;exact ⟨q1,q2⟩
theorem Um {g:Giv} {i:Nat} (h:qG g i=true):i<g.tree.length:=by
 unfold qG at h;rw [ann,decide_eq_true_eq] at h;exact h.1
theorem BdI.sl {g:Giv} {B:Bd} (h:BdI g B) (hok:og g.tree=true):(∀i∈B.oJ,i<g.tree.length)/\B.oJ.length<=512:=by
 cases hd:B.down with
 |false=>rw [h.u hd];exact ⟨fun i hi=>(by cases hi),anq _⟩
 |true=>obtain ⟨A,_,h2,_⟩:=h.d hd;obtain ⟨h3,h4⟩:=qM.nd h2;refine ⟨fun i hi=>Um (h4 i hi).2,?_⟩;have:=Ji h3 fun i hi=>Um (h4 i hi).2;have:=pF hok;omega
section
variable {g:Giv} {N:List Sn}
theorem BdG.at (G:BdG g N) {i:Nat} (hi:i<g.tree.length):(N.getD i default).path=oI g.tree i/\(N.getD i default).bound=qG g i/\(N.getD i default).xM=ve g.tree i/\(N.getD i default).hl=sW g i/\(N.getD i default).ol=wF g i:=by
 obtain ⟨x,hx⟩:=nT N (k:=i) (by rw [G.len];exact hi);have e:N.getD i default=x:=by rw [an7,hx];rfl
 rw [e];exact ⟨G.path i x hx,G.bound i x hx,G.xM i x hx,G.hangs i x hx,G.over i x hx⟩
theorem BdG.hg (G:BdG g N):hgN N=sW g:=by
 funext i;by_cases hi:i<g.tree.length
 ·exact (G.at hi).2.2.2.1
 ·unfold hgN;rw [an7,anl (by rw [G.len];omega)];rcases VO hi with h|h
  ·exact h.1.symm
  ·exact h.symm
theorem BdG.wok (G:BdG g N) (l:List Wkr) (k:Nat):rD N l k=pU (vS g l k):=by
 have hf: ∀q:Nm,idx (fun s:Sn=>s.path == q) N=pU (atM g.tree q):=fun q=>by
  have hm:N.map (·.path)=(ab8 g.tree.length).map (oI g.tree):=by
   apply anC;intro k;rw [an3,an3];by_cases hk:k<g.tree.length
   ·obtain ⟨x,hx⟩:=nT N (k:=k) (by rw [G.len];exact hk);rw [hx,aoT hk];exact congrArg some (G.path k x hx)
   ·rw [anl (by rw [G.len];omega),anl (by rw [apP];omega)]<;>rfl
  have h1:N.findIdx? (fun s:Sn=>s.path == q)=(N.map (·.path)).findIdx? (· == q):=by rw [aqE];rfl
  have h2:((ab8 g.tree.length).map (oI g.tree)).findIdx? (· == q)=(ab8 g.tree.length).findIdx? fun i=>oI g.tree i == q:=by rw [aqE];rfl
  have h3:(ab8 g.tree.length).findIdx? (fun i=>oI g.tree i == q)=atM g.tree q:=by
   unfold atM;cases hfi:(ab8 g.tree.length).findIdx? fun i=>oI g.tree i == q with
   |none=>rw [List.findIdx?_eq_none_iff] at hfi;symm;rw [aqJ];intro x hx;rw [hfi x hx];decide
   |some j=>rw [List.findIdx?_eq_some_iff_getElem] at hfi;obtain ⟨hj,hp,hlt⟩:=hfi;symm;rw [List.find?_eq_some_iff_getElem];rw [aqK] at hp;refine ⟨hp,j,hj,aqK _,fun i hi=>?_⟩;have:=hlt i hi;simpa using this
  unfold idx;rw [h1,hm,h2,h3];cases atM g.tree q<;>rfl
 induction l with
 |nil=>rfl
 |cons x r ih=>
  unfold rD vS;rw [hf,ih];cases ha:atM g.tree x.2 with
  |none=>rw [if_neg (fun h=>absurd h.2.1 (by decide))]
  |some i=>
   have hi:i<g.tree.length:=by unfold atM at ha;exact List.mem_range.1 (List.mem_of_find?_eq_some ha)
   obtain ⟨_,h2,h3,_⟩:=G.at hi;dsimp only;rw [show (pU (some i)).toNat=i from rfl,h2,h3];by_cases hc:x.1=(k:Int)/\qG g i=true/\ve g.tree i=true
   ·rw [if_pos ⟨hc.1,(by show (0:Int)<=(i:Int);omega),hc.2⟩,if_pos hc]
   ·rw [if_neg (fun h=>hc ⟨h.1,h.2.2⟩),if_neg hc]
theorem BdG.stp (G:BdG g N) (refuse:List Nm) (wakes:List Wkr) (m:Nat) {o:Option Nat} (ho: ∀i,o=some i->i<g.tree.length):Gv N refuse wakes m o=rO g refuse wakes m o:=by
 cases hw:vS g wakes m with
 |some i=>
  have e:qZ N refuse wakes m (pU o)=((i:Int),true):=by unfold qZ;rw [G.wok,hw];exact if_pos (by show (0:Int)<=(i:Int);omega)
  unfold Gv rO;rw [e,hw,if_pos (by show (0:Int)<=(i:Int);omega)];rfl
 |none=>
  cases o with
  |none=>
   have e:qZ N refuse wakes m (pU none)=(-1,false):=by unfold qZ;rw [G.wok,hw,if_neg (show ¬(0:Int)<=pU none by decide),if_neg (fun h=>absurd h.1 (by decide))];rfl
   unfold Gv rO;rw [e,hw,if_neg (by decide)]
  |some i=>
   have hp:ptN N (pU (some i)).toNat=oI g.tree i:=(G.at (ho i rfl)).1;by_cases hc:refuse.contains (oI g.tree i)=true
   ·have e:qZ N refuse wakes m (pU (some i))=((i:Int),false):=by unfold qZ;rw [G.wok,hw,if_neg (show ¬(0:Int)<=pU none by decide),hp,if_pos ⟨(by show (0:Int)<=(i:Int);omega),hc⟩];rfl
    unfold Gv rO;rw [e,hw,if_pos (by show (0:Int)<=(i:Int);omega)];dsimp only;rw [if_pos hc];rfl
   ·have e:qZ N refuse wakes m (pU (some i))=(-1,false):=by unfold qZ;rw [G.wok,hw,if_neg (show ¬(0:Int)<=pU none by decide),hp,if_neg (fun h=>hc h.2)];rfl
    unfold Gv rO;rw [e,hw,if_neg (by decide)];dsimp only;rw [if_neg hc]
theorem Gx {s1 s2:Nat->Option Nat->Option (Nat×Bool)} (h0: ∀m,s1 m none=s2 m none): ∀(r:List Nat) (A:As) (sl:List Nat),(∀i∈r, ∀m,s1 m (some i)=s2 m (some i))->pO s1 r A sl=pO s2 r A sl
 | [],A,sl,_=>by rw [pO,pO,h0]
 |i::r,A,sl,h=>by
  have ih:=fun A sl=>Gx h0 r A sl fun k hk=>h k (aoC _ hk);rw [pO,pO,h i ap2,ih];split
  ·rfl
  ·cases s2 sl.length (some i) with
   |some x=>rfl
   |none=>exact ih _ _
theorem Jm {I1 I2:Nat->Bool}: ∀(r:List Nat) (A:As),(∀k∈r,I1 k=I2 k)->uw I1 r A=uw I2 r A
 | [],A,_=>rfl
 |k::r,A,h=>by have ih:=fun A=>Jm (I1:=I1) (I2:=I2) r A fun j hj=>h j (aoC _ hj);rw [uw,uw,h k ap2,ih,ih]
theorem BdG.may (G:BdG g N) (A:As) (down:Bool) (sl:List Nat) (i:Int) (v:Bool):wW (Go.Proofs.YtfbnfhhmiiahnaaGreatDoor.snA N A) down i v=zo g ⟨A,sl,down⟩ i v:=by
 unfold wW zo;rw [rY,G.len];by_cases h1:i<0∨(g.tree.length:Int)<=i
 ·rw [if_pos (h1.imp id .inl),if_pos (h1.imp id .inl)]
 ·rw [not_or] at h1;have hi:i.toNat<g.tree.length:=by omega
  have hb:((Go.Proofs.YtfbnfhhmiiahnaaGreatDoor.snA N A).getD i.toNat default).bound=qG g i.toNat:=((Go.Proofs.YtfbnfhhmiiahnaaGreatDoor.EI N A i.toNat).1).trans (G.at hi).2.1;rw [hb,Si (by rw [G.len];exact hi)]
end
structure BdH (g:Giv) (B:Bd) (Pb:Nat->Prop) (bb:Nat) (W:World):Prop where
 m: ∃N nv ov sv,BdG g N/\BdM Pb bb (snA N B.a) (sS g) B.oJ B.down nv ov sv W
 i:BdI g B
section
variable {g:Giv} {B:Bd} {Pb Pb':Nat->Prop} {bb:Nat} {W W':World}
theorem BdH.new (h:BdH g B Pb bb W) (n:New W W'):BdH g B Pb bb W':=by
 obtain ⟨N,nv,ov,sv,h1,h2⟩:=h.m;exact ⟨⟨N,nv,ov,sv,h1,h2.new n⟩,h.i⟩
theorem BdH.mono (h:BdH g B Pb bb W) (hP: ∀b,b<W.heap.size->Pb b->Pb' b):BdH g B Pb' bb W:=by
 obtain ⟨N,nv,ov,sv,h1,h2⟩:=h.m;exact ⟨⟨N,nv,ov,sv,h1,h2.mono hP⟩,h.i⟩
theorem BdM.Yu {N:List Sn} {ord oJ:List Nat} {down:Bool} {nv ov sv:Value} (h:BdM Pb bb N ord oJ down nv ov sv W) {w':World} (c:Chg (fun k=>nv.ownBlock=some k∨k=bb) W w'):Chg Pb W w':=
 c.mono fun k _ e=>by
  rcases e with e|e
  ·exact (h.nd.a.row.lt e).1
  ·rw [e];exact h.lo
abbrev abQ (d k:Bool) (by0:Int) (v:Value):Value:=.agg (oC d k by0 v).toArray
theorem Jo (hok:og g.tree=true) {Pr Pw:Nat->Prop} {rv wv:Value} {refuse:List Nm} {wakes:List Wkr} (h:BdH g B Pb bb W) (hP: ∀b,W.heap.size<=b->Pb b) (hr:RdS (Wk.one vs) 1 Pr W rv refuse) (hrP: ∀b,Pr b-> ¬Pb b) (hw:RdS (flat wkC) 2 Pw W wv wakes) (hwP: ∀b,Pw b-> ¬Pb b):
 Calls prog 16 #[pT bb,rv,wv] W (Ret fun r w'=> ∃v,r=.tuple #[abQ (rV g B refuse wakes).1.1 (rV g B refuse wakes).1.2.1 (rV g B refuse wakes).1.2.2.1 v,vi (rV g B refuse wakes).2.2]/\nP (flat stC) 64 2 (fun b=>W.heap.size<=b) NoB w' v (rV g B refuse wakes).1.2.2.2/\BdH g (rV g B refuse wakes).2.1 Pb bb w'/\Chg Pb W w'):=by
 obtain ⟨N,nv,ov,sv,hG,hM⟩:=h.m;have hO:=Ac hok;have hsafe:=ZH hok h.i refuse wakes;refine (MJ hM hP (fun k hk=>by rw [hG.len];exact (hO.2.1 k hk).1) (PW hok) hr hrP hw hwP).mono ?_;rintro _ w' ⟨r,rfl,hp⟩;refine ⟨r,rfl,?_⟩;have hany:(∃x∈wakes,x.1<0)↔wakes.any early=true:=by
  rw [List.any_eq_true];constructor
  ·rintro ⟨x,h1,h2⟩;exact ⟨x,h1,by unfold early;exact decide_eq_true h2⟩
  ·rintro ⟨x,h1,h2⟩;exact ⟨x,h1,by unfold early at h2;exact of_decide_eq_true h2⟩
 have aep:pO (Gv N refuse wakes) (sS g).reverse B.a []=pO (rO g refuse wakes) (sS g).reverse B.a []:= Gx (fun m=>hG.stp refuse wakes m fun i e=>by cases e) _ _ _ fun i hi m=>hG.stp refuse wakes m fun j e=>by cases e;exact (hO.2.1 i (List.mem_reverse.1 hi)).1
 rcases hp with ⟨hd,rfl,n⟩|⟨hd,hno,rfl,n⟩|⟨hd,hno,l,o,v,hgo,hp⟩
 ·have e:rV g B refuse wakes=((false,false,0,[]),B,5):=by unfold rV;rw [if_pos hd]
  rw [e];exact ⟨_,rfl,aI,h.new n,n.any⟩
 ·have e:rV g B refuse wakes=((false,false,0,[]),B,1):=by unfold rV;rw [if_neg (by rw [hd];decide),if_pos (by rw [hany];exact hno)]
  rw [e];exact ⟨_,rfl,aI,h.new n,n.any⟩
 ·rw [aep] at hgo;cases o with
  |some x=>
   have e:rV g B refuse wakes=((false,x.2,(x.1:Int),upS l++dnS l),B,0):=by unfold rV;rw [if_neg (by rw [hd];decide),if_neg (by rw [hany];exact hno),hgo]
   rw [e] at hsafe ⊢;obtain ⟨rfl,h1,h2,h3⟩:=hp;refine ⟨v,rfl,h1,⟨⟨N,nv,ov,sv,hG,?_⟩,h.i⟩,hM.Yu (h3.mono fun _ _ e=>.inl e)⟩;have h4:B.a=qU B.a (upS l++dnS l):=hsafe.2.2;rw [<-h4] at h2;rw [hd];exact h2
  |none=>
   have e:rV g B refuse wakes=((true,false, -1,upS l),⟨qU B.a (upS l),l,true⟩,0):=by unfold rV;rw [if_neg (by rw [hd];decide),if_neg (by rw [hany];exact hno),hgo]
   rw [e] at hsafe ⊢;obtain ⟨slv,rfl,h1,h2,h3⟩:=hp;exact ⟨v,rfl,h1,⟨⟨N,nv,ov,slv,hG,h2⟩,hsafe.2.1⟩,hM.Yu h3⟩
theorem Un (hok:og g.tree=true) (h:BdH g B Pb bb W):
 Calls prog 14 #[pT bb] W (Ret fun r w'=> ∃v,r=.tuple #[v,vi (EH B).2.2]/\nP (flat stC) 64 2 (fun b=>W.heap.size<=b) NoB w' v (EH B).1/\BdH g (EH B).2.1 Pb bb w'/\Chg Pb W w'):=by
 obtain ⟨N,nv,ov,sv,hG,hM⟩:=h.m;obtain ⟨hs1,hs2⟩:=h.i.sl hok;have hsafe:=abz h.i;refine (PL hM (fun i hi=>by rw [hG.len];exact hs1 i hi) hs2).mono ?_;rintro _ w' ⟨r,rfl,hp⟩;refine ⟨r,rfl,?_⟩;rcases hp with ⟨hd,rfl,n⟩|⟨hd,v,rfl,h1,h2,h3⟩
 ·have e:EH B=([],B,5):=by unfold EH;rw [if_neg (by rw [hd];decide)]
  rw [e];exact ⟨_,rfl,aI,h.new n,n.any⟩
 ·have e:EH B=(dnS B.oJ,⟨qU B.a (dnS B.oJ),[],false⟩,0):=by unfold EH;rw [if_pos hd]
  rw [e] at hsafe ⊢;exact ⟨v,rfl,h1,⟨⟨N,nv,ov,_,hG,h2⟩,hsafe.2.1⟩,hM.Yu h3⟩
theorem Yv (hok:og g.tree=true) {i:Int} (h:BdH g B Pb bb W):
 Calls prog 20 #[pT bb,vi i] W (Ret fun r w'=> ∃v,r=.tuple #[v,vi (BZ g B i).2.2]/\nP (flat stC) 64 2 (fun b=>W.heap.size<=b) NoB w' v (BZ g B i).1/\BdH g (BZ g B i).2.1 Pb bb w'/\Chg Pb W w'):=by
 obtain ⟨N,nv,ov,sv,hG,hM⟩:=h.m;have hsafe:=abA h.i i;refine (RX hM).mono ?_;rintro _ w' ⟨r,rfl,hp⟩;refine ⟨r,rfl,?_⟩;have hmay:=hG.may B.a B.down B.oJ i true;have hmay:wW (snA N B.a) B.down i true=zo g B i true:=hmay;unfold MF at hp;rw [hmay] at hp;rcases hp with ⟨hm,rfl,n⟩|⟨hm,hall,rfl,n⟩|⟨hm,hall,v,rfl,h1,h2,h3⟩
 ·have e:BZ g B i=([],B,zo g B i true):=by unfold BZ;rw [if_pos hm]
  rw [e];exact ⟨_,rfl,aI,h.new n,n.any⟩
 all_goals
  obtain ⟨k,rfl,hk,hb,hd,ha⟩:=MC hm;have hkN:k<N.length:=by rw [hG.len];exact hk
  rw [ant,PK hkN] at hall;have hol:({N.getD k default with asleep:=B.a k}:Sn).ol=wF g k:=(hG.at hk).2.2.2.2;rw [hol] at hall;have aer:(wF g k).all (aF (snA N B.a))=(wF g k).all fun j=>B.a j:=by
   have hin: ∀j∈wF g k,j<N.length:=fun j hj=>by
    have hw:=(hM.win _ (aop (wX hkN))).2 j (by rw [hol];exact hj)
    rwa [rY] at hw
   rw [aqL,apD,apD];exact ⟨fun q j hj=>(Si (A:=B.a) (hin j hj)).symm.trans (q j hj),fun q j hj=>(Si (A:=B.a) (hin j hj)).trans (q j hj)⟩
  rw [aer] at hall
 ·have e:BZ g B (k:Int)=([],B,240):=by unfold BZ;rw [if_neg (by rw [hm];decide),if_pos (by rw [ant];exact hall)]
  rw [e];exact ⟨_,rfl,aI,h.new n,n.any⟩
 ·have e:BZ g B (k:Int)=([(k,true)],⟨vC B.a k true,B.oJ,B.down⟩,0):=by unfold BZ;rw [if_neg (by rw [hm];decide),if_neg (by rw [ant,hall];decide),ant]
  rw [e] at hsafe ⊢;rw [ant] at h1 h2;rw [PK hkN,Ug hkN] at h2;exact ⟨v,rfl,h1,⟨⟨N,nv,ov,sv,hG,h2⟩,hsafe.2.1⟩,hM.Yu (h3.mono fun _ _ e=>.inl e)⟩
open Classical in
theorem aes (hok:og g.tree=true) {i:Int} (h:BdH g B Pb bb W):
 Calls prog 21 #[pT bb,vi i] W (Ret fun r w'=> ∃v,r=.tuple #[v,vi (wkM g B i).2.2]/\nP (flat stC) 64 2 (fun b=>W.heap.size<=b) NoB w' v (wkM g B i).1/\BdH g (wkM g B i).2.1 Pb bb w'/\Chg Pb W w'):=by
 obtain ⟨N,nv,ov,sv,hG,hM⟩:=h.m;have hsafe:=ad2 hok h.i i;have hO:=Ac hok;refine (VK hM (fun i=>by rw [hG.hg];exact (Yt hok i).1) (fun k hk=>by rw [hG.len];exact (hO.2.1 k hk).1) (PW hok)).mono ?_;rintro _ w' ⟨r,rfl,hp⟩;refine ⟨r,rfl,?_⟩;have hmay:wW (snA N B.a) B.down i false=zo g B i false:=hG.may B.a B.down B.oJ i false;unfold Sz at hp;rw [hmay] at hp;rcases hp with ⟨hm,rfl,n⟩|⟨hm,In,v,hIn,rfl,h1,h2,h3⟩
 ·have e:wkM g B i=([],B,zo g B i false):=by unfold wkM;rw [if_pos hm]
  rw [e];exact ⟨_,rfl,aI,h.new n,n.any⟩
 ·have hro:uw In (sS g) B.a=uw (inM g i.toNat) (sS g) B.a:=Jm _ _ fun k hk=>by have hkl:=(hO.2.1 k hk).1;have h4:=hIn k (by rw [hG.len];exact hkl);rw [hG.hg] at h4;rw [aqL,h4];unfold inM;rw [decide_eq_true_eq]
  have e:wkM g B i=(uw (inM g i.toNat) (sS g) B.a,⟨qU B.a (uw (inM g i.toNat) (sS g) B.a),B.oJ,B.down⟩,0):=by unfold wkM;rw [if_neg (by rw [hm];decide)]
  rw [e] at hsafe ⊢;rw [hro] at h1 h2;exact ⟨v,rfl,h1,⟨⟨N,nv,ov,sv,hG,h2⟩,hsafe.2.1⟩,hM.Yu (h3.mono fun _ _ e=>.inl e)⟩
end
section
variable {w:World} {G:Giv} {tv cv fv gv:Value} {Pg:Nat->Prop}
theorem abR (r:RdG Pg w G tv cv fv gv) (sh:X3 G):
 Calls prog 8 #[.agg #[tv,cv,fv,gv]] w (Ret fun v w'=>(if qm G=0 then ∃bb,v=.tuple #[pT bb,vi 0]/\BdH G bd0 (fun b=>w.heap.size<=b) bb w' else v=.tuple #[.pointer none,vi (qm G)])/\New w w'):=by
 refine (VN r sh).mono ?_;rintro _ w' ⟨v,rfl,hp,n⟩;refine ⟨v,rfl,?_,n⟩;unfold MN at hp;split at hp
 ·rename_i he
  rw [if_pos he];obtain ⟨bb,nv,ov,N,rfl,h1,h2,h3⟩:=hp;have e:snA N bd0.a=N:=by rw [show bd0.a=aF N from funext fun i=>(h2 i).symm];exact Yc N
  exact ⟨bb,rfl,⟨N,nv,ov,_,h1,by rw [e];exact h3⟩,aby G⟩
 ·rename_i he
  rw [if_neg he];exact hp
end
abbrev noV (p:Nd×SV):List Value:=[vi p.1.parent,vs p.1.name,svV p.2]
abbrev cdV (p:Cd×SV):List Value:=cdC p.1 (svV p.2)
theorem ajh (p:Nd×SV): ∀c∈noV p,c.oneCell'=true:=by
 intro c hc;simp at hc;rcases hc with rfl|rfl|rfl<;>rfl
theorem aji (p:Cd×SV): ∀c∈cdV p,c.oneCell'=true:=by
 intro c hc;simp [cdC] at hc;rcases hc with rfl|rfl|rfl|rfl|rfl|rfl|rfl<;>rfl
theorem Uo:qH (flat noV) 3:=qA _ (fun _=>rfl) ajh
theorem ZM:qH (flat cdV) 7:=qA _ (fun _=>rfl) aji
theorem MO {α β:Type} {R:Rel α} {R':Rel β} {sz:Nat} {Pb:Nat->Prop} {w:World} {v:Value} {xs:List α} (f:α->β) (h:RdS R sz Pb w v xs) (hf: ∀x∈xs, ∀cs,R Pb w x cs->R' Pb w (f x) cs):RdS R' sz Pb w v (xs.map f):=by
 rcases h with ⟨rfl,rfl⟩|⟨a,cap,rfl,rfl,hc⟩|⟨b,off,cap,cur,e,fr,rfl,hb,hh,h1,h2,h3,h4⟩
 ·exact .inl ⟨rfl,rfl⟩
 ·exact .inr (.inl ⟨a,cap,rfl,rfl,hc⟩)
 ·refine .inr<| .inr ⟨b,off,cap,cur,e,fr,by rw [aoR],hb,hh,by rw [aoR];exact h1,h2,by rw [aoR];exact h3,fun i y hy=>?_⟩
  rw [an3] at hy;obtain ⟨x,hx,rfl⟩:=Option.map_eq_some_iff.1 hy;exact hf x (aop hx) _ (h4 i x hx)
end Go.Proofs.YtfbnfhhmiiahnaaGreatDoor
namespace Go.Proofs.YtfbnfhhmiiahnaaGreatDoor
open Go Wk
def VP:Nm:=[111,115,99]
def cell1:List UInt8:=[0,0,0,1]
def awC:List Cd:=[⟨[107],[102],1,[[107]],0,[], -1⟩]
def awE:Ed:=⟨2,some 1,1,false,0,[]⟩
theorem abS:uD awC=true:=by decide+kernel
theorem Jp {t:List Nd}: ∀(l:List Nat),(∀n∈l,ofM t n=some [])->uq t [] l=([],[])
 | [],_=>by rw [uq]
 |n::r,h=>by rw [uq,h n ap2];exact Jp r fun m hm=>h m (aoC _ hm)
theorem MP {cs:List Cd} {t:List Nd} (h: ∀n,n<t.length->ofM t n=some []):qN cs t=([],[]):=by
 unfold qN;refine Jp _ fun n hn=>h n ?_;unfold D8 at hn;rw [List.mem_mergeSort,List.mem_filter,List.mem_range] at hn;exact hn.1
theorem Yw {t:List Nd} {i:Nat} (h:YZ t i=some []):ofM t i=some []:=by
 unfold ofM;rw [h];simp [qW]
theorem Rch.less {W:Nat->List Nat} (h: ∀i k,k∈W i->k<i) {a b:Nat} (r:Rch W a b):b<a:=by
 induction r with
 |one h1=>exact h _ _ h1
 |more _ h1 ih=>exact Nat.lt_trans (h _ _ h1) ih
theorem EK {W:Nat->List Nat} {order:List Nat} (h: ∀i, ¬Rch W i i): ∀(l seen:List Nat),sK W order seen l=[]
 | [],seen=>by rw [sK]
 |i::r,seen=>by rw [sK,if_pos (.inr (h i))];exact EK h r seen
theorem PX {t:List Nd} (h: ∀i k,k∈pR t i->k<i):tC t=[]:=EK (fun i r=>Nat.lt_irrefl _ (Rch.less h r)) _ _
theorem PY {g:Giv} {i:Nat} (ho:onM g.tree i=true) (hc:qR g.tree i=true->qV g.cards g.tree i≠none) (hd:(qN g.cards g.tree).2=[]) (he: ∀e∈nX g.tree,e.dst≠none) (hr:tC g.tree=[]) (hg:uP g i=none):firstM g i=(0, -1):=by
 unfold firstM;dsimp only;rw [if_neg (by rw [ho];decide),if_neg (fun e=>hc e.1 e.2),hd,hr];have h1:(if qR g.tree i=true then I4 [] i else none)=none:=by split<;>rfl
 have h2:(if qR g.tree i=true then I5 [] i else none)=none:=by split<;>rfl
 rw [h1,h2,hg];dsimp only;rw [if_neg];rintro ⟨_,e,h3,_,_,h4⟩;exact he e h3 h4
theorem SB {g:Giv} (h:g.gone=[]) (i:Nat):uP g i=none:=by
 unfold uP;rw [aqJ,h];intro k _ e;simp at e
def awN:Nat->Bn:=fun i=>match i with
 |0=>⟨[47],false,0,0,none, -1,[]⟩
 |1=>⟨47::VP,true,1,0,some 0, -1,[0]⟩
 |2=>⟨[47,97],true,1,0,some 0, -1,[0,1]⟩
 |_=>default
theorem ZN:qh awN 3=[0,2,1]:=by
 have:(ab8 3).filter (fun i=>decide ((awN i).reason=0))=[0,1,2]:=by decide+kernel
 unfold qh;rw [this];have h12:(!decide (qY (fun i=>(awN i).level) (fun i=>(awN i).path) 2 1<0))=false:=by decide+kernel
 have h01:(!decide (qY (fun i=>(awN i).level) (fun i=>(awN i).path) 1 0<0))=true:=by decide+kernel
 have h02:(!decide (qY (fun i=>(awN i).level) (fun i=>(awN i).path) 2 0<0))=true:=by decide+kernel
 simp [List.mergeSort,List.MergeSort.Internal.splitInTwo,List.merge,List.splitAt,List.splitAt.go] at*;simp [*]
section
variable {N:Nat->Bn} {fl fl':Nm->Bool} (h: ∀i,((N i).device&&fl (N i).path)=((N i).device&&fl' (N i).path))
include h
theorem Yx (S:St) (i:Nat):rF N fl S i=rF N fl' S i:=by unfold rF;rw [h]
theorem DL: ∀(l:List Nat) (S:St),oU N fl l S=oU N fl' l S
 | [],S=>by rw [oU,oU]
 |i::r,S=>by
  rw [uh,uh,Yx h,DL r S];cases rF N fl' S i with
  |none=>rfl
  |some S'=>dsimp only;rw [DL r S']
theorem KL (order:List Nat): ∀(f:Nat) (S:St),doneGo N fl order f S=doneGo N fl' order f S
 |0,S=>by rw [doneGo,doneGo]
 |f+1,S=>by rw [Bg,Bg,DL h,KL order f]
end
def awS:List Nd:=[⟨-1,[],[]⟩,⟨0,VP,[⟨qx,[107,0]⟩,⟨uY,cell1⟩]⟩,⟨0,[97],[⟨qx,[107,0]⟩,⟨[99,108,111,99,107,115],cell1⟩,⟨yF,[]⟩]⟩]
abbrev awG:Giv:=⟨awS,awC,[],[]⟩
theorem FI:og awS=true:=by decide+kernel
theorem BQ:nX awS=[awE]:=by decide+kernel
theorem Yy:qN awC awS=([],[]):=by
 refine MP fun n hn=>Yw ?_;have:n=0∨n=1∨n=2:=by have:awS.length=3:=rfl;omega
 rcases this with rfl|rfl|rfl<;>decide+kernel
theorem ZO:tC awS=[]:=by
 refine PX fun i k hk=>?_;unfold pR at hk;rw [BQ] at hk;rcases List.mem_append.1 hk with hk|hk
 ·split at hk
  ·rename_i h0
   rw [List.mem_singleton.1 hk];by_cases hi:i<awS.length
   ·exact (uK FI (by omega) hi).1
   ·have:par awS i=0:=by unfold par ndA;rw [an7,anl (by omega)];rfl
    omega
  ·cases hk
 ·obtain ⟨e,he,h⟩:=List.mem_filterMap.1 hk;rw [List.mem_singleton.1 he] at h;split at h
  ·rename_i hc
   cases h;rw [<-hc.1];decide
  ·cases h
theorem SC:oN awG=awN:=by
 funext i;have hl:awS.length=3:=rfl;have hf: ∀i,onM awS i=true->(qR awS i=true->qV awC awS i≠none)->firstM awG i=(0, -1):=fun i h1 h2=>
  PY h1 h2 (by rw [Yy]) (fun e he=>by rw [BQ] at he;rw [List.mem_singleton.1 he];decide) ZO (SB rfl i)
 match i with
 |0=>
  rw [zh (by show 0<3;omega)];unfold yu;rw [hf 0 (by decide+kernel) (by decide+kernel)];have h1:qR awS 0=false:=by decide+kernel
  have h2:oI awS 0=[47]:=by decide+kernel
  have h3:Ai awS 0=[]:=by unfold Ai;rw [BQ];decide+kernel
  dsimp only;rw [h1,h2,h3];rfl
 |1=>
  rw [zh (by show 1<3;omega)];unfold yu;rw [hf 1 (by decide+kernel) (by decide+kernel)];have h1:qR awS 1=true:=by decide+kernel
  have h2:oI awS 1=47::VP:=by decide+kernel
  have h3:Ai awS 1=[]:=by unfold Ai;rw [BQ];decide+kernel
  have h4:qV awC awS 1=some 0:=by decide+kernel
  have h5:par awS 1=0:=by decide+kernel
  dsimp only;rw [h1,h2,h3,h4,h5];rfl
 |2=>
  rw [zh (by show 2<3;omega)];unfold yu;rw [hf 2 (by decide+kernel) (by decide+kernel)];have h1:qR awS 2=true:=by decide+kernel
  have h2:oI awS 2=[47,97]:=by decide+kernel
  have h3:Ai awS 2=[1]:=by unfold Ai;rw [BQ];decide+kernel
  have h4:qV awC awS 2=some 0:=by decide+kernel
  have h5:par awS 2=0:=by decide+kernel
  dsimp only;rw [h1,h2,h3,h4,h5];rfl
 |n+3=>rw [XR (by show ¬n+3<3;omega)];rfl
theorem Yz:(rowOf awN (uQ awG).2 0).1=0/\(rowOf awN (uQ awG).2 1).1=0/\(rowOf awN (uQ awG).2 2).1=0/\(rowOf awN (uQ awG).2 2).2.1=some 0:=by
 show (rowOf awN (vH (oN awG) _ 3).2 0).1=0/\(rowOf awN (vH (oN awG) _ 3).2 1).1=0/\(rowOf awN (vH (oN awG) _ 3).2 2).1=0/\(rowOf awN (vH (oN awG) _ 3).2 2).2.1=some 0;rw [SC];unfold vH;rw [KL (fl':=fun _=>false),ZN]
 ·decide+kernel
 ·intro i
  match i with
  |0=>rfl
  |1=>rfl
  |2=>rfl
  |n+3=>rfl
theorem YA:qG awG 0=true/\qG awG 1=true/\qG awG 2=true:=by
 obtain ⟨h0,h1,h2,_⟩:=Yz;unfold qG;rw [SC,h0,h1,h2];exact ⟨rfl,rfl,rfl⟩
theorem abT:0∈sW awG 1/\1∈sW awG 2:=by
 obtain ⟨_,b1,b2⟩:=YA;obtain ⟨_,_,_,hc⟩:=Yz;have hl:awG.tree.length=3:=rfl;rw [Pz (by rw [hl];omega),Pz (by rw [hl];omega),if_pos b1,if_pos b2];refine ⟨?_,?_⟩
 ·rw [apN,apN];exact .inl (.inl (by decide+kernel))
 ·rw [apN,apN];refine .inl (.inr ?_);rw [List.mem_filterMap];refine ⟨awE,by show awE∈nX awS;rw [BQ];exact List.mem_singleton.2 rfl,?_⟩;rw [SC,if_pos ⟨rfl,rfl,by show (rowOf awN (uQ awG).2 2).2.1≠none;rw [hc];simp⟩];rfl
theorem aao:sS awG=[0,1,2]:=by
 obtain ⟨b0,b1,b2⟩:=YA;obtain ⟨h01,h12⟩:=abT;have hl:awG.tree.length=3:=rfl;obtain ⟨o1,o2,o3,o4⟩:=Ac (g:=awG) FI;obtain ⟨T2,X2,e2⟩:=aot (o3 2 (by rw [hl];omega) b2);obtain ⟨T1,Y,e1⟩:=aot (o4 T2 2 X2 e2 1 h12);have e3:sS awG=T1++1::(Y++2::X2):=by rw [e2,e1];simp
 obtain ⟨T0,Z,e0⟩:=aot (o4 T1 1 _ e3 0 h01);have hle:(sS awG).length<=3:=by
  have h3: ∀(m:List Nat) (l:List Nat),l.Nodup->(∀k∈l,k∈m)->l.length<=m.length:=by
   intro m;induction m with
   |nil=>
    intro l _ h;cases l with
    |nil=>exact aap _
    |cons a r=>exact absurd (h a ap2) (by simp)
   |cons a r ih=>
    intro l hl h;have:=ih (l.erase a) (hl.erase a) fun k hk=>by
     rcases List.mem_cons.1 (h k (List.mem_of_mem_erase hk)) with e|e
     ·subst e;exact absurd hk (by rw [hl.mem_erase_iff];exact fun q=>q.1 rfl)
     ·exact e
    have h4:l.length<=(l.erase a).length+1:=by rw [List.length_erase];split<;>omega
    rw [anJ];omega
  have:=h3 (ab8 3) _ o1 fun k hk=>List.mem_range.2 (o2 k hk).1
  rwa [apP] at this
 rw [e3,e0] at hle ⊢;simp only [am7,anJ] at hle;have z0:=anf (show T0.length=0 by omega);have z1:=anf (show Z.length=0 by omega);have z2:=anf (show Y.length=0 by omega);have z3:=anf (show X2.length=0 by omega);rw [z0,z1,z2,z3];rfl
theorem ZP:rV awG bd0 [] [(1,[47,97])]=((false,true,2,upS [2]++dnS [2]),bd0,0):=by
 obtain ⟨_,_,b2⟩:=YA;have ha:atM awG.tree [47,97]=some 2:=by decide+kernel
 have hw:ve awG.tree 2=true:=by decide+kernel
 have s0:rO awG [] [(1,[47,97])] 0 (some 2)=none:=by unfold rO vS;rw [ha];dsimp only;rw [if_neg (fun h=>absurd h.1 (by decide))];rfl
 have s1:rO awG [] [(1,[47,97])] 1 (some 1)=some (2,true):=by unfold rO vS;rw [ha];dsimp only;rw [if_pos ⟨rfl,b2,hw⟩]
 have hgo:pO (rO awG [] [(1,[47,97])]) (sS awG).reverse bd0.a []=([2],some (2,true)):=by rw [aao];show pO _ [2,1,0] (fun _=>false) []=_;rw [pO,if_neg (by decide)];show (match rO awG [] [(1,[47,97])] 0 (some 2) with|some x=>([],some x)|none=>_)=_;rw [s0];dsimp only;rw [pO,if_neg (by decide)];show (match rO awG [] [(1,[47,97])] 1 (some 1) with|some x=>([]++ [2],some x)|none=>_)=_;rw [s1];rfl
 unfold rV;rw [if_neg (by decide),if_neg (by
  rintro (h|h|⟨x,h,h2⟩)
  ·exact absurd h (by decide)
  ·exact absurd h (by decide)
  ·rw [List.mem_singleton.1 h] at h2;exact absurd h2 (by decide)),hgo]
 rfl
theorem ZQ:rV awG bd0 [] []=((true,false, -1,upS [2,1,0]),⟨qU bd0.a (upS [2,1,0]),[2,1,0],true⟩,0):=by
 have s0: ∀m o,rO awG [] [] m o=none:=fun m o=>by unfold rO vS;cases o<;>rfl
 have hgo:pO (rO awG [] []) (sS awG).reverse bd0.a []=([2,1,0],none):=by rw [aao];show pO _ [2,1,0] (fun _=>false) []=_;rw [pO,if_neg (by decide),s0];dsimp only;rw [pO,if_neg (by decide),s0];dsimp only;rw [pO,if_neg (by decide),s0];dsimp only;rw [pO,s0];rfl
 unfold rV;rw [if_neg (by decide),if_neg (by
  rintro (h|h|⟨x,h,h2⟩)
  ·exact absurd h (by decide)
  ·exact absurd h (by decide)
  ·cases h),hgo]
theorem asRes:EH ⟨qU bd0.a (upS [2,1,0]),[2,1,0],true⟩=(dnS [2,1,0],⟨qU (qU bd0.a (upS [2,1,0])) (dnS [2,1,0]),[],false⟩,0):=by
 unfold EH;rw [if_pos rfl]
end Go.Proofs.YtfbnfhhmiiahnaaGreatDoor
namespace Go.Proofs.YtfbnfhhmiiahnaaGreatDoor
open Go Wk
open Go.RowKit (Below)
attribute [local irreducible] Go.Calls
theorem YB {p q:Stp} {w:World}:(Op.equalIn 10000 64 (.agg (stC p).toArray) (.agg (stC q).toArray)).run prog w=.ok (decide (p=q)) w:=by
 rw [run_equalIn_struct w 9999 _ _ _ (by kernel_rfl) (by kernel_rfl),Eo (l:=[(true,3,0),(true,4,1)]) (by kernel_rfl)];rw [Ep (by kernel_rfl) rfl rfl (run_equalIn_int w 9998 _ .i64 .i64 _ _ underlying3),Ep (by kernel_rfl) rfl rfl (run_equalIn_bool' w 9998 _ _ _ underlying4),Gl];obtain ⟨a,b⟩:=p;obtain ⟨c,d⟩:=q;simp only [beq_iff_eq,Prod.mk.injEq];by_cases h1:(a:Int)=c
 ·have h1':a=c:=by omega
  by_cases h2:b=d
  ·simp [h1',h2]
  ·simp [h1',h2]
 ·have h1': ¬a=c:=by omega
  simp [h1',h1]
section
variable {n:Nat} {ds:List Deferred} {Q:Po} {F:Fr} {w:World} {ops rest:List Oper} {d:Nat} {ty t':TypeId} {pos:String} {aft:Array Edge}
theorem kG {x y:Operand} {p q:Stp} (hx:ev n F x=.agg (stC p).toArray) (hy:ev n F y=.agg (stC q).toArray) (c:Wl prog n ds Q ops rest (upd F d (.bool (decide (p=q)))) w):
 Wl prog n ds Q ops (⟨some d,.binOp .eql 64 x y t',ty,pos,aft,none⟩::rest) F w:=by
 refine Wl.val ?_ c;have hg:(eqGuard .eql 64 x y (.agg (stC p).toArray) (.agg (stC q).toArray)).run prog w=.ok () w:=by unfold eqGuard;split<;>simp
 have hb:(binOp .eql 64 (.agg (stC p).toArray) (.agg (stC q).toArray)).run prog w=.ok (.bool (decide (p=q))) w:=by rw [run_eql_struct,YB];rfl
 simp only [execOp,hx,hy,Sem.run_bind,hg,Result.andThen_ok,hb,Sem.run_pure]
end
theorem BdH.exc {α:Type} {R:Rel α} {e:TypeId} {sz:Nat} {Qb Qe:Nat->Prop} {u:Value} {xs:List α} {g:Giv} {B:Bd} {Pb:Nat->Prop} {bb:Nat} {W:World} (h:BdH g B Pb bb W) (o:nP R e sz Qb Qe W u xs) (n1:ank e 85=false) (n2:ank 94 e=false) (n3:ank 3 e=false):BdH g B (fun b=>Pb b/\u.ownBlock≠some b) bb W:=by
 obtain ⟨N,nv,ov,sv,h1,h2⟩:=h.m;have rr: ∀ {β:Type} {R':Rel β} {e':TypeId} {sz':Nat} {Qe':Nat->Prop} {v:Value} {ys:List β},nP R' e' sz' Pb Qe' W v ys->ank e' e=false->nP R' e' sz' (fun b=>Pb b/\u.ownBlock≠some b) Qe' W v ys:=fun o' ne=>o'.yQ fun b hb hp=>⟨hp,o'.sV o ne b hb⟩;exact ⟨⟨N,nv,ov,sv,h1,h2.b,⟨⟨rr h2.nd.a.row n2,fun x hx=>rr (h2.nd.a.el x hx) n3,h2.nd.a.vz,h2.nd.a.sep⟩,⟨rr h2.nd.b.row n2,fun x hx=>rr (h2.nd.b.el x hx) n3,h2.nd.b.vz,h2.nd.b.sep⟩,h2.nd.x⟩,rr h2.od n3,rr h2.sl n3,h2.so,h2.os,h2.win,h2.nl,h2.lo,fun q=>o.oM h2.b n1 q rfl⟩,h.i⟩
theorem SG {w:World}:Calls prog 9 #[] w (Ret fun r w'=>r=.bool true/\New w w'):=by
 refine nM func9 rfl ntmps9 rfl ?_;refine qq4 ?_;refine aX (ps:=[(0,.const (vi (-1)))]) (parts:=[(0,vi (-1))]) rfl rfl (by simp [Value.cells]) ?_;refine aX (ps:=[(0,.const (vs qx)),(1,.const (vs [107,0]))]) (parts:=[(0,vs qx),(1,vs [107,0])]) rfl rfl (by simp [Value.cells]) ?_;(repeat' (refine aa1 ?_));refine aX (ps:=[(0,.const (vs uY)),(1,.tmp 14)]) (parts:=[(0,vs uY),(1,vs cell1)]) rfl rfl (by simp [Value.cells]) ?_;refine iE (R:=rPr) (N:=2) (ps:=[(0,.tmp 13),(1,.tmp 15)]) (xs:=[(qx,[107,0]),(uY,cell1)]) (us:=[.agg (pC (qx,[107,0])).toArray,.agg (pC (uY,cell1)).toArray]) (Pe:=NoB) H6 rfl rfl ⟨rfl,rfl,rfl,rfl,trivial⟩ (by simp) (by simp) fun v1 w1 o1 n1 s1 ob1=>?_;obtain ⟨a1,c1,rfl,_,_⟩:=o1.form;refine aX (ps:=[(1,.const (vs VP)),(2,.tmp 16)]) (parts:=[(1,vs VP),(2,.slice a1 2 c1)]) rfl rfl (by simp [Value.cells]) ?_;refine aX (ps:=[(0,.const (vs qx)),(1,.const (vs [107,0]))]) (parts:=[(0,vs qx),(1,vs [107,0])]) rfl rfl (by simp [Value.cells]) ?_;(repeat' (refine aa1 ?_));refine aX (ps:=[(0,.const (vs [99,108,111,99,107,115])),(1,.tmp 19)]) (parts:=[(0,vs [99,108,111,99,107,115]),(1,vs cell1)]) rfl rfl (by simp [Value.cells]) ?_;refine aX (ps:=[(0,.const (vs yF))]) (parts:=[(0,vs yF)]) rfl rfl (by simp [Value.cells]) ?_;refine iE (R:=rPr) (N:=3) (ps:=[(0,.tmp 18),(1,.tmp 20),(2,.tmp 21)]) (xs:=[(qx,[107,0]),([99,108,111,99,107,115],cell1),(yF,[])]) (us:=[.agg (pC (qx,[107,0])).toArray,.agg (pC ([99,108,111,99,107,115],cell1)).toArray,.agg (pC (yF,[])).toArray]) (Pe:=NoB) H6 rfl rfl ⟨rfl,rfl,rfl,rfl,rfl,rfl,trivial⟩ (by simp) (by simp) fun v2 w2 o2 n2 s2 ob2=>?_;obtain ⟨a2,c2,rfl,_,_⟩:=o2.form;refine aX (ps:=[(1,.const (vs [97])),(2,.tmp 22)]) (parts:=[(1,vs [97]),(2,.slice a2 3 c2)]) rfl rfl (by simp [Value.cells]) ?_;let LT:List (Nd×SV):=[(⟨-1,[],[]⟩,(none,0,0)),(⟨0,VP,[(qx,[107,0]),(uY,cell1)]⟩,(a1,2,c1)),(⟨0,[97],[(qx,[107,0]),([99,108,111,99,107,115],cell1),(yF,[])]⟩,(a2,3,c2))];refine iE (R:=flat noV) (N:=3) (ps:=[(0,.tmp 12),(1,.tmp 17),(2,.tmp 23)]) (xs:=LT) (us:=LT.map fun p=>.agg (noV p).toArray) (Pe:=NoB) Uo rfl rfl ⟨rfl,rfl,rfl,rfl,rfl,rfl,trivial⟩ (by simp [LT]) (by simp [LT]) fun v3 w3 o3 n3 s3 ob3=>?_;obtain ⟨a3,c3,rfl,_,_⟩:=o3.form;have hT:RdS rNd 3 (fun _=>True) w3 (.slice a3 3 c3) awS:=by
  have h1:=(o3.rd (nS noV)).mono (Pb':=fun _=>True) (nS noV) fun _ _ _=>trivial;refine MO (R':=rNd) (fun p:Nd×SV=>p.1) h1 fun x hx cs hcs=>⟨svV x.2,hcs,?_⟩;have n13:=New.trans n2 n3;simp only [LT,aqF,aqG,or_false] at hx;rcases hx with rfl|rfl|rfl
  ·exact cZ
  ·exact ((o1.new (nK pC) n13).rd (nS pC)).mono (nS pC) fun _ _ _=>trivial
  ·exact ((o2.new (nK pC) n3).rd (nS pC)).mono (nS pC) fun _ _ _=>trivial
 refine qq4 ?_;refine bC (R:=Wk.one vs) (Pe:=NoB) (y:=[107]) rP rfl rfl rfl rfl (by omega) (by omega) fun v4 w4 o4 n4 s4 e4=>?_;obtain ⟨a4,c4,rfl,_,_⟩:=o4.form;refine aX (ps:=[(0,.const (vs [107])),(1,.const (vs [102])),(2,.const (.int .u8 1)),(3,.tmp 25),(6,.const (.int .i16 (-1)))]) (parts:=[(0,vs [107]),(1,vs [102]),(2,.int .u8 1),(3,.slice a4 1 c4),(6,.int .i16 (-1))]) rfl rfl (by simp [Value.cells]) ?_;refine bC (R:=flat cdV) (Pe:=NoB) (y:=(⟨[107],[102],1,[[107]],0,[], -1⟩,(a4,1,c4))) ZM rfl rfl rfl rfl (by omega) (by omega) fun v5 w5 o5 n5 s5 e5=>?_;obtain ⟨a5,c5,rfl,_,_⟩:=o5.form;have hC:RdS rCd 7 (fun _=>True) w5 (.slice a5 1 c5) awC:=by have h1:=(o5.rd (nS cdV)).mono (Pb':=fun _=>True) (nS cdV) fun _ _ _=>trivial;refine MO (R':=rCd) (fun p:Cd×SV=>p.1) h1 fun x hx cs hcs=>⟨svV x.2,hcs,?_⟩;simp only [aqF,aqG,or_false] at hx;subst hx;exact ((o4.new (nO _) n5).rd rP.mo).mono (nV _) fun _ _ _=>trivial
 have n35:=New.trans n4 n5;have n05:=New.trans n1 (New.trans n2 (New.trans n3 n35));have r5:RdG (fun _=>True) w5 awG (.slice a3 3 c3) (.slice a5 1 c5) (.slice none 0 0) (.slice none 0 0):=⟨hT.keep oh n35.keep,hC,cZ,cZ⟩;clear o1 o2 o3 o4 o5 hT hC n1 n2 n3 n4 n5 n35;refine qq4 ?_;refine aX (ps:=[(0,.tmp 29),(1,.tmp 30)]) (parts:=[(0,.slice a3 3 c3),(1,.slice a5 1 c5)]) rfl rfl (by simp [Value.cells]) ?_;refine aj (abR r5 ⟨(fun x hx=>by cases hx),(fun x hx=>by cases hx)⟩) rfl ?_;rintro _ w6 ⟨hr,n6⟩;rw [if_pos (yx.2 ⟨FI,abS,anq _,anq _⟩)] at hr;obtain ⟨bb,rfl,hB⟩:=hr;have hz6:=n6.size;refine qq5 ?_;refine aX (ps:=[(0,.const (vi 1)),(1,.const (vs [47,97]))]) (parts:=[(0,vi 1),(1,vs [47,97])]) rfl rfl (by simp [Value.cells]) ?_;refine bC (R:=flat wkC) (Pe:=NoB) (y:=((1:Int),[47,97])) MG rfl rfl rfl rfl (by omega) (by omega) fun v7 w7 o7 n7 s7 e7=>?_;have hz7:=n7.size;have hB7:=(hB.mono (Pb':=fun b=>w5.heap.size<=b/\(b<w6.heap.size∨w7.heap.size<=b)) fun b hb e=>⟨e,.inl hb⟩).new n7;refine aj (Jo (Pr:=NoB) (Pw:=fun b=>w6.heap.size<=b/\b<w7.heap.size) (refuse:=[]) FI hB7 (fun b hb=>⟨by omega,.inr hb⟩) cZ (fun b e=>e.elim) ((o7.rd (nS _)).mono (nS _) fun b hb e=>⟨e.elim id fun e=>e.elim,hb⟩) (fun b e q=>by have:=e.1;have:=e.2;omega)) rfl ?_;rintro _ w8 ⟨xv,rfl,ox,hB8,c8⟩;rw [ZP] at ox hB8 ⊢;dsimp only at ox hB8 ⊢;have c58:New w5 w8:=(Chg.trans (M:=fun b=>w5.heap.size<=b) (New.trans n6 n7).any c8 fun k _ e=>e.1).tN
 have hz8:=c8.size;obtain ⟨xa,xc,rfl,_,_⟩:=ox.form;refine qq6 ?_;refine Wl.alloc fun w9 b9 n9 s9=>?_;refine aH (new:=oC false true 2 (.slice xa 2 xc)) b9 rfl rfl rfl rfl zl4 oC1 fun w10 b10 c10 s10=>?_;replace b10:Bk w10 w8.heap.size 59 (oC false true 2 (.slice xa 2 xc)):=b10;have JH:New w8 w10:=(Chg.trans n9.any c10 i3).tN
 clear b9 n9 c10 o7;have Zd:=JH.size;have adN:=b10.lt;have aeu:=(hB8.mono (Pb':=fun b=>w5.heap.size<=b/\(b<w8.heap.size∨w10.heap.size<=b)) fun b hb e=>⟨e.1,.inl hb⟩).new JH;refine qq4 ?_;refine aj (Jo (Pr:=NoB) (Pw:=NoB) (refuse:=[]) (wakes:=[]) FI aeu (fun b hb=>⟨by omega,.inr hb⟩) cZ (fun b e=>e.elim) cZ (fun b e=>e.elim)) rfl ?_;rintro _ w11 ⟨yv,rfl,oy,ZR,c11⟩;rw [ZQ] at oy ZR ⊢;dsimp only at oy ZR ⊢;have QT:=c11.size;have ajj:=b10.chg c11 fun e=>by have:=e.2;omega
 have ajk:New w5 w11:=(Chg.trans (M:=fun b=>w5.heap.size<=b) (New.trans c58 JH).any c11 fun k _ e=>e.1).tN
 obtain ⟨ya,yc,rfl,_,_⟩:=oy.form;refine qq6 ?_;refine Wl.alloc fun w12 b12 n12 s12=>?_;refine aH (new:=oC true false (-1) (.slice ya 3 yc)) b12 rfl rfl rfl rfl zl4 oC1 fun w13 b13 c13 s13=>?_;replace b13:Bk w13 w11.heap.size 59 (oC true false (-1) (.slice ya 3 yc)):=b13;have PZ:New w11 w13:=(Chg.trans n12.any c13 i3).tN
 clear b12 n12 c13;have ZC:=PZ.size;have alO:=b13.lt;have aev:=oy.new (nK _) PZ;have ajl:=ajj.chg PZ id;have aew:=((ZR.exc oy rfl rfl rfl).mono (Pb':=fun b=>((w5.heap.size<=b/\(b<w8.heap.size∨w10.heap.size<=b))/\(Value.slice ya 3 yc).ownBlock≠some b)/\(b<w11.heap.size∨w13.heap.size<=b)) fun b hb e=>⟨e,.inl hb⟩).new PZ;clear ZR aeu hB8 hB7 hB oy;refine qq4 ?_;refine aj (Un FI aew) rfl ?_;rintro _ w14 ⟨zv,rfl,oz,VQ,c14⟩;rw [asRes] at oz ⊢;dsimp only at oz ⊢;have abU:=ajl.chg c14 fun e=>by have:=e.1.1.2;omega
 have Ur:=b13.chg c14 fun e=>by have:=e.2;omega
 have ajm:=aev.chg (nK _) c14 fun j hj e=>e.1.2 hj;have ajn:New w5 w14:=(Chg.trans (M:=fun b=>w5.heap.size<=b) (New.trans ajk PZ).any c14 fun k _ e=>e.1.1.1).tN
 obtain ⟨za,zc,rfl,_,_⟩:=oz.form;have hy0:(upS [2,1,0])[0]? =some (2,true):=rfl;have hz2:(dnS [2,1,0])[2]? =some (2,false):=rfl;have ry:=ajm.rd (nS _);have rz:=oz.rd (nS _);have hly:(upS [2,1,0]).length=3:=rfl;have hlz:(dnS [2,1,0]).length=3:=rfl;have hrz: ∀k,k∈ [(0:Nat)]->True:=fun _ _=>trivial;clear aew VQ aev c14 c11 c8 oz hrz;rw [hlz] at rz ⊢;rw [hly] at ry;(repeat' (first|refine qq3 ?_|(refine bJ rfl rfl (fun _=>?_) (fun _=>?_)<;>(first|(exfalso;omega)|skip))));refine ah (u:=.bool true) rfl (abU.cell (o:=1) rfl) ?_;refine qq2 ?_;refine ah (u:=vi 2) rfl (abU.cell (o:=2) rfl) ?_;(repeat' (first|refine qq2 ?_|(refine bJ rfl rfl (fun _=>?_) (fun _=>?_)<;>(first|(exfalso;omega)|skip))));refine ah (u:=.slice xa 2 xc) rfl (abU.cell (o:=3) rfl) ?_;(repeat' (first|refine qq2 ?_|(refine bJ rfl rfl (fun _=>?_) (fun _=>?_)<;>(first|(exfalso;omega)|skip))));refine ah (u:=.bool true) rfl (Ur.cell (o:=0) rfl) ?_;refine qq2 ?_;refine ah (u:=vi (-1)) rfl (Ur.cell (o:=2) rfl) ?_;(repeat' (first|refine qq2 ?_|(refine bJ rfl rfl (fun _=>?_) (fun _=>?_)<;>(first|(exfalso;omega)|skip))));refine ah (u:=.slice ya 3 yc) rfl (Ur.cell (o:=3) rfl) ?_;(repeat' (first|refine qq2 ?_|(refine bJ rfl rfl (fun _=>?_) (fun _=>?_)<;>(first|(exfalso;omega)|skip))));refine ah (u:=.slice ya 3 yc) rfl (Ur.cell (o:=3) rfl) ?_;(try refine aO rfl rfl ?_);refine aK ry rfl rfl (by omega) hy0 fun b o cs hl hR hat=>?_;obtain rfl:cs=stC _:=hR;(try refine aO rfl rfl ?_);refine aS hat rfl rfl ?_;clear hat;(try refine aO rfl rfl ?_);refine aX (ps:=[(0,.const (vi 2)),(1,.const (.bool true))]) (parts:=[(0,vi 2),(1,.bool true)]) rfl rfl (by simp [Value.cells]) ?_;(try refine aO rfl rfl ?_);refine kG (p:=(2,true)) (q:=(2,true)) rfl rfl ?_;rw [decide_eq_true rfl];(repeat' (first|refine qq2 ?_|(refine bJ rfl rfl (fun _=>?_) (fun _=>?_)<;>(first|(exfalso;omega)|skip))));refine aK rz rfl rfl (by omega) hz2 fun b o cs hl hR hat=>?_;obtain rfl:cs=stC _:=hR;(try refine aO rfl rfl ?_);refine aS hat rfl rfl ?_;clear hat;(try refine aO rfl rfl ?_);refine aX (ps:=[(0,.const (vi 2))]) (parts:=[(0,vi 2)]) rfl rfl (by simp [Value.cells]) ?_;(try refine aO rfl rfl ?_);refine kG (p:=(2,false)) (q:=(2,false)) rfl rfl ?_;rw [decide_eq_true rfl];refine qq3 ?_;exact ak rfl rfl ⟨_,rfl,rfl,New.trans n05 ajn⟩
section
variable {g:Giv} {B:Bd} {Pb Pb':Nat->Prop} {bb:Nat} {W W':World}
theorem aex (h:BdH g B Pb bb W):Calls prog 18 #[pT bb] W (Ret fun r w'=>r=.bool B.down/\New W w'):=by
 obtain ⟨N,nv,ov,sv,hG,hM⟩:=h.m;exact VF hM
end
abbrev oT:List Nd:=[⟨-1,[],[(yF,[])]⟩]
abbrev oG:Giv:=⟨oT,[],[],[]⟩
theorem Ak:og oT=true:=by decide+kernel
theorem YC:qm ⟨[],[],[],[]⟩=40:=by decide+kernel
theorem abV:qm oG=0:=yx.2 ⟨Ak,rfl,anq _,anq _⟩
theorem YD:nX oT=[]:=by decide+kernel
theorem YE:qR oT 0=false:=by decide+kernel
theorem YF:firstM oG 0=(0, -1):=by
 unfold firstM;dsimp only;rw [show onM oT 0=true by decide+kernel,YE];simp;rw [show uP oG 0=none by decide+kernel]
theorem MQ:oN oG 0={path:=oI oT 0,device:=false,level:=0,reason:=0,card:=none,why:= -1,wants:=[]}:=by
 unfold oN;rw [if_pos (show 0<oT.length from Nat.lt_succ_self 0)];unfold yu Ai;dsimp only;rw [YD,YE,YF];simp
theorem abW:qG oG 0=true:=by
 have h:(rowOf (oN oG) (uQ oG).2 0).1=0:=by
  refine (FC (g:=oG) Ak oG.fails.contains (by decide)).2 (.mk 0 ?_ ?_ ?_)
  ·rw [MQ]
  ·rw [MQ];rfl
  ·rw [MQ];intro n hn;cases hn
 unfold qG;rw [h];rfl
theorem aey:sS oG=[0]:=by
 obtain ⟨o1,o2,o3,o4⟩:=Ac (g:=oG) Ak;have hz: ∀k∈sS oG,k=0:=fun k hk=>by have h1:k<oT.length:=(o2 k hk).1;have h2:oT.length=1:=rfl;omega
 have h0:=o3 0 (by decide) abW
 match h:sS oG with
 | []=>rw [h] at h0;cases h0
 | [a]=>rw [hz a (by rw [h];exact ap2)]
 |a::b::r=>rw [h] at o1 hz;have ha:=hz a ap2;have hb:=hz b (aoC _ ap2);rw [ha,hb] at o1;exact absurd ap2 (List.nodup_cons.1 o1).1
theorem Jq {g:Giv} {B:Bd} {refuse:List Nm} {wakes:List Wkr} (hd:B.down=false) (h:512<refuse.length∨512<wakes.length∨(∃x∈wakes,x.1<0)):rV g B refuse wakes=((false,false,0,[]),B,1):=by
 unfold rV;rw [if_neg (by rw [hd];decide),if_pos h]
theorem oAt:atM oG.tree [47]=some 0:=by decide+kernel
theorem aaq {ws:List Wkr} {m:Nat} {o:Option Nat} (h: ∀x∈ws,x.2=[47]/\x.1≠(m:Int)):rO oG [] ws m o=none:=by
 have hw:vS oG ws m=none:=by
  induction ws with
  |nil=>rfl
  |cons x r ih=>unfold vS;rw [(h x ap2).1,oAt];dsimp only;rw [if_neg (fun q=>(h x ap2).2 q.1)];exact ih fun y hy=>h y (aoC _ hy)
 unfold rO;rw [hw];cases o<;>rfl
theorem abX:rV oG bd0 [] [(2,[47]),(1,[47])]=((false,true,0,upS [0]++dnS [0]),bd0,0):=by
 have s0:rO oG [] [(2,[47]),(1,[47])] 0 (some 0)=none:=aaq fun x hx=>by simp at hx;rcases hx with rfl|rfl<;>exact ⟨rfl,by decide⟩
 have hw:ve oG.tree 0=true:=by decide+kernel
 have s1:rO oG [] [(2,[47]),(1,[47])] 1 none=some (0,true):=by unfold rO vS;rw [oAt];dsimp only;rw [if_neg (fun q=>absurd q.1 (by decide))];unfold vS;rw [oAt];dsimp only;rw [if_pos ⟨rfl,abW,hw⟩]
 have hgo:pO (rO oG [] [(2,[47]),(1,[47])]) (sS oG).reverse bd0.a []=([0],some (0,true)):=by rw [aey];show pO _ [0] (fun _=>false) []=_;rw [pO,if_neg (by decide)];show (match rO oG [] [(2,[47]),(1,[47])] 0 (some 0) with|some x=>([],some x)|none=>_)=_;rw [s0];dsimp only;rw [pO];show ([]++ [0],rO oG [] [(2,[47]),(1,[47])] 1 none)=_;rw [s1];rfl
 unfold rV;rw [if_neg (by decide),if_neg (by
  rintro (h|h|⟨x,h,h2⟩)
  ·exact absurd h (by decide)
  ·exact absurd h (by decide)
  ·simp at h;rcases h with rfl|rfl
   ·exact absurd h2 (by decide)
   ·exact absurd h2 (by decide)),hgo]
 rfl
theorem abY:rV oG bd0 [] [(2,[47])]=((true,false, -1,upS [0]),⟨qU bd0.a (upS [0]),[0],true⟩,0):=by
 have s0: ∀m o,m<2->rO oG [] [(2,[47])] m o=none:=fun m o hm=>aaq fun x hx=>by rw [List.mem_singleton.1 hx];exact ⟨rfl,by show (2:Int)≠m;omega⟩
 have hgo:pO (rO oG [] [(2,[47])]) (sS oG).reverse bd0.a []=([0],none):=by rw [aey];show pO _ [0] (fun _=>false) []=_;rw [pO,if_neg (by decide),s0 _ _ (by decide)];dsimp only;rw [pO,s0 _ _ (by decide)];rfl
 unfold rV;rw [if_neg (by decide),if_neg (by
  rintro (h|h|⟨x,h,h2⟩)
  ·exact absurd h (by decide)
  ·exact absurd h (by decide)
  ·rw [List.mem_singleton.1 h] at h2;exact absurd h2 (by decide)),hgo]
theorem oIn: ¬((0:Int)<0∨(oG.tree.length:Int)<=0∨qG oG (0:Int).toNat=false):=by
 rintro (h|h|h)
 ·exact absurd h (by decide)
 ·exact absurd h (by decide)
 ·rw [show ((0:Int).toNat)=0 from rfl,abW] at h;cases h
theorem ajo:EH bd0=([],bd0,5):=by unfold EH;rw [if_neg (by decide)]
theorem oWk:wkM oG bd0 0=([],bd0,5):=by
 have h:zo oG bd0 0 false=5:=by unfold zo;rw [if_neg oIn,if_pos (.inr rfl)]
 unfold wkM;rw [if_pos (by rw [h];decide),h]
theorem aez:BZ oG bd0 1=([],bd0,1):=by
 have h:zo oG bd0 1 true=1:=by unfold zo;rw [if_pos (.inr (.inl (by decide)))]
 unfold BZ;rw [if_pos (by rw [h];decide),h]
theorem aeA {B:Bd} (hd:B.down=true):BZ oG B 0=([],B,5):=by
 have h:zo oG B 0 true=5:=by unfold zo;rw [if_neg oIn,if_pos (.inl hd)]
 unfold BZ;rw [if_pos (by rw [h];decide),h]
section
variable {W:World}
theorem ZT:Calls prog 16 #[.pointer none,.slice none 0 0,.slice none 0 0] W (Ret fun r w'=>r=.tuple #[abQ false false 0 (.slice none 0 0),vi 2]/\New W w'):=by
 refine tZ func16 rfl ntmps16 rfl ?_;refine qq0 ?_;refine Wl.box rfl fun w1 b1 n1 s1=>?_;replace b1:Bk w1 W.heap.size 38 [.pointer none]:=b1;refine Wl.box rfl fun w2 b2 n2 s2=>?_;refine Wl.box rfl fun w3 b3 n3 s3=>?_;refine Wl.alloc fun w4 b4 n4 s4=>?_;replace b4:Bk w4 w3.heap.size 59 (oC false false 0 (.slice none 0 0)):=b4;have n14:=New.trans n2 (New.trans n3 n4);have n04:=New.trans n1 n14;have hz3:=(New.trans n1 (New.trans n2 n3)).size;refine qq1 ?_;refine ah (u:=.pointer none) rfl ((b1.chg n14 id).cell (o:=0) rfl) ?_;refine fG rfl rfl ?_;refine qq1 ?_;refine dU (ps:=[]) (parts:=[]) rfl vg ?_;refine aH (new:=oC false false 0 (.slice none 0 0)) b4 rfl rfl rfl rfl zl4 oC1 fun w5 b5 c5 s5=>?_;refine qq0 ?_;exact dG (qB rfl (qO rfl rfl b5 rfl) (pJ rfl)) ⟨_,rfl,rfl,(Chg.trans (M:=fun k=>k=w3.heap.size) n04.any c5 i3).tN⟩
theorem abZ:Calls prog 14 #[.pointer none] W (Ret fun r w'=>r=.tuple #[.slice none 0 0,vi 2]/\New W w'):=by
 refine tZ func14 rfl ntmps14 rfl ?_;refine qq0 ?_;refine Wl.box rfl fun w1 b1 n1 s1=>?_;replace b1:Bk w1 W.heap.size 38 [.pointer none]:=b1;refine qq1 ?_;refine ah (u:=.pointer none) rfl (b1.cell (o:=0) rfl) ?_;refine fG rfl rfl ?_;refine qq0 ?_;exact dG (qB rfl (pJ rfl) (pJ rfl)) ⟨_,rfl,rfl,n1⟩
theorem YG {i:Int} {v:Bool}:Calls prog 38 #[.pointer none,vi i,.bool v] W (Ret fun r w'=>r=vi 2/\New W w'):=by
 refine nM func38 rfl ntmps38 rfl ?_;refine qq2 ?_;refine fG rfl rfl ?_;refine qq3 ?_;exact ak rfl rfl ⟨_,rfl,rfl,ay _ _⟩
theorem ab1 {i:Int}:Calls prog 20 #[.pointer none,vi i] W (Ret fun r w'=>r=.tuple #[.slice none 0 0,vi 2]/\New W w'):=by
 refine nM func20 rfl ntmps20 rfl ?_;refine qq4 ?_;refine aj YG rfl ?_;rintro _ w1 ⟨rfl,n1⟩;(repeat' (first|refine qq5 ?_|(refine aa4 (fun _=>?_) (fun _=>?_)<;>(first|(exfalso;omega)|skip))));exact aB rfl rfl rfl ⟨_,rfl,rfl,n1⟩
theorem aeB {i:Int}:Calls prog 21 #[.pointer none,vi i] W (Ret fun r w'=>r=.tuple #[.slice none 0 0,vi 2]/\New W w'):=by
 refine nM func21 rfl ntmps21 rfl ?_;refine qq4 ?_;refine Wl.box rfl fun w1 b1 n1 s1=>?_;replace b1:Bk w1 W.heap.size 38 [.pointer none]:=b1;refine qq4 ?_;refine ah (u:=.pointer none) rfl (b1.cell (o:=0) rfl) ?_;(repeat' (refine aa1 ?_));refine aj YG rfl ?_;rintro _ w2 ⟨rfl,n2⟩;(repeat' (first|refine qq5 ?_|(refine aa4 (fun _=>?_) (fun _=>?_)<;>(first|(exfalso;omega)|skip))));exact aB rfl rfl rfl ⟨_,rfl,rfl,New.trans n1 n2⟩
theorem ab2 {i:Int}:Calls prog 13 #[.pointer none,vi i] W (Ret fun r w'=>r=.bool false/\New W w'):=by
 refine nM func13 rfl ntmps13 rfl ?_;refine qq4 ?_;refine ji rfl rfl ?_;refine qq3 ?_;exact ak rfl rfl ⟨_,rfl,rfl,ay _ _⟩
theorem ZU:Calls prog 18 #[.pointer none] W (Ret fun r w'=>r=.bool false/\New W w'):=by
 refine nM func18 rfl ntmps18 rfl ?_;refine qq4 ?_;refine ji rfl rfl ?_;refine qq3 ?_;exact ak rfl rfl ⟨_,rfl,rfl,ay _ _⟩
theorem ab3:Calls prog 19 #[.pointer none] W (Ret fun r w'=>r=.slice none 0 0/\New W w'):=by
 refine nM func19 rfl ntmps19 rfl ?_;refine qq4 ?_;refine fG rfl rfl ?_;refine qq3 ?_;exact ak rfl rfl ⟨_,rfl,rfl,ay _ _⟩
end
section
variable {P:Program} {n:Nat} {ds:List Deferred} {Q:Po} {F:Fr} {w:World} {ops rest:List Oper} {d:Nat} {ty:TypeId} {pos:String} {aft:Array Edge}
theorem ZV {z:Array Value} {m i:Nat} (hi:i<m):((madeCells z (m*z.size)).toList.drop (i*z.size)).take z.size=z.toList:=by
 have hle:(i+1)*z.size<=m*z.size:=Nat.mul_le_mul_right _ hi;rw [Nat.add_mul] at hle;apply anC;intro j;rw [List.getElem?_take];split
 ·rename_i hj
  rw [List.getElem?_drop];have h1:i*z.size+j<m*z.size:=by omega
  simp only [madeCells,Array.toList_map,Array.toList_range,an3,aoT h1,Option.map_some];rw [Nat.mul_comm i,Nat.mul_add_mod,Nat.mod_eq_of_lt hj];simp [hj]
 ·rw [anl (by simp;omega)]
theorem Wk.Wl.aeC {α:Type} {R:Rel α} {x y:Operand} {t e:TypeId} {sz bytes:Nat} {agg:Bool} {z:Value} {kl kc:IntKind} {m:Nat} (u:α)
 [ht:Und P t (.slice e)] [he:ElT P e sz bytes agg z] (hu: ∀Pb w,R Pb w u z.cells.toList) (hx:ev n F x=.int kl m) (hy:ev n F y=.int kc m) (hby:bytes*m<=281474976710656) (h63:m<=maxLen)
 (c: ∀w',nP R e sz (fun b=>b=w.heap.size) NoB w' (.slice (some ⟨w.heap.size,0,none⟩) m m) (aok m u)->New w w'->w'.heap.size=w.heap.size+1->Wl P n ds Q ops rest (upd F d (.slice (some ⟨w.heap.size,0,none⟩) m m)) w'):
 Wl P n ds Q ops (⟨some d,.makeSlice t x y,ty,pos,aft,none⟩::rest) F w:=by
 obtain ⟨i,hi,hsz',Qg,hz'⟩:=he.inf;have hzs:z.cells.size=i.size:=by rw [hsz'];exact he.hz
 have hb':(i.bytes:Int)*(m:Int)<=281474976710656:=by
  have h:((i.bytes*m:Nat):Int)<=281474976710656:=by rw [Qg];omega
  rwa [Int.natCast_mul] at h
 have h63':=h63;simp only [maxLen] at h63';have hr:=run_make (P:=P) w t e i z ht.h hi hz' kl kc m m (by omega) (aoj _) hb' (by omega);simp only [ant] at hr;refine Wl.val (v:=.slice (some ⟨w.heap.size,0,none⟩) m m) (w':=w.alloc (.cells (madeCells z.cells (m*i.size)) e)) ?_ (c _ ⟨(madeCells z.cells (m*i.size)).toList,⟨by simp [size_madeCells,hsz'],.inr ⟨w.heap.size,m,_,by rw [ap1],rfl,heap_alloc_new w _,by rw [ap1];exact aap _,h63,by rw [size_madeCells,hsz'],?_⟩⟩,fun j q hq=>?_⟩ (Chg.alloc _ _ _) (by simp))
 ·simp only [execOp,hx,hy,Sem.run_bind,hr,Result.andThen_ok,Sem.run_pure]
 ·rw [List.take_of_length_le];simp [size_madeCells,hsz']
 ·rw [ap0] at hq;split at hq
  ·rename_i hj
   cases hq;rw [<-hsz', <-hzs,ZV hj];exact hu _ _
  ·cases hq
end
section
variable {g:Giv} {B:Bd} {Pb:Nat->Prop} {bb:Nat} {W0 W:World} {rv wv:Value} {refuse:List Nm} {wakes:List Wkr}
theorem P5 (hok:og g.tree=true) (h:BdH g B Pb bb W0) (n:New W0 W) (hP: ∀b,W0.heap.size<=b->Pb b) (hr:RdS (Wk.one vs) 1 (fun b=>W0.heap.size<=b) W rv refuse) (hw:RdS (flat wkC) 2 (fun b=>W0.heap.size<=b) W wv wakes) {d k:Bool} {by0 e:Int} {st:List Stp} {B':Bd} (hs:rV g B refuse wakes=((d,k,by0,st),B',e)):
 Calls prog 16 #[pT bb,rv,wv] W (Ret fun r w'=> ∃a c,r=.tuple #[abQ d k by0 (.slice a st.length c),vi e]/\BdH g B' Pb bb w'/\Chg Pb W w'):=by
 have hz:=n.size;have h':=(h.mono (Pb':=fun b=>Pb b/\(b<W0.heap.size∨W.heap.size<=b)) fun b hb e=>⟨e,.inl hb⟩).new n;refine (Jo (Pr:=fun b=>W0.heap.size<=b/\b<W.heap.size) (Pw:=fun b=>W0.heap.size<=b/\b<W.heap.size) hok h' (fun b hb=>⟨hP b (by omega),.inr hb⟩) (hr.mono (nV _) fun b hb e=>⟨e,hb⟩) (fun b e q=>by have:=e.1;have:=e.2;have:=q.2;omega) (hw.mono (nS _) fun b hb e=>⟨e,hb⟩) (fun b e q=>by have:=e.1;have:=e.2;have:=q.2;omega)).mono ?_;rintro _ w' ⟨r,rfl,v,rfl,ov,hB,c⟩;rw [hs] at ov hB ⊢;obtain ⟨a,cc,rfl,_,_⟩:=ov.form;exact ⟨_,rfl,a,cc,rfl,hB.mono fun b _ e=>e.1,c.mono fun _ _ e=>e.1⟩
end
section
variable {W:World}
theorem YH:Calls prog 5 #[] W (Ret fun r w'=>r=.bool true/\New W w'):=by
 refine nM func5 rfl ntmps5 rfl ?_;refine qq4 ?_;refine aj ZT rfl ?_;rintro _ w1 ⟨rfl,n1⟩;refine qq6 ?_;refine Wl.alloc fun w2 b2 n2 s2=>?_;refine aH (new:=oC false false 0 (.slice none 0 0)) b2 rfl rfl rfl rfl zl4 oC1 fun w3 b3 c3 s3=>?_;have n13:New w1 w3:=(Chg.trans n2.any c3 i3).tN
 have n03:=New.trans n1 n13;clear n1 b2 n2 s2 b3 c3 s3 n13;refine qq4 ?_;refine aj abZ rfl ?_;rintro _ w4 ⟨rfl,n4⟩;refine qq5 ?_;refine aj ab1 rfl ?_;rintro _ w5 ⟨rfl,n5⟩;refine qq5 ?_;refine aj aeB rfl ?_;rintro _ w6 ⟨rfl,n6⟩;(repeat' (first|refine qq3 ?_|(refine aa4 (fun _=>?_) (fun _=>?_)<;>(first|(exfalso;omega)|skip))));refine aj ab2 rfl ?_;rintro _ w7 ⟨rfl,n7⟩;refine qq5 ?_;refine aj ZU rfl ?_;rintro _ w8 ⟨rfl,n8⟩;refine qq5 ?_;refine aj ab3 rfl ?_;rintro _ w9 ⟨rfl,n9⟩;have n09:=New.trans n03 (New.trans n4 (New.trans n5 (New.trans n6 (New.trans n7 (New.trans n8 n9)))));clear n03 n4 n5 n6 n7 n8 n9;(repeat' (first|refine qq2 ?_|(refine aa4 (fun _=>?_) (fun _=>?_)<;>(first|(exfalso;omega)|skip))));refine aX (ps:=[]) (parts:=[]) rfl rfl (by simp [Value.cells]) ?_;refine aj (abR (Pg:=fun _=>True) (G:=⟨[],[],[],[]⟩) (tv:=.slice none 0 0) (cv:=.slice none 0 0) (fv:=.slice none 0 0) (gv:=.slice none 0 0) ⟨cZ,cZ,cZ,cZ⟩ ⟨(fun x hx=>by cases hx),(fun x hx=>by cases hx)⟩) rfl ?_;rintro _ w10 ⟨hr,n10⟩;rw [if_neg (by rw [YC];decide),YC] at hr;subst hr;have Zi:=New.trans n09 n10;clear n09 n10;refine qq5 ?_;refine aX (ps:=[(0,.const (vs yF))]) (parts:=[(0,vs yF)]) rfl rfl (by simp [Value.cells]) ?_;refine bC (R:=rPr) (Pe:=NoB) (y:=(yF,[])) H6 rfl rfl rfl rfl (by omega) (by omega) fun v1 w11 o1 n11 s1 e1=>?_;obtain ⟨a1,c1,rfl,_,_⟩:=o1.form;refine aX (ps:=[(0,.const (vi (-1))),(2,.tmp 87)]) (parts:=[(0,vi (-1)),(2,.slice a1 1 c1)]) rfl rfl (by simp [Value.cells]) ?_;refine bC (R:=flat noV) (Pe:=NoB) (y:=(⟨-1,[],[(yF,[])]⟩,(a1,1,c1))) Uo rfl rfl rfl rfl (by omega) (by omega) fun v2 w12 o2 n12 s2 e2=>?_;obtain ⟨a2,c2,rfl,_,_⟩:=o2.form;have hT:RdS rNd 3 (fun _=>True) w12 (.slice a2 1 c2) oT:=by have h1:=(o2.rd (nS noV)).mono (Pb':=fun _=>True) (nS noV) fun _ _ _=>trivial;refine MO (R':=rNd) (fun p:Nd×SV=>p.1) h1 fun x hx cs hcs=>⟨svV x.2,hcs,?_⟩;simp only [aqF,aqG,or_false] at hx;subst hx;exact ((o1.new (nK pC) n12).rd (nS pC)).mono (nS pC) fun _ _ _=>trivial
 have ab4:=New.trans Zi (New.trans n11 n12);clear o1 o2 n11 n12 Zi;refine aX (ps:=[(0,.tmp 89)]) (parts:=[(0,.slice a2 1 c2)]) rfl rfl (by simp [Value.cells]) ?_;refine aj (abR (Pg:=fun _=>True) (G:=oG) (cv:=.slice none 0 0) (fv:=.slice none 0 0) (gv:=.slice none 0 0) ⟨hT,cZ,cZ,cZ⟩ ⟨(fun x hx=>by cases hx),(fun x hx=>by cases hx)⟩) rfl ?_;rintro _ w13 ⟨hr,n13⟩;rw [if_pos abV] at hr;obtain ⟨bb,rfl,hB⟩:=hr;have ZC:=n13.size;have alP:=ab4.size;obtain ⟨lo,hlo⟩: ∃n,n=w12.heap.size:=⟨_,rfl⟩;rw [<-hlo] at hB;have ajp:=New.trans ab4 n13;clear ab4 n13 hT;refine qq5 ?_;refine aj (Un Ak hB) rfl ?_;rintro _ w14 ⟨v,rfl,ov,VQ,c14⟩;rw [ajo] at VQ ⊢;clear ov hB;dsimp only at VQ ⊢;refine qq5 ?_;refine aj (aes (i:=0) Ak VQ) rfl ?_;rintro _ w15 ⟨v',rfl,ov,ZW,c15⟩;rw [oWk] at ZW ⊢;clear ov VQ;dsimp only at ZW ⊢;refine qq5 ?_;refine aj (Yv (i:=1) Ak ZW) rfl ?_;rintro _ w16 ⟨v'',rfl,ov,ZX,c16⟩;rw [aez] at ZX ⊢;clear ov ZW;dsimp only at ZX ⊢;have YI:Chg (fun b=>lo<=b) w13 w16:=Chg.trans c14 (Chg.trans c15 c16 i3) i3;clear c14 c15 c16;have aib:=YI.size;refine qq5 ?_;refine eY (f:=vs) (y0:=([]:Nm)) (Pe:=NoB) rfl rfl rfl (by omega) (by omega) (by omega) fun sv w17 o17 n17=>?_;have am0:=n17.size;refine aj (P5 (refuse:=aok (513:Int).toNat []) (wakes:=[]) Ak ZX n17 (fun b hb=>by show lo<=b;omega) ((o17.rd rP.mo).mono rP.mo fun b _ e=>e.elim id fun e=>e.elim) cZ (Jq rfl (.inl (by decide)))) rfl ?_;rintro _ w18 ⟨xa,xc,rfl,aeD,c18⟩;have aar:Chg (fun b=>lo<=b) w13 w18:=Chg.trans YI (Chg.trans n17.any c18 i3) i3;clear ZX o17 n17 c18 YI;refine qq6 ?_;refine Wl.alloc fun w19 b1 n1 s1=>?_;refine aH (new:=oC false false 0 (.slice xa 0 xc)) b1 rfl rfl rfl rfl zl4 oC1 fun w20 b1' c1 s1'=>?_;replace b1':Bk w20 w18.heap.size 59 (oC false false 0 (.slice xa 0 xc)):=b1';have m1:New w18 w20:=(Chg.trans n1.any c1 i3).tN
 have aeE:=aeD.new m1;have YJ:Chg (fun b=>lo<=b) w13 w20:=Chg.trans aar m1.any i3;have aid:=YJ.size;clear aeD b1 b1' n1 s1 s1' c1 m1 aar;refine qq4 ?_;refine Wl.aeC (R:=flat wkC) (m:=513) ((0:Int),([]:Nm)) (by intros;rfl) rfl rfl (by decide) (by decide) fun w21 o21 n21 s21=>?_;refine aj (P5 (refuse:=[]) (wakes:=aok 513 ((0:Int),([]:Nm))) Ak aeE n21 (fun b hb=>by show lo<=b;omega) cZ ((o21.rd (nS _)).mono (nS _) fun b _ e=>e.elim (fun e=>by show w20.heap.size<=b;omega) fun e=>e.elim) (Jq rfl (.inr (.inl (by decide))))) rfl ?_;rintro _ w22 ⟨ya,yc,rfl,aeF,c22⟩;have aas:Chg (fun b=>lo<=b) w13 w22:=Chg.trans YJ (Chg.trans n21.any c22 i3) i3;clear aeE o21 n21 c22 YJ s21;refine qq6 ?_;refine Wl.alloc fun w23 b2 n2 s2=>?_;refine aH (new:=oC false false 0 (.slice ya 0 yc)) b2 rfl rfl rfl rfl zl4 oC1 fun w24 b2' c2 s2'=>?_;replace b2':Bk w24 w22.heap.size 59 (oC false false 0 (.slice ya 0 yc)):=b2';have m2:New w22 w24:=(Chg.trans n2.any c2 i3).tN
 have aeG:=aeF.new m2;have YK:Chg (fun b=>lo<=b) w13 w24:=Chg.trans aas m2.any i3;have am1:=YK.size;clear aeF b2 b2' n2 s2 s2' c2 m2 aas;refine qq4 ?_;refine aX (ps:=[(0,.const (vi (-1))),(1,.const (vs [47]))]) (parts:=[(0,vi (-1)),(1,vs [47])]) rfl rfl (by simp [Value.cells]) ?_;refine bC (R:=flat wkC) (Pe:=NoB) (y:=((-1:Int),[47])) MG rfl rfl rfl rfl (by omega) (by omega) fun v25 w25 o25 n25 s25 e25=>?_;refine aj (P5 (refuse:=[]) (wakes:=[((-1:Int),[47])]) Ak aeG n25 (fun b hb=>by show lo<=b;omega) cZ ((o25.rd (nS _)).mono (nS _) fun b _ e=>e.elim id fun e=>e.elim) (Jq rfl (.inr (.inr ⟨_,ap2,by decide⟩)))) rfl ?_;rintro _ w26 ⟨za,zc,rfl,aeH,c26⟩;have aat:Chg (fun b=>lo<=b) w13 w26:=Chg.trans YK (Chg.trans n25.any c26 i3) i3;clear aeG o25 n25 c26 YK s25 e25;refine qq6 ?_;refine Wl.alloc fun w27 b3 n3 s3=>?_;refine aH (new:=oC false false 0 (.slice za 0 zc)) b3 rfl rfl rfl rfl zl4 oC1 fun w28 b3' c3 s3'=>?_;replace b3':Bk w28 w26.heap.size 59 (oC false false 0 (.slice za 0 zc)):=b3';have m3:New w26 w28:=(Chg.trans n3.any c3 i3).tN
 have aeI:=aeH.new m3;have YL:Chg (fun b=>lo<=b) w13 w28:=Chg.trans aat m3.any i3;have am2:=YL.size;clear aeH b3 b3' n3 s3 s3' c3 m3 aat;refine qq4 ?_;refine aX (ps:=[(0,.const (vi 2)),(1,.const (vs [47]))]) (parts:=[(0,vi 2),(1,vs [47])]) rfl rfl (by simp [Value.cells]) ?_;refine aX (ps:=[(0,.const (vi 1)),(1,.const (vs [47]))]) (parts:=[(0,vi 1),(1,vs [47])]) rfl rfl (by simp [Value.cells]) ?_;refine iE (R:=flat wkC) (N:=2) (ps:=[(0,.tmp 130),(1,.tmp 131)]) (xs:=[((2:Int),[47]),((1:Int),[47])]) (us:=[.agg (wkC ((2:Int),[47])).toArray,.agg (wkC ((1:Int),[47])).toArray]) (Pe:=NoB) MG rfl rfl ⟨rfl,rfl,rfl,rfl,trivial⟩ (by simp) (by simp) fun v29 w29 o29 n29 s29 e29=>?_;refine aj (P5 (refuse:=[]) (wakes:=[((2:Int),[47]),((1:Int),[47])]) Ak aeI n29 (fun b hb=>by show lo<=b;omega) cZ ((o29.rd (nS _)).mono (nS _) fun b _ e=>e.elim (fun e=>by show w28.heap.size<=b;omega) fun e=>e.elim) abX) rfl ?_;rintro _ w30 ⟨pa,pc,rfl,aeJ,c30⟩;have YM:Chg (fun b=>lo<=b) w13 w30:=Chg.trans YL (Chg.trans n29.any c30 i3) i3;have am3:=YM.size;clear aeI o29 n29 c30 YL s29 e29;rw [show (upS [0]++dnS [0]).length=2 from rfl];refine qq6 ?_;refine Wl.alloc fun w31 b4 n4 s4=>?_;refine aH (new:=oC false true 0 (.slice pa 2 pc)) b4 rfl rfl rfl rfl zl4 oC1 fun w32 b4' c4 s4'=>?_;replace b4':Bk w32 w30.heap.size 59 (oC false true 0 (.slice pa 2 pc)):=b4';have m4:New w30 w32:=(Chg.trans n4.any c4 i3).tN
 have abr:=b4'.lt;have hz32:=m4.size;have aeK:BdH oG bd0 (fun b=>lo<=b/\b≠w30.heap.size) bb w32:=(aeJ.mono fun b hb e=>⟨e,by omega⟩).new m4;have aau:Chg (fun b=>lo<=b) w13 w32:=Chg.trans YM m4.any i3;clear aeJ b4 n4 s4 s4' c4 m4 YM;refine qq4 ?_;refine aX (ps:=[(0,.const (vi 2)),(1,.const (vs [47]))]) (parts:=[(0,vi 2),(1,vs [47])]) rfl rfl (by simp [Value.cells]) ?_;refine bC (R:=flat wkC) (Pe:=NoB) (y:=((2:Int),[47])) MG rfl rfl rfl rfl (by omega) (by omega) fun v33 w33 o33 n33 s33 e33=>?_;refine aj (P5 (refuse:=[]) (wakes:=[((2:Int),[47])]) Ak aeK n33 (fun b hb=>⟨by omega,by omega⟩) cZ ((o33.rd (nS _)).mono (nS _) fun b _ e=>e.elim id fun e=>e.elim) abY) rfl ?_;rintro _ w34 ⟨qa,qc,rfl,aeL,c34⟩;have Us:=Chg.trans (M:=fun b=>lo<=b/\b≠w30.heap.size) n33.any c34 i3;have aeM:=b4'.chg Us fun e=>e.2 rfl;have aav:Chg (fun b=>lo<=b) w13 w34:=Chg.trans aau Us fun _ _ e=>e.1;have am4:=Us.size;clear aeK o33 n33 c34 aau s33 e33 b4' Us;refine qq6 ?_;refine Wl.alloc fun w35 b5 n5 s5=>?_;refine aH (new:=oC true false (-1) (.slice qa (upS [0]).length qc)) b5 rfl rfl rfl rfl zl4 oC1 fun w36 b5' c5 s5'=>?_;replace b5':Bk w36 w34.heap.size 59 (oC true false (-1) (.slice qa (upS [0]).length qc)):=b5';have m5:New w34 w36:=(Chg.trans n5.any c5 i3).tN
 have ajc:=b5'.lt;have aiN:=m5.size;have ajq:=aeM.chg m5 id;have aeN:BdH oG ⟨qU bd0.a (upS [0]),[0],true⟩ (fun b=>lo<=b/\b≠w30.heap.size/\b≠w34.heap.size) bb w36:=(aeL.mono fun b hb e=>⟨e.1,e.2,by omega⟩).new m5;have aeO:Chg (fun b=>lo<=b) w13 w36:=Chg.trans aav m5.any i3;clear aeL b5 n5 s5 s5' c5 m5 aav aeM;refine qq4 ?_;refine aj (Yv (i:=0) Ak aeN) rfl ?_;rintro _ w37 ⟨v37,rfl,ov,ab5,c37⟩;rw [aeA rfl] at ab5 ⊢;clear ov aeN;dsimp only at ab5 ⊢;have ab6:=ajq.chg c37 fun e=>e.2.1 rfl;have ajr:=b5'.chg c37 fun e=>e.2.2 rfl;have aeP:Chg (fun b=>lo<=b) w13 w37:=Chg.trans aeO c37 fun _ _ e=>e.1;(repeat' (first|refine qq3 ?_|(refine bJ rfl rfl (fun _=>?_) (fun _=>?_)<;>(first|(exfalso;omega)|skip))));refine ah (u:=.bool true) rfl (ab6.cell (o:=1) rfl) ?_;refine qq2 ?_;refine ah (u:=vi 0) rfl (ab6.cell (o:=2) rfl) ?_;(repeat' (first|refine qq2 ?_|(refine bJ rfl rfl (fun _=>?_) (fun _=>?_)<;>(first|(exfalso;omega)|skip))));refine ah (u:=.slice pa 2 pc) rfl (ab6.cell (o:=3) rfl) ?_;(repeat' (first|refine qq2 ?_|(refine bJ rfl rfl (fun _=>?_) (fun _=>?_)<;>(first|(exfalso;omega)|skip))));refine ah (u:=.bool true) rfl (ajr.cell (o:=0) rfl) ?_;refine qq5 ?_;refine aj (aex ab5) rfl ?_;rintro _ w38 ⟨rfl,n38⟩;(repeat' (first|refine qq5 ?_|(refine bJ rfl rfl (fun _=>?_) (fun _=>?_)<;>(first|(exfalso;omega)|skip))));refine aj SG rfl ?_;rintro _ w39 ⟨rfl,n39⟩;refine qq3 ?_;exact ak rfl rfl ⟨_,rfl,rfl,(Chg.trans (M:=fun b=>lo<=b) ajp.any (Chg.trans aeP (New.trans n38 n39).any i3) i3).toNew fun k hk e=>by have e:lo<=k:=e;omega⟩
end
end Go.Proofs.YtfbnfhhmiiahnaaGreatDoor
namespace Go.Proofs.YtfbnfhhmiiahnaaGreatDoor
open Go
theorem tt {a b:Bool} (ha:a=true) (hb:b=true):(a&&b)=true:=by rw [ha,hb];rfl
theorem VR {P:Program} {f:FuncId} {fn:Func} {s:ChangeSpec} {c:OpenClaim}
 (h1:c.wf (OpenSpec.ofChange s)=true) (h2:laidOutB P=true) (h3:mapsRowed P=true) (h4:fn.params.all (P.readableRec ·)=true) (h5:namedTie P c.named s.vars=true)
 (h6:(c.stops == [])=true) (h7:(P.stops == [])=true) (h8:(c.knobs == [])=true) (h9:(P.stopKnobs == [])=true)
 (h10:(c.inPlace == P.inPlace f)=true) (h11:(c.unfollowed == P.unfollowed f)=true) (h12:(c.recurses == P.recurses f)=true) (h13:(c.named == P.varsNamed f)=true)
 (h14:(c.maps == (fn.params.toList++s.plain.varTypes P).any (P.mapsRec ·))=true) (h15:(c.ifaces == (fn.params.toList++s.plain.varTypes P).any (P.ifacesRec ·))=true) (h16:(c.mapsOut == P.mapsAmong fn.resultTypes.toList)=true)
 (h17:(c.loops == (fn.params.toList++s.plain.varTypes P).any (P.loopsFrom ·))=true) (h18:(c.wideKeys == (fn.params.toList++s.plain.varTypes P++fn.resultTypes.toList).any (P.wideKeysFrom ·))=true)
 (h19:s.vars.all (P.varReadable ·)=true) (h20:fn.resultTypes.all (fun t=>P.readableRec t&&decide (t<P.types.size))=true) (h21:(c.ifacesOut == fn.resultTypes.toList.any (P.ifacesRec ·))=true) (h22:(c.loopsOut == fn.resultTypes.toList.any (P.loopsFrom ·))=true)
 (h23:(c.plainKeys == P.plainKeys)=true) (h24:c.shortTexts.isNone=true) (h25:P.stopsHeard=true) (h26:P.mayEnter=true) (h27:(c.lifted == P.liftsFinal)=true) (h28:(P.make == some c.make)=true)
 (h29:(c.kinds == (if c.domain.isEmpty then [] else fn.params.toList.map fun t=>match P.underlying t with|some (.int k)=>some k|_=>none))=true) (h30:(c.pinned == c.pinnedBy)=true)
 (h31:(c.veiled == (fn.params.toList++s.plain.varTypes P++fn.resultTypes.toList).any (P.veiledRec ·))=true) (h32:c.veiledFits P fn.params.toList (fn.params.toList++s.plain.varTypes P++fn.resultTypes.toList)=true):joinedFacts P f fn s c=true:=by
 unfold joinedFacts;exact tt (tt (tt (tt (tt (tt (tt (tt (tt (tt (tt (tt (tt (tt (tt (tt (tt (tt (tt (tt (tt (tt (tt (tt (tt (tt (tt (tt (tt (tt (tt h1 h2) h3) h4) h5) h6) h7) h8) h9) h10) h11) h12) h13) h14) h15) h16) h17) h18) h19) h20) h21) h22) h23) h24) h25) h26) h27) h28) h29) h30) h31) h32
theorem aeQ:mapsRowed prog=true:=by kernel_rfl
theorem aeR:laidOutB prog=true:=by kernel_rfl
theorem ajs:prog.mayEnter=true:=by kernel_rfl
theorem ab7:prog.stopsHeard=true:=by kernel_rfl
end Go.Proofs.YtfbnfhhmiiahnaaGreatDoor
