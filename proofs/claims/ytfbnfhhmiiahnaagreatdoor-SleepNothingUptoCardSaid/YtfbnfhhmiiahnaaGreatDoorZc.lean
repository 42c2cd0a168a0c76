/-
  Texts of this claim, one behind the other: BD, BK, Mp, Mq, At, Lo, BO, BF, C1, D1, C2, C3, BL, C4, Hk, SrksortC, Sc, C5, Qp, D2, S1, S2, S3, S4, S5, S6, S7.
-/
import Derived.Test.YtfbnfhhmiiahnaaGreatDoorZb
import Derived.Laws.StructEq
import Derived.ChangeKeysEq
import Derived.Shelf.GgSortFunc.RowK
import Derived.Shelf.SlSortCmp.NoneTotal
import Derived.Ground.SlsfProg
import Derived.Test.YtfbnfhhmiiahnaaGreatDoorProg
set_option linter.all false
set_option maxHeartbeats 16000000
set_option maxRecDepth 8000
open Nat renaming le_refl → aat,zero_add → acL,zero_le → aoZ,succ_mul → aqZ,add_sub_cancel → aqF,min_eq_right → aq1,mul_comm → apz,mod_lt → aq6,sub_self → aq7,zero_mul → apw,min_eq_left → aoT,mul_one → ao7,add_mul → aaJ,add_zero → apn,eq_zero_or_pos → apy,div_lt_of_lt_mul → arj,div_add_mod → ark,mul_le_mul_right → aaI,add_sub_cancel_left → arp
open List renaming length_append → adL,mem_of_getElem? → apD,length_take → apb,append_assoc → adI,length_singleton → apm,take_length → apZ,length_drop → apt,length_cons → aph,getElem?_append_right → aoO,append_nil → aqJ,drop_length → aqi,getElem?_take → aav,length_map → aqt,getElem?_eq_none → aoS,length_set → aqY,take_of_length_le → apl,length_nil → apK,getElem?_map → apF,ext_getElem? → ao6,getElem?_drop → ack,getElem?_eq_getElem → adK,length → aq0,mem_cons_of_mem → aqd,flatMap_cons → aqh,getElem?_range → aq3,map_cons → acK,range → abS,getElem?_cons_succ → aq4,getElem?_cons_zero → aq5,drop_drop → apM,drop_zero → apk,length_concat → aq8,sublist_append_left → aq9,sublist_append_right → ara,map_toArray → adM,getElem?_set → apo,eq_nil_of_length_eq_zero → aoP,map_append → aqn,length_mergeSort → ard,lt_irrefl → arf,drop_of_length_le → arh,getD_eq_getElem?_getD → apJ,all_eq_true → aqS,getElem?_append_left → aoY,nil_append → aoQ,flatMap_append → arl,drop_succ_cons → arn,mem_of_mem_drop → aro,lt_trans → aqO,perm_append_comm → arq,mem_append → ars
open Int renaming toNat_natCast → ao3
open Option renaming map_some → adJ,isSome → arb,map_map → ari
open Array renaming getElem?_toList → aq2,getD_eq_getD_getElem? → acf,getElem?_modify → aqp,getElem?_eq_getElem → aaW,replicate → ao1,getElem?_append_left → aqw
open Bool renaming and_eq_true → ao0
open Go.Proofs.Tryz
namespace Go.Proofs.YtfbnfhhmiiahnaaGreatDoor
open Go Wk
open Go.RowKit (Below)
attribute [local irreducible] Go.Calls
theorem PV {w:World} {va vb:Value} {a b:Cd}:
 Calls prog 114 #[.agg (cdC a va).toArray,.agg (cdC b vb).toArray] w (Ret fun r w'=>r=.bool (better a b)/\New w w'):=by
 unfold better;refine oI func114 rfl ntmps114 rfl ?_;refine qq0 ?_;refine Wl.box rfl (fun w1 b1 n1 s1=>?_);replace b1:Bk w1 w.heap.size 79 (cdC a va):=b1;refine Wl.box rfl (fun w2 b2 n2 s2=>?_);replace b2:Bk w2 w1.heap.size 79 (cdC b vb):=b2;replace b1:=b1.chg n2 id;replace n2:=New.trans n1 n2;refine qq2 ?_;refine ah (u:=.int .i8 a.score) rfl (b1.cell (o:=4) rfl) ?_;(repeat' (refine aa5 ?_));refine ah (u:=.int .i8 b.score) rfl (b2.cell (o:=4) rfl) ?_;(repeat' (first|refine qq4 ?_|refine aa4 (fun _=>?_) (fun _=>?_)))
 ·refine ah (u:=.int .i8 a.score) rfl (b1.cell (o:=4) rfl) ?_;(repeat' (refine aa5 ?_));refine ah (u:=.int .i8 b.score) rfl (b2.cell (o:=4) rfl) ?_;rw [if_neg (by assumption)];(repeat' (first|refine qq6 ?_|refine aW rfl rfl (fun _=>?_) (fun _=>?_)))
  ·rw [decide_eq_true (by omega)];exact ay rfl rfl ⟨_,rfl,rfl,n2⟩
  ·rw [decide_eq_false (by omega)];exact ay rfl rfl ⟨_,rfl,rfl,n2⟩
 ·refine ah (u:=vs a.name) rfl (b1.cell (o:=0) rfl) ?_;(repeat' (refine aa5 ?_));refine ah (u:=vs b.name) rfl (b2.cell (o:=0) rfl) ?_;rw [if_pos (by omega)];refine kJ rfl rfl (fun h=>?_) (fun h=>?_)
  ·rw [decide_eq_true h];refine qq6 ?_;exact ay rfl rfl ⟨_,rfl,rfl,n2⟩
  ·rw [decide_eq_false h];refine qq6 ?_;exact ay rfl rfl ⟨_,rfl,rfl,n2⟩
def zQ:Option (Nat×Nat)->List Value
 |some p=>[vi p.1,vi p.2]
 |none=>[vi (-1),vi 0]
abbrev JQ:TypeId:=160
theorem WG {w:World}:Calls prog 115 #[] w (Ret fun r w'=>r=.agg (zQ none).toArray/\New w w'):=by
 refine oI func115 rfl ntmps115 rfl ?_;refine qq0 ?_;refine Wl.alloc fun w1 b1 n1 s1=>?_;replace b1:Bk w1 w.heap.size JQ [vi 0,vi 0]:=b1;refine qq2 ?_;refine bJ (ps:=[(0,.const (vi (-1)))]) (parts:=[(0,vi (-1))]) rfl rfl (by simp [Value.cells]) ?_;refine aK (u:=.agg #[vi (-1),vi 0]) (new:=[vi (-1),vi 0]) b1 rfl rfl rfl rfl (aat 2) (by simp;exact ⟨rfl,rfl⟩) fun w2 b2 c2 s2=>?_;replace b2:Bk w2 w.heap.size JQ [vi (-1),vi 0]:=b2;refine qq1 ?_;exact eY (yG (a:=.cell 0 JQ) rfl (rY rfl rfl b2 rfl)) ⟨_,rfl,rfl,(Chg.trans n1.any c2 i3).tN⟩
def qC:Option Nat->Int
 |some k=>k
 |none=> -1
theorem WH {Pb Pt:Nat->Prop} {w:World} {v u:Value} {cs:List Cd} {ts:List Nm} (h:RdS rCd 7 Pb w v cs) (ht:RdS (Wk.one vs) 1 Pt w u ts):
 Calls prog 85 #[v,u] w (Ret fun r w'=>r=.agg (zQ (yD cs ts)).toArray/\New w w'):=by
 obtain ⟨a,cap,rfl,hc1,hc2⟩:=h.form;obtain ⟨a2,cap2,rfl,hd1,hd2⟩:=ht.form;simp only [maxLen] at hc2 hd2;unfold yD;refine oI func85 rfl ntmps85 rfl ?_;refine qq0 ?_;refine Wl.alloc fun w1 b1 n1 s1=>?_;replace b1:Bk w1 w.heap.size JQ [vi 0,vi 0]:=b1;refine qq4 ?_;refine aC (σ:=Nat) (fun k=>[(0,.slice a cs.length cap),(4,.pointer (some ⟨w.heap.size,0,none⟩)),(10,.slice a2 ts.length cap2),(11,vi ts.length),(12,vi k)]) (fun k W=>k<=ts.length/\Ee cs 0 ts=Ee cs k (ts.drop k)/\New w1 W) (fun k=>ts.length-k) 0 (sl rfl) ⟨aoZ _,rfl,aB _ _⟩ ?_;rintro k G W ⟨hk,hgo,nW⟩;simp only [ql];have bW:=b1.chg nW id;have n0W:=New.trans n1 nW;have hzW:=n0W.size;(repeat' (first|refine qq2 ?_|refine aa2 (fun _=>?_) (fun _=>?_)))
 ·obtain ⟨s,hs⟩:=pz ts (k:=k) (by omega);rw [drop_cons hs] at hgo;simp only [Ee,UN] at hgo;refine bC (ht.keep (pF _) n0W.keep) rfl rfl (by omega) hs fun b o hcell=>?_;refine ah (u:=vs s) rfl hcell ?_;(repeat' (first|refine aa7 ?_|refine ak ?_|refine aT ?_));refine aP ?_;(repeat' (first|refine aa7 ?_|refine ak ?_|refine aT ?_|refine aU ?_));refine eX (fun F W2=>agrees F [(0,.slice a cs.length cap),(4,.pointer (some ⟨w.heap.size,0,none⟩)),(5,vi k),(7,vi (qC (vZ cs s 0 none cs))),(10,.slice a2 ts.length cap2),(11,vi ts.length),(12,vi k)]/\New w1 W2) ?_ ?_
  ·(repeat' (first|refine aa1 ?_|refine ak ?_|refine cu rfl ?_|refine aT ?_|refine aP ?_|refine aU ?_|refine Wc.block ?_));refine aC (σ:=Nat×Option Nat) (fun q=>[(0,.slice a cs.length cap),(4,.pointer (some ⟨w.heap.size,0,none⟩)),(5,vi k),(6,vs s),(7,vi (qC q.2)),(10,.slice a2 ts.length cap2),(11,vi ts.length),(12,vi k),(17,.slice a cs.length cap),(18,vi cs.length),(19,vi q.1)]) (fun q W2=>q.1<=cs.length/\(∀j,q.2=some j->j<cs.length)/\vZ cs s 0 none cs=vZ cs s q.1 q.2 (cs.drop q.1)/\New w1 W2) (fun q=>cs.length-q.1) (0,none) (sl rfl) ⟨aoZ _,by simp,rfl,nW⟩ ?_;rintro ⟨i,best⟩ G2 W2 ⟨hi,hb,hbg,n2⟩;dsimp only at hi hb hbg n2;simp only [ql];have n02:=New.trans n1 n2;have hz2:=n02.size;(repeat' (first|refine aa1 ?_|refine ak ?_|refine aT ?_|refine aP ?_|refine aU ?_|refine Wc.block ?_|refine Wc.skip ?_|refine fA ?_|refine fB ?_|refine dO ?_|refine dS ?_|refine bT rfl ?_|refine dm rfl ?_|refine aa2 (fun _=>?_) (fun _=>?_)))
   ·obtain ⟨c,hc⟩:=pz cs (k:=i) (by omega);rw [drop_cons hc] at hbg;simp only [vZ] at hbg;refine aO (h.keep rG n02.keep) rfl rfl (by omega) hc fun b o cs' hl hR hat=>?_;obtain ⟨cv,rfl,hcv⟩:=hR;refine aS hat rfl rfl ?_;refine Wl.alloc fun w3 b3 n3 s3=>?_;(repeat' (refine aa7 ?_));refine aK (new:=cdC c cv) b3 rfl rfl rfl rfl zl7 (YB.oc _ W2 c _ ⟨cv,rfl,hcv⟩ rfl) fun w4 b4 c4 s4=>?_;have n24:New W2 w4:=(Chg.trans n3.any c4 i3).tN
    have n14:=New.trans n2 n24;have n04:=New.trans n1 n14;replace b4:Bk w4 W2.heap.size 79 (cdC c cv):=b4;have aaL:=hcv.keep (pF _) n24.keep;have h4:=h.keep rG n04.keep;clear b3 n3 c4;obtain ⟨ca,cc,rfl,_,_⟩:=aaL.form;have nx: ∀(nb:Option Nat) (w':World) (G3:Fr),New w1 w'->(∀j,nb=some j->j<cs.length)->vZ cs s 0 none cs=vZ cs s (i+1) nb (cs.drop (i+1))->(i+1<=cs.length/\(∀j,nb=some j->j<cs.length)/\vZ cs s 0 none cs=vZ cs s (i+1) nb (cs.drop (i+1))/\New w1 w'):=fun nb w' _ q1 q2 q3=>⟨by omega,q2,q3,q1⟩;(repeat' (first|refine ak ?_|refine aT ?_|refine aP ?_));refine aX rfl (by kernel_rfl) (fun w'=>New w4 w') (Chg.drew _ _) ?_;intro w5 n5;(repeat' (refine aa0 (aa6 (af ?_))));refine aa0 (ax (u:=.slice ca c.compat.length cc) rfl (fun w' hw=>(b4.chg hw id).cell (o:=3) rfl) (af ?_));(repeat' (refine aa0 (aa3 (af ?_))));refine aH rfl (au (yH (s:=s) (aaL.keep (pF _) n5.keep)) rfl ?_);rintro _ _ ⟨rfl,rfl⟩;refine ak ⟨rfl,n5,?_⟩;cases hcn:c.compat.contains s
    ·rw [hcn,if_neg (fun e=>by cases e.1)] at hbg;(repeat' (first|refine bG ?_|refine gq rfl rfl (by assumption) ?_|refine lS rfl (by assumption) ?_|refine aa0 (aa3 (af ?_))|refine aa0 (fC rfl (by conv=>{lhs;whnf}) (af ?_))));refine DY ?_;exact aA (i+1,best) (sl rfl) (nx _ _ G2 (New.trans n14 n5) hb hbg) (by dsimp only;omega)
    ·cases best with
     |none=>rw [if_pos ⟨hcn,fun j e=>by cases e⟩] at hbg;(repeat' (first|refine bG ?_|refine bM rfl rfl ?_|refine gq rfl rfl (by assumption) ?_|refine aa0 (aa3 (af ?_))|refine aa0 (dI rfl (by conv=>{lhs;whnf}) (af ?_))|(refine aa0 (dQ rfl rfl (fun _=>af ?_) (fun _=>af ?_))<;>(first|(exfalso;contradiction)|skip))));refine DY ?_;exact aA (i+1,some i) (sl rfl) (nx _ _ G2 (New.trans n14 n5) (fun j e=>by cases e;omega) hbg) (by dsimp only;omega)
     |some j=>
      have hj:=hb j rfl;obtain ⟨d,hd⟩:=pz cs hj;have hjd:cs.getD j default=d:=by rw [apJ,hd];rfl
      rw [show qC (some j)=(j:Int) from rfl];(repeat' (first|refine bM rfl rfl ?_|refine aa0 (aa3 (af ?_))|(refine aa0 (dQ rfl rfl (fun _=>af ?_) (fun _=>af ?_))<;>(first|(exfalso;omega)|skip))));refine aa0 (bK (fun w' hw=>(b4.chg hw id).at) rfl rfl (af ?_));(repeat' (first|refine bM rfl rfl ?_|refine aa0 (aa3 (af ?_))));refine aa0 (aY (j:=j) (y:=d) h4 (fun w' hw=>Chg.keep hw fun _ _ _ e=>e) rfl rfl (by omega) hd fun bb off cs' hcl hR hat=>af ?_);obtain ⟨dv,rfl,_⟩:=hR;(repeat' (refine bM rfl rfl ?_));refine aa0 (bK hat rfl rfl (af ?_));clear hat;(repeat' (refine bM rfl rfl ?_));refine aH rfl (au (PV (a:=c) (b:=d)) rfl ?_);rintro _ w6 ⟨rfl,n6⟩;refine ak ⟨rfl,New.trans n5 n6,?_⟩;have n16:=New.trans n14 (New.trans n5 n6);cases hbt:better c d
      ·rw [if_neg (fun e=>by have:=e.2 j rfl;rw [hjd,hbt] at this;cases this)] at hbg;(repeat' (first|refine bG ?_|refine bM rfl rfl ?_|refine aa0 (dI rfl (by conv=>{lhs;whnf}) (af ?_))|refine aa0 (fC rfl (by conv=>{lhs;whnf}) (af ?_))));refine DY ?_;exact aA (i+1,some j) (sl rfl) (nx _ _ G2 n16 hb hbg) (by dsimp only;omega)
      ·rw [if_pos ⟨hcn,fun q e=>by cases e;rw [hjd,hbt]⟩] at hbg;(repeat' (first|refine bG ?_|refine bM rfl rfl ?_|refine aa0 (dI rfl (by conv=>{lhs;whnf}) (af ?_))|refine aa0 (fC rfl (by conv=>{lhs;whnf}) (af ?_))));refine DY ?_;exact aA (i+1,some i) (sl rfl) (nx _ _ G2 n16 (fun j e=>by cases e;omega) hbg) (by dsimp only;omega)
   ·obtain rfl:i=cs.length:=by omega
    rw [aqi] at hbg;simp only [vZ] at hbg;exact cO ⟨⟨rfl,rfl,rfl,by rw [hbg];rfl,rfl,rfl,rfl,trivial⟩,n2⟩
  ·rintro F W2 ⟨ag,n2⟩;refine Wc.frame _ ag fun G2=>?_;clear ag;simp only [ql];have bW2:=b1.chg n2 id;cases hbs:vZ cs s 0 none cs with
   |none=>rw [hbs] at hgo;dsimp only at hgo;unfold qC;(repeat' (first|refine qq3 ?_|(refine aV rfl rfl (fun _=>?_) (fun _=>?_)<;>(first|(exfalso;contradiction)|skip))));exact aA (k+1) (sl rfl) ⟨by omega,hgo,n2⟩ (by omega)
   |some i=>rw [hbs] at hgo;dsimp only at hgo;rw [hgo];unfold qC;(repeat' (first|refine qq4 ?_|(refine aV rfl rfl (fun _=>?_) (fun _=>?_)<;>(first|(exfalso;contradiction)|skip))));refine bJ (ps:=[(0,.tmp 44),(1,.tmp 45)]) (parts:=[(0,vi i),(1,vi k)]) rfl rfl (by simp [Value.cells]) ?_;refine aK (u:=.agg #[vi i,vi k]) (new:=[vi i,vi k]) bW2 rfl rfl rfl rfl (aat 2) (by simp;exact ⟨rfl,rfl⟩) fun w3 b3 c3 s3=>?_;replace b3:Bk w3 w.heap.size JQ [vi i,vi k]:=b3;refine qq1 ?_;exact eY (yG (a:=.cell 4 JQ) rfl (rY rfl rfl b3 rfl)) ⟨_,rfl,rfl,(Chg.trans (New.trans n1 n2).any c3 i3).tN⟩
 ·obtain rfl:k=ts.length:=by omega
  rw [aqi] at hgo;rw [hgo];refine au WG rfl ?_;rintro _ w2 ⟨rfl,n2⟩;replace bW:=bW.chg n2 id;refine aK (u:=.agg (zQ none).toArray) (new:=zQ none) bW rfl rfl rfl rfl (aat 2) (by simp [zQ];exact ⟨rfl,rfl⟩) fun w3 b3 c3 s3=>?_;replace b3:Bk w3 w.heap.size JQ (zQ none):=b3;refine qq1 ?_;exact eY (yG (a:=.cell 4 JQ) rfl (rY rfl rfl b3 rfl)) ⟨_,rfl,rfl,(Chg.trans (New.trans n0W n2).any c3 i3).tN⟩
abbrev SI:Rel (Option (Nat×Nat)):=flat zQ
theorem Fj:rF SI 2:=rC zQ (fun x=>by cases x<;>rfl) (fun x c hc=>by cases x<;>simp [zQ] at hc<;>rcases hc with rfl|rfl<;>rfl)
theorem WI {cs:List Cd} {t:List Nd} {i:Nat} (hi:i<t.length):(allM cs t).take (i+1)=(allM cs t).take i++ [yD cs (uj t i)]:=by
 refine take_snoc ?_;unfold allM;rw [apF,aq3 hi];rfl
theorem PW (cs:List Cd) (t:List Nd):(allM cs t).length=t.length:=by unfold allM;simp
theorem PX {Pb Pt:Nat->Prop} {w:World} {v u:Value} {cs:List Cd} {t:List Nd} (h:RdS rCd 7 Pb w v cs) (ht:RdS rNd 3 Pt w u t) (hc:vG cs=true) (hok:pM t=true):
 Calls prog 58 #[v,u] w (Ret fun r w'=>(∃q,r=.tuple #[q,vi 0]/\oP SI JQ 2 (fun b=>w.heap.size<=b) NoB w' q (allM cs t))/\New w w'):=by
 obtain ⟨a,cap,rfl,hc1,hc2⟩:=h.form;obtain ⟨a2,cap2,rfl,hd1,hd2⟩:=ht.form;have hlen:=qo hok;refine oI func58 rfl ntmps58 rfl ?_;refine qq2 ?_;refine au (SH h) rfl ?_;rintro _ w1 ⟨rfl,n1⟩;unfold JP;rw [if_pos hc];(repeat' (first|refine qq4 ?_|(refine aa4 (fun _=>?_) (fun _=>?_)<;>(first|(exfalso;omega)|skip))));refine au (wS (ht.keep pU n1.keep)) rfl ?_;rintro _ w2 ⟨rfl,n2⟩;replace n2:=New.trans n1 n2;unfold H9;rw [if_pos hok];(repeat' (first|refine qq4 ?_|(refine aa4 (fun _=>?_) (fun _=>?_)<;>(first|(exfalso;omega)|skip))));refine jC (R:=SI) (Pe:=NoB) (c:=(t.length:Int)) rfl rfl (by omega) (by omega) (by omega) fun v3 w3 o3 n3=>?_;replace n3:=New.trans n2 n3;have hz2:=n2.size;refine qq4 ?_;refine aC (σ:=Nat×Value) (fun s=>[(0,.slice a cs.length cap),(1,.slice a2 t.length cap2),(9,s.2),(30,vi t.length),(31,vi s.1)]) (fun s W=>s.1<=t.length/\oP SI JQ 2 (fun b=>w.heap.size<=b) NoB W s.2 ((allM cs t).take s.1)/\New w W) (fun s=>t.length-s.1) (0,v3) (sl rfl) ⟨aoZ _,o3.mono Fj.mo (fun b _ hb=>by omega) i3,n3⟩ ?_;rintro ⟨i,q⟩ G W ⟨hi,own,nW⟩;dsimp only at hi own nW;simp only [ql];have hzW:=nW.size;obtain ⟨qa,qc,rfl,_,_⟩:=own.form;(repeat' (first|refine qq2 ?_|refine aa2 (fun _=>?_) (fun _=>?_)))
 ·refine au (PD (i:=i) (ht.keep pU nW.keep) hok (by omega)) rfl ?_;rintro _ w4 ⟨⟨tv,rfl,o4⟩,n4⟩;have n04:=New.trans nW n4;obtain ⟨ta,tc,rfl,_,_⟩:=o4.form;refine qq8 ?_;refine au (WH (h.keep rG n04.keep) (o4.rd qU.mo)) rfl ?_;rintro _ w5 ⟨rfl,n5⟩;have n45:=New.trans n4 n5;refine bZ (R:=SI) (y:=yD cs (uj t i)) Fj (own.new (oH zQ) n45) rfl rfl rfl (by cases yD cs (uj t i)<;>rfl) rfl (by omega) (by omega) (by simp only [maxLen,apb];omega) (by simp only [apb];omega) rfl rfl fun v6 w6 p o6 c6 lie=>?_;have n6:New w w6:=Chg.trans (New.trans nW n45) c6 fun k hk e=>by have:=(own.lt e).1;omega
  rw [<-WI (by omega)] at o6;refine qq4 ?_;refine aA (i+1,v6) (sl rfl) ⟨by dsimp only;omega,o6.mono Fj.mo (fun b _ hb=>by have:=n45.size;rcases hb with hb|hb<;>omega) i3,n6⟩ (by dsimp only;omega)
 ·obtain rfl:i=t.length:=by omega
  have e:List.take t.length (allM cs t)=allM cs t:=by rw [<-PW cs t,apZ]
  rw [e] at own ⊢;exact aG rfl rfl rfl ⟨_,rfl,⟨_,rfl,own⟩,nW⟩
theorem SK {Pb:Nat->Prop} {w:World} {v:Value} {l:List Nd} {i least:Nat} (h:RdS rNd 3 Pb w v l) (hok:pM l=true) (hi:i<l.length) (hl:least<=i):
 Calls prog 178 #[v,vi i,vi least] w (Ret fun r w'=>r=vi 0/\New w w'):=by
 obtain ⟨a,cap,rfl,hc1,hc2⟩:=h.form;have hlen:=qo hok;refine oI func178 rfl ntmps178 rfl ?_;refine qq2 ?_;refine au (wS h) rfl ?_;rintro _ w1 ⟨rfl,n1⟩;unfold H9;rw [if_pos hok];(repeat' (first|refine qq4 ?_|(refine aa2 (fun _=>?_) (fun _=>?_)<;>(first|(exfalso;omega)|skip))|(refine aV rfl rfl (fun _=>?_) (fun _=>?_)<;>(first|(exfalso;omega)|skip))|(refine aa4 (fun _=>?_) (fun _=>?_)<;>(first|(exfalso;omega)|skip))));exact ay rfl rfl ⟨_,rfl,rfl,n1⟩
theorem PY {Pb:Nat->Prop} {w:World} {pv:Value} {x:Nd} {nm:Nm} (h:RdS rPr 2 Pb w pv x.qj) (hx: ∀v,val x.qj nm=some v->v.length<=1024):
 Calls prog 109 #[.agg #[vi x.parent,vs x.name,pv],vs nm] w (Ret fun r w'=>r=vi (qC (JC x nm))/\New w w'):=by
 obtain ⟨a,cap,rfl,hc1,hc2⟩:=h.form;refine oI func109 rfl ntmps109 rfl ?_;refine qq0 ?_;refine Wl.box rfl fun w1 b1 n1 s1=>?_;replace b1:Bk w1 w.heap.size 73 [vi x.parent,vs x.name,.slice a x.qj.length cap]:=b1;refine qq1 ?_;refine bD b1 rfl rfl ?_;(repeat' (refine aa1 ?_));refine au (CG (x:=x) (nm:=nm) (h.keep (pI pC) n1.keep)) rfl ?_;rintro _ w2 ⟨rfl,n2⟩;have n02:=New.trans n1 n2;unfold JC;cases hv:val x.qj nm with
 |none=>dsimp only;refine qq5 ?_;exact ay rfl rfl ⟨_,rfl,rfl,n02⟩
 |some s=>
  have hsl:=hx s hv;dsimp only;refine qq4 ?_;refine au (Gm (l:=s) (by omega)) rfl ?_;rintro _ w3 ⟨rfl,n3⟩;have n03:=New.trans n02 n3;obtain ⟨n,hn,hnl⟩:=JE s;unfold Jz;rw [hn,ao3];(repeat' (first|refine qq6 ?_|refine aW rfl rfl (fun _=>?_) (fun _=>?_)|refine aa4 (fun _=>?_) (fun _=>?_)))
  ·rw [if_neg (by omega)];exact ay rfl rfl ⟨_,rfl,rfl,n03⟩
  ·rw [if_pos (by omega)];dsimp only;rw [if_neg (by omega)];exact ay rfl rfl ⟨_,rfl,rfl,n03⟩
  ·rw [if_pos (by omega)];dsimp only;rw [if_pos (by omega)];refine ay rfl rfl ⟨_,rfl,?_,n03⟩;show Value.int .i64 (IntKind.i64.wrap (n:Int))=_;rw [I7 (n:=n) rfl (by omega)];rfl
def qE (c:Clm):List Value:=[.int .u8 c.kind,w64 c.from_,w64 c.upto]
theorem WJ {w:World} {a b:Clm}:
 Calls prog 149 #[.agg (qE a).toArray,.agg (qE b).toArray] w (Ret fun r w'=>r=.bool (JA a b)/\New w w'):=by
 unfold JA;refine oI func149 rfl ntmps149 rfl ?_;refine qq0 ?_;refine Wl.box rfl fun w1 b1 n1 s1=>?_;replace b1:Bk w1 w.heap.size 203 (qE a):=b1;refine Wl.box rfl fun w2 b2 n2 s2=>?_;replace b2:Bk w2 w1.heap.size 203 (qE b):=b2;replace b1:=b1.chg n2 id;replace n2:=New.trans n1 n2;refine qq2 ?_;refine ah (u:=.int .u8 a.kind) rfl (b1.cell (o:=0) rfl) ?_;(repeat' (refine aa5 ?_));refine ah (u:=.int .u8 b.kind) rfl (b2.cell (o:=0) rfl) ?_;(repeat' (first|refine qq4 ?_|refine bH rfl rfl (fun _=>?_) (fun _=>?_)))
 rotate_left
 ·rw [decide_eq_false (by omega)];exact ay rfl rfl ⟨_,rfl,rfl,n2⟩
 skip;refine ah (u:=w64 a.from_) rfl (b1.cell (o:=1) rfl) ?_;refine qq5 ?_;refine ah (u:=w64 a.upto) rfl (b1.cell (o:=2) rfl) ?_;(repeat' (first|refine qq4 ?_|refine dW rfl rfl (fun _=>?_) (fun _=>?_)))
 rotate_left
 ·rw [decide_eq_false (by omega)];exact ay rfl rfl ⟨_,rfl,rfl,n2⟩
 skip;refine ah (u:=w64 b.from_) rfl (b2.cell (o:=1) rfl) ?_;refine qq5 ?_;refine ah (u:=w64 b.upto) rfl (b2.cell (o:=2) rfl) ?_;(repeat' (first|refine qq4 ?_|refine dW rfl rfl (fun _=>?_) (fun _=>?_)))
 rotate_left
 ·rw [decide_eq_false (by omega)];exact ay rfl rfl ⟨_,rfl,rfl,n2⟩
 skip;refine ah (u:=w64 a.from_) rfl (b1.cell (o:=1) rfl) ?_;refine qq5 ?_;refine ah (u:=w64 b.upto) rfl (b2.cell (o:=2) rfl) ?_;(repeat' (first|refine qq4 ?_|refine dW rfl rfl (fun _=>?_) (fun _=>?_)))
 rotate_left
 ·rw [decide_eq_false (by omega)];exact ay rfl rfl ⟨_,rfl,rfl,n2⟩
 skip;refine ah (u:=w64 b.from_) rfl (b2.cell (o:=1) rfl) ?_;refine qq5 ?_;refine ah (u:=w64 a.upto) rfl (b1.cell (o:=2) rfl) ?_;(repeat' (first|refine qq6 ?_|refine dW rfl rfl (fun _=>?_) (fun _=>?_)))
 ·rw [decide_eq_true (by omega)];exact ay rfl rfl ⟨_,rfl,rfl,n2⟩
 ·rw [decide_eq_false (by omega)];exact ay rfl rfl ⟨_,rfl,rfl,n2⟩
end Go.Proofs.YtfbnfhhmiiahnaaGreatDoor
namespace Go.Proofs.YtfbnfhhmiiahnaaGreatDoor.Wk
open Go Go.RowKit
section
variable {P:Program} {n:Nat} {ds:List Deferred} {Q:Po} {F:Fr} {w w':World} {ops rest:List Oper} {d:Nat} {ty:TypeId} {pos:String} {aft:Array Edge}
theorem Bl {t k e:TypeId} {sz bytes:Nat} {agg:Bool} {z:Value} {b:Nat} {l:List (Value×Value)} {key:Value} {q:Lit} (ht:P.underlying t=some (.map k e)) (he:ElT P e sz bytes agg z) (Kd:Maps.Keyed P k) (h:sK P k w b l) (hq:keyOf P k key=some q):
 ∃r f,(Instr.lookup t (.map (some b)) key true).run P w=.ok (.tuple #[r,.bool f]) w/\(f=true/\(key,r)∈l∨f=false/\r=z/\ ∀p∈l,p.1≠key):=by
 obtain ⟨es,clock,hh,rfl,hk⟩:=h;have hg:=run_getObj_map (P:=P) w b es clock hh;rcases Kd.find w hq es.toList hk with ⟨hf,hn⟩|⟨j,e0,hf,hj,rfl⟩
 ·refine ⟨z,false,?_,.inr ⟨rfl,rfl,fun p hp=>?_⟩⟩
  ·simp [Instr.lookup,run_underlying ht,hg,Kd.check w _ hq,hf,he.zeroValue]
  ·obtain ⟨e1,he1,rfl⟩:=List.mem_map.1 hp;exact hn e1 he1
 ·refine ⟨e0.val,true,?_,.inl ⟨rfl,List.mem_map.2 ⟨e0,apD hj,rfl⟩⟩⟩;simp [Instr.lookup,run_underlying ht,hg,Kd.check w _ hq,hf]
theorem kK {x i:Operand} {t k e:TypeId} {sz bytes:Nat} {agg:Bool} {z:Value} {b:Nat} {l:List (Value×Value)} {key:Value} {q:Lit} [ht:Und P t (.map k e)] [he:ElT P e sz bytes agg z] (Kd:Maps.Keyed P k) (h:sK P k w b l) (hq:keyOf P k key=some q)
 (hx:ev n F x=.map (some b)) (hi:ev n F i=key) (c1: ∀r,(key,r)∈l->Wl P n ds Q ops rest (upd F d (.tuple #[r,.bool true])) w) (c2:(∀p∈l,p.1≠key)->Wl P n ds Q ops rest (upd F d (.tuple #[z,.bool false])) w):
 Wl P n ds Q ops (⟨some d,.lookup t x i true,ty,pos,aft,none⟩::rest) F w:=by
 obtain ⟨r,f,hr,⟨rfl,hp⟩|⟨rfl,rfl,hp⟩⟩:=Bl ht.h he Kd h hq
 ·exact Wl.val (by simp only [execOp,hx,hi,Sem.run_bind,hr,Result.andThen_ok,Sem.run_pure]) (c1 r hp)
 ·exact Wl.val (by simp only [execOp,hx,hi,Sem.run_bind,hr,Result.andThen_ok,Sem.run_pure]) (c2 hp)
theorem iw {t e m sz bytes acF:Nat} {agg ajv:Bool} {z ez:Value} {ps:List (Nat×Operand)} {parts:List (Nat×Value)} {cs:List Value} [ht:Und P t (.array m e)] [hee:ElT P e 1 acF ajv ez] [he:ElT P t sz bytes agg z] (hz:z.cells.size=m) (hps:ps.map (fun p=>(p.1,ev n F p.2))=parts) (hp: ∀p∈parts,p.1<m/\p.2.cells= #[p.2])
 (hcs:Jj z.cells parts=cs.toArray) (c:Wl P n ds Q ops rest (upd F d (.agg cs.toArray)) w):Wl P n ds Q ops (⟨some d,.build t ps.toArray,ty,pos,aft,none⟩::rest) F w:=by
 refine Wl.val ?_ c;subst hps;have Ya:=fill_flat (m:=m) (places:=fun i=>some (i*1,1)) _ z.cells hz (fun i _=>by rw [ao7]) hp;have:(Instr.build t (ps.map (fun p=>(p.1,ev n F p.2))).toArray).run P w=.ok (.agg cs.toArray) w:=by simp only [Instr.build,Sem.run_bind,he.zeroValue,Result.andThen_ok,run_underlying ht.h,hee.sizeOf,Ya,hcs,Sem.run_pure]
 simp only [execOp,adM,Sem.run_bind];rw [this];rfl
theorem kL {x i y:Operand} {t k e:TypeId} {b:Nat} {l:List (Value×Value)} {key v0 u:Value} {q:Lit} [ht:Und P t (.map k e)] (Kd:Maps.Keyed P k) (h:sK P k w b l) (hq:keyOf P k key=some q) (hin:(key,v0)∈l)
 (hx:ev n F x=.map (some b)) (hi:ev n F i=key) (hy:ev n F y=u) (c: ∀w' j v,l[j]? =some (key,v)->sK P k w' b (l.set j (key,u))->Chg (fun j=>j=b) w w'->w'.heap.size=w.heap.size->Wl P n ds Q ops rest F w'):
 Wl P n ds Q ops (⟨none,.mapUpdate t x i y,ty,pos,aft,none⟩::rest) F w:=by
 have hlt:=h.lt;obtain ⟨es,clock,hh,rfl,hk⟩:=h;have hg:=run_getObj_map (P:=P) w b es clock hh;rcases Kd.find w hq es.toList hk with ⟨hf,hn⟩|⟨j,e0,hf,hj,rfl⟩
 ·obtain ⟨e1,he1,e2⟩:=List.mem_map.1 hin;simp only [Prod.mk.injEq] at e2;exact absurd e2.1 (hn e1 he1)
 ·let es':=es.modify j fun e=>{e with key:=e0.key,val:=u};have hl':es'.toList=es.toList.set j {e0 with val:=u}:=by
   have hjs:=(List.getElem?_eq_some_iff.1 hj);apply ao6;intro m;simp only [es',aq2,aqp,apo];by_cases hm:j=m
   ·subst hm;simp only [if_true];rw [if_pos hjs.1];rw [aq2] at hj;rw [hj];rfl
   ·rw [if_neg hm,if_neg hm]
  have h1:(w.heap.setIfInBounds b (.map es' clock))[b]? =some (.map es' clock):=by simp [Array.getElem?_setIfInBounds,hlt]
  have hset:(setObj b (.map es' clock)).run P w=.ok () {w with heap:=w.heap.setIfInBounds b (.map es' clock)}:=by simp [setObj,Sem.run,hh]
  have hpj:(es.toList.map (fun e=>(e.key,e.val)))[j]? =some (e0.key,e0.val):=by rw [apF,hj];rfl
  have hmap:es'.toList.map (fun e=>(e.key,e.val))=(es.toList.map (fun e=>(e.key,e.val))).set j (e0.key,u):=by rw [hl',List.map_set]
  refine fQ (w':={w with heap:=w.heap.setIfInBounds b (.map es' clock)}) ?_ (c _ j e0.val hpj ⟨_,_,h1,hmap,fun e he=>?_⟩ ⟨rfl,rfl,rfl,by simp,fun j _ hj=>Array.getElem?_setIfInBounds_ne (Ne.symm hj)⟩ (by simp))
  ·have hst:=Kd.stays w hq;have hj':es[j]? =some e0:=by rw [aq2] at hj;exact hj
   simp [execOp,hx,hi,hy,Instr.mapUpdate,run_underlying ht.h,hg,Kd.check w _ hq,hf,hj',hst,hset,es']
  ·rw [hl'] at he;rcases List.mem_or_eq_of_mem_set he with he|rfl
   ·exact hk e he
   ·exact hk e0 (apD hj)
end
section
variable {P:Program} {n:Nat} {ds:List Deferred} {Q:Po} {C:World->Prop} {K:Fr->Prop} {F:Fr} {w w':World} {ops rest:List Oper} {d:Nat} {ty:TypeId} {pos:String} {aft:Array Edge}
theorem oP.at {α:Type} {f:α->List Value} {e sz:Nat} {Pb Pe:Nat->Prop} {v:Value} {xs:List α} {g l cap j:Nat} {y:α} (h:oP (flat f) e sz Pb Pe w v xs) (hf:(f y).length=sz) (hv:v=.slice (some ⟨g,0,none⟩) l cap) (hy:xs[j]? =some y):At w g (j*sz) (f y):=by
 obtain ⟨cs,⟨hl,hc⟩,he⟩:=h;have hj:=(List.getElem?_eq_some_iff.1 hy).1;rcases hc with ⟨e1,_⟩|⟨g',cap',cur,e1,_,hg,h1,h2,h3,h4⟩
 ·rw [hv] at e1;cases e1
 ·rw [hv] at e1;cases e1;intro i u hu;have hel:(cs.drop (j*sz)).take sz=f y:=he j y hy;have hi:i<sz:=by rw [<-hf];exact (List.getElem?_eq_some_iff.1 hu).1
  rw [<-hel,aav,if_pos hi,ack, <-h4,aav] at hu;split at hu
  ·simp only [World.cell?,hg];simpa using hu
  ·cases hu
theorem nO {x lo:Operand} {t e sz bytes:Nat} {agg:Bool} {z:Value} {k:IntKind} {p:Option Addr} {l cap a:Nat} [ht:Und P t (.slice e)] [he:ElT P e sz bytes agg z] (hx:ev n F x=.slice p l cap) (hl:ev n F lo=.int k a) (h1:a<=l) (h2:l<=cap)
 (c:Wl P n ds Q ops rest (upd F d (.slice (if cap=a then p else p.map (·.add (a*sz))) (l-a) (cap-a))) w):Wl P n ds Q ops (⟨some d,.slice t x (some lo) none none,ty,pos,aft,none⟩::rest) F w:=by
 refine Wl.val (w':=w) ?_ c;have:=uJ (P:=P) (w:=w) (p:=p) (l:=l) (cap:=cap) (lo:=some (.int k a)) (hi:=none) (a:=a) (b:=l) ht.h he (.inr ⟨k,rfl⟩) (.inl ⟨rfl,rfl⟩) h1 h2;simp only [execOp,hx,hl,Option.map_none,adJ,Sem.run_bind,this,Result.andThen_ok,Sem.run_pure]
theorem nP {x lo:Operand} {t e sz bytes:Nat} {agg:Bool} {z:Value} {k:IntKind} {g o l cap a:Nat} [ht:Und P t (.slice e)] [he:ElT P e sz bytes agg z] (hx:ev n F x=.slice (some ⟨g,o,none⟩) l cap) (hl:ev n F lo=.int k a) (h1:a<l) (h2:l<=cap)
 (c:Wl P n ds Q ops rest (upd F d (.slice (some ⟨g,o+a*sz,none⟩) (l-a) (cap-a))) w):Wl P n ds Q ops (⟨some d,.slice t x (some lo) none none,ty,pos,aft,none⟩::rest) F w:=by
 refine nO hx hl (Nat.le_of_lt h1) h2 ?_;rw [if_neg (by omega),adJ,addr_add];exact c
theorem nR {x i:Operand} {t k e sz bytes:Nat} {agg:Bool} {z:Value} {b:Nat} {l:List (Value×Value)} {key:Value} {q:Lit} [ht:Und P t (.map k e)] [he:ElT P e sz bytes agg z] (Kd:Maps.Keyed P k) (hC: ∀w,C w->sK P k w b l) (hq:keyOf P k key=some q)
 (hu: ∀r r',(key,r)∈l->(key,r')∈l->r=r') (hx:ev n F x=.map (some b)) (hi:ev n F i=key)
 (c1: ∀r,(key,r)∈l->Wq P n ds C K ops rest (upd F d (.tuple #[r,.bool true]))) (c2:(∀p∈l,p.1≠key)->Wq P n ds C K ops rest (upd F d (.tuple #[z,.bool false]))):
 Wq P n ds C K ops (⟨some d,.lookup t x i true,ty,pos,aft,none⟩::rest) F:=by
 by_cases hin: ∃r,(key,r)∈l
 ·obtain ⟨r0,h0⟩:=hin;refine Wq.val (v:=.tuple #[r0,.bool true]) (fun w hw=>?_) (c1 r0 h0);obtain ⟨r,f,hr,⟨rfl,hp⟩|⟨rfl,rfl,hp⟩⟩:=Bl ht.h he Kd (hC w hw) hq
  ·rw [hu r0 r h0 hp];simp only [execOp,hx,hi,Sem.run_bind,hr,Result.andThen_ok,Sem.run_pure]
  ·exact absurd rfl (hp _ h0)
 ·have hno: ∀p∈l,p.1≠key:=fun p hp e=>hin ⟨p.2,e▸hp⟩;refine Wq.val (v:=.tuple #[z,.bool false]) (fun w hw=>?_) (c2 hno);obtain ⟨r,f,hr,⟨rfl,hp⟩|⟨rfl,rfl,hp⟩⟩:=Bl ht.h he Kd (hC w hw) hq
  ·exact absurd rfl (hno _ hp)
  ·simp only [execOp,hx,hi,Sem.run_bind,hr,Result.andThen_ok,Sem.run_pure]
theorem kM {fn:Func} {R:Ending->World->Prop} {t e g sz bytes:Nat} {z:Value} {T:TypeId} {cs:List Value} {u:TypeDesc} [hu:Und P e u] [he:ElT P e sz bytes true z] (h:fn.results= #[.cell t e]) (ht:Nat.blt t n=true) (hp:F t=.pointer (some ⟨g,0,none⟩)) (hb:Bk w g T cs)
 (hd:MX u=true) (hl:cs.length=sz) (k:R (.returned (.agg cs.toArray)) w):Qfn P n fn R .ret F w:=by
 unfold Qfn;refine ⟨.agg cs.toArray,results_cell_row h _ w g T cs.toArray (0,0) u ?_ hb hu.h (by cases u<;>first|rfl|cases hd) ?_,k⟩
 ·rw [acf,vF,if_pos (by rwa [Nat.blt_eq] at ht)];exact hp
 ·obtain ⟨i,h1,h2,_⟩:=he.inf;rw [h1,adJ,h2,List.size_toArray,hl]
end
structure LLs {β γ:Type} (f:β->List Value) (g:β->Value) (xs:β->List γ) (h:γ->Value) (te e sz:Nat) (Pb:Nat->Prop) (w:World) (v:Value) (bs:List β):Prop where
 row:oP (flat f) te sz Pb (fun _=>False) w v bs
 el: ∀b∈bs,oP (one h) e 1 Pb (fun _=>False) w (g b) (xs b)
 wG: ∀b∈bs,Sep (g b) v
 sep: ∀(i j:Nat) (b c:β),i≠j->bs[i]? =some b->bs[j]? =some c->Sep (g b) (g c)
section
variable {β γ:Type} {f:β->List Value} {g:β->Value} {xs:β->List γ} {h:γ->Value} {te e sz:Nat} {Pb Pb' M:Nat->Prop} {w w':World} {v:Value} {bs:List β}
theorem jk:LLs f g xs h te e sz Pb w (.slice none 0 0) []:=⟨aN,by simp,by simp,fun i j b c _ hb=>by simp at hb⟩
theorem LLs.chg (H:LLs f g xs h te e sz Pb w v bs) (c:Chg M w w') (hd: ∀k,Pb k-> ¬M k):LLs f g xs h te e sz Pb w' v bs:=
 ⟨H.row.chg (oH f) c fun k hk=>hd k (H.row.lt hk).1,fun b hb=>(H.el b hb).chg (oJ h) c fun k hk=>hd k ((H.el b hb).lt hk).1,H.wG,H.sep⟩
theorem LLs.new (H:LLs f g xs h te e sz Pb w v bs) (c:New w w'):LLs f g xs h te e sz Pb w' v bs:=H.chg c i3
theorem LLs.mono (H:LLs f g xs h te e sz Pb w v bs) (hP: ∀b,b<w.heap.size->Pb b->Pb' b):LLs f g xs h te e sz Pb' w v bs:=
 ⟨H.row.mono (oU f) hP i3,fun b hb=>(H.el b hb).mono (pq h) hP i3,H.wG,H.sep⟩
theorem LLs.snoc (H:LLs f g xs h te e sz Pb w v bs) {b:β} {v':Value} (hr:oP (flat f) te sz Pb (fun _=>False) w' v' (bs++ [b])) (c:Chg (fun k=>v.ownBlock=some k) w w') (lie:v'.ownBlock=v.ownBlock∨ ∀k,v'.ownBlock=some k->w.heap.size<=k)
 (hb:oP (one h) e 1 Pb (fun _=>False) w (g b) (xs b)) (hs:Sep (g b) v) (hn: ∀c∈bs,Sep (g b) (g c)):LLs f g xs h te e sz Pb w' v' (bs++ [b]):=by
 have sg: ∀u ys,oP (one h) e 1 Pb (fun _=>False) w u ys->Sep u v->Sep u v':=fun u ys ho s k h1 h2=>by
  rcases lie with e|e
  ·exact s k h1 (e▸h2)
  ·have:=e k h2;have:=(ho.lt h1).2;omega
 refine ⟨hr,fun c hc=>?_,fun c hc=>?_,fun i j p q hij hp hq=>?_⟩
 ·rcases List.mem_append.1 hc with hc|hc
  ·exact (H.el c hc).AX (oJ h) ‹_› (H.wG c hc)
  ·rw [List.mem_singleton.1 hc];exact hb.AX (oJ h) ‹_› hs
 ·rcases List.mem_append.1 hc with hc|hc
  ·exact sg _ _ (H.el c hc) (H.wG c hc)
  ·rw [List.mem_singleton.1 hc];exact sg _ _ hb hs
 ·rw [List.getElem?_append] at hp hq;split at hp<;>split at hq
  ·exact H.sep i j p q hij hp hq
  ·have e1:q=b:=by have:=apD hq;simpa using this
   subst e1;exact (hn p (apD hp)).symm
  ·have e1:p=b:=by have:=apD hp;simpa using this
   subst e1;exact hn q (apD hq)
  ·rename_i h1 h2
   exfalso;have:=(List.getElem?_eq_some_iff.1 hp).1;have:=(List.getElem?_eq_some_iff.1 hq).1;simp at*;omega
theorem LLs.set (H:LLs f g xs h te e sz Pb w v bs) {i:Nat} {b b':β} {w1:World} (hi:bs[i]? =some b) (ho:oP (one h) e 1 Pb (fun _=>False) w1 (g b') (xs b')) (c1:Chg (fun k=>(g b).ownBlock=some k) w w1)
 (lie:(g b').ownBlock=(g b).ownBlock∨ ∀k,(g b').ownBlock=some k->w.heap.size<=k) (hr:oP (flat f) te sz Pb (fun _=>False) w' v (bs.set i b')) (c2:Chg (fun k=>v.ownBlock=some k) w1 w'):LLs f g xs h te e sz Pb w' v (bs.set i b'):=by
 have hb:=apD hi;have s': ∀u:Value,Sep (g b) u->(∀k,u.ownBlock=some k->k<w.heap.size)->Sep (g b') u:=fun u s hu k h1 h2=>by
  rcases lie with e|e
  ·exact s k (e▸h1) h2
  ·have:=e k h1;have:=hu k h2;omega
 have hvl: ∀k,v.ownBlock=some k->k<w.heap.size:=fun k hk=>(H.row.lt hk).2;have hil:=(List.getElem?_eq_some_iff.1 hi).1;have hmem: ∀j c,(bs.set i b')[j]? =some c->(j=i/\c=b')∨(j≠i/\bs[j]? =some c):=fun j c hc=>by
  rw [apo] at hc;split at hc
  ·rename_i e;subst e
   cases hc;exact .inl ⟨rfl,rfl⟩
  ·rename_i e;exact .inr ⟨fun e2=>e e2.symm,hc⟩
 refine ⟨hr,fun c hc=>?_,fun c hc=>?_,fun p q x y hpq hx hy=>?_⟩
 ·obtain ⟨j,hj⟩:=List.mem_iff_getElem?.1 hc;rcases hmem j c hj with ⟨rfl,rfl⟩|⟨hne,hj⟩
  ·exact ho.AX (oJ h) c2 (s' v (H.wG b hb) hvl)
  ·have hc':=apD hj;exact ((H.el c hc').AX (oJ h) c1 (H.sep j i c b hne hj hi)).AX (oJ h) c2 (H.wG c hc')
 ·obtain ⟨j,hj⟩:=List.mem_iff_getElem?.1 hc;rcases hmem j c hj with ⟨rfl,rfl⟩|⟨hne,hj⟩
  ·exact s' v (H.wG b hb) hvl
  ·exact H.wG c (apD hj)
 ·rcases hmem p x hx with ⟨e1,e2⟩|⟨hp,hx1⟩<;>rcases hmem q y hy with ⟨e3,e4⟩|⟨hq,hy1⟩
  ·exact absurd (e1.trans e3.symm) hpq
  ·rw [e2];exact s' _ (H.sep i q b y (fun e=>hq e.symm) hi hy1) fun k hk=>((H.el y (apD hy1)).lt hk).2
  ·rw [e4];exact (s' _ (H.sep i p b x (fun e=>hp e.symm) hi hx1) fun k hk=>((H.el x (apD hx1)).lt hk).2).symm
  ·exact H.sep p q x y hpq hx1 hy1
end
end Go.Proofs.YtfbnfhhmiiahnaaGreatDoor.Wk
namespace Go.Proofs.YtfbnfhhmiiahnaaGreatDoor
open Go Wk
open Go.RowKit (Below)
attribute [local irreducible] Go.Calls
theorem CO: ∀(ws:List Nat) (s:List UInt8) (r:List Nat) (s':List UInt8),DI ws s=some (r,s')->s'.length+4*ws.sum=s.length/\r.length=ws.length
 | [],s,r,s',h=>by simp [DI] at h;obtain ⟨rfl,rfl⟩:=h;simp
 |w::ws,s,r,s',h=>by
  rw [DI] at h;split at h
  ·cases h
  ·obtain ⟨⟨r2,s2⟩,h1,h2⟩:=Option.map_eq_some_iff.1 h;simp only [Prod.mk.injEq] at h2;obtain ⟨rfl,rfl⟩:=h2;have:=CO ws _ _ _ h1;simp only [apt] at this;simp only [List.sum_cons,aph];omega
theorem PZ {ws:List Nat} (hp:0<ws.sum): ∀(f g:Nat) (s:List UInt8),s.length<=f->s.length<=g->zY ws f s=zY ws g s
 |0,g,s,hf,_=>by obtain rfl:s=[]:=aoP (by omega);cases g<;>simp [zY]
 |f+1,0,s,_,hg=>by obtain rfl:s=[]:=aoP (by omega);simp [zY]
 |f+1,g+1,s,hf,hg=>by
  rw [zY,zY];split
  ·rfl
  ·rename_i hs
   have h0:0<s.length:=by cases s with|nil=>exact absurd rfl hs|cons=>simp
   cases h:DI ws s with
   |none=>rfl
   |some q=>obtain ⟨r,s'⟩:=q;have:=(CO ws s r s' h).1;dsimp only;rw [PZ hp f g s' (by omega) (by omega)]
theorem WL (ws:List Nat):zZ ws []=some []:=by simp [zZ,zY]
theorem JR {ws:List Nat} (hp:0<ws.sum) {s:List UInt8} (hs:s≠ []):zZ ws s=match DI ws s with
 |none=>none
 |some (r,s')=>(zZ ws s').map (r:: ·):=by
 have h0:0<s.length:=by cases s with|nil=>exact absurd rfl hs|cons=>simp
 unfold zZ;obtain ⟨m,hm⟩: ∃m,s.length=m+1:=⟨s.length-1,by omega⟩;rw [hm,zY,if_neg hs];cases h:DI ws s with
 |none=>rfl
 |some q=>obtain ⟨r,s'⟩:=q;have:=(CO ws s r s' h).1;dsimp only;rw [PZ hp m s'.length s' (by omega) (aat _)]
theorem U0: ∀(ws:List Nat) (s:List UInt8) (r:List Nat) (s':List UInt8),(∀w∈ws,w<=2)->DI ws s=some (r,s')-> ∀x∈r,x<18446744073709551616
 | [],s,r,s',_,h,x,hx=>by simp [DI] at h;obtain ⟨rfl,rfl⟩:=h;simp at hx
 |w::ws,s,r,s',hw,h,x,hx=>by
  rw [DI] at h;split at h
  ·cases h
  ·obtain ⟨⟨r2,s2⟩,h1,h2⟩:=Option.map_eq_some_iff.1 h;simp only [Prod.mk.injEq] at h2;obtain ⟨rfl,rfl⟩:=h2;rcases List.mem_cons.1 hx with rfl|hx
   ·have h3:=zX (s.take (4*w));have h4:=Jw (s.take (4*w)).length 8 (by have:=hw w (by simp);simp only [apb];omega);have h8:(256:Nat)^8=18446744073709551616:=by decide
    omega
   ·exact U0 ws _ _ _ (fun w hw'=>hw w (aqd _ hw')) h1 x hx
theorem P5 {ws:List Nat} (hw: ∀w∈ws,w<=2): ∀(f:Nat) (s:List UInt8) (rs:List (List Nat)),zY ws f s=some rs->(∀r∈rs,r.length=ws.length/\ ∀x∈r,x<18446744073709551616)/\rs.length<=f
 |0,s,rs,h=>by
  rw [zY] at h;split at h
  ·cases h;simp
  ·cases h
 |f+1,s,rs,h=>by
  rw [zY] at h;split at h
  ·cases h;simp
  ·cases hr:DI ws s with
   |none=>rw [hr] at h;cases h
   |some q=>
    obtain ⟨r,s'⟩:=q;rw [hr] at h;dsimp only at h;obtain ⟨rs',h1,rfl⟩:=Option.map_eq_some_iff.1 h;obtain ⟨i1,i2⟩:=P5 hw f s' rs' h1;refine ⟨fun r' hr'=>?_,by simp only [aph];omega⟩;rcases List.mem_cons.1 hr' with rfl|hr'
    ·exact ⟨(CO ws s r' s' hr).2,U0 ws s r' s' hw hr⟩
    ·exact i1 r' hr'
theorem Af {ws:List Nat} (hw: ∀w∈ws,w<=2) {s:List UInt8} {rs:List (List Nat)} (h:zZ ws s=some rs):(∀r∈rs,r.length=ws.length/\ ∀x∈r,x<18446744073709551616)/\rs.length<=s.length:=P5 hw _ _ _ h
def rRow:Rel (List Nat):=fun Pb w xs cs=> ∃v,cs=[v]/\RdS (Wk.one w64) 1 Pb w v xs
theorem Dt:Stable rRow:=lD (pF _) 1
theorem y8:BR rRow:=BR.RdS (pq _) 1
theorem aaM:rF rRow 1:=⟨Dt,y8,fun Pb w x cs ⟨v,e,h⟩ _ c hc=>by
 subst e;obtain ⟨a,cap,rfl,_⟩:=h.form;simp at hc;subst hc;rfl⟩
theorem U3:rF (Wk.one w64) 1:=uI _ fun _=>rfl
def P6 (w w':World) (r:Value) (o:Option (List (List Nat))):Prop:= ∃v e,r=.tuple #[v,vi e]/\match o with
 |none=>e=4/\v=.slice none 0 0
 |some rs=>e=0/\RdS rRow 1 (fun b=>w.heap.size<=b) w' v rs
theorem LY {Pb:Nat->Prop} {w:World} {v:Value} {s:List UInt8} {ws:List Nat} (h:RdS (Wk.one viN) 1 Pb w v ws) (hs:s.length<=1024) (hw: ∀x∈ws,x<=2) (hp:0<ws.sum) (hwl:ws.length<=3):
 Calls prog 202 #[vs s,v] w (Ret fun r w'=>P6 w w' r (zZ ws s)/\New w w'):=by
 obtain ⟨a,cap,rfl,hc1,hc2⟩:=h.form;refine oI func202 rfl ntmps202 rfl ?_;refine qq2 ?_;refine aC (σ:=List UInt8×Value×List (List Nat)) (fun q=>[(0,vs q.1),(1,.slice a ws.length cap),(6,q.2.1)]) (fun q W=>q.1.length+q.2.2.length<=1024/\zZ ws s=(zZ ws q.1).map (q.2.2++ ·)/\oP rRow 329 1 (fun b=>w.heap.size<=b) (fun b=>w.heap.size<=b) W q.2.1 q.2.2/\New w W) (fun q=>q.1.length) (s,.slice none 0 0,[]) (sl rfl) ⟨by simp;omega,by simp,aN,aB _ _⟩ ?_;rintro ⟨t,vo,rs⟩ G W ⟨hlen,hM,own,nW⟩;dsimp only at hlen hM own nW;simp only [ql];obtain ⟨oa,oc,rfl,_,_⟩:=own.form;(repeat' (first|refine qq2 ?_|refine aW rfl rfl (fun _=>?_) (fun _=>?_)))
 ·have ht:t≠ []:=by intro e;subst e;simp at*
  have hWl:=nW.size;refine aC (σ:=Nat×List UInt8×Value×List Nat) (fun q=>[(0,vs q.2.1),(1,.slice a ws.length cap),(6,.slice oa rs.length oc),(7,q.2.2.1),(16,.slice a ws.length cap),(17,vi ws.length),(18,vi q.1)]) (fun q W'=>q.1<=ws.length/\q.2.1.length<=t.length/\q.2.2.2.length=q.1/\DI ws t=(DI (ws.drop q.1) q.2.1).map (fun p=>(q.2.2.2++p.1,p.2))/\oP (Wk.one w64) 201 1 (fun b=>W.heap.size<=b) NoB W' q.2.2.1 q.2.2.2/\New W W') (fun q=>ws.length-q.1) (0,t,.slice none 0 0,[]) (sl rfl) ⟨aoZ _,aat _,rfl,by simp,aN,aB _ _⟩ ?_;rintro ⟨k,u,vr,ns⟩ G2 W2 ⟨hk,hul,hnl,hR,Ep,n2⟩;dsimp only at hk hul hnl hR Ep n2;simp only [ql];obtain ⟨ra,rc,rfl,_,_⟩:=Ep.form;(repeat' (first|refine qq2 ?_|refine aa2 (fun _=>?_) (fun _=>?_)))
  ·obtain ⟨x,hx⟩:=pz ws (k:=k) (by omega);have hxw:=hw x (apD hx);refine bC (h.keep (pF _) (New.trans nW n2).keep) rfl rfl (by omega) hx fun b o hcell=>?_;refine ah (u:=vi x) rfl hcell ?_;have hdr:ws.drop k=x::ws.drop (k+1):=drop_cons hx;rw [hdr,DI] at hR;(repeat' (first|refine qq4 ?_|refine aa2 (fun _=>?_) (fun _=>?_)))
   ·rw [if_pos (by omega)] at hR;rw [hM,JR hp ht,hR];exact aG rfl rfl rfl ⟨_,rfl,⟨_,_,rfl,rfl,rfl⟩,New.trans nW n2⟩
   ·rw [if_neg (by omega)] at hR;have hux:((4:Int)*(x:Int)).toNat=4*x:=by omega
    refine jZ (l:=u) rfl rfl (by omega) (by omega) ?_;rw [hux];refine jF (l:=u.take (4*x)) rfl (by simp only [maxLen,apb];omega) fun w3 ajw C fr hC htk hCs n3 s3 hr3=>?_;generalize hbb:u.take (4*x)=bs at hr3;have hbl:bs.length=4*x:=by rw [<-hbb,apb];omega
    refine qq6 ?_;refine aC (σ:=Nat) (fun i=>[(0,vs u),(1,.slice a ws.length cap),(6,.slice oa rs.length oc),(7,.slice ra ns.length rc),(9,vi x),(10,w64 (number (bs.take i))),(16,.slice a ws.length cap),(17,vi ws.length),(18,vi k),(31,.slice (some ⟨W2.heap.size,0,none⟩) bs.length ajw),(32,vi bs.length),(33,vi i)]) (fun i W'=>i<=bs.length/\W'=w3) (fun i=>bs.length-i) 0 (sl rfl) ⟨aoZ _,rfl⟩ ?_;rintro i G3 _ ⟨hi,rfl⟩;simp only [ql];(repeat' (first|refine qq2 ?_|refine aa2 (fun _=>?_) (fun _=>?_)))
    ·obtain ⟨c,hc⟩:=acD bs (k:=i) (by omega);have hn:=zX (bs.take i);have hp7:=Jw (bs.take i).length 7 (by simp only [apb];omega);have hcl:=c.toNat_lt;have h7:(256:Nat)^7=72057594037927936:=by decide
     refine bC (f:=by8) hr3 rfl rfl (by omega) hc fun b o hcell=>?_;refine ah (u:=by8 c) rfl hcell ?_;refine qq0 ?_;refine jV rfl rfl (by omega) ?_;refine qq8 ?_;have e1:IntKind.u64.wrap ((number (bs.take i):Int)*2^(min (8:Int).toNat IntKind.u64.bits))=((number (bs.take i)*2^8:Nat):Int):=by rw [show (2:Int)^(min (8:Int).toNat IntKind.u64.bits)=256 from by decide,show (2:Nat)^8=256 from by decide,D7 rfl (by omega) (by simp only [IntKind.bits];omega)];omega
     have e2:IntKind.u64.wrap (c.toNat:Int)=(c.toNat:Int):=D7 rfl (by omega) (by simp only [IntKind.bits];omega);refine Wl.orU (number (bs.take i)) c.toNat 8 rfl e1 e2 (by omega) (by simp only [IntKind.bits];omega) rfl rfl ?_;refine qq4 ?_;refine aA (i+1) ⟨rfl,rfl,rfl,rfl,rfl,?_,rfl,rfl,rfl,rfl,rfl,rfl,trivial⟩ ⟨by omega,rfl⟩ (by omega);show Value.int _ _=Value.int _ _;rw [Ic hc]
    ·obtain rfl:i=bs.length:=by omega
     rw [apZ];refine bZ (R:=Wk.one w64) (y:=number bs) U3 (Ep.new (oJ _) n3) rfl rfl rfl rfl rfl (by omega) (by omega) (by simp only [maxLen];omega) (by omega) rfl rfl fun v4 w4 p own4 c4 lie=>?_;refine qq0 ?_;refine ku (l:=u) rfl rfl (by omega) (by omega) ?_;rw [hux];refine qq4 ?_;refine aA (k+1,u.drop (4*x),v4,ns++ [number bs]) (sl rfl) ⟨by dsimp only;omega,by simp only [apt];omega,by simp;omega,?_,own4.mono U3.mo (fun b hb e=>by rcases e with e|e;exact e;have:=n2.size;have:=n3.size;omega) i3,Chg.trans (New.trans n2 n3) c4 fun b hb e=>by have:=(Ep.lt e).1;omega⟩ (by dsimp only;omega);rw [hR,hbb];simp only [ari];congr 1;funext p;simp
  ·obtain rfl:k=ws.length:=by omega
   rw [aqi] at hR;simp only [DI,adJ,aqJ] at hR;have hs2:=n2.size;have hlu:=CO ws t ns u hR;have tC:oP rRow 329 1 (fun b=>w.heap.size<=b/\b<W.heap.size) (fun b=>w.heap.size<=b/\b<W.heap.size) W (.slice oa rs.length oc) rs:=own.mono y8 (fun b hb e=>⟨e,hb⟩) (fun b hb e=>⟨e,hb⟩);have xX:=(tC.keep Dt (n2.keep) (n2.keep)).mono (Pb':=fun b=>w.heap.size<=b) (Pe':=fun b=>w.heap.size<=b) y8 (fun b hb e=>e.1) (fun b hb e=>e.1);refine bZ (R:=rRow) (y:=ns) aaM xX rfl rfl rfl rfl ⟨_,rfl,(Ep.rd (pq _)).mono (pq _) fun b hb e=>?_⟩ (by omega) (by omega) (by simp only [maxLen];omega) (by omega) rfl rfl fun v4 w4 p own4 c4 lie=>?_
   ·rcases e with e|e
    ·exact ⟨by omega,fun e2=>by have:=(tC.lt e2).1;omega⟩
    ·exact e.elim
   refine qq0 ?_;refine aA (u,v4,rs++ [ns]) (sl rfl) ⟨by simp;omega,?_,own4.mono y8 (fun b hb e=>by rcases e with e|e;exact e;have:=nW.size;omega) i3,Chg.trans (New.trans nW n2) c4 fun b hb e=>by have:=(tC.lt e).1;omega⟩ (by dsimp only;omega);rw [hM,JR hp ht,hR];dsimp only;simp only [ari];congr 1;funext p;simp
 ·have ht:t=[]:=by
   cases t with
   |nil=>rfl
   |cons x r=>simp at*;omega
  subst ht;rw [WL] at hM;simp only [adJ,aqJ] at hM;rw [hM];exact aG rfl rfl rfl ⟨_,rfl,⟨_,_,rfl,rfl,(own.rd y8).mono y8 fun b _ e=>by rcases e with e|e<;>exact e⟩,nW⟩
end Go.Proofs.YtfbnfhhmiiahnaaGreatDoor
namespace Go.Proofs.YtfbnfhhmiiahnaaGreatDoor.Wk
open Go Go.RowKit
section
variable {P:Program} {n:Nat} {ds:List Deferred} {Q:Po} {F:Fr} {ops:List Oper} {C:World->Prop}
theorem iy {w:World} {id:Nat} (qs cs:List Nat) {lq lc:List Oper} (hm:P.follows .mixedOrders=true) (hB:(abU ops qs cs&&(qs.all (fun k=>decide (k<ops.length))&&(cs.all (fun k=>decide (k<ops.length))&& !(pick ops cs).isEmpty)))=true) (hq':pick ops qs=lq) (hc':pick ops cs=lc)
 (C:World->Prop) (hC:C w.drew) (h:Wq P n ds C (fun F'=>Wch P n ds C Q ops lc F' w.drew) ops lq F):Wc P n ds Q (.region id ops.toArray true) F w:=by
 unfold Wc;subst hq';subst hc';simp only [ao0] at hB;obtain ⟨hB,hq,hc,hne⟩:=hB;replace hq:=Jl hq;replace hc:=Jl hc;simp only [abU,ao0,beq_iff_eq] at hB;obtain ⟨⟨⟨⟨h1,h2⟩,h3⟩,h4⟩,h5⟩:=hB;refine wp_region_any hm ?_;refine D8 (last:=cs.getLast?.getD 0) (C:=C) _ _ _ _ ?_;have h0:zU ops.toArray (ao1 ops.toArray.size false):=by intro j o hj;exfalso;simp only [acf,Array.getElem?_replicate] at hj;split at hj<;>simp at hj
 have HL: ∀listed:Array Bool,zU ops.toArray listed->cs.getLast?.getD 0∈Region.ready .any ops.toArray listed-> ∀i,i≠cs.getLast?.getD 0->i<ops.toArray.size->listed.getD i true=true:=by
  intro listed hcl hr i hil hi2;by_cases hi:i<listed.size
  ·have:=List.all_eq_true.1 h5 i (List.mem_range.2 hi2);have hmem:i∈ahead ops.toArray ops.toArray.size [cs.getLast?.getD 0]:=by simpa using this
   rcases wR hcl hr _ _ (by simp) i hmem with e|e
   ·exact absurd e hil
   ·simpa [acf,aaW hi] using e
  ·simp [acf,Array.getElem?_eq_none (Nat.not_lt.1 hi)]
 have:=ET (P:=P) (C:=C) (Q:=QA n ds Q) (Region.noSelect_spec h1) HL cs.length qs _ (ao1 ops.toArray.size false) (act n ds F) w.drew (by simpa using hq) h2 h0 hC ?_
 ·rw [h4] at this;exact this
 ·unfold Wq at h;refine AU (fun a' ha=>?_) _ _ h;obtain ⟨F',rfl,hk⟩:=ha;exact EW cs _ _ F' _ hc h3 (by intro e;rw [e] at hne;cases hne) hk
end
end Go.Proofs.YtfbnfhhmiiahnaaGreatDoor.Wk
namespace Go.Proofs.YtfbnfhhmiiahnaaGreatDoor
open Go Wk
open Go.RowKit (Below)
attribute [local irreducible] Go.Calls
theorem Grw.drew (w:World):Grw w w.drew:=⟨1, #[],by rw [Sort.grow_empty];rfl⟩
theorem Grw.refl (w:World):Grw w w:=⟨0, #[],by rw [Sort.grow_empty];rfl⟩
theorem Grw.alloc {w w':World} (h:Grw w w') (o:Obj):Grw w (w'.alloc o):=by
 obtain ⟨q,os,rfl⟩:=h;refine ⟨q,os.push o,?_⟩;simp [Sort.grow,World.alloc]
section
variable {P:Program} {n:Nat} {ds:List Deferred} {Q:Po} {F:Fr} {w:World} {ops rest:List Oper} {d:Nat} {ty:TypeId} {pos:String} {aft:Array Edge}
theorem jI {N:Nat} {ps:List (Nat×Operand)} {t e:TypeId} {bytes:Nat} {agg:Bool} {z:Value} {us:List Int} [ht:Und P t (.slice e)] [he:ElT P e 1 bytes agg z] (hN:us.length=N) (hps:ps.map (fun p=>(p.1,ev n F p.2))=O6 0 (us.map vi))
 (h0:0<us.length) (h1:us.length<=1000) (c: ∀v o,oP (Wk.one vi) e 1 (fun b=>w.heap.size<=b) NoB (w.alloc o) v us->Wl P n ds Q ops rest (upd F d v) (w.alloc o)):
 Wl P n ds Q ops (⟨some d,.buildSlice t N ps.toArray,ty,pos,aft,none⟩::rest) F w:=by
 subst hN;have hr:=xI (P:=P) (w:=w) (us:=us.map vi) ht.h he (by intro u hu;obtain ⟨x,_,rfl⟩:=List.mem_map.1 hu;rfl) (by simpa using h0) (by simp;omega);have hfl: ∀us:List Int,(us.map vi).flatMap (fun u=>u.cells.toList)=us.map vi:=by
  intro us;induction us with
  |nil=>rfl
  |cons x r ih=>rw [acK,aqh,ih];rfl
 rw [hfl,aqt] at hr;refine Wl.val (w':=w.alloc (.cells (us.map vi).toArray e)) ?_ (c (.slice (some ⟨w.heap.size,0,none⟩) us.length us.length) _ ?_)
 ·simp only [execOp,adM,hps,Sem.run_bind,hr,Result.andThen_ok,Sem.run_pure]
 ·refine iL (m:=us.length) rfl ⟨by simp,.inr ⟨w.heap.size,us.length,(us.map vi).toArray,rfl,aat _,heap_alloc_new w _,aat _,by simp only [maxLen];omega,by simp,by rw [ao7];exact apl (by simp)⟩⟩
end
theorem LZ {cs:List Cd} {t:List Nd} {i k:Nat} (hi:i<t.length) (h:sD cs t i=some k): ∃j c,(allM cs t)[i]? =some (some (k,j))/\cs[k]? =some c/\Gn cs t i=c.level:=by
 unfold sD at h;obtain ⟨⟨k',j⟩,hf,e⟩:=Option.map_eq_some_iff.1 h;simp only at e;subst e;obtain ⟨c,hc⟩:=pz cs (Ph hf).1;refine ⟨j,c,?_,hc,?_⟩
 ·unfold allM;rw [apF,aq3 hi,adJ,hf]
 ·unfold Gn sD;rw [hf];simp only [adJ];rw [apJ,hc];rfl
theorem SQ {Pc Pa Pp:Nat->Prop} {w:World} {bc ba bp:Nat} {vc va vp:Value} {cs:List Cd} {t:List Nd} {a b ka kb:Nat} (hbc:Bk w bc 23 [vc]) (hba:Bk w ba 154 [va]) (hbp:Bk w bp 24 [vp])
 (hc:RdS rCd 7 Pc w vc cs) (ha:RdS SI 2 Pa w va (allM cs t)) (hp:RdS (Wk.one vs) 1 Pp w vp ((abS t.length).map (pX t))) (hia:a<t.length) (hib:b<t.length) (hka:sD cs t a=some ka) (hkb:sD cs t b=some kb) (hcl:cs.length<=64) (htl:t.length<=512):
 Calls prog 144 #[vi a,vi b,.pointer (some ⟨bc,0,none⟩),.pointer (some ⟨ba,0,none⟩),.pointer (some ⟨bp,0,none⟩)] w (Ret fun r w'=>r=vi (sH (Gn cs t) (pX t) a b)/\Grw w w'):=by
 obtain ⟨ac,cc,rfl,_,_⟩:=hc.form;obtain ⟨aa,ca,rfl,_,_⟩:=ha.form;obtain ⟨ap,cp,rfl,_,_⟩:=hp.form;obtain ⟨x2,ca',xm,xc,xl⟩:=LZ hia hka;obtain ⟨y2,cb',ym,yc,yl⟩:=LZ hib hkb;have anH:=(List.getElem?_eq_some_iff.1 xc).1;have anI:=(List.getElem?_eq_some_iff.1 yc).1;refine oI func144 rfl ntmps144 rfl ?_;refine qq1 ?_;refine iy [0,1,2,3,4,5,6,7,8,9,10,11,12,13,14,15,16,17,19,20,21,22,23,24,25,26] [18,27,28,29,30] rfl (by kernel_rfl) (by simp only [pick,aq4,aq5];rfl) (by simp only [pick,aq4,aq5];rfl) (Grw w) (Grw.drew w) ?_;refine ax (u:=.slice ac cs.length cc) rfl (fun w' hw=>(hbc.chg hw.new id).cell (o:=0) rfl) ?_;refine ax (u:=.slice aa (allM cs t).length ca) rfl (fun w' hw=>(hba.chg hw.new id).cell (o:=0) rfl) ?_;(repeat' (refine aa3 ?_));refine aY (j:=a) (y:=some (ka,x2)) ha (fun w' hw=>hw.new.keep) rfl rfl (by omega) xm fun bb off cs' hcl hR hat=>?_;obtain rfl:cs'=zQ (some (ka,x2)):=hR;(repeat' (refine aa6 ?_));refine ax (u:=vi ka) rfl (fun w' hw=>(hat w' hw).get 0 rfl) ?_;clear hat;refine aY (j:=ka) (y:=ca') hc (fun w' hw=>hw.new.keep) rfl rfl (by omega) xc fun bb off cs' hcl hR hat=>?_;obtain ⟨anJ,rfl,_⟩:=hR;(repeat' (refine aa6 ?_));refine ax (u:=.int .u8 ca'.level) rfl (fun w' hw=>(hat w' hw).get 2 rfl) ?_;clear hat;refine ax (u:=.slice ac cs.length cc) rfl (fun w' hw=>(hbc.chg hw.new id).cell (o:=0) rfl) ?_;refine ax (u:=.slice aa (allM cs t).length ca) rfl (fun w' hw=>(hba.chg hw.new id).cell (o:=0) rfl) ?_;(repeat' (refine aa3 ?_));refine aY (j:=b) (y:=some (kb,y2)) ha (fun w' hw=>hw.new.keep) rfl rfl (by omega) ym fun bb off cs' hcl hR hat=>?_;obtain rfl:cs'=zQ (some (kb,y2)):=hR;(repeat' (refine aa6 ?_));refine ax (u:=vi kb) rfl (fun w' hw=>(hat w' hw).get 0 rfl) ?_;clear hat;refine aY (j:=kb) (y:=cb') hc (fun w' hw=>hw.new.keep) rfl rfl (by omega) yc fun bb off cs' hcl hR hat=>?_;obtain ⟨anK,rfl,_⟩:=hR;(repeat' (refine aa6 ?_));refine ax (u:=.int .u8 cb'.level) rfl (fun w' hw=>(hat w' hw).get 2 rfl) ?_;clear hat;refine ax (u:=.slice ap ((abS t.length).map (pX t)).length cp) rfl (fun w' hw=>(hbp.chg hw.new id).cell (o:=0) rfl) ?_;(repeat' (refine aa3 ?_));refine aY (j:=a) (y:=pX t a) hp (fun w' hw=>hw.new.keep) rfl rfl (by omega) (by rw [ao3,apF,aq3 hia];rfl) fun bb off cs' hcl hR hat=>?_;obtain rfl:cs'=[vs (pX t a)]:=hR;refine ax (u:=vs (pX t a)) rfl (fun w' hw=>(hat w' hw).get 0 rfl) ?_;clear hat;refine ax (u:=.slice ap ((abS t.length).map (pX t)).length cp) rfl (fun w' hw=>(hbp.chg hw.new id).cell (o:=0) rfl) ?_;(repeat' (refine aa3 ?_));refine aY (j:=b) (y:=pX t b) hp (fun w' hw=>hw.new.keep) rfl rfl (by omega) (by rw [ao3,apF,aq3 hib];rfl) fun bb off cs' hcl hR hat=>?_;obtain rfl:cs'=[vs (pX t b)]:=hR;refine ax (u:=vs (pX t b)) rfl (fun w' hw=>(hat w' hw).get 0 rfl) ?_;clear hat;refine qq7 ?_;refine dH ?_;refine au (zO (a:=ca'.level) (b:=cb'.level)) rfl ?_;rintro _ _ ⟨rfl,rfl⟩;refine ak ⟨rfl,Grw.drew w,?_⟩;refine dH ?_;refine au (xW (a:=pX t a) (b:=pX t b)) rfl ?_;rintro _ _ ⟨rfl,rfl⟩;refine ak ⟨rfl,Grw.drew w,?_⟩;refine dH ?_;refine jI (us:=[zN ca'.level cb'.level,Fg (pX t a) (pX t b)]) rfl rfl (by simp) (by simp) fun v o own=>?_;obtain ⟨va,aeF,rfl,_,_⟩:=own.form;have hgr:Grw w (w.drew.alloc o):=(Grw.drew w).alloc o;refine ak ⟨rfl,hgr,?_⟩;refine dH ?_;refine au (Nw (own.rd (pq _))) rfl ?_;rintro _ _ ⟨rfl,rfl⟩;refine ak ⟨rfl,hgr,?_⟩;refine Wch.last ?_;have hk:=UU (Gn cs t) (pX t) a b;rw [xl,yl] at hk;rw [hk];refine qq6 ?_;exact ay rfl rfl ⟨_,rfl,rfl,hgr⟩
section
variable {P:Program} {n:Nat} {ds:List Deferred} {Q:Po} {F:Fr} {w:World} {ops rest:List Oper} {d:Nat} {ty:TypeId} {pos:String} {aft:Array Edge}
theorem kN {α:Type} {f:α->Value} {N:Nat} {ps:List (Nat×Operand)} {t e:TypeId} {bytes:Nat} {agg:Bool} {z:Value} {us:List α} (hf: ∀x,(f x).oneCell'=true) [ht:Und P t (.slice e)] [he:ElT P e 1 bytes agg z] (hN:us.length=N) (hps:ps.map (fun p=>(p.1,ev n F p.2))=O6 0 (us.map f))
 (h0:0<us.length) (h1:us.length<=1000) (c: ∀v w',oP (Wk.one f) e 1 (fun b=>w.heap.size<=b) NoB w' v us->New w w'->Wl P n ds Q ops rest (upd F d v) w'):
 Wl P n ds Q ops (⟨some d,.buildSlice t N ps.toArray,ty,pos,aft,none⟩::rest) F w:=by
 subst hN;have hr:=xI (P:=P) (w:=w) (us:=us.map f) ht.h he (by intro u hu;obtain ⟨x,_,rfl⟩:=List.mem_map.1 hu;have:=hf x;cases hx:f x<;>simp_all [Value.cells,Value.oneCell']) (by simpa using h0) (by simp;omega);have hfl: ∀us:List α,(us.map f).flatMap (fun u=>u.cells.toList)=us.map f:=by
  intro us;induction us with
  |nil=>rfl
  |cons x r ih=>
   have:(f x).cells= #[f x]:=by have:=hf x;cases hx:f x<;>simp_all [Value.cells,Value.oneCell']
   rw [acK,aqh,ih,this];rfl
 rw [hfl,aqt] at hr;refine Wl.val (w':=w.alloc (.cells (us.map f).toArray e)) ?_ (c (.slice (some ⟨w.heap.size,0,none⟩) us.length us.length) _ ?_ (Chg.alloc _ _ _))
 ·simp only [execOp,adM,hps,Sem.run_bind,hr,Result.andThen_ok,Sem.run_pure]
 ·refine iL (m:=us.length) rfl ⟨by simp,.inr ⟨w.heap.size,us.length,(us.map f).toArray,rfl,aat _,heap_alloc_new w _,aat _,by simp only [maxLen];omega,by simp,by rw [ao7];exact apl (by simp)⟩⟩
end
theorem ne4:(4:Int)≠0:=by decide
theorem ne6:(6:Int)≠0:=by decide
theorem U4:(170:Int)≠0:=by decide
abbrev yR (x:Win):List Value:=[w64 x.1,w64 x.2]
theorem y9:rF (flat yR) 2:=rC _ (fun _=>rfl) fun x c hc=>by simp at hc;rcases hc with rfl|rfl<;>rfl
theorem IJ {t:List Nd} {i:Nat} (hi:i<t.length):t[i]? =some (ndA t i):=by
 obtain ⟨x,hx⟩:=pz t hi;rw [zM hx];exact hx
theorem Fq {t:List Nd} (ht:pM t=true) {i:Nat} (hi:i<t.length): ∀nm v,val (ndA t i).qj nm=some v->v.length<=1024:=fun nm v e=>Bh ht hi (nm:=nm) e
theorem JS {w w':World} {r:Value} {o:Option (List (List Nat))} (h:P6 w w' r o): ∃v e rs,r=.tuple #[v,vi e]/\RdS rRow 1 (fun b=>w.heap.size<=b) w' v rs/\(o=some rs/\e=0∨o=none/\rs=[]/\e=4):=by
 obtain ⟨v,e,rfl,h⟩:=h;cases o with
 |none=>obtain ⟨rfl,rfl⟩:=h;exact ⟨_,_,[],rfl,eu,.inr ⟨rfl,rfl,rfl⟩⟩
 |some rs=>obtain ⟨rfl,h⟩:=h;exact ⟨_,_,rs,rfl,h,.inl ⟨rfl,rfl⟩⟩
theorem yj {ps:List Pr} {a s:Nat} (h:xK ps=some (a,s)):1<=a/\a<=2/\s<=2:=by
 have key: ∀nm least dflt n,dflt<=2->least<=dflt->Nq ps nm least dflt=some n->least<=n/\n<=2:=by
  intro nm least dflt n h2 h3 h;unfold Nq at h;split at h
  ·cases h;exact ⟨h3,h2⟩
  ·split at h
   ·split at h
    ·rename_i hc;cases h;exact hc
    ·cases h
   ·cases h
 unfold xK at h;split at h
 ·rename_i h1 h2
  simp only [Option.some.injEq,Prod.mk.injEq] at h;obtain ⟨rfl,rfl⟩:=h;have k1:=key _ _ _ _ (by decide) (by decide) h1;have k2:=key _ _ _ _ (by decide) (by decide) h2;omega
 ·cases h
def JU (w w':World) (r:Value) (o:Option (List Win)):Prop:= ∃v e,r=.tuple #[v,vi e]/\match o with
 |none=>e≠0
 |some ws=>e=0/\oP (flat yR) 300 2 (fun b=>w.heap.size<=b) NoB w' v ws
theorem P7 {α:Type} {p:α->Bool} {l:List α} {k:Nat} {x:α} (hx:l[k]? =some x) (h: ∀y∈l.take k,p y=true) (hp:p x=true): ∀y∈l.take (k+1),p y=true:=by
 rw [take_snoc hx];intro y hy;rcases List.mem_append.1 hy with hy|hy
 ·exact h y hy
 ·rw [List.mem_singleton.1 hy];exact hp
theorem YC {Pb:Nat->Prop} {w:World} {v:Value} {l:List Nd} {i:Nat} (h:RdS rNd 3 Pb w v l) (hok:pM l=true) (h0:i≠0) (hi:i<l.length):
 Calls prog 186 #[v,vi i] w (Ret fun r w'=>JU w w' r (WA l i)/\New w w'):=by
 obtain ⟨a,cap,rfl,hc1,hc2⟩:=h.form;have hlen:=qo hok;have hp:=vM hok h0 hi;have hx:=IJ hi;have hy:=IJ (t:=l) (i:=par l i) (by omega);unfold WA;refine oI func186 rfl ntmps186 rfl ?_;refine qq2 ?_;refine aO h rfl rfl (by omega) hx fun b o cs hl hR hat=>?_;obtain ⟨pv,rfl,hpv⟩:=hR;(repeat' (refine aa5 ?_));refine ah (u:=vi (ndA l i).parent) rfl (hat.get 0 rfl) ?_;clear hat;refine aO h rfl rfl (by omega) (by rw [hp.2,ao3];exact hy) fun b o cs hl hR hat=>?_;obtain ⟨pv2,rfl,hpv2⟩:=hR;refine aS hat rfl rfl ?_;refine au (Em (x:=ndA l (par l i)) hpv2 (Fq hok (by omega))) rfl ?_;clear hat;rintro _ w1 ⟨rfl,n1⟩;cases hsp:xK (ndA l (par l i)).qj with
 |none=>(repeat' (first|refine qq5 ?_|(refine aa4 (fun _=>?_) (fun _=>?_)<;>(first|(exfalso;omega)|skip))));exact aG rfl rfl rfl ⟨_,rfl,⟨_,_,rfl,ne4⟩,n1⟩
 |some q=>
  obtain ⟨sa,ss⟩:=q;have hsl:=yj hsp;dsimp only;(repeat' (first|refine qq4 ?_|(refine aa4 (fun _=>?_) (fun _=>?_)<;>(first|(exfalso;omega)|skip))));refine aO (h.keep pU n1.keep) rfl rfl (by omega) hx fun b o cs hl hR hat=>?_;obtain ⟨pv3,rfl,acG⟩:=hR;refine aS hat rfl rfl ?_;clear hat;refine au (CB (x:=ndA l i) (nm:=[114,101,103]) acG) rfl ?_;rintro _ w2 ⟨rfl,n2⟩;have n02:=New.trans n1 n2;have hvl:((uO l i [114,101,103]).getD []).length<=1024:=Ac hok hi;have ev: ∀o:Option (List UInt8),Ns o=.tuple #[vs (o.getD []),.bool o.isSome]:=fun o=>by cases o<;>rfl
  rw [ev];generalize hvv:(uO l i [114,101,103]).getD []=txt at hvl;have ajx:(val (ndA l i).qj [114,101,103]).getD []=txt:=hvv;rw [ajx];refine qq5 ?_;refine kN (f:=viN) (us:=[sa,ss]) (fun _=>rfl) rfl rfl (by simp) (by simp) fun vw w3 ow n3=>?_;have n03:=New.trans n02 n3;refine au (LY (s:=txt) (ow.rd (pq _)) hvl (by intro x hx;simp at hx;omega) (by simp;omega) (by simp)) rfl ?_;rintro _ w4 ⟨hrp,n4⟩;obtain ⟨vr,e,rs,rfl,hrs,hcase⟩:=JS hrp;have n04:=New.trans n03 n4;obtain ⟨ra,rc,rfl,_,_⟩:=hrs.form;replace hrs:=hrs.mono (Pb':=fun b=>b<w4.heap.size) y8 fun b hb _=>hb;have hlt: ∀r∈rs,(r.length=2/\ ∀x∈r,x<18446744073709551616):=by
   rcases hcase with ⟨h1,_⟩|⟨_,rfl,_⟩
   ·exact (Af (ws:=[sa,ss]) (by intro x hx;simp at hx;omega) h1).1
   ·intro r hr;simp at hr
  have hrl:rs.length<=1024:=by
   rcases hcase with ⟨h1,_⟩|⟨_,rfl,_⟩
   ·have:=(Af (ws:=[sa,ss]) (by intro x hx;simp at hx;omega) h1).2;omega
   ·simp
  refine qq4 ?_;refine aC (σ:=Nat×Value) (fun q=>[(8,vi e),(12,q.2),(47,.slice ra rs.length rc),(48,vi rs.length),(49,vi q.1)]) (fun q W=>q.1<=rs.length/\(∀r∈rs.take q.1,fitsW (r.getD 0 0) (r.getD 1 0)=true)/\oP (flat yR) 300 2 (fun b=>w4.heap.size<=b) NoB W q.2 ((rs.take q.1).map fun r=>(r.getD 0 0,r.getD 1 0))/\New w4 W) (fun q=>rs.length-q.1) (0,.slice none 0 0) (sl rfl) ⟨aoZ _,by simp,aN,aB _ _⟩ ?_;rintro ⟨k,vo⟩ G W ⟨hk,hall,own,nW⟩;dsimp only at hk hall own nW;simp only [ql];obtain ⟨oa,oc,rfl,_,_⟩:=own.form;have hz4:=n04.size;(repeat' (first|refine qq2 ?_|refine aa2 (fun _=>?_) (fun _=>?_)))
  ·obtain ⟨r,hr⟩:=pz rs (k:=k) (by omega);obtain ⟨hr2,hrx⟩:=hlt r (apD hr);obtain ⟨p,q,rfl⟩: ∃p q,r=[p,q]:=by
    match r,hr2 with
    | [p,q],_=>exact ⟨p,q,rfl⟩
   have hpl:=hrx p (by simp);have hql:=hrx q (by simp);refine aO (hrs.keep Dt nW.keep) rfl rfl (by omega) hr fun b o cs hl hR hat=>?_;obtain ⟨vr,rfl,hvr⟩:=hR;have hdj: ∀b,b<W.heap.size->b<w4.heap.size-> ¬w4.heap.size<=b:=fun b _ h1 h2=>by omega
   obtain ⟨qa,qc,rfl,_,_⟩:=hvr.form;refine ah (u:=.slice qa 2 qc) rfl (hat.get 0 rfl) ?_;clear hat;refine qq1 ?_;refine aX rfl (by kernel_rfl) (fun w'=>New W w') (Chg.drew _ _) ?_;intro w5 n5;(repeat' (refine aa0 (aa3 (af ?_))));refine aa0 (dD (y:=p) hvr (fun w' hw=>hw.keep) rfl rfl (by omega) rfl fun b o hcell=>af ?_);refine aa0 (ax (u:=w64 p) rfl hcell (af ?_));(repeat' (refine aa0 (aa3 (af ?_))));refine aa0 (dD (y:=q) hvr (fun w' hw=>hw.keep) rfl rfl (by omega) rfl fun b o hcell=>af ?_);refine aa0 (ax (u:=w64 q) rfl hcell (af ?_));refine aH rfl (au (En hpl hql) rfl ?_);rintro _ _ ⟨rfl,rfl⟩;refine ak ⟨rfl,n5,?_⟩;(repeat' (first|refine bG ?_|refine aa0 (dP rfl (af ?_))));have hfi:fitsW (([p,q]:List Nat).getD 0 0) (([p,q]:List Nat).getD 1 0)=fitsW p q:=rfl;cases hf:fitsW p q
   ·have hno: ¬(rs.all (fun r=>fitsW (r.getD 0 0) (r.getD 1 0))=true):=by rw [aqS];intro e;have:=e _ (apD hr);rw [hfi,hf] at this;cases this
    refine qq5 ?_;refine aG rfl rfl rfl ⟨_,rfl,⟨_,_,rfl,?_⟩,New.trans n04 (New.trans nW n5)⟩;rcases hcase with ⟨h1,rfl⟩|⟨h1,rfl,rfl⟩
    ·rw [h1];dsimp only;rw [if_neg hno];exact ne4
    ·simp at hr
   ·refine qq8 ?_;refine aX rfl (by kernel_rfl) (fun w'=>Chg (fun k=>w4.heap.size<=k) w5 w') (Chg.drew _ _) ?_;intro w6 n6;(repeat' (refine aa0 (aa3 (af ?_))));refine aa0 (dD (y:=p) hvr (fun w' hw=>(Chg.trans n5.any hw fun k _ e=>e).keep hdj) rfl rfl (by omega) rfl fun b o hcell=>af ?_);refine aa0 (ax (u:=w64 p) rfl hcell (af ?_));(repeat' (refine aa0 (aa3 (af ?_))));refine aa0 (dD (y:=q) hvr (fun w' hw=>(Chg.trans n5.any hw fun k _ e=>e).keep hdj) rfl rfl (by omega) rfl fun b o hcell=>af ?_);refine aa0 (ax (u:=w64 q) rfl hcell (af ?_));refine aH rfl (bJ (ps:=[(0,.tmp 64),(1,.tmp 67)]) (parts:=[(0,w64 p),(1,w64 q)]) rfl rfl (by simp [Value.cells]) (ak ⟨rfl,n6.any,?_⟩));refine aH rfl (bF (R:=flat yR) (y:=(p,q)) (Pe:=NoB) y9 rfl rfl rfl rfl (by omega) (by omega) fun vt w7 ot n7 s7 P8=>?_);have n67:=New.trans n6 n7;refine ak ⟨rfl,n67.any,?_⟩;have nW7:=New.trans n5 n67;refine aH rfl (bI y9 (own.new (oH yR) nW7) (ot.rd y9.mo) (fun y cs hy=>hy) rfl rfl (by omega) (by simp only [maxLen,apm,aqt,apb];omega) (by simp only [apm,aqt,apb];omega) fun v8 w8 o8 c8 lie _=>?_);have hz:=nW.size;have hz7:=nW7.size;have n48:New w4 w8:=(Chg.trans (M:=fun k=>w4.heap.size<=k) (New.trans nW nW7).any c8 fun k hk e=>(own.lt e).1).tN
    have c58:Chg (fun k=>w4.heap.size<=k) w5 w8:=Chg.trans n67.any c8 fun k hk e=>(own.lt e).1;refine ak ⟨rfl,c58,?_⟩;(repeat' (first|refine bG ?_|refine aa0 (dU (by conv=>{lhs;whnf}) (af ?_))));refine qq4 ?_;refine aA (k+1,v8) (sl rfl) ⟨by dsimp only;omega,P7 hr hall (by rw [hfi];exact hf),?_,n48⟩ (by dsimp only;omega);rw [take_snoc hr,aqn];exact o8.mono y9.mo (fun b _ e=>by rcases e with e|e;exact e;omega) i3
  ·obtain rfl:k=rs.length:=by omega
   rw [apZ] at hall;have hmt:rs.map (fun r=>(r.getD 0 0,r.getD 1 0))=(rs.take rs.length).map fun r=>(r.getD 0 0,r.getD 1 0):=by rw [apZ]
   refine aG rfl rfl rfl ⟨_,rfl,⟨_,_,rfl,?_⟩,New.trans n04 nW⟩;rcases hcase with ⟨h1,rfl⟩|⟨h1,rfl,rfl⟩
   ·rw [h1];dsimp only;rw [if_pos (List.all_eq_true.2 hall)];rw [hmt];exact ⟨rfl,own.mono y9.mo (fun b hb e=>by have:w4.heap.size<=b:=e;omega) i3⟩
   ·rw [h1];exact ne4
theorem Fv: ∀(l:List Nd) (m:List (Nat×Nat)) (i:Nat),(m.map (·.1)).Nodup->((xM m i l).map (·.1)).Nodup
 | [],m,_,h=>h
 |x::r,m,i,h=>by
  rw [xM];refine Fv r _ (i+1) ?_;split
  ·rename_i hc
   rw [aqn,List.nodup_append];refine ⟨h,by simp,fun a ha b hb=>?_⟩;simp at hb;subst hb;obtain ⟨p,hp,rfl⟩:=List.mem_map.1 ha;have:=List.all_eq_true.1 hc.2 p hp;simpa using this
  ·exact h
theorem CP (t:List Nd):((sG t).map (·.1)).Nodup:=Fv t [] 0 (by simp)
abbrev CQ (m:List (Nat×Nat)):List (Value×Value):=m.map fun p=>(.int .u32 p.1,vi p.2)
theorem Fz: ∀ {m:List (Nat×Nat)} {h k:Nat},(m.map (·.1)).Nodup->(h,k)∈m->m.find? (fun p=>decide (p.1=h))=some (h,k)
 | [],h,k,_,hm=>by simp at hm
 |p::r,h,k,hn,hm=>by
  rw [acK,List.nodup_cons] at hn;rcases List.mem_cons.1 hm with rfl|hm
  ·rw [List.find?_cons_of_pos (by simp)]
  ·rw [List.find?_cons_of_neg,Fz hn.2 hm];intro e;rw [decide_eq_true_eq] at e;exact hn.1 (List.mem_map.2 ⟨(h,k),hm,e.symm⟩)
theorem aaN {t:List Nd} {h:Nat} {r:Value} (e:((.int .u32 h:Value),r)∈CQ (sG t)): ∃k:Nat,r=vi k/\Cj t h=some k:=by
 obtain ⟨⟨a,b⟩,hm,e⟩:=List.mem_map.1 e;simp only [Prod.mk.injEq,Value.int.injEq,true_and] at e;obtain ⟨e1,rfl⟩:=e;obtain rfl:a=h:=by omega
 refine ⟨b,rfl,?_⟩;unfold Cj;rw [Fz (CP t) hm];rfl
theorem YD {t:List Nd} {h:Nat} (e: ∀p∈CQ (sG t),p.1≠ .int .u32 h):Cj t h=none:=by
 unfold Cj;rw [Option.map_eq_none_iff,List.find?_eq_none];intro p hp;have:=e _ (List.mem_map.2 ⟨p,hp,rfl⟩);simp only [ne_eq,Value.int.injEq,true_and] at this;simp only [decide_eq_true_eq];omega
theorem YE {m:List (Nat×Nat)} (hn:(m.map (·.1)).Nodup) {key r r':Value} (h1:(key,r)∈CQ m) (h2:(key,r')∈CQ m):r=r':=by
 obtain ⟨⟨a,b⟩,hm,e⟩:=List.mem_map.1 h1;obtain ⟨⟨c,d⟩,hm2,e2⟩:=List.mem_map.1 h2;simp only [Prod.mk.injEq] at e e2;obtain ⟨rfl,rfl⟩:=e;obtain ⟨e3,rfl⟩:=e2;simp only [Value.int.injEq,true_and] at e3;obtain rfl:c=a:=by omega
 have f1:=Fz hn hm;have f2:=Fz hn hm2;rw [f1] at f2;cases f2;rfl
theorem kU:Maps.Keyed prog 181:=Maps.int_keyed underlying181
theorem acH {i:Nat} (h:i<4294967296):keyOf prog 181 (.int .u32 i)=some (.int .u32 i):=
 Maps.keyOf_int_mk underlying181 (by simp [Lit.wf,IntKind.min,IntKind.max,IntKind.signed,IntKind.bits];omega)
def edC (e:Ed) (v:Value):List Value:=[vi e.src,vi (qC e.dst),.int .u8 e.kind,.bool e.soft,vi e.place,v]
def rEd:Rel Ed:=fun Pb w e cs=> ∃v,cs=edC e v/\RdS (Wk.one Be) 1 Pb w v e.args
theorem tZ:Stable rEd:=fun _ _ _ _ _ hk ⟨v,e,h⟩=>⟨v,e,h.keep (pF _) hk⟩
theorem rH:BR rEd:=fun _ _ _ _ _ hP ⟨v,e,h⟩=>⟨v,e,h.mono (pq _) hP⟩
theorem P9 {e:Ed} {a:Option Addr} {l c:Nat}: ∀x∈edC e (.slice a l c),x.oneCell'=true:=fun x hx=>by
 simp [edC] at hx;rcases hx with rfl|rfl|rfl|rfl|rfl|rfl<;>rfl
theorem qI:rF rEd 6:=⟨tZ,rH,fun Pb w x cs ⟨v,e,h⟩ _ c hc=>by
 subst e;obtain ⟨a,cap,rfl,_⟩:=h.form;exact P9 c hc⟩
theorem Qa {Pb:Nat->Prop} {w:World} {v:Value} {l:List Int} (h:RdS (Wk.one Be) 1 Pb w v l) (hl:l.length<=2000000):
 Calls prog 110 #[v] w (Ret fun r w'=>oP (Wk.one Be) 181 1 (fun b=>w.heap.size<=b) NoB w' r l/\New w w'):=by
 obtain ⟨a,cap,rfl,hc1,hc2⟩:=h.form;refine oI func110 rfl ntmps110 rfl ?_;refine qq2 ?_;refine jd rfl rfl ?_;cases a with
 |none=>
  have e:l=[]:=by
   rcases h with ⟨_,rfl⟩|⟨_,_,e,_⟩|⟨_,_,_,_,_,_,e,_⟩
   ·rfl
   ·cases e
   ·cases e
  subst e;refine qq4 ?_;exact ay rfl rfl ⟨_,rfl,aN,aB _ _⟩
 |some a=>refine qq4 ?_;refine iJ (R:=Wk.one Be) (Pe:=NoB) fun v1 w1 o1 n1=>?_;(repeat' (refine aa1 ?_));refine bI Gj o1 (h.keep (pF _) n1.keep) (fun y cs hy=>hy) rfl rfl (by omega) (by simp only [maxLen,apK];omega) (by simp only [apK];omega) fun v2 w2 o2 c2 lie _=>?_;refine qq6 ?_;refine ay rfl rfl ⟨_,rfl,?_,Chg.trans n1 c2 fun k hk e=>by have:=(o1.lt e).1;omega⟩;have hs:=n1.size;exact o2.mono (pq _) (fun b _ hb=>by rcases hb with hb|hb;exact hb;omega) i3
theorem Ij {Pb:Nat->Prop} {w:World} {v:Value} {l:List Nat} (h:RdS (Wk.one viN) 1 Pb w v l) (hl:l.length<=2000000):
 Calls prog 37 #[v] w (Ret fun r w'=>oP (Wk.one viN) 3 1 (fun b=>w.heap.size<=b) NoB w' r l/\New w w'):=by
 obtain ⟨a,cap,rfl,hc1,hc2⟩:=h.form;refine oI func37 rfl ntmps37 rfl ?_;refine qq2 ?_;refine jd rfl rfl ?_;cases a with
 |none=>
  have e:l=[]:=by
   rcases h with ⟨_,rfl⟩|⟨_,_,e,_⟩|⟨_,_,_,_,_,_,e,_⟩
   ·rfl
   ·cases e
   ·cases e
  subst e;refine qq4 ?_;exact ay rfl rfl ⟨_,rfl,aN,aB _ _⟩
 |some a=>refine qq4 ?_;refine iJ (R:=Wk.one viN) (Pe:=NoB) fun v1 w1 o1 n1=>?_;(repeat' (refine aa1 ?_));refine bI qQ o1 (h.keep (pF _) n1.keep) (fun y cs hy=>hy) rfl rfl (by omega) (by simp only [maxLen,apK];omega) (by simp only [apK];omega) fun v2 w2 o2 c2 lie _=>?_;refine qq6 ?_;refine ay rfl rfl ⟨_,rfl,?_,Chg.trans n1 c2 fun k hk e=>by have:=(o1.lt e).1;omega⟩;have hs:=n1.size;exact o2.mono (pq _) (fun b _ hb=>by rcases hb with hb|hb;exact hb;omega) i3
abbrev kwC (k:Nat):List Value:=[vs (uq k).1,vs (uq k).2]
def yI:List Value:=[vs [],vs []]++kwC 1++kwC 2++kwC 3++kwC 4++kwC 5
theorem JV {w:World}:(Instr.build 238 #[(1,.agg (kwC 1).toArray),(2,.agg (kwC 2).toArray),(3,.agg (kwC 3).toArray),(4,.agg (kwC 4).toArray),(5,.agg (kwC 5).toArray)]).run prog w=.ok (.agg yI.toArray) w:=by
 kernel_rfl
theorem WM {w:World}:(Instr.index 238 (.agg yI.toArray) (.int .u8 1)).run prog w=.ok (.agg (kwC 1).toArray) w:=by kernel_rfl
theorem WN {w:World}:(Instr.index 238 (.agg yI.toArray) (.int .u8 2)).run prog w=.ok (.agg (kwC 2).toArray) w:=by kernel_rfl
theorem WO {w:World}:(Instr.index 238 (.agg yI.toArray) (.int .u8 3)).run prog w=.ok (.agg (kwC 3).toArray) w:=by kernel_rfl
theorem WQ {w:World}:(Instr.index 238 (.agg yI.toArray) (.int .u8 4)).run prog w=.ok (.agg (kwC 4).toArray) w:=by kernel_rfl
theorem WR {w:World}:(Instr.index 238 (.agg yI.toArray) (.int .u8 5)).run prog w=.ok (.agg (kwC 5).toArray) w:=by kernel_rfl
theorem Nz {w:World} {k:Nat} (h1:1<=k) (h2:k<=5):(Instr.index 238 (.agg yI.toArray) (.int .u8 k)).run prog w=.ok (.agg (kwC k).toArray) w:=by
 have:k=1∨k=2∨k=3∨k=4∨k=5:=by omega
 rcases this with rfl|rfl|rfl|rfl|rfl
 ·exact WM
 ·exact WN
 ·exact WO
 ·exact WQ
 ·exact WR
theorem SS {w:World}:Calls prog 108 #[] w (Ret fun r w'=>r=.agg yI.toArray/\New w w'):=by
 refine oI func108 rfl ntmps108 rfl ?_;refine qq0 ?_;refine Wl.alloc fun w1 b1 n1 s1=>?_;refine qq2 ?_;refine iw (cs:=kwC 1) (parts:=[(0,vs (uq 1).1),(1,vs (uq 1).2)]) rfl rfl (by simp [Value.cells]) rfl ?_;refine iw (cs:=kwC 2) (parts:=[(0,vs (uq 2).1),(1,vs (uq 2).2)]) rfl rfl (by simp [Value.cells]) rfl ?_;refine iw (cs:=kwC 3) (parts:=[(0,vs (uq 3).1),(1,vs (uq 3).2)]) rfl rfl (by simp [Value.cells]) rfl ?_;refine iw (cs:=kwC 4) (parts:=[(0,vs (uq 4).1),(1,vs (uq 4).2)]) rfl rfl (by simp [Value.cells]) rfl ?_;refine iw (cs:=kwC 5) (parts:=[(0,vs (uq 5).1),(1,vs (uq 5).2)]) rfl rfl (by simp [Value.cells]) rfl ?_;refine eG (ps:=[(1,.tmp 1),(2,.tmp 2),(3,.tmp 3),(4,.tmp 4),(5,.tmp 5)]) (parts:=[(1,.agg (kwC 1).toArray),(2,.agg (kwC 2).toArray),(3,.agg (kwC 3).toArray),(4,.agg (kwC 4).toArray),(5,.agg (kwC 5).toArray)]) rfl JV ?_;refine aK (new:=yI) b1 rfl rfl rfl rfl (show (12:Nat)<=12 from aat 12) (by intro c hc;simp [yI,kwC] at hc;rcases hc with rfl|rfl|rfl|rfl|rfl|rfl|rfl|rfl|rfl|rfl|rfl<;>rfl) fun w2 b2 c2 s2=>?_;replace b2:Bk w2 w.heap.size 238 yI:=b2;have n2:New w w2:=(Chg.trans n1.any c2 i3).tN
 refine qq1 ?_;exact kM (sz:=12) rfl rfl rfl b2 rfl rfl ⟨_,rfl,rfl,n2⟩
abbrev WS:=Nat×Nat×Nat
abbrev Qc (x:WS):List Value:=[w64 x.1,w64 x.2.1,w64 x.2.2]
theorem zh:rF (flat Qc) 3:=rC _ (fun _=>rfl) fun x c hc=>by simp at hc;rcases hc with rfl|rfl|rfl<;>rfl
def Qd (w w':World) (r:Value) (o:Option (List WS×Bool)):Prop:= ∃v b e,r=.tuple #[v,.bool b,vi e]/\match o with
 |none=>e≠0
 |some ms=>e=0/\b=ms.2/\RdS (flat Qc) 3 (fun b=>w.heap.size<=b) w' v ms.1
def m3 (r:List Nat):WS:=(r.getD 0 0,r.getD 1 0,r.getD 2 0)
def ok3 (r:List Nat):Bool:=fitsW (r.getD 0 0) (r.getD 2 0)&&fitsW (r.getD 1 0) (r.getD 2 0)
theorem Qg (t:List Nd) (i:Nat):Pz t i=match uO t i [114,97,110,103,101,115] with
 |none=>none
 |some text=>match xK (ndA t i).qj,xK (ndA t (par t i)).qj with
  |some (a,s),some (above,_)=>match zZ [a,above,s] text with
   |none=>none
   |some rs=>if rs.all ok3=true then some (rs.map m3,decide (text=[])) else none
  |_,_=>none:=rfl
theorem YF (o:Option (Nat×Nat)):aeA o=.tuple #[vi ((o.getD (0,0)).1:Nat),vi ((o.getD (0,0)).2:Nat),vi (if o.isSome then 0 else 4)]:=by cases o<;>rfl
theorem WT {Pb:Nat->Prop} {w:World} {v:Value} {l:List Nd} {i:Nat} (h:RdS rNd 3 Pb w v l) (hok:pM l=true) (h0:i≠0) (hi:i<l.length):
 Calls prog 211 #[v,vi i] w (Ret fun r w'=>Qd w w' r (Pz l i)/\New w w'):=by
 obtain ⟨a,cap,rfl,hc1,hc2⟩:=h.form;have hlen:=qo hok;have hp:=vM hok h0 hi;have hx:=IJ hi;have hy:=IJ (t:=l) (i:=par l i) (by omega);rw [Qg];refine oI func211 rfl ntmps211 rfl ?_;refine qq2 ?_;refine aO h rfl rfl (by omega) hx fun b o cs hl hR hat=>?_;obtain ⟨pv,rfl,hpv⟩:=hR;refine aS hat rfl rfl ?_;clear hat;refine au (CB (x:=ndA l i) (nm:=[114,97,110,103,101,115]) hpv) rfl ?_;rintro _ w1 ⟨rfl,n1⟩;rw [show val (ndA l i).qj [114,97,110,103,101,115]=uO l i [114,97,110,103,101,115] from rfl];cases htx:uO l i [114,97,110,103,101,115] with
 |none=>dsimp only [Ns];refine qq5 ?_;exact cZ rfl rfl rfl rfl ⟨_,rfl,⟨_,_,_,rfl,ne6⟩,n1⟩
 |some txt=>
  have htl:=Bh hok hi htx;dsimp only [Ns];refine qq4 ?_;refine aO (h.keep pU n1.keep) rfl rfl (by omega) hx fun b o cs hl hR hat=>?_;obtain ⟨pv1,rfl,hpv1⟩:=hR;refine aS hat rfl rfl ?_;clear hat;refine au (Em (x:=ndA l i) hpv1 (Fq hok hi)) rfl ?_;rintro _ w2 ⟨rfl,n2⟩;have n02:=New.trans n1 n2;rw [YF];refine qq5 ?_;refine aO (h.keep pU n02.keep) rfl rfl (by omega) hx fun b o cs hl hR hat=>?_;obtain ⟨pv2,rfl,hpv2⟩:=hR;(repeat' (refine aa5 ?_));refine ah (u:=vi (ndA l i).parent) rfl (hat.get 0 rfl) ?_;clear hat;refine aO (h.keep pU n02.keep) rfl rfl (by omega) (by rw [hp.2,ao3];exact hy) fun b o cs hl hR hat=>?_;obtain ⟨pv3,rfl,acG⟩:=hR;refine aS hat rfl rfl ?_;clear hat;refine au (Em (x:=ndA l (par l i)) acG (Fq hok (by omega))) rfl ?_;rintro _ w3 ⟨rfl,n3⟩;have n03:=New.trans n02 n3;rw [YF];cases hs1:xK (ndA l i).qj with
  |none=>dsimp only [arb];(repeat' (first|refine qq5 ?_|(refine aa4 (fun _=>?_) (fun _=>?_)<;>(first|(exfalso;contradiction)|skip))));exact cZ rfl rfl rfl rfl ⟨_,rfl,⟨_,_,_,rfl,ne4⟩,n03⟩
  |some q1=>
   cases hs2:xK (ndA l (par l i)).qj with
   |none=>dsimp only [arb];(repeat' (first|refine qq4 ?_|(refine aa4 (fun _=>?_) (fun _=>?_)<;>(first|(exfalso;contradiction)|skip))));exact cZ rfl rfl rfl rfl ⟨_,rfl,⟨_,_,_,rfl,ne4⟩,n03⟩
   |some q2=>
    obtain ⟨sa,ss⟩:=q1;obtain ⟨sab,ss2⟩:=q2;have hsl:=yj hs1;have hsl2:=yj hs2;dsimp only [arb,Option.getD];(repeat' (first|refine qq6 ?_|(refine aa4 (fun _=>?_) (fun _=>?_)<;>(first|(exfalso;omega)|(exfalso;contradiction)|skip))));refine kN (f:=viN) (us:=[sa,sab,ss]) (fun _=>rfl) rfl rfl (by simp) (by simp) fun vw w4 ow n4=>?_;have n04:=New.trans n03 n4;have acI: ∀x∈ [sa,sab,ss],x<=2:=by intro x hx;simp at hx;omega
    refine au (LY (s:=txt) (ow.rd (pq _)) htl acI (by simp;omega) (by simp)) rfl ?_;rintro _ w5 ⟨hrp,n5⟩;obtain ⟨vr,e,rs,rfl,hrs,hcase⟩:=JS hrp;have n05:=New.trans n04 n5;obtain ⟨ra,rc,rfl,_,_⟩:=hrs.form;replace hrs:=hrs.mono (Pb':=fun b=>b<w5.heap.size) y8 fun b hb _=>hb;have hlt: ∀r∈rs,(r.length=3/\ ∀x∈r,x<18446744073709551616):=by
     rcases hcase with ⟨h1,_⟩|⟨_,rfl,_⟩
     ·exact (Af acI h1).1
     ·intro r hr;simp at hr
    have hrl:rs.length<=1024:=by
     rcases hcase with ⟨h1,_⟩|⟨_,rfl,_⟩
     ·have:=(Af acI h1).2;omega
     ·simp
    refine qq4 ?_;refine aC (σ:=Nat×Value) (fun q=>[(7,vs txt),(11,vi e),(16,q.2),(66,.slice ra rs.length rc),(67,vi rs.length),(68,vi q.1)]) (fun q W=>q.1<=rs.length/\(∀r∈rs.take q.1,ok3 r=true)/\oP (flat Qc) 345 3 (fun b=>w5.heap.size<=b) NoB W q.2 ((rs.take q.1).map m3)/\New w5 W) (fun q=>rs.length-q.1) (0,.slice none 0 0) (sl rfl) ⟨aoZ _,by simp,aN,aB _ _⟩ ?_;rintro ⟨k,vo⟩ G W ⟨hk,hall,own,nW⟩;dsimp only at hk hall own nW;simp only [ql];obtain ⟨oa,oc,rfl,_,_⟩:=own.form;have hz5:=n05.size;(repeat' (first|refine qq2 ?_|refine aa2 (fun _=>?_) (fun _=>?_)|refine fD rfl rfl (fun _=>?_) (fun _=>?_)))
    ·obtain ⟨r,hr⟩:=pz rs (k:=k) (by omega);obtain ⟨hr2,hrx⟩:=hlt r (apD hr);obtain ⟨p,q,s,rfl⟩: ∃p q s,r=[p,q,s]:=by
      match r,hr2 with
      | [p,q,s],_=>exact ⟨p,q,s,rfl⟩
     have hpl:=hrx p (by simp);have hql:=hrx q (by simp);have hsl:=hrx s (by simp);refine aO (hrs.keep Dt nW.keep) rfl rfl (by omega) hr fun b o cs hl hR hat=>?_;obtain ⟨vr,rfl,hvr⟩:=hR;obtain ⟨qa,qc,rfl,_,_⟩:=hvr.form;have hdj: ∀b,b<W.heap.size->b<w5.heap.size-> ¬w5.heap.size<=b:=fun b _ h1 h2=>by omega
     refine ah (u:=.slice qa 3 qc) rfl (hat.get 0 rfl) ?_;clear hat;have hfi:ok3 [p,q,s]=(fitsW p s&&fitsW q s):=rfl;have hno:ok3 [p,q,s]=false-> ¬(rs.all ok3=true):=fun e2 e=>by rw [aqS] at e;have:=e _ (apD hr);rw [e2] at this;cases this
     have hbad: ∀W',New W W'->ok3 [p,q,s]=false->Qd w W' (.tuple #[.slice none 0 0,.bool false,vi 4]) (match zZ [sa,sab,ss] txt with
      |none=>none
      |some rs=>if rs.all ok3=true then some (rs.map m3,decide (txt=[])) else none):=fun W' _ e2=>by
      refine ⟨_,_,_,rfl,?_⟩;rcases hcase with ⟨h1,rfl⟩|⟨h1,rfl,rfl⟩
      ·rw [h1];dsimp only;rw [if_neg (hno e2)];exact ne4
      ·simp at hr
     refine qq1 ?_;refine aX rfl (by kernel_rfl) (fun w'=>New W w') (Chg.drew _ _) ?_;intro w6 n6;(repeat' (refine aa0 (aa3 (af ?_))));refine aa0 (dD (y:=p) hvr (fun w' hw=>hw.keep) rfl rfl (by omega) rfl fun b o hcell=>af ?_);refine aa0 (ax (u:=w64 p) rfl hcell (af ?_));(repeat' (refine aa0 (aa3 (af ?_))));refine aa0 (dD (y:=s) hvr (fun w' hw=>hw.keep) rfl rfl (by omega) rfl fun b o hcell=>af ?_);refine aa0 (ax (u:=w64 s) rfl hcell (af ?_));refine aH rfl (au (En hpl hsl) rfl ?_);rintro _ _ ⟨rfl,rfl⟩;refine ak ⟨rfl,n6,?_⟩;cases hf:fitsW p s
     ·have hbb:ok3 [p,q,s]=false:=by rw [hfi,hf];rfl
      (repeat' (first|refine bG ?_|refine gq rfl rfl (by assumption) ?_|refine aa0 (aa3 (af ?_))|refine aa0 (dI rfl (by conv=>{lhs;whnf}) (af ?_))|refine aa0 (dP rfl (af ?_))));refine qq5 ?_;exact cZ rfl rfl rfl rfl ⟨_,rfl,hbad _ n6 hbb,New.trans n05 (New.trans nW n6)⟩
     ·(repeat' (first|refine bM rfl rfl ?_|refine aa0 (aa3 (af ?_))|refine aa0 (dP rfl (af ?_))));refine aa0 (dD (y:=q) hvr (fun w' hw=>hw.keep) rfl rfl (by omega) rfl fun b o hcell=>af ?_);(repeat' (refine bM rfl rfl ?_));refine aa0 (ax (u:=w64 q) rfl hcell (af ?_));(repeat' (first|refine bM rfl rfl ?_|refine aa0 (aa3 (af ?_))));refine aa0 (dD (y:=s) hvr (fun w' hw=>hw.keep) rfl rfl (by omega) rfl fun b o hcell=>af ?_);(repeat' (refine bM rfl rfl ?_));refine aa0 (ax (u:=w64 s) rfl hcell (af ?_));(repeat' (refine bM rfl rfl ?_));refine aH rfl (au (En hql hsl) rfl ?_);rintro _ _ ⟨rfl,rfl⟩;refine ak ⟨rfl,n6,?_⟩;cases hf2:fitsW q s
      ·have hbb:ok3 [p,q,s]=false:=by rw [hfi,hf,hf2];rfl
       (repeat' (first|refine bG ?_|refine bM rfl rfl ?_|refine aa0 (fC rfl (by conv=>{lhs;whnf}) (af ?_))|refine aa0 (dP rfl (af ?_))));refine qq5 ?_;exact cZ rfl rfl rfl rfl ⟨_,rfl,hbad _ n6 hbb,New.trans n05 (New.trans nW n6)⟩
      ·have hbb:ok3 [p,q,s]=true:=by rw [hfi,hf,hf2];rfl
       (repeat' (first|refine bG ?_|refine bM rfl rfl ?_|refine aa0 (fC rfl (by conv=>{lhs;whnf}) (af ?_))|refine aa0 (dP rfl (af ?_))));refine qq8 ?_;refine aX rfl (by kernel_rfl) (fun w'=>Chg (fun k=>w5.heap.size<=k) w6 w') (Chg.drew _ _) ?_;intro w7 n7;(repeat' (refine aa0 (aa3 (af ?_))));refine aa0 (dD (y:=p) hvr (fun w' hw=>(Chg.trans n6.any hw fun k _ e=>e).keep hdj) rfl rfl (by omega) rfl fun b o hcell=>af ?_);refine aa0 (ax (u:=w64 p) rfl hcell (af ?_));(repeat' (refine aa0 (aa3 (af ?_))));refine aa0 (dD (y:=q) hvr (fun w' hw=>(Chg.trans n6.any hw fun k _ e=>e).keep hdj) rfl rfl (by omega) rfl fun b o hcell=>af ?_);refine aa0 (ax (u:=w64 q) rfl hcell (af ?_));(repeat' (refine aa0 (aa3 (af ?_))));refine aa0 (dD (y:=s) hvr (fun w' hw=>(Chg.trans n6.any hw fun k _ e=>e).keep hdj) rfl rfl (by omega) rfl fun b o hcell=>af ?_);refine aa0 (ax (u:=w64 s) rfl hcell (af ?_));refine aH rfl (bJ (ps:=[(0,.tmp 93),(1,.tmp 96),(2,.tmp 99)]) (parts:=[(0,w64 p),(1,w64 q),(2,w64 s)]) rfl rfl (by simp [Value.cells]) (ak ⟨rfl,n7.any,?_⟩));refine aH rfl (bF (R:=flat Qc) (y:=(p,q,s)) (Pe:=NoB) zh rfl rfl rfl rfl (by omega) (by omega) fun vt w8 ot n8 s8 P8=>?_);have n78:=New.trans n7 n8;refine ak ⟨rfl,n78.any,?_⟩;have nW8:=New.trans n6 n78;refine aH rfl (bI zh (own.new (oH Qc) nW8) (ot.rd zh.mo) (fun y cs hy=>hy) rfl rfl (by omega) (by simp only [maxLen,apm,aqt,apb];omega) (by simp only [apm,aqt,apb];omega) fun v9 w9 o9 c9 lie _=>?_);have hz:=nW.size;have hz8:=nW8.size;have n59:New w5 w9:=(Chg.trans (M:=fun k=>w5.heap.size<=k) (New.trans nW nW8).any c9 fun k hk e=>(own.lt e).1).tN
       have c69:Chg (fun k=>w5.heap.size<=k) w6 w9:=Chg.trans n78.any c9 fun k hk e=>(own.lt e).1;refine ak ⟨rfl,c69,?_⟩;(repeat' (first|refine bG ?_|refine aa0 (dU (by conv=>{lhs;whnf}) (af ?_))));refine qq4 ?_;refine aA (k+1,v9) (sl rfl) ⟨by dsimp only;omega,P7 hr hall hbb,?_,n59⟩ (by dsimp only;omega);rw [take_snoc hr,aqn];exact o9.mono zh.mo (fun b _ e=>by rcases e with e|e;exact e;omega) i3
    ·rename_i htn
     obtain rfl:k=rs.length:=by omega
     rw [apZ] at hall;have hmt:rs.map m3=(rs.take rs.length).map m3:=by rw [apZ]
     refine cZ rfl rfl rfl rfl ⟨_,rfl,⟨_,_,_,rfl,?_⟩,New.trans n05 nW⟩;rcases hcase with ⟨h1,rfl⟩|⟨h1,rfl,rfl⟩
     ·rw [h1];dsimp only;rw [if_pos (List.all_eq_true.2 hall)];rw [hmt];exact ⟨rfl,(decide_eq_true htn).symm,(own.rd zh.mo).mono zh.mo fun b hb e=>by rcases e with e|e;(have:w5.heap.size<=b:=e;omega);exact e.elim⟩
     ·rw [h1];exact ne4
    ·rename_i htn
     obtain rfl:k=rs.length:=by omega
     rw [apZ] at hall;have hmt:rs.map m3=(rs.take rs.length).map m3:=by rw [apZ]
     refine cZ rfl rfl rfl rfl ⟨_,rfl,⟨_,_,_,rfl,?_⟩,New.trans n05 nW⟩;rcases hcase with ⟨h1,rfl⟩|⟨h1,rfl,rfl⟩
     ·rw [h1];dsimp only;rw [if_pos (List.all_eq_true.2 hall)];rw [hmt];exact ⟨rfl,(decide_eq_false htn).symm,(own.rd zh.mo).mono zh.mo fun b hb e=>by rcases e with e|e;(have:w5.heap.size<=b:=e;omega);exact e.elim⟩
     ·rw [h1];exact ne4
theorem YG {t:List Nd} {i:Nat} {ms:List WS} {b:Bool} (hok:pM t=true) (hi:i<t.length) (h:Pz t i=some (ms,b)):ms.length<=1024/\ ∀m∈ms,m.1<18446744073709551616/\m.2.1<18446744073709551616/\m.2.2<18446744073709551616:=by
 rw [Qg] at h;split at h
 ·cases h
 ·rename_i txt htx
  have htl:=Bh hok hi htx;split at h
  ·rename_i a s above x h1 h2
   split at h
   ·cases h
   ·rename_i rs hrs
    split at h
    ·simp only [Option.some.injEq,Prod.mk.injEq] at h;obtain ⟨rfl,rfl⟩:=h;have k1:=yj h1;have k2:=yj h2;have hlt:=Af (ws:=[a,above,s]) (by intro x hx;simp at hx;omega) hrs;refine ⟨by rw [aqt];omega,fun m hm=>?_⟩;obtain ⟨r,hr,rfl⟩:=List.mem_map.1 hm;obtain ⟨hr2,hrx⟩:=hlt.1 r hr
     match r,hr2 with
     | [p,q,s],_=>exact ⟨hrx p (by simp),hrx q (by simp),hrx s (by simp)⟩
    ·cases h
  ·cases h
theorem U5 (k:Nat):IntKind.u64.wrap (k:Int)=((k % 2^64:Nat):Int):=by
 rw [show IntKind.u64.wrap (k:Int)=(k:Int) % 18446744073709551616 by simp [IntKind.wrap,IntKind.bits,IntKind.signed]];omega
def U6 (r:Value) (o:Option Nat):Prop:= ∃(k:Nat) (e:Int),r=.tuple #[w64 k,vi e]/\match o with
 |none=>e≠0
 |some b=>e=0/\k=b/\b<18446744073709551616
theorem NC {x:Win} {ms:List WS} {k:Nat} {m:WS} (h:ms[k]? =some m):y7 x (ms.drop k)=if within x m.1 m.2.2=true then some ((m.2.1+(x.1-m.1)) % 2^64) else y7 x (ms.drop (k+1)):=by
 rw [drop_cons h,y7]
theorem ND {Pb:Nat->Prop} {w:World} {v:Value} {l:List Nd} {i:Nat} {x:Win} (h:RdS rNd 3 Pb w v l) (hok:pM l=true) (h0:i≠0) (hi:i<l.length) (hx1:x.1<18446744073709551616) (hx2:x.2<18446744073709551616):
 Calls prog 204 #[v,vi i,.agg (yR x).toArray,.bool false] w (Ret fun r w'=>U6 r (Aa l i x)/\New w w'):=by
 obtain ⟨a,cap,rfl,hc1,hc2⟩:=h.form;have hlen:=qo hok;unfold Aa;refine oI func204 rfl ntmps204 rfl ?_;refine qq0 ?_;refine Wl.box rfl fun w1 b1 n1 s1=>?_;replace b1:Bk w1 w.heap.size 300 [w64 x.1,w64 x.2]:=b1;refine qq2 ?_;refine au (WT (h.keep pU n1.keep) hok h0 hi) rfl ?_;rintro _ w2 ⟨⟨vm,bb,e,rfl,hm⟩,n2⟩;have n02:=New.trans n1 n2;have b2:=b1.chg n2 id;cases hmm:Pz l i with
 |none=>rw [hmm] at hm;dsimp only at hm;(repeat' (first|refine qq5 ?_|(refine aa4 (fun _=>?_) (fun _=>?_)<;>(first|(exfalso;omega)|skip))));refine ah (u:=w64 x.1) rfl (b2.cell (o:=0) rfl) ?_;refine qq6 ?_;exact aG rfl rfl rfl ⟨_,rfl,⟨_,_,rfl,hm⟩,n02⟩
 |some q=>
  obtain ⟨ms,same⟩:=q;rw [hmm] at hm;obtain ⟨rfl,rfl,hrd⟩:=hm;obtain ⟨hml,hmx⟩:=YG hok hi hmm;dsimp only at hrd;obtain ⟨ma,mc,rfl,_,_⟩:=hrd.form;cases bb
  ·(repeat' (first|refine qq4 ?_|(refine aa4 (fun _=>?_) (fun _=>?_)<;>(first|(exfalso;omega)|skip))));refine aC (σ:=Nat) (fun k=>[(3,.bool false),(6,.pointer (some ⟨w.heap.size,0,none⟩)),(32,.slice ma ms.length mc),(33,vi ms.length),(34,vi k)]) (fun k W=>k<=ms.length/\y7 x ms=y7 x (ms.drop k)/\New w2 W) (fun k=>ms.length-k) 0 (sl rfl) ⟨aoZ _,by simp,aB _ _⟩ ?_;rintro k G W ⟨hk,hf,nW⟩;simp only [ql];have bW:=b2.chg nW id;(repeat' (first|refine qq2 ?_|refine aa2 (fun _=>?_) (fun _=>?_)))
   ·obtain ⟨m,hm⟩:=pz ms (k:=k) (by omega);obtain ⟨hm1,hm2,hm3⟩:=hmx m (apD hm);refine aO (hrd.keep (pI _) nW.keep) rfl rfl (by omega) hm fun b o cs hl hR hat=>?_;obtain rfl:cs=Qc m:=hR;refine aS hat rfl rfl ?_;clear hat;refine Wl.alloc fun w3 b3 n3 s3=>?_;refine aK (new:=Qc m) b3 rfl rfl rfl rfl zl3 (by intro c hc;simp at hc;rcases hc with rfl|rfl|rfl<;>rfl) fun w4 b4 c4 s4=>?_;replace b4:Bk w4 W.heap.size 345 (Qc m):=b4;have n4:New W w4:=(Chg.trans n3.any c4 i3).tN
    have n24:=New.trans nW n4;refine qq1 ?_;refine aX rfl (by kernel_rfl) (fun w'=>New w4 w') (Chg.drew _ _) ?_;intro w5 n5;(repeat' (refine aa0 (aa6 (af ?_))));refine aa0 (ax (u:=w64 m.1) rfl (fun w' hw=>(b4.chg hw id).cell (o:=0) rfl) (af ?_));(repeat' (refine aa0 (aa6 (af ?_))));refine aa0 (ax (u:=w64 m.2.1) rfl (fun w' hw=>(b4.chg hw id).cell (o:=1) rfl) (af ?_));(repeat' (first|refine bG ?_|refine aa0 (dU (by conv=>{lhs;whnf}) (af ?_))));have n25:=New.trans n24 n5;have b5:=b4.chg n5 id;have bx5:=b2.chg n25 id;refine qq2 ?_;refine bD bx5 rfl rfl ?_;refine qq5 ?_;refine ah (u:=w64 m.2.2) rfl (b5.cell (o:=2) rfl) ?_;refine au (PI (x:=x) hx1 hx2 hm1 hm3) rfl ?_;rintro _ w6 ⟨rfl,n6⟩;have n26:=New.trans n25 n6;have bx6:=bx5.chg n6 id;rw [NC hm] at hf;cases hw:within x m.1 m.2.2
    ·refine qq3 ?_;refine aA (k+1) (sl rfl) ⟨by omega,?_,n26⟩ (by omega);rw [hf,if_neg (by rw [hw];decide)]
    ·have hwi:m.1<=x.1:=by unfold within at hw;rw [decide_eq_true_eq] at hw;exact hw.1
     refine qq4 ?_;refine ah (u:=w64 x.1) rfl (bx6.cell (o:=0) rfl) ?_;(repeat' (refine aa1 ?_));refine fU rfl rfl ?_;rw [Bj hwi hx1];refine jA rfl rfl ?_;rw [show ((m.2.1:Int)+((x.1-m.1:Nat):Int))=((m.2.1+(x.1-m.1):Nat):Int) by omega,U5];refine qq1 ?_;refine aG rfl rfl rfl ⟨_,rfl,⟨_,_,rfl,?_⟩,New.trans n02 n26⟩;rw [if_neg (by decide),hf,if_pos hw];exact ⟨rfl,rfl,aq6 _ (by decide)⟩
   ·obtain rfl:k=ms.length:=by omega
    rw [aqi] at hf;refine aG rfl rfl rfl ⟨_,rfl,⟨0,_,rfl,?_⟩,New.trans n02 nW⟩;rw [if_neg (by decide),hf];show (150:Int)≠0;decide
  ·(repeat' (first|refine qq4 ?_|(refine aa4 (fun _=>?_) (fun _=>?_)<;>(first|(exfalso;omega)|skip))));refine ah (u:=w64 x.1) rfl (b2.cell (o:=0) rfl) ?_;refine qq6 ?_;exact aG rfl rfl rfl ⟨_,rfl,⟨_,_,rfl,by dsimp only;rw [if_pos rfl];exact ⟨rfl,rfl,hx1⟩⟩,n02⟩
theorem NE {Pb Pw:Nat->Prop} {w:World} {v vw:Value} {l:List Nd} {ws:List Nat} {x:Win} (h:RdS rNd 3 Pb w v l) (hok:pM l=true) (hw:RdS (Wk.one viN) 1 Pw w vw ws) (hws: ∀k∈ws,k≠0/\k<l.length) (hx1:x.1<18446744073709551616) (hx2:x.2<18446744073709551616):
 Calls prog 187 #[v,vw,.agg (yR x).toArray,.bool false] w (Ret fun r w'=>U6 r (tX l ws x)/\New w w'):=by
 obtain ⟨a,cap,rfl,hc1,hc2⟩:=h.form;obtain ⟨wa,wc,rfl,hd1,hd2⟩:=hw.form;have hlen:=qo hok;simp only [maxLen] at hd2;refine oI func187 rfl ntmps187 rfl ?_;refine qq0 ?_;refine Wl.box rfl fun w1 b1 n1 s1=>?_;replace b1:Bk w1 w.heap.size 300 [w64 x.1,w64 x.2]:=b1;refine qq4 ?_;refine aC (σ:=Nat×Nat) (fun q=>[(0,.slice a l.length cap),(3,.bool false),(6,.pointer (some ⟨w.heap.size,0,none⟩)),(14,.slice wa ws.length wc),(15,vi ws.length),(16,vi q.1)]) (fun q W=>q.1<=ws.length/\q.2<18446744073709551616/\tX l ws x=tX l (ws.drop q.1) (q.2,x.2)/\Bk W w.heap.size 300 [w64 q.2,w64 x.2]/\New w W) (fun q=>ws.length-q.1) (0,x.1) (sl rfl) ⟨aoZ _,hx1,by simp,b1,n1⟩ ?_;rintro ⟨k,c⟩ G W ⟨hk,hcl,hT,bW,nW⟩;dsimp only at hk hcl hT bW nW;simp only [ql];(repeat' (first|refine qq2 ?_|refine aa2 (fun _=>?_) (fun _=>?_)))
 ·obtain ⟨i,hi⟩:=pz ws (k:=k) (by omega);obtain ⟨hi0,hil⟩:=hws i (apD hi);refine bC (hw.keep (pF _) nW.keep) rfl rfl (by omega) hi fun b o hcell=>?_;refine ah (u:=vi i) rfl hcell ?_;refine qq2 ?_;refine bD bW rfl rfl ?_;(repeat' (refine aa1 ?_));refine au (ND (x:=(c,x.2)) (h.keep pU nW.keep) hok hi0 hil hcl hx2) rfl ?_;rintro _ w2 ⟨⟨r,e,rfl,hr⟩,n2⟩;have n02:=New.trans nW n2;have b2:=bW.chg n2 id;rw [drop_cons hi,tX] at hT;cases hcm:Aa l i (c,x.2) with
  |none=>rw [hcm] at hr hT;dsimp only at hr;(repeat' (first|refine qq5 ?_|(refine aa4 (fun _=>?_) (fun _=>?_)<;>(first|(exfalso;omega)|skip))));exact aG rfl rfl rfl ⟨_,rfl,⟨0,_,rfl,by rw [hT];exact hr⟩,n02⟩
  |some b=>
   rw [hcm] at hr hT;obtain ⟨rfl,rfl,hrl⟩:=hr;dsimp only at hT;(repeat' (first|refine qq4 ?_|(refine aa4 (fun _=>?_) (fun _=>?_)<;>(first|(exfalso;omega)|skip))));refine aJ (u:=w64 r) b2 rfl (show (0:Nat)<2 by omega) rfl rfl fun w3 b3 c3=>?_;refine qq4 ?_;have n03:New w w3:=(Chg.trans n02.any c3 i3).tN
   exact aA (k+1,r) (sl rfl) ⟨by dsimp only;omega,hrl,hT,b3,n03⟩ (by dsimp only;omega)
 ·obtain rfl:k=ws.length:=by omega
  rw [aqi,tX] at hT;refine ah (u:=w64 c) rfl (bW.cell (o:=0) rfl) ?_;refine qq6 ?_;exact aG rfl rfl rfl ⟨_,rfl,⟨_,_,rfl,by rw [hT];exact ⟨rfl,rfl,hcl⟩⟩,nW⟩
theorem U7 {t:List Nd} {i:Nat} {ws:List Win} (hok:pM t=true) (hi:i<t.length) (h:WA t i=some ws):ws.length<=1024/\ ∀x∈ws,x.1<18446744073709551616/\x.2<18446744073709551616:=by
 unfold WA at h;split at h
 ·cases h
 ·rename_i a s hs
  have hvl:((uO t i [114,101,103]).getD []).length<=1024:=Ac hok hi;split at h
  ·cases h
  ·rename_i rs hrs
   split at h
   ·cases h;have k1:=yj hs;have hlt:=Af (ws:=[a,s]) (by intro x hx;simp at hx;omega) hrs;refine ⟨by rw [aqt];omega,fun m hm=>?_⟩;obtain ⟨r,hr,rfl⟩:=List.mem_map.1 hm;obtain ⟨hr2,hrx⟩:=hlt.1 r hr
    match r,hr2 with
    | [p,q],_=>exact ⟨hrx p (by simp),hrx q (by simp)⟩
   ·cases h
theorem FB {α β:Type} {f:α->Option β}: ∀ {l:List α} {x:α},x∈l->f x=none->vH f l=none
 | [],x,h,_=>by simp at h
 |y::r,x,h,e=>by
  rw [vH];rcases List.mem_cons.1 h with rfl|h
  ·rw [e]
  ·cases f y with
   |none=>rfl
   |some z=>dsimp only;rw [FB h e];rfl
theorem Ik {α β:Type} {f:α->Option β} {g:α->β}: ∀ {l:List α},(∀x∈l,f x=some (g x))->vH f l=some (l.map g)
 | [],_=>rfl
 |y::r,h=>by rw [vH,h y (by simp)];dsimp only;rw [Ik fun x hx=>h x (aqd _ hx)];rfl
theorem FC {α β:Type} {f:α->Option β}: ∀ {l:List α} {r:List β},vH f l=some r->r.length=l.length/\ ∀x∈l, ∃y,f x=some y/\y∈r
 | [],r,h=>by cases h;simp
 |y::l,r,h=>by
  rw [vH] at h;cases hy:f y with
  |none=>rw [hy] at h;cases h
  |some z=>
   rw [hy] at h;dsimp only at h;obtain ⟨r',h1,rfl⟩:=Option.map_eq_some_iff.1 h;obtain ⟨i1,i2⟩:=FC h1;refine ⟨by simp [i1],fun x hx=>?_⟩;rcases List.mem_cons.1 hx with rfl|hx
   ·exact ⟨z,hy,by simp⟩
   ·obtain ⟨y',e1,e2⟩:=i2 x hx;exact ⟨y',e1,aqd _ e2⟩
def outW (t:List Nd) (i:Nat) (w:Win):Option Win:=(tX t (E8 t (par t i)) w).map fun b=>(b,w.2)
theorem NF {Pb:Nat->Prop} {w:World} {v:Value} {l:List Nd} {i:Nat} (h:RdS rNd 3 Pb w v l) (hok:pM l=true) (h0:i≠0) (hi:i<l.length):
 Calls prog 179 #[v,vi i] w (Ret fun r w'=>JU w w' r (wo l i)/\New w w'):=by
 obtain ⟨a,cap,rfl,hc1,hc2⟩:=h.form;have hlen:=qo hok;have hp:=vM hok h0 hi;have hx:=IJ hi;replace h:=h.mono (Pb':=fun k=>k<w.heap.size) Ce fun k hk _=>hk;unfold wo;refine oI func179 rfl ntmps179 rfl ?_;refine qq2 ?_;refine au (YC h hok h0 hi) rfl ?_;rintro _ w1 ⟨⟨vr,e,rfl,hr⟩,n1⟩;cases acJ:WA l i with
 |none=>rw [acJ] at hr;dsimp only at hr;(repeat' (first|refine qq5 ?_|(refine aa4 (fun _=>?_) (fun _=>?_)<;>(first|(exfalso;omega)|skip))));exact aG rfl rfl rfl ⟨_,rfl,⟨_,_,rfl,hr⟩,n1⟩
 |some ws=>
  rw [acJ] at hr;obtain ⟨rfl,aeG⟩:=hr;obtain ⟨hwl,hwx⟩:=U7 hok hi acJ;obtain ⟨ra,rc,rfl,_,_⟩:=aeG.form;have hz1:=n1.size;dsimp only;have hout: ∀q∈ws,(tX l (E8 l (par l i)) q).map (fun b=>(b,q.2))=outW l i q:=fun _ _=>rfl;(repeat' (first|refine qq4 ?_|(refine aa4 (fun _=>?_) (fun _=>?_)<;>(first|(exfalso;omega)|skip))));refine aC (σ:=Nat×List Win) (fun q=>[(0,.slice a l.length cap),(1,vi i),(6,.slice ra ws.length rc),(19,.slice ra ws.length rc),(20,vi ws.length),(21,vi q.1)]) (fun q W=>q.1<=ws.length/\q.2.length=q.1/\(∀j x,j<q.1->ws[j]? =some x-> ∃y,q.2[j]? =some y/\outW l i x=some y)/\oP (flat yR) 300 2 (fun b=>w.heap.size<=b) NoB W (.slice ra ws.length rc) (q.2++ws.drop q.1)/\New w W) (fun q=>ws.length-q.1) (0,[]) (sl rfl) ⟨aoZ _,rfl,by intro j x hj;omega,by simpa using aeG,n1⟩ ?_;rintro ⟨k,ys⟩ G W ⟨hk,hyl,hys,own,nW⟩;dsimp only at hk hyl hys own nW;simp only [ql];have hzW:=nW.size;(repeat' (first|refine qq2 ?_|refine aa2 (fun _=>?_) (fun _=>?_)))
  ·obtain ⟨x,hxk⟩:=pz ws (k:=k) (by omega);obtain ⟨hx1,hx2⟩:=hwx x (apD hxk);have hol:(ys++ws.drop k).length=ws.length:=by simp;omega
   have hok2:(ys++ws.drop k)[k]? =some x:=by rw [aoO (by omega),hyl,aq7,ack,apn];exact hxk
   have own':=own;rw [<-hol] at own';refine aO (own'.rd y9.mo) (by rw [hol];rfl) rfl (by omega) hok2 fun b o cs hl hR hat=>?_;obtain rfl:cs=yR x:=hR;refine aS hat rfl rfl ?_;clear hat;refine Wl.alloc fun w2 b2 n2 s2=>?_;(repeat' (refine aa7 ?_));refine aK (new:=yR x) b2 rfl rfl rfl rfl zl2 (by intro c hc;simp at hc;rcases hc with rfl|rfl<;>rfl) fun w3 b3 c3 s3=>?_;replace b3:Bk w3 W.heap.size 300 (yR x):=b3;have n3:New W w3:=(Chg.trans n2.any c3 i3).tN
   have n03:=New.trans nW n3;have xX:=own.new (oH yR) n3;obtain ⟨gb,gc,hvg,hgb,hgl,hob⟩:=own.blk (by intro e;rw [e,apK] at hol;omega);obtain ⟨rfl,rfl⟩:ra=some ⟨gb,0,none⟩/\rc=gc:=by injection hvg with e1 _ e2;exact ⟨e1,e2⟩
   have hdj: ∀b,b<w.heap.size->b<w.heap.size-> ¬b=gb:=fun b _ h1 e=>by omega
   refine qq1 ?_;refine aX rfl (by kernel_rfl) (fun w'=>Chg (fun k=>k=gb) w3 w') (Chg.drew _ _) ?_;intro w4 n4;have hkeep: ∀w',Chg (fun k=>k=gb) w3 w'->Keep (fun k=>k<w.heap.size) w w':=fun w' hw=>(Chg.trans (M:=fun k=>k=gb) n03.any hw fun k _ e=>e).keep hdj;have hne: ¬W.heap.size=gb:=by omega
   (repeat' (refine aa0 (aa3 (af ?_))));refine aa0 (aY h (fun w' hw=>hkeep w' hw) rfl rfl (by omega) hx fun b o cs hl hR hat=>af ?_);obtain ⟨pv,rfl,hpv⟩:=hR;(repeat' (refine aa0 (aa6 (af ?_))));refine aa0 (ax (u:=vi (ndA l i).parent) rfl (fun w' hw=>(hat w' hw).get 0 rfl) (af ?_));clear hat;refine aH rfl (au (WB (i:=par l i) (h.keep pU (hkeep w4 n4.any)) hok (by omega)) (by rw [hp.2];rfl) ?_);rintro vw w5 ⟨ow,n5⟩;have n45:=New.trans n4 n5;refine ak ⟨rfl,n45.any,?_⟩;refine aa0 (bK (cs:=yR x) (fun w' hw=>(b3.chg hw hne).at) rfl rfl (af ?_));refine aH rfl (au (NE (x:=x) (h.keep pU (hkeep w5 n45.any)) hok (ow.rd (pq _)) (fun k hk=>by have:=aaE hok _ (by omega) k hk;omega) hx1 hx2) rfl ?_);rintro _ w6 ⟨⟨r,e,rfl,hr⟩,n6⟩;have n46:=New.trans n45 n6;refine ak ⟨rfl,n46.any,?_⟩;(repeat' (first|refine aa0 (aa3 (af ?_))|refine aa0 (iW rfl rfl (af ?_))));refine aa0 (aa8 (af ?_));(repeat' (refine aa0 (aa6 (af ?_))));refine aH rfl (eF (f:=yR) (g:=gb) (j:=k) (o:=0) (cap:=rc) (p:=x) (q:=(r,x.2)) (u:=w64 r) (fun _=>rfl) (by omega) rfl hok2 rfl (xX.new (oH yR) n46) (by rw [hol]) (by show Value.pointer (some ⟨gb,0+(k:Int).toNat*2+0,none⟩)=_;simp) rfl fun w7 o7 c7=>?_);have c37:Chg (fun k=>k=gb) w3 w7:=Chg.trans n46.any c7 fun k _ e=>by cases e;rfl
   refine ak ⟨rfl,c37,?_⟩;(repeat' (first|refine bG ?_|refine aa0 (dU (by conv=>{lhs;whnf}) (af ?_))));have n07:New w w7:=(Chg.trans n03.any c37 i3).tN
   cases hth:tX l (E8 l (par l i)) x with
   |none=>rw [hth] at hr;dsimp only at hr;(repeat' (first|refine qq5 ?_|(refine aa4 (fun _=>?_) (fun _=>?_)<;>(first|(exfalso;omega)|skip))));refine aG rfl rfl rfl ⟨_,rfl,⟨_,_,rfl,?_⟩,n07⟩;rw [FB (apD hxk) (by rw [hth];rfl)];exact hr
   |some b=>
    rw [hth] at hr;obtain ⟨rfl,rfl,hrl⟩:=hr;(repeat' (first|refine qq3 ?_|(refine aa4 (fun _=>?_) (fun _=>?_)<;>(first|(exfalso;omega)|skip))));refine aA (k+1,ys++ [(r,x.2)]) (sl rfl) ⟨by dsimp only;omega,by simp;omega,?_,?_,n07⟩ (by dsimp only;omega)
    ·intro j y hj hy;dsimp only at hj ⊢;by_cases e:j<k
     ·obtain ⟨z,h1,h2⟩:=hys j y e hy;exact ⟨z,by rw [aoY (by omega)];exact h1,h2⟩
     ·obtain rfl:j=k:=by omega
      rw [hxk] at hy;cases hy;exact ⟨(r,x.2),by rw [aoO (by omega),hyl,aq7];rfl,by unfold outW;rw [hth];rfl⟩
    ·have hset:(ys++ws.drop k).set k (r,x.2)=ys++ [(r,x.2)]++ws.drop (k+1):=by rw [drop_cons hxk,List.set_append_right _ _ (by omega),hyl,aq7];simp
     rw [hset] at o7;exact o7
  ·obtain rfl:k=ws.length:=by omega
   rw [aqi,aqJ] at own;refine aG rfl rfl rfl ⟨_,rfl,⟨_,_,rfl,?_⟩,nW⟩;have hal:vH (fun q=>(tX l (E8 l (par l i)) q).map fun b=>(b,q.2)) ws=some ys:=by
    have h1:vH (outW l i) ws=some (ws.map fun q=>(outW l i q).getD (0,0)):=Ik fun q hq=>by obtain ⟨j,hj⟩:=List.mem_iff_getElem?.1 hq;obtain ⟨y,_,e2⟩:=hys j q (List.getElem?_eq_some_iff.1 hj).1 hj;rw [e2];rfl
    have h2:(ws.map fun q=>(outW l i q).getD (0,0))=ys:=by
     apply ao6;intro j;rw [apF];by_cases hj:j<ws.length
     ·obtain ⟨q,hq⟩:=pz ws hj;obtain ⟨y,e1,e2⟩:=hys j q hj hq;rw [hq,e1,adJ,e2];rfl
     ·rw [aoS (by omega),aoS (by omega)];rfl
    rw [h2] at h1;exact h1
   rw [hal];exact ⟨rfl,own⟩
theorem NG {Pb:Nat->Prop} {w:World} {v:Value} {l:List Nd} {i:Nat} (h:RdS rNd 3 Pb w v l) (hok:pM l=true) (h0:i≠0) (hi:i<l.length):
 Calls prog 165 #[v,vi i] w (Ret fun r w'=>JU w w' r (wo l i)/\New w w'):=by
 obtain ⟨a,cap,rfl,hc1,hc2⟩:=h.form;refine oI func165 rfl ntmps165 rfl ?_;refine qq2 ?_;refine au (SK (least:=1) h hok hi (by omega)) rfl ?_;rintro _ w1 ⟨rfl,n1⟩;(repeat' (first|refine qq4 ?_|(refine aa4 (fun _=>?_) (fun _=>?_)<;>(first|(exfalso;omega)|skip))));refine au (NF (h.keep pU n1.keep) hok h0 hi) rfl ?_;rintro _ w2 ⟨⟨vr,e,rfl,hr⟩,n2⟩;refine qq6 ?_;refine aG rfl rfl rfl ⟨_,rfl,⟨_,_,rfl,?_⟩,New.trans n1 n2⟩;cases hw:wo l i with
 |none=>rw [hw] at hr;exact hr
 |some ws=>rw [hw] at hr;exact ⟨hr.1,hr.2.mono y9.mo (fun b hb e=>by have:=n1.size;omega) i3⟩
section
variable {P:Program} {n:Nat} {ds:List Deferred} {Q:Po} {F:Fr} {w:World} {ops rest:List Oper} {d:Nat} {ty:TypeId} {pos:String} {aft:Array Edge}
theorem kP {x:Operand} {e:TypeId} {u:Value} (hx:ev n F x=u) (c: ∀w',Bk w' w.heap.size e u.cells.toList->Grw w w'->Wl P n ds Q ops rest (upd F d (.pointer (some ⟨w.heap.size,0,none⟩))) w'):
 Wl P n ds Q ops (⟨some d,.box e x,ty,pos,aft,none⟩::rest) F w:=by
 refine Wl.val (w':=w.alloc (.cells u.cells e)) ?_ (c _ (by simpa [Bk] using heap_alloc_new w (.cells u.cells e)) ((Grw.refl w).alloc _));simp [execOp,Instr.box,hx,newVar,newRow]
end
theorem Grw.trans {w w' w'':World} (h:Grw w w') (k:Grw w' w''):Grw w w'':=by
 obtain ⟨q,os,rfl⟩:=h;obtain ⟨q',os',rfl⟩:=k;refine ⟨q+q',os++os',?_⟩;simp [Sort.grow,World.drewN,Nat.add_assoc]
theorem aaO (a b:Clm):orM [zN a.kind b.kind,zN a.from_ b.from_,zN a.upto b.upto]=tY a b:=by
 have e: ∀x y:Nat,zN x y=if x<y then-1 else if y<x then 1 else 0:=fun x y=>by unfold zN;simp only [Int.ofNat_lt]
 rw [e,e,e];unfold tY;simp only [orM]
 repeat' split
 all_goals first|rfl|omega
theorem SX {w:World} {a b:Clm}:
 Calls prog 167 #[.agg (qE a).toArray,.agg (qE b).toArray] w (Ret fun r w'=>r=vi (tY a b)/\Grw w w'):=by
 refine oI func167 rfl ntmps167 rfl ?_;refine aP ?_;(repeat' (refine aU ?_));refine kP rfl fun w1 bx g1=>?_;replace bx:Bk w1 w.heap.size 203 (qE a):=bx;refine kP rfl fun W by_ g2=>?_;replace by_:Bk W w1.heap.size 203 (qE b):=by_;replace bx:=bx.chg g2.new id;replace g2:=g1.trans g2;refine qq1 ?_;refine iy [0,1,2,3,5,6,7,8,10,11,12,13] [4,9,14,15,16,17] rfl (by kernel_rfl) (by simp only [pick,aq4,aq5];rfl) (by simp only [pick,aq4,aq5];rfl) (Grw W) (Grw.drew W) ?_;(repeat' (refine aa6 ?_));refine ax (u:=.int .u8 a.kind) rfl (fun w' hw=>(bx.chg hw.new id).cell (o:=0) rfl) ?_;(repeat' (refine aa6 ?_));refine ax (u:=.int .u8 b.kind) rfl (fun w' hw=>(by_.chg hw.new id).cell (o:=0) rfl) ?_;(repeat' (refine aa6 ?_));refine ax (u:=w64 a.from_) rfl (fun w' hw=>(bx.chg hw.new id).cell (o:=1) rfl) ?_;(repeat' (refine aa6 ?_));refine ax (u:=w64 b.from_) rfl (fun w' hw=>(by_.chg hw.new id).cell (o:=1) rfl) ?_;(repeat' (refine aa6 ?_));refine ax (u:=w64 a.upto) rfl (fun w' hw=>(bx.chg hw.new id).cell (o:=2) rfl) ?_;(repeat' (refine aa6 ?_));refine ax (u:=w64 b.upto) rfl (fun w' hw=>(by_.chg hw.new id).cell (o:=2) rfl) ?_;refine qq7 ?_;refine dH ?_;refine au (zO (a:=a.kind) (b:=b.kind)) rfl ?_;rintro _ _ ⟨rfl,rfl⟩;refine ak ⟨rfl,Grw.drew W,?_⟩;refine dH ?_;refine au (CJ (a:=a.from_) (b:=b.from_)) rfl ?_;rintro _ _ ⟨rfl,rfl⟩;refine ak ⟨rfl,Grw.drew W,?_⟩;refine dH ?_;refine au (CJ (a:=a.upto) (b:=b.upto)) rfl ?_;rintro _ _ ⟨rfl,rfl⟩;refine ak ⟨rfl,Grw.drew W,?_⟩;refine dH ?_;refine jI (us:=[zN a.kind b.kind,zN a.from_ b.from_,zN a.upto b.upto]) rfl rfl (by simp) (by simp) fun v o own=>?_;obtain ⟨va,aeF,rfl,_,_⟩:=own.form;have hgr:Grw W (W.drew.alloc o):=(Grw.drew W).alloc o;refine ak ⟨rfl,hgr,?_⟩;refine dH ?_;refine au (Nw (own.rd (pq _))) rfl ?_;rintro _ _ ⟨rfl,rfl⟩;refine ak ⟨rfl,hgr,?_⟩;refine Wch.last ?_;rw [aaO a b];refine qq6 ?_;exact ay rfl rfl ⟨_,rfl,rfl,g2.trans hgr⟩
def eqF (d:Nat) (xs ys:Array Value):List (Bool×TypeId×Nat)->Sem Bool
 | []=>pure true
 |(g,t,o)::fs=>
  if g=true then do
   let a<-part t xs o;let b<-part t ys o;let r<-Op.equalIn d t a b
   if (!r)=true then pure false else eqF d xs ys fs
  else eqF d xs ys fs
theorem FD {d:Nat} {xs ys:Array Value}: ∀ {fs:List Field} {l:List (Bool×TypeId×Nat)},fs.map (fun f=>(decide (f.name≠ "_"),f.type,f.offset))=l->Op.eqFields d xs ys fs=eqF d xs ys l:=by
 intro fs;induction fs with
 |nil=>rintro l rfl;rfl
 |cons f fs ih=>rintro l rfl;simp only [acK,Op.eqFields,eqF,decide_eq_true_eq,ih rfl]
theorem Il {P:Program} {w:World} {d:Nat} {xs ys:Array Value}:(eqF d xs ys []).run P w=.ok true w:=rfl
theorem FH {P:Program} {w:World} {d:Nat} {xs ys:Array Value} {t:TypeId} {o:Nat} {a b:Value} {r:Bool} {l:List (Bool×TypeId×Nat)} (hp:P.plainKey t=true) (ha:xs[o]? =some a) (hb:ys[o]? =some b) (hr:(Op.equalIn d t a b).run P w=.ok r w):
 (eqF d xs ys ((true,t,o)::l)).run P w=if r=true then (eqF d xs ys l).run P w else .ok false w:=by
 simp only [eqF,if_true,Sem.run_bind,run_part_plain w hp ha,run_part_plain w hp hb,Result.andThen_ok,hr];cases r<;>simp [Sem.run_pure]
abbrev KW (x:Clm):Value:=.agg (qE x).toArray
theorem aaP (x y:Clm):decide (x=y)=(decide ((x.kind:Int)=y.kind)&&(decide ((x.from_:Int)=y.from_)&&decide ((x.upto:Int)=y.upto))):=by
 obtain ⟨a,b,c⟩:=x;obtain ⟨p,q,r⟩:=y;rw [Bool.eq_iff_iff];simp only [decide_eq_true_eq,Clm.mk.injEq,ao0];omega
theorem L8 {x y:Clm} {w:World}:(Op.equalIn 10000 203 (KW x) (KW y)).run prog w=.ok (decide (x=y)) w:=by
 rw [run_equalIn_struct w 9999 _ _ _ (by kernel_rfl) (by kernel_rfl),FD (l:=[(true,5,0),(true,201,1),(true,201,2)]) (by kernel_rfl)];rw [FH (by kernel_rfl) rfl rfl (run_equalIn_int w 9998 _ .u8 .u8 _ _ underlying5),FH (by kernel_rfl) rfl rfl (run_equalIn_int w 9998 _ .u64 .u64 _ _ underlying201), FH (by kernel_rfl) rfl rfl (run_equalIn_int w 9998 _ .u64 .u64 _ _ underlying201),Il,aaP];simp only [beq_iff_eq];by_cases h1:(x.kind:Int)=y.kind
 ·by_cases h2:(x.from_:Int)=y.from_
  ·by_cases h3:(x.upto:Int)=y.upto
   ·simp [h1,h2,h3]
   ·simp [h1,h2,h3]
  ·simp [h1,h2]
 ·simp [h1]
theorem aaQ {x y:Clm} {w:World}:(binOp .eql 203 (KW x) (KW y)).run prog w=.ok (.bool (decide (x=y))) w:=by
 rw [run_eql_struct,L8];rfl
theorem aaR {x y:Clm} {w:World}:(binOp .neq 203 (KW x) (KW y)).run prog w=.ok (.bool (!decide (x=y))) w:=by
 rw [run_neq_struct,L8];rfl
section
variable {n:Nat} {ds:List Deferred} {C:World->Prop} {K:Fr->Prop} {F:Fr} {ops rest:List Oper} {d:Nat} {ty t':TypeId} {pos:String} {aft:Array Edge}
theorem nS {x y:Operand} {p q:Clm} (hx:ev n F x=KW p) (hy:ev n F y=KW q) (c:Wq prog n ds C K ops rest (upd F d (.bool (decide (p=q))))):
 Wq prog n ds C K ops (⟨some d,.binOp .eql 203 x y t',ty,pos,aft,none⟩::rest) F:=
 Wq.val (fun w hw=>by have hg:=run_eqGuard_agg (P:=prog) w .eql 203 x y (qE p).toArray (qE q).toArray (by kernel_rfl);simp only [execOp,hx,hy,Sem.run_bind,hg,Result.andThen_ok,aaQ,Sem.run_pure]) c
theorem nT {x y:Operand} {p q:Clm} (hx:ev n F x=KW p) (hy:ev n F y=KW q) (c:Wq prog n ds C K ops rest (upd F d (.bool (!decide (p=q))))):
 Wq prog n ds C K ops (⟨some d,.binOp .neq 203 x y t',ty,pos,aft,none⟩::rest) F:=
 Wq.val (fun w hw=>by have hg:=run_eqGuard_agg (P:=prog) w .neq 203 x y (qE p).toArray (qE q).toArray (by kernel_rfl);simp only [execOp,hx,hy,Sem.run_bind,hg,Result.andThen_ok,aaR,Sem.run_pure]) c
end
theorem vI:rF (flat qE) 3:=rC _ (fun _=>rfl) fun x c hc=>by simp [qE] at hc;rcases hc with rfl|rfl|rfl<;>rfl
theorem YH (x:Clm): ∀c∈qE x,c.oneCell'=true:=fun c hc=>by simp [qE] at hc;rcases hc with rfl|rfl|rfl<;>rfl
abbrev cfM:=sF.vP
theorem Qh (a b:Clm) (r:List Clm):cfM a (b::r)=if b=a then cfM b r else b::cfM b r:=by
 show sF.vP a (b::r)=_;rw [sF.vP]
theorem U8 (a:Clm):cfM a []=[]:=rfl
theorem NH {L:List Clm} {k:Nat} {x y:Clm} (hk:1<=k) (hy:L[k-1]? =some y) (hx:L[k]? =some x) (h:sF L=L.take k++cfM y (L.drop k)):
 (x≠y->sF L=L.take (k+1)++cfM x (L.drop (k+1)))/\(x=y->sF L=L.take k++cfM x (L.drop (k+1))):=by
 rw [drop_cons hx,Qh] at h;constructor
 ·intro e;rw [if_neg e] at h;rw [h,take_snoc hx];simp
 ·intro e;rw [if_pos e] at h;exact h
theorem FI {Pb:Nat->Prop} {w:World} {v:Value} {L:List Clm} (own:oP (flat qE) 203 3 Pb NoB w v L) (hl:L.length<=2000000):
 Calls prog 168 #[v] w (Ret fun r w'=>oP (flat qE) 203 3 Pb NoB w' r (sF L)/\(∀b,r.ownBlock=some b->v.ownBlock=some b)/\Chg (fun k=>v.ownBlock=some k) w w'):=by
 by_cases hL:L.length<2
 ·obtain ⟨a,cap,rfl,hc1,hc2⟩:=own.form;refine oI func168 rfl ntmps168 rfl ?_;(repeat' (first|refine qq4 ?_|(refine aa2 (fun _=>?_) (fun _=>?_)<;>(first|(exfalso;omega)|skip))));refine ay rfl rfl ⟨_,rfl,?_,fun b hb=>hb,aB _ _⟩;have:sF L=L:=by
   match L,hL with
   | [],_=>rfl
   | [x],_=>rfl
  rw [this];exact own
 obtain ⟨g,cap,rfl,hgb,hgl,hob⟩:=own.blk (by intro e;subst e;simp at hL);obtain ⟨_,_,hfm,hcap,hmax⟩:=own.form;cases hfm;simp only [maxLen] at hmax;obtain ⟨x0,hx0⟩:=pz L (k:=0) (by omega);refine oI func168 rfl ntmps168 rfl ?_;(repeat' (first|refine qq4 ?_|(refine aa2 (fun _=>?_) (fun _=>?_)<;>(first|(exfalso;omega)|skip))));refine aC (σ:=Nat) (fun k=>[(0,.slice (some ⟨g,0,none⟩) L.length cap),(3,vi k)]) (fun k W=>1<=k/\k<=L.length/\(∀y,L[k-1]? =some y->sF L=L.take k++cfM y (L.drop k))/\New w W) (fun k=>L.length-k) 1 (sl rfl) ⟨aat _,by omega,fun y hy=>?_,aB _ _⟩ ?_
 ·rw [hx0] at hy;cases hy;cases L with
  |nil=>simp at hx0
  |cons a r=>simp at hx0;subst hx0;rfl
 rintro k G W ⟨hk1,hk,hC,nW⟩;simp only [ql];have BN:=own.new (oH qE) nW;have hrd:=BN.rd vI.mo;(repeat' (first|refine qq2 ?_|refine aa2 (fun _=>?_) (fun _=>?_)))
 ·obtain ⟨x,hx⟩:=pz L (k:=k) (by omega);obtain ⟨y,hy⟩:=pz L (k:=k-1) (by omega);obtain ⟨hne,heq⟩:=NH hk1 hy hx (hC y hy);refine aX rfl (by kernel_rfl) (fun w'=>New W w') (Chg.drew _ _) ?_;intro w1 n1;(repeat' (refine aa0 (aa3 (af ?_))));refine aa0 (aY hrd (fun w' hw=>hw.keep) rfl rfl (by omega) hx fun b o cs hl hR hat=>af ?_);obtain rfl:cs=qE x:=hR;refine aa0 (bK hat rfl rfl (af ?_));clear hat;(repeat' (first|refine aa0 (aa3 (af ?_))|refine aa0 (Wq.sub rfl rfl (by omega) (by omega) (af ?_))));refine aa0 (aY (y:=y) hrd (fun w' hw=>hw.keep) rfl rfl (by omega) (by rw [show ((k:Int)-1).toNat=k-1 by omega];exact hy) fun b o cs hl hR hat=>af ?_);obtain rfl:cs=qE y:=hR;refine aa0 (bK hat rfl rfl (af ?_));clear hat;refine je rfl (nS (p:=x) (q:=y) rfl rfl (af ?_));(repeat' (refine bG ?_));have nw1:=New.trans nW n1;have BO:=own.new (oH qE) nw1;by_cases e:x=y
  ·rw [decide_eq_true e];replace heq:=heq e;refine qq2 ?_;refine nP rfl rfl (by omega) hcap ?_;rw [acL];refine qq2 ?_;refine aC (σ:=Nat×Nat×List Clm) (fun q=>[(0,.slice (some ⟨g,0,none⟩) L.length cap),(3,vi q.1),(4,.slice (some ⟨g,k*3,none⟩) (L.length-k) (cap-k)),(5,vi q.2.1)]) (fun q W'=>1<=q.2.1/\k<=q.1/\q.1+1<=k+q.2.1/\k+q.2.1<=L.length/\q.2.2.length=L.length/\q.2.2.drop q.1=L.drop q.1/\(∀y,L[k+q.2.1-1]? =some y->sF L=q.2.2.take q.1++cfM y (L.drop (k+q.2.1)))/\oP (flat qE) 203 3 Pb NoB W' (.slice (some ⟨g,0,none⟩) L.length cap) q.2.2/\Chg (fun b=>(Value.slice (some (⟨g,0,none⟩:Addr)) L.length cap).ownBlock=some b) w W') (fun q=>L.length-k-q.2.1) (k,1,L) (sl rfl) ⟨by simp,aat _,by simp,by dsimp only;omega,rfl,rfl,fun z hz=>?_,BO,nw1.any⟩ ?_
   ·dsimp only at hz ⊢;rw [aqF,hx] at hz;cases hz;exact heq
   rintro ⟨m,j,D⟩ G2 W2 ⟨hj1,hkm,hmj,hjl,hDl,hDd,hC2,tC,c2⟩;dsimp only at hj1 hkm hmj hjl hDl hDd hC2 tC c2;simp only [ql];have abX: ∀i,m<=i->D[i]? =L[i]? :=fun i hi=>by
    have:=congrArg (fun q=>q[i-m]?) hDd;simp only [ack] at this
    rwa [show m+(i-m)=i by omega] at this
   have hlen2:((L.length-k:Nat):Int)=(L.length:Int)-k:=by omega
   (repeat' (first|refine qq2 ?_|refine aa2 (fun _=>?_) (fun _=>?_)))
   ·obtain ⟨x2,hx2⟩:=pz L (k:=k+j) (by omega);obtain ⟨y2,hy2⟩:=pz L (k:=k+j-1) (by omega);have aeI: ∀W',New W2 W'->At W' g (k*3+(j:Int).toNat*3) (qE x2):=fun W' hw=>by
     have:=(tC.new (oH qE) hw).at rfl rfl (j:=k+j) (by rw [abX (k+j) (by omega)];exact hx2)
     rwa [show (k+j)*3=k*3+(j:Int).toNat*3 by omega] at this
    have ajy: ∀W',New W2 W'->At W' g (k*3+((j:Int)-1).toNat*3) (qE y2):=fun W' hw=>by
     have:=(tC.new (oH qE) hw).at rfl rfl (j:=k+j-1) (by rw [abX (k+j-1) (by omega)];exact hy2)
     rwa [show (k+j-1)*3=k*3+((j:Int)-1).toNat*3 by omega] at this
    obtain ⟨hne2,heq2⟩:(x2≠y2->sF L=D.take m++x2::cfM x2 (L.drop (k+j+1)))/\(x2=y2->sF L=D.take m++cfM x2 (L.drop (k+j+1))):=by have h:=hC2 y2 hy2;rw [drop_cons hx2,Qh] at h;exact ⟨fun e=>by rw [if_neg e] at h;exact h,fun e=>by rw [if_pos e] at h;exact h⟩
    refine aX rfl (by kernel_rfl) (fun w'=>New W2 w') (Chg.drew _ _) ?_;intro w3 n3;(repeat' (refine aa0 (aa3 (af ?_))));refine aa0 (aa8 (af ?_));refine aa0 (bK (cs:=qE x2) aeI rfl rfl (af ?_));(repeat' (first|refine aa0 (aa3 (af ?_))|refine aa0 (Wq.sub rfl rfl (by omega) (by omega) (af ?_))));refine aa0 (aa8 (af ?_));refine aa0 (bK (cs:=qE y2) ajy rfl rfl (af ?_));refine je rfl (nT (p:=x2) (q:=y2) rfl rfl (af ?_));(repeat' (refine bG ?_));have xX:=tC.new (oH qE) n3;have c3:Chg (fun b=>(Value.slice (some (⟨g,0,none⟩:Addr)) L.length cap).ownBlock=some b) w w3:=Chg.trans c2 n3.any i3;by_cases e2:x2=y2
    ·rw [decide_eq_true e2];refine qq4 ?_;refine aA (m,j+1,D) (sl rfl) ⟨by dsimp only;omega,hkm,by dsimp only;omega,by dsimp only;omega,hDl,hDd,fun z hz=>?_,xX,c3⟩ (by dsimp only;omega);dsimp only at hz ⊢;rw [show k+(j+1)-1=k+j by omega,hx2] at hz;cases hz;exact heq2 e2
    ·rw [decide_eq_false e2];refine qq2 ?_;refine dB rfl rfl (by omega) (by omega) ?_;refine aS (cs:=qE x2) (aeI w3 n3) rfl rfl ?_;refine dB rfl rfl (by omega) (by omega) ?_;refine fJ (f:=qE) (q:=x2) (j:=m) (sz:=3) (cap:=cap) (fun _=>rfl) YH xX (by rw [hDl]) (by omega) (by show Value.pointer (some ⟨g,0+(m:Int).toNat*3,none⟩)=_;simp) rfl rfl fun w4 o4 c4=>?_;refine qq4 ?_;refine aA (m+1,j+1,D.set m x2) (sl rfl) ⟨by dsimp only;omega,by dsimp only;omega,by dsimp only;omega,by dsimp only;omega,by simpa using hDl,?_,fun z hz=>?_,o4,Chg.trans c3 c4 i3⟩ (by dsimp only;omega)
     ·dsimp only;rw [List.drop_set_of_lt (by omega)];have:=congrArg (List.drop 1) hDd;simpa [apM] using this
     ·dsimp only at hz ⊢;rw [show k+(j+1)-1=k+j by omega,hx2] at hz;cases hz;have hget:(D.set m x2)[m]? =some x2:=by rw [apo,if_pos rfl,if_pos (by omega)]
      rw [take_snoc hget,List.take_set_of_le (aat m),hne2 e2];simp;rw [show k+j+1=k+(j+1) by omega]
   ·have hje:k+j=L.length:=by omega
    obtain ⟨y2,hy2⟩:=pz L (k:=k+j-1) (by omega);have h:=hC2 y2 hy2;rw [hje,aqi,U8,aqJ] at h;refine kC (f:=qE) (i:=m) (cap:=cap) (by simp [Value.cells];exact ⟨rfl,rfl⟩) tC (by rw [hDl]) rfl rfl (by omega) rfl fun u w3 o3 c3=>?_;refine qq4 ?_;refine kD rfl rfl (by omega) ?_;refine qq1 ?_;refine ay rfl rfl ⟨_,rfl,?_,fun b hb=>hb,Chg.trans c2 c3 i3⟩;rw [h];exact o3
  ·rw [decide_eq_false e];replace hne:=hne e;refine qq4 ?_;exact aA (k+1) (sl rfl) ⟨by omega,by omega,fun z hz=>by rw [aqF,hx] at hz;cases hz;exact hne,nw1⟩ (by omega)
 ·obtain rfl:k=L.length:=by omega
  obtain ⟨y,hy⟩:=pz L (k:=L.length-1) (by omega);have h1:=hC y hy;rw [apZ,aqi,U8,aqJ] at h1;refine ay rfl rfl ⟨_,rfl,?_,fun b hb=>hb,nW.any⟩;rw [h1];exact BN
end Go.Proofs.YtfbnfhhmiiahnaaGreatDoor
namespace Go.Proofs.YtfbnfhhmiiahnaaGreatDoor.Wk
open Go Go.RowKit
open Go.Sort (Holds putRow flatK size_flatK HoldsK putRowK)
theorem zi {α:Type} {f:α->List Value} {k:Nat} (hk: ∀x,(f x).length=k): ∀(xs:List α) (i j:Nat) (x:α),xs[i]? =some x->j<k->(xs.flatMap f)[i*k+j]? =(f x)[j]?
 | [],i,j,x,h,_=>by simp at h
 |y::r,i,j,x,h,hj=>by
  rw [aqh];cases i with
  |zero=>simp at h;subst h;rw [apw,acL,aoY (by rw [hk];exact hj)]
  |succ i=>rw [aoO (by rw [hk,aaJ];omega),hk,show (i+1)*k+j-k=i*k+j by rw [aaJ];omega];exact zi hk r i j x (by simpa using h) hj
theorem xw {α:Type} {f:α->List Value} {k:Nat} (hk: ∀x,(f x).length=k): ∀xs:List α,(xs.flatMap f).length=xs.length*k
 | []=>by simp
 |y::r=>by rw [aqh,adL,hk,xw hk r,aph,aaJ];omega
theorem JW {α:Type} [Inhabited α] {f:α->List Value} {k:Nat} (hk: ∀x,(f x).length=k) (d:List α):(flatK f k d.toArray).toList=d.flatMap f:=by
 apply ao6;intro t;by_cases ht:t<d.length*k
 ·have hk0:0<k:=by rcases apy k with e|e;subst e;omega;exact e
  have hi:t / k<d.length:=arj (by rw [apz];exact ht);have hj:t % k<k:=aq6 _ hk0;have e:=zi hk d (t / k) (t % k) d[t / k] (adK hi) hj;rw [show t / k*k+t % k=t by rw [apz];exact ark t k] at e;rw [e,aq2];have hj':t % k<(f d[t / k]).length:=by rw [hk];exact hj
  rw [adK hj',aaW (by simpa using ht)];congr 1;simp [flatK,hi,hj']
 ·rw [aoS (by rw [Array.length_toList,size_flatK];simpa using Nat.not_lt.1 ht),aoS (by rw [xw hk];omega)]
theorem YI {α:Type} {f:α->List Value} {k:Nat} {T:TypeId} {Pb Pe:Nat->Prop} {w:World} {v:Value} {xs:List α} (hk: ∀x,(f x).length=k) (h:oP (flat f) T k Pb Pe w v xs):vK Pb w T k v xs.length (xs.flatMap f):=by
 obtain ⟨cs,hoc,he⟩:=h;have hl:cs.length=xs.length*k:=hoc.1;have:cs=xs.flatMap f:=by
  apply ao6;intro t;by_cases ht:t<xs.length*k
  ·have hk0:0<k:=by rcases apy k with e|e;subst e;omega;exact e
   have hi:t / k<xs.length:=arj (by rw [apz];exact ht);have hj:t % k<k:=aq6 _ hk0;have e:=zi hk xs (t / k) (t % k) xs[t / k] (adK hi) hj;have et:t / k*k+t % k=t:=by rw [apz];exact ark t k
   rw [et] at e;have h1:(cs.drop (t / k*k)).take k=f xs[t / k]:=he (t / k) xs[t / k] (adK hi);rw [e, <-h1,aav,if_pos hj,ack,et]
  ·rw [aoS (by omega),aoS (by rw [xw hk];omega)]
 rw [<-this];exact hoc
theorem of_flat {α:Type} {f:α->List Value} {k:Nat} {T:TypeId} {Pb Pe:Nat->Prop} {w:World} {v:Value} {xs:List α} {m:Nat} (hk: ∀x,(f x).length=k) (hm:m=xs.length) (h:vK Pb w T k v m (xs.flatMap f)):oP (flat f) T k Pb Pe w v xs:=by
 subst hm;refine ⟨_,h,fun i x hx=>?_⟩;show _=_;apply ao6;intro j;rw [aav];by_cases hj:j<k
 ·rw [if_pos hj,ack,zi hk xs i j x hx hj]
 ·rw [if_neg hj,aoS (by rw [hk];omega)]
theorem Qi {Pb:Nat->Prop} {w:World} {T:TypeId} {k g m cap:Nat} {cs:List Value} (h:vK Pb w T k (.slice (some ⟨g,0,none⟩) m cap) m cs): ∃cur,Pb g/\w.heap[g]? =some (.cells cur T (0,0))/\m<=cap/\cap<=maxLen/\cur.size=cap*k/\cur.toList.take (m*k)=cs/\cs.length=m*k:=by
 obtain ⟨hl,h0|⟨g',cap',cur,e1,hPg,hheap,h1,h2,h3,h4⟩⟩:=h
 ·cases h0.1
 cases e1;exact ⟨cur,hPg,hheap,h1,h2,h3,h4,hl⟩
theorem SY {Pb:Nat->Prop} {w:World} {T:TypeId} {k g m cap:Nat} {cs:List Value} (h:vK Pb w T k (.slice (some ⟨g,0,none⟩) m cap) m cs):Holds id w g 0 cs.toArray:=by
 obtain ⟨cur,_,hheap,h1,_,h3,h4,hl⟩:=Qi h;intro j hj;have hj':j<cs.length:=by simpa using hj
 have hc:cur[j]? =some cs[j]:=by
  have:(cur.toList.take (m*k))[j]? =cs[j]? :=by rw [h4]
  rw [aav,if_pos (by omega),adK hj'] at this;simpa using this
 refine ⟨?_,?_⟩
 ·simp only [World.cell?,hheap,acL];have:cs.toArray[j]! =cs[j]:=by simp [hj']
  rw [this];simpa using hc
 ·simp [World.frozen?,hheap]
theorem YJ {Pb:Nat->Prop} {w w':World} {T:TypeId} {k g m cap:Nat} {cs d:List Value} (h:vK Pb w T k (.slice (some ⟨g,0,none⟩) m cap) m cs) (hl:d.length=cs.length)
 (hw: ∀c,w.heap[g]? =some (.cells c T (0,0))->w'.heap[g]? =some (.cells (Sort.putCells id 0 d.toArray c) T (0,0))):vK Pb w' T k (.slice (some ⟨g,0,none⟩) m cap) m d:=by
 obtain ⟨cur,hPg,hheap,h1,h2,h3,h4,hlc⟩:=Qi h;have hle:m*k<=cap*k:=aaI _ h1;refine ⟨by omega,.inr ⟨g,cap,_,rfl,hPg,hw _ hheap,h1,h2,by simp [Sort.putCells,h3],?_⟩⟩;apply ao6;intro j;rw [aav];by_cases hj:j<m*k
 ·have hjc:j<cur.size:=by omega
  rw [if_pos hj,aq2,Sort.putCells,Array.getElem?_mapIdx,aaW hjc,adJ,if_pos ⟨aoZ _,by simp;omega⟩];have hjD:j<d.length:=by omega
  rw [adK hjD];simp [hjD]
 ·rw [if_neg hj,aoS (by omega)]
end Go.Proofs.YtfbnfhhmiiahnaaGreatDoor.Wk
namespace Go.Proofs
open Go.Shelf
def nU:Go.Shelf.Ren:=⟨fun|6=>166|15=>94|14=>180|28=>129|29=>130|20=>189|21=>190|22=>191|23=>192|24=>193|25=>194|26=>195|27=>196|46=>205|47=>151|48=>152|49=>206|50=>207|57=>213|n=>n,fun|22=>276|24=>203|25=>302|3=>3|39=>214|0=>0|53=>181|55=>201|4=>4|46=>255|45=>254|50=>184|5=>5|9=>9|66=>282|70=>286|76=>304|77=>305|n=>n,fun|n=>n⟩
theorem kQ:Go.Proofs.SlLaysF0.n6 prog nU:={
 mixed:=by kernel_rfl
 f6:=⟨Tryz.f166.name,by decide,func166.trans (congrArg some (by kernel_rfl))⟩
 f14:=⟨Tryz.f180.name,by decide,func180.trans (congrArg some (by kernel_rfl))⟩
 f15:=func94.trans (congrArg some (by kernel_rfl))
 f20:=⟨Tryz.f189.name,by decide,func189.trans (congrArg some (by kernel_rfl))⟩
 f21:=⟨Tryz.f190.name,by decide,func190.trans (congrArg some (by kernel_rfl))⟩
 f22:=⟨Tryz.f191.name,by decide,func191.trans (congrArg some (by kernel_rfl))⟩
 f23:=⟨Tryz.f192.name,by decide,func192.trans (congrArg some (by kernel_rfl))⟩
 f24:=⟨Tryz.f193.name,by decide,func193.trans (congrArg some (by kernel_rfl))⟩
 f25:=⟨Tryz.f194.name,by decide,func194.trans (congrArg some (by kernel_rfl))⟩
 f26:=⟨Tryz.f195.name,by decide,func195.trans (congrArg some (by kernel_rfl))⟩
 f27:=⟨Tryz.f196.name,by decide,func196.trans (congrArg some (by kernel_rfl))⟩
 f28:=func129.trans (congrArg some (by kernel_rfl))
 f29:=func130.trans (congrArg some (by kernel_rfl))
 f46:=⟨Tryz.f205.name,by decide,func205.trans (congrArg some (by kernel_rfl))⟩
 f47:=func151.trans (congrArg some (by kernel_rfl))
 f48:=func152.trans (congrArg some (by kernel_rfl))
 f49:=⟨Tryz.f206.name,by decide,func206.trans (congrArg some (by kernel_rfl))⟩
 f50:=⟨Tryz.f207.name,by decide,func207.trans (congrArg some (by kernel_rfl))⟩
 f57:=⟨Tryz.f213.name,by decide,func213.trans (congrArg some (by kernel_rfl))⟩
 t0:=underlying0
 a0:=isAgg0
 z0:=sizeOf0
 v0:=zeroValue0
 t3:=underlying3
 a3:=isAgg3
 z3:=sizeOf3
 v3:=zeroValue3
 t4:=underlying4
 a4:=isAgg4
 z4:=sizeOf4
 v4:=zeroValue4
 t5:=underlying5
 a5:=isAgg5
 z5:=sizeOf5
 v5:=zeroValue5
 t9:=underlying9
 a9:=isAgg9
 z9:=sizeOf9
 v9:=zeroValue9
 t22:=underlying276
 a22:=isAgg276
 z22:=sizeOf276
 v22:=zeroValue276
 t25:=underlying302
 a25:=isAgg302
 z25:=sizeOf302
 v25:=zeroValue302
 t39:=underlying214
 a39:=isAgg214
 z39:=sizeOf214
 v39:=zeroValue214
 t45:=underlying254
 a45:=isAgg254
 z45:=sizeOf254
 v45:=zeroValue254
 t46:=underlying255
 a46:=isAgg255
 z46:=sizeOf255
 v46:=zeroValue255
 t50:=underlying184
 a50:=isAgg184
 z50:=sizeOf184
 v50:=zeroValue184
 t53:=underlying181
 a53:=isAgg181
 z53:=sizeOf181
 v53:=zeroValue181
 t55:=underlying201
 a55:=isAgg201
 z55:=sizeOf201
 v55:=zeroValue201
 t66:=underlying282
 a66:=isAgg282
 z66:=sizeOf282
 v66:=zeroValue282
 t70:=underlying286
 a70:=isAgg286
 z70:=sizeOf286
 v70:=zeroValue286
 t76:=underlying304
 a76:=isAgg304
 z76:=sizeOf304
 v76:=zeroValue304
 t77:=underlying305
 a77:=isAgg305
 z77:=sizeOf305
 v77:=zeroValue305}
end Go.Proofs
namespace Go.Proofs.YtfbnfhhmiiahnaaGreatDoor
open Go Wk
open Go.RowKit (Below)
open Go.Sort (SWO Holds HoldsK)
attribute [local irreducible] Go.Calls
theorem Du (a b:Clm):tY a b<0↔a.kind<b.kind∨(a.kind=b.kind/\(a.from_<b.from_∨(a.from_=b.from_/\a.upto<b.upto))):=by
 unfold tY
 repeat' split
 all_goals omega
theorem Tc:SWO fun a b=>decide (tY a b<0):=by
 refine ⟨fun x=>?_,fun x y z h1 h2=>?_,fun x y z h1 h2=>?_⟩
 ·rw [decide_eq_false_iff_not,Du];omega
 ·rw [decide_eq_true_eq,Du] at*;omega
 ·rw [decide_eq_false_iff_not,Du] at*;omega
theorem yJ (x:Clm):(qE x).length=3:=rfl
theorem YK (x:Clm): ∀v∈qE x,v.oneCell'=true:=fun v hv=>by
 simp [qE] at hv;rcases hv with rfl|rfl|rfl<;>rfl
section
variable {α:Type} [Inhabited α] {enc:α->List Value} {k:Nat} {w:World} {blk n:Nat} {d:Array α} {os:Array Obj}
theorem JX:Chg (fun j=>j=blk) w (sortWorldK enc k w blk 0 n d os):=
 ⟨rfl,rfl,rfl,by simp [sortWorldK,Sort.putRowK,Sort.grow,Sort.putRow,Sort.mapBlock,Sort.ahead],fun j hj hn=>by have: ¬blk=j:=fun e=>hn e.symm;simp only [sortWorldK,Sort.putRowK,Sort.grow,Sort.putRow,Sort.mapBlock,Sort.ahead];rw [aqw (by simpa using hj),aqp,if_neg this]⟩
theorem IK {cs:Array Value} {T:TypeId} (h:w.heap[blk]? =some (.cells cs T (0,0))):(sortWorldK enc k w blk 0 n d os).heap[blk]? =some (.cells (Sort.putCells id 0 (Sort.flatK enc k d) cs) T (0,0)):=by
 have hb:=(Array.getElem?_eq_some_iff.1 h).1;simp only [sortWorldK,Sort.putRowK,Sort.grow,Sort.putRow,Sort.mapBlock,Sort.ahead];rw [aqw (by simpa using hb),aqp,if_pos rfl,h];rfl
end
theorem JY {Pb:Nat->Prop} {w:World} {L:List Clm} {v:Value} (own:oP (flat qE) 203 3 Pb NoB w v L) (hlen:L.length<=2000000):
 Calls prog 166 #[v,.func (.func 167) #[] #[]] w (Ret fun _ w'=>oP (flat qE) 203 3 Pb NoB w' v (L.mergeSort fun x y=> !decide (tY y x<0))/\Chg (fun k=>v.ownBlock=some k) w w'):=by
 by_cases hL:L=[]
 ·subst hL;obtain ⟨a,cap,rfl,_,_⟩:=own.form;refine (AnyF.slices_SortFunc_none kQ a cap _ w).mono ?_;rintro _ w' ⟨rfl,rfl⟩;exact ⟨_,rfl,by simpa using own,aB _ _⟩
 obtain ⟨gb,cap,rfl,_,hgb,_⟩:=own.blk hL;have hoc:=YI yJ own;have hH:HoldsK qE 3 w gb 0 L.toArray:=by
  show Holds id w gb 0 (Sort.flatK qE 3 L.toArray);have e:Sort.flatK qE 3 L.toArray=(L.flatMap qE).toArray:=by rw [<-JW yJ L]
  rw [e];exact SY hoc
 have hcmp:CmpLays prog 167 #[] qE 3 tY gb 0 L.toArray.size w:=by intro m os dk hs x y;refine (SX (a:=x) (b:=y)).mono ?_;rintro _ w' ⟨_,rfl,rfl,q,os',rfl⟩;exact ⟨rfl,q,os',rfl⟩
 have hel:ElT prog 203 3 _ true _:=inferInstance;have h:=AnyQ.slices_SortFunc_total kQ 3 (fun w=>hel.isAgg w) (fun w=>hel.sizeOf w) qE yJ YK tY Tc 167 #[] gb 0 cap L.toArray w (fun args w=>rE (inferInstance:oN prog 167) args) hcmp hH hgb (by simp;omega) (fun x y h1 h2=> ?hT)
 case hT=>have e1: ¬tY x y<0:=of_decide_eq_false h1;have e2: ¬tY y x<0:=of_decide_eq_false h2;rw [Du] at e1 e2;cases x;cases y;simp only at e1 e2;have k1: ‹_› = ‹_› :=rfl;simp only [Clm.mk.injEq];omega
 refine h.mono ?_;rintro _ w' ⟨rfl,n,os,rfl⟩;refine ⟨_,rfl,?_,JX.mono fun k _ e=>by rw [e];rfl⟩;have hl:(L.mergeSort fun x y=> !decide (tY y x<0)).length=L.length:=ard _;have e:((L.mergeSort fun x y=> !decide (tY y x<0)).flatMap qE)=(Sort.flatK qE 3 (L.mergeSort fun x y=> !decide (tY y x<0)).toArray).toList:=(JW yJ _).symm;refine of_flat yJ hl.symm (YJ hoc (by rw [xw yJ,xw yJ,hl]) fun c hc=>?_);have:=IK (enc:=qE) (k:=3) (n:=n) (d:=(L.mergeSort fun x y=> !decide (tY y x<0)).toArray) (os:=os) hc;rw [e];have e2:(Sort.flatK qE 3 (L.mergeSort fun x y=> !decide (tY y x<0)).toArray).toList.toArray=Sort.flatK qE 3 (L.mergeSort fun x y=> !decide (tY y x<0)).toArray:=by simp
 rw [e2];exact this
end Go.Proofs.YtfbnfhhmiiahnaaGreatDoor
namespace Go.Proofs.YtfbnfhhmiiahnaaGreatDoor
open Go Wk
open Go.RowKit (Below)
attribute [local irreducible] Go.Calls
theorem U9 {v:List UInt8}: ∀x∈nums 4 v, ∃n:Nat,x=(n:Int)/\n<4294967296:=by
 intro x hx;unfold nums at hx;split at hx
 ·unfold pieces at hx;obtain ⟨i,hi,rfl⟩:=List.mem_map.1 hx;refine ⟨_,rfl,?_⟩;have h1:=zX ((v.drop (4*i)).take 4);have h2:256^((v.drop (4*i)).take 4).length<=256^4:=Jw _ _ (by simp only [apb];omega);have h3:(256:Nat)^4=4294967296:=by decide
  omega
 ·simp at hx
theorem FK (v:List UInt8):(nums 4 v).length<=v.length:=by
 unfold nums;split
 ·rw [zK];omega
 ·simp
theorem JZ (k f s:Nat):(Bf k f s).length<=1:=by unfold Bf;split<;>simp
theorem xk {α:Type} {f:α->List Clm} (h: ∀x,(f x).length<=1): ∀l:List α,(l.flatMap f).length<=l.length
 | []=>by simp
 |x::r=>by have:=xk h r;have:=h x;simp only [aqh,adL,aph];omega
theorem Qj {Pb:Nat->Prop} {w:World} {bv:Nat} {vl:Value} {L:List Clm} {kind fr size:Nat} (hb:Bk w bv 276 [vl]) (own:oP (flat qE) 203 3 Pb NoB w vl L) (hs: ∀k,vl.ownBlock=some k->k≠bv) (hl:L.length<=100000) (hf:fr<18446744073709551616) (hz:size<18446744073709551616):
 Calls prog 164 #[.int .u8 kind,w64 fr,w64 size,.pointer (some ⟨bv,0,none⟩)] w (Ret fun _ w'=>(∃vl',Bk w' bv 276 [vl']/\oP (flat qE) 203 3 (fun b=>Pb b∨w.heap.size<=b) NoB w' vl' (L++Bf kind fr size)/\(∀k,vl'.ownBlock=some k->k≠bv))/\Chg (fun k=>k=bv∨vl.ownBlock=some k) w w'):=by
 have hbl:=hb.lt;obtain ⟨a,cap,rfl,hc1,hc2⟩:=own.form;refine oI func164 rfl ntmps164 rfl ?_;(repeat' (first|refine qq4 ?_|refine aW rfl rfl (fun _=>?_) (fun _=>?_)))
 ·refine ah (u:=.slice a L.length cap) rfl (hb.cell (o:=0) rfl) ?_;(repeat' (refine aa1 ?_));refine fU rfl rfl ?_;rw [show ((size:Int)-1)=(size:Int)-((1:Nat):Int) from rfl,Bj (by omega) hz];refine jA rfl rfl ?_;rw [show ((fr:Int)+((size-1:Nat):Int))=((fr+(size-1):Nat):Int) by omega,U5];refine bJ (ps:=[(0,.tmp 10),(1,.tmp 11),(2,.tmp 15)]) (parts:=[(0,.int .u8 kind),(1,w64 fr),(2,w64 ((fr+(size-1)) % 2^64))]) rfl rfl (by simp [Value.cells]) ?_;refine bZ (R:=flat qE) (y:=⟨kind,fr,(fr+(size-1)) % 2^64⟩) vI own rfl rfl rfl rfl rfl (by omega) (by omega) (by simp only [maxLen];omega) (by omega) rfl rfl fun v2 w2 p tC c2 lie=>?_;have hb2:=hb.chg c2 (fun e=>hs bv e rfl);refine aJ (u:=v2) hb2 rfl (show (0:Nat)<1 by omega) rfl (by obtain ⟨_,_,rfl,_⟩:=tC.form;rfl) fun w3 b3 c3=>?_;refine qq0 ?_;have hs2: ∀k,v2.ownBlock=some k->k≠bv:=fun k hk e=>by
   rcases lie with e2|e2
   ·exact hs k (e2▸hk) e
   ·have:=e2 k hk;omega
  refine dh rfl ⟨_,rfl,⟨v2,b3,?_,hs2⟩,Chg.trans (c2.mono fun k _ e=>.inr e) c3 fun k _ e=>.inl e⟩;have e:Bf kind fr size=[⟨kind,fr,(fr+(size-1)) % 2^64⟩]:=by unfold Bf;rw [if_pos (by omega)]
  rw [e];exact tC.chg (oH qE) c3 fun k hk e=>hs2 k hk e
 ·have e:Bf kind fr size=[]:=by unfold Bf;rw [if_neg (by omega)]
  rw [e,aqJ];exact dh rfl ⟨_,rfl,⟨_,hb,own.mono vI.mo (fun b _ e=>.inl e) i3,hs⟩,aB _ _⟩
def acM (w w':World) (r:Value) (o:Option (List Clm)):Prop:= ∃v e,r=.tuple #[v,vi e]/\match o with
 |none=>e≠0
 |some l=>e=0/\oP (flat qE) 203 3 (fun b=>w.heap.size<=b) NoB w' v l
def J3:Nm:=[112,105,110,115]
def Es:Nm:=[108,105,110,101,115]
def nmK:Nat->Nm
 |1=>J3
 |2=>Es
 |_=>[]
def FM (t:List Nd) (i:Nat):Nat->Option (List Clm)
 |0=>some []
 |k+1=>match FM t i k with
  |none=>none
  |some a=>match wK t i k (nmK k) with
   |none=>none
   |some b=>some (a++b)
theorem Td {t:List Nd} (ht:pM t=true) {i:Nat} (hi:i<t.length):uO t i []=none:=by
 obtain ⟨x,hx⟩:=pz t hi;unfold uO;rw [zM hx,Ym];intro p hp e;have hpr:=(rQ ht hx).pr;unfold A7 at hpr;rw [ao0] at hpr;have:=(Ia (Ci x.qj [] (by simpa using hpr.2) p hp).1).1;exact this e
theorem aaS {t:List Nd} (ht:pM t=true) {i:Nat} (hi:i<t.length):aaF t i=match FM t i 3 with
 |none=>none
 |some l=>if i=0 then some l else match wo t i with
  |none=>none
  |some ws=>some (l++ws.flatMap fun w=>Bf 3 w.1 w.2):=by
 have e0:wK t i 0 (nmK 0)=some []:=by unfold wK;rw [show nmK 0=[] from rfl,Td ht hi]
 simp only [FM,e0,aqJ];unfold aaF;rw [show wK t i 1 [112,105,110,115]=wK t i 1 (nmK 1) from rfl,show wK t i 2 [108,105,110,101,115]=wK t i 2 (nmK 2) from rfl];cases wK t i 1 (nmK 1) with
 |none=>rfl
 |some a=>
  cases wK t i 2 (nmK 2) with
  |none=>rfl
  |some b=>
   simp only [aoQ];by_cases h0:i=0
   ·simp [h0]
   ·simp only [if_neg h0];rfl
theorem Tf {t:List Nd} {i kind:Nat} {nm v:Nm} (h:uO t i nm=some v) (hf:form 4 v=0):wK t i kind nm=some ((nums 4 v).flatMap fun n=>Bf kind n.toNat 1):=by
 unfold wK;rw [h];dsimp only;rw [if_pos hf]
theorem Va (v:List UInt8):form 4 v=0∨form 4 v=4:=by unfold form;split<;>simp
theorem Qk {t:List Nd} (ht:pM t=true) {i:Nat} (hi:i<t.length): ∀(k:Nat) (l:List Clm),FM t i k=some l->l.length<=1024*k
 |0,l,h=>by cases h;simp
 |k+1,l,h=>by
  rw [FM] at h;split at h
  ·cases h
  ·rename_i a ha
   split at h
   ·cases h
   ·rename_i b hb
    cases h;have h1:=Qk ht hi k a ha;have h2:b.length<=1024:=by
     unfold wK at hb;split at hb
     ·cases hb;simp
     ·rename_i v hv
      split at hb
      ·cases hb;have g1:=xk (f:=fun n:Int=>Bf k n.toNat 1) (fun _=>JZ _ _ _) (nums 4 v);have g2:=FK v;have g3:=Bh ht hi hv;omega
      ·cases hb
    simp only [adL];omega
theorem Io {α β:Type} {f:α->Option β}: ∀ {l:List α} {r:List β},vH f l=some r-> ∀y∈r, ∃x∈l,f x=some y
 | [],r,h,y,hy=>by cases h;simp at hy
 |z::l,r,h,y,hy=>by
  rw [vH] at h;cases hz:f z with
  |none=>rw [hz] at h;cases h
  |some q=>
   rw [hz] at h;dsimp only at h;obtain ⟨r',h1,rfl⟩:=Option.map_eq_some_iff.1 h;rcases List.mem_cons.1 hy with rfl|hy
   ·exact ⟨z,by simp,hz⟩
   ·obtain ⟨x,hx,e⟩:=Io h1 y hy;exact ⟨x,aqd _ hx,e⟩
theorem Ql {t:List Nd} {i:Nat} {x:Win} {b:Nat} (hx:x.1<18446744073709551616) (h:Aa t i x=some b):b<18446744073709551616:=by
 unfold Aa at h;split at h
 ·cases h
 ·rename_i ms same hm
  clear hm;split at h
  ·cases h;exact hx
  ·revert h;induction ms with
   |nil=>intro h;cases h
   |cons m r ih=>
    intro h;rw [y7] at h;split at h
    ·cases h;exact aq6 _ (by decide)
    ·exact ih h
theorem Ip {t:List Nd}: ∀ {l:List Nat} {x:Win} {b:Nat},x.1<18446744073709551616->tX t l x=some b->b<18446744073709551616
 | [],x,b,hx,h=>by cases h;exact hx
 |i::r,x,b,hx,h=>by
  rw [tX] at h;split at h
  ·cases h
  ·rename_i c hc
   exact Ip (x:=(c,x.2)) (Ql hx hc) h
theorem Qn {t:List Nd} {i:Nat} {ws:List Win} (hok:pM t=true) (hi:i<t.length) (h:wo t i=some ws):ws.length<=1024/\ ∀x∈ws,x.1<18446744073709551616/\x.2<18446744073709551616:=by
 unfold wo at h;split at h
 ·cases h
 ·rename_i rs hrs
  obtain ⟨h1,h2⟩:=U7 hok hi hrs;obtain ⟨e1,_⟩:=FC h;refine ⟨by omega,fun y hy=>?_⟩;obtain ⟨x,hx,e⟩:=Io h y hy;obtain ⟨b,hb,rfl⟩:=Option.map_eq_some_iff.1 e;exact ⟨Ip (h2 x hx).1 hb,(h2 x hx).2⟩
theorem aaT {Pb:Nat->Prop} {w:World} {v:Value} {l:List Nd} {i:Nat} (h:RdS rNd 3 Pb w v l) (hok:pM l=true) (hi:i<l.length):
 Calls prog 146 #[v,vi i] w (Ret fun r w'=>acM w w' r (ofM l i)/\New w w'):=by
 obtain ⟨a,cap,rfl,hc1,hc2⟩:=h.form;have hlen:=qo hok;replace h:=h.mono (Pb':=fun k=>k<w.heap.size) Ce fun k hk _=>hk;unfold ofM;rw [aaS hok hi];refine oI func146 rfl ntmps146 rfl ?_;refine qq2 ?_;refine au (LU (i:=i) h hok hi) rfl ?_;rintro _ w1 ⟨rfl,n1⟩;(repeat' (first|refine qq4 ?_|(refine aa4 (fun _=>?_) (fun _=>?_)<;>(first|(exfalso;omega)|skip))));refine Wl.alloc fun w2 b2 n2 s2=>?_;replace b2:Bk w2 w1.heap.size 276 [.slice none 0 0]:=b2;generalize hbv:w1.heap.size=bv at b2 s2;have hz1:=n1.size;have n02:=New.trans n1 n2;refine qq2 ?_;refine dw (f1:=[]) (c1:=[.pointer (some ⟨bv,0,none⟩)]) rfl rfl ?_;refine qq1 ?_;refine iw (cs:=[vs [],vs J3,vs Es]) (parts:=[(1,vs J3),(2,vs Es)]) rfl rfl (by simp [Value.cells]) rfl ?_;refine qq6 ?_;refine aC (σ:=Nat×Value×List Clm) (fun q=>[(0,.slice a l.length cap),(1,vi i),(8,.pointer (some ⟨bv,0,none⟩)),(9,.func (.func 164) #[] #[.pointer (some ⟨bv,0,none⟩)]),(31,.agg #[vs [],vs J3,vs Es]),(32,vi q.1)]) (fun q W=>q.1<=3/\FM l i q.1=some q.2.2/\Bk W bv 276 [q.2.1]/\oP (flat qE) 203 3 (fun b=>bv<b) NoB W q.2.1 q.2.2/\New w W) (fun q=>3-q.1) (0,.slice none 0 0,[]) (sl rfl) ⟨by decide,rfl,b2,aN,n02⟩ ?_;rintro ⟨k,vl,L⟩ G W ⟨hk,hR,bW,own,nW⟩;dsimp only at hk hR bW own nW;simp only [ql];have hLl:=Qk hok hi k L hR;have hzW:=nW.size;have hbW:=bW.lt;(repeat' (first|refine qq2 ?_|refine aa2 (fun _=>?_) (fun _=>?_)|refine aW rfl rfl (fun _=>?_) (fun _=>?_)))
 ·have hnk:([vs [],vs J3,vs Es]:List Value)[((k:Int)).toNat]? =some (vs (nmK k)):=by
   have:k=0∨k=1∨k=2:=by omega
   rcases this with rfl|rfl|rfl<;>rfl
  refine kz (cs:=[vs [],vs J3,vs Es]) rfl rfl (by omega) (by omega) hnk ?_;refine qq2 ?_;refine au (JB (i:=i) (nm:=nmK k) (h.keep pU nW.keep) hok hi) rfl ?_;rintro _ w3 ⟨rfl,n3⟩;have n03:=New.trans nW n3;have b3:=bW.chg n3 id;have xX:=own.new (oH qE) n3;cases hv:uO l i (nmK k) with
  |none=>
   have hR2:FM l i (k+1)=some L:=by rw [FM,hR];dsimp only;rw [show wK l i k (nmK k)=some [] by unfold wK;rw [hv]];simp
   dsimp only [aaG];(repeat' (first|refine qq8 ?_|(refine aa4 (fun _=>?_) (fun _=>?_)<;>(first|(exfalso;omega)|skip))));exact aA (k+1,vl,L) (sl rfl) ⟨by dsimp only;omega,hR2,b3,xX,n03⟩ (by dsimp only;omega)
  |some txt=>
   have htl:=Bh hok hi hv;dsimp only [aaG];(repeat' (first|refine qq4 ?_|(refine aa4 (fun _=>?_) (fun _=>?_)<;>(first|(exfalso;omega)|skip))));refine au (Ef (l:=txt) (by omega)) rfl ?_;rintro _ w4 ⟨nv,rfl,Gz,n4⟩;have n04:=New.trans n03 n4;have b4:=b3.chg n4 id;have own4:=xX.new (oH qE) n4;rcases Va txt with hf|hf
   ·rw [hf];obtain ⟨na,nc,rfl,_,_⟩:=Gz.form;have hN:=Tf (kind:=k) hv hf;have hnl:=FK txt;have hz3:=n03.size;have hz4:=n4.size;generalize acN:(Value.slice na (nums 4 txt).length nc)=nv at Gz;have YL:oP (Wk.one Be) 181 1 (fun b=>nv.ownBlock=some b) NoB w4 nv (nums 4 txt):=Gz.yX fun b hb _=>hb;have hsep: ∀b,nv.ownBlock=some b->bv<b/\vl.ownBlock≠some b:=fun b hb=>by have h1:=(Gz.lt hb).1;have h2:=n3.size;refine ⟨by omega,fun e=>?_⟩;have:=(xX.lt e).2;omega
    subst acN;(repeat' (first|refine qq4 ?_|(refine aa4 (fun _=>?_) (fun _=>?_)<;>(first|(exfalso;omega)|skip))));refine aC (σ:=Nat×Value×List Clm) (fun q=>[(0,.slice a l.length cap),(1,vi i),(8,.pointer (some ⟨bv,0,none⟩)),(9,.func (.func 164) #[] #[.pointer (some ⟨bv,0,none⟩)]),(10,vi k),(31,.agg #[vs [],vs J3,vs Es]),(32,vi k),(52,.slice na (nums 4 txt).length nc),(53,vi (nums 4 txt).length),(54,vi q.1)]) (fun q W=>q.1<=(nums 4 txt).length/\q.2.2=L++((nums 4 txt).take q.1).flatMap (fun n=>Bf k n.toNat 1)/\Bk W bv 276 [q.2.1]/\oP (flat qE) 203 3 (fun b=>bv<b/\(Value.slice na (nums 4 txt).length nc).ownBlock≠some b) NoB W q.2.1 q.2.2/\oP (Wk.one Be) 181 1 (fun b=>(Value.slice na (nums 4 txt).length nc).ownBlock=some b) NoB W (.slice na (nums 4 txt).length nc) (nums 4 txt)/\New w W) (fun q=>(nums 4 txt).length-q.1) (0,vl,L) (sl rfl) ⟨aoZ _,by simp,b4,own4.yX fun b hb e=>⟨e,fun e2=>(hsep b e2).2 hb⟩,YL,n04⟩ ?_;rintro ⟨j,vl2,L2⟩ G2 W2 ⟨hj,hL2,bW2,tC,oN2,nW2⟩;dsimp only at hj hL2 bW2 tC oN2 nW2;simp only [ql];(repeat' (first|refine qq0 ?_|refine aa2 (fun _=>?_) (fun _=>?_)))
    ·obtain ⟨x,hx⟩:=pz (nums 4 txt) (k:=j) (by omega);obtain ⟨n,rfl,hn⟩:=U9 x (apD hx);refine bC (oN2.rd (pq _)) rfl rfl (by omega) hx fun b o hcell=>?_;refine ah (u:=.int .u32 n) rfl hcell ?_;refine qq8 ?_;have aaU:L2.length<=100000:=by
      have g1:=xk (f:=fun n:Int=>Bf k n.toNat 1) (fun _=>JZ _ _ _) ((nums 4 txt).take j);rw [hL2,adL];have:((nums 4 txt).take j).length<=(nums 4 txt).length:=by simp only [apb];omega
      omega
     rw [show IntKind.u8.wrap (k:Int)=(k:Int) from w8 (by omega),show IntKind.u64.wrap (n:Int)=(n:Int) from UQ (by omega)];refine bU (dst:=some 63) rfl (Qj (kind:=k) (fr:=n) (size:=1) bW2 tC (fun k2 hk2=>by have:=(tC.lt hk2).1.1;omega) aaU (by omega) (by decide)) rfl ?_;rintro u w5 ⟨⟨vl5,b5,KX,hs5⟩,c5⟩;simp only [xH];have hz2:=nW2.size;have n05:New w w5:=(Chg.trans nW2.any c5 fun k _ e=>e).toNew fun k2 hk2 e=>by
      rcases e with e|e
      ·omega
      ·have:=(tC.lt e).1.1;omega
     have oN5:=oN2.chg (oJ _) c5 fun b hb e=>by
      rcases e with e|e
      ·have:=hsep b hb;omega
      ·exact (tC.lt e).1.2 hb
     refine qq4 ?_;refine aA (j+1,vl5,L2++Bf k n 1) (sl rfl) ⟨by dsimp only;omega,?_,b5,?_,oN5,n05⟩ (by dsimp only;omega)
     ·dsimp only;rw [hL2,take_snoc hx,arl];simp
     ·refine KX.mono vI.mo (fun b hb e=>?_) i3;rcases e with e|e
      ·exact e
      ·have hb2:=bW2.lt;exact ⟨by omega,fun e2=>by have:=(oN2.lt e2).2;omega⟩
    ·obtain rfl:j=(nums 4 txt).length:=by omega
     rw [apZ] at hL2;refine aA (k+1,vl2,L2) (sl rfl) ⟨by dsimp only;omega,?_,bW2,tC.mono vI.mo (fun b _ e=>e.1) i3,nW2⟩ (by dsimp only;omega);dsimp only;rw [FM,hR,hL2];dsimp only;rw [hN]
   ·have hR3:FM l i 3=none:=by
     have h1:FM l i (k+1)=none:=by rw [FM,hR];dsimp only;rw [show wK l i k (nmK k)=none by unfold wK;rw [hv];dsimp only;rw [if_neg (by rw [hf];decide)]]
     have h2: ∀m,k+1<=m->FM l i m=none:=by
      intro m hm;induction m with
      |zero=>omega
      |succ m ih=>
       by_cases e:k+1=m+1
       ·rw [<-e];exact h1
       ·rw [FM,ih (by omega)]
     exact h2 3 (by omega)
    rw [hf,hR3];(repeat' (first|refine qq5 ?_|(refine aa4 (fun _=>?_) (fun _=>?_)<;>(first|(exfalso;omega)|skip))));exact aG rfl rfl rfl ⟨_,rfl,⟨_,_,rfl,U4⟩,n04⟩
 ·have h0:i≠0:=by omega
  obtain rfl:k=3:=by omega
  rw [hR];dsimp only;rw [if_neg h0];refine au (NG (h.keep pU nW.keep) hok h0 hi) rfl ?_;rintro _ w3 ⟨⟨wv,e,rfl,hwp⟩,n3⟩;have n03:=New.trans nW n3;cases hwm:wo l i with
  |none=>rw [hwm] at hwp;dsimp only at hwp;(repeat' (first|refine qq5 ?_|(refine aa4 (fun _=>?_) (fun _=>?_)<;>(first|(exfalso;omega)|skip))));exact aG rfl rfl rfl ⟨_,rfl,⟨_,_,rfl,U4⟩,n03⟩
  |some ws=>
   rw [hwm] at hwp;obtain ⟨rfl,Gz⟩:=hwp;dsimp only;obtain ⟨hwl,hwx⟩:=Qn hok hi hwm;obtain ⟨na,nc,rfl,_,_⟩:=Gz.form;have b3:=bW.chg n3 id;have xX:=own.new (oH qE) n3;have hz3:=n3.size;generalize acN:(Value.slice na ws.length nc)=nv at Gz;have YL:oP (flat yR) 300 2 (fun b=>nv.ownBlock=some b) NoB w3 nv ws:=Gz.yX fun b hb _=>hb;have hsep: ∀b,nv.ownBlock=some b->bv<b/\vl.ownBlock≠some b:=fun b hb=>by have h1:=(Gz.lt hb).1;refine ⟨by omega,fun e=>?_⟩;have:=(own.lt e).2;omega
   subst acN;(repeat' (first|refine qq4 ?_|(refine aa4 (fun _=>?_) (fun _=>?_)<;>(first|(exfalso;omega)|skip))));refine aC (σ:=Nat×Value×List Clm) (fun q=>[(8,.pointer (some ⟨bv,0,none⟩)),(9,.func (.func 164) #[] #[.pointer (some ⟨bv,0,none⟩)]),(76,.slice na ws.length nc),(77,vi ws.length),(78,vi q.1)]) (fun q W=>q.1<=ws.length/\q.2.2=L++(ws.take q.1).flatMap (fun x=>Bf 3 x.1 x.2)/\Bk W bv 276 [q.2.1]/\oP (flat qE) 203 3 (fun b=>bv<b/\(Value.slice na ws.length nc).ownBlock≠some b) NoB W q.2.1 q.2.2/\oP (flat yR) 300 2 (fun b=>(Value.slice na ws.length nc).ownBlock=some b) NoB W (.slice na ws.length nc) ws/\New w W) (fun q=>ws.length-q.1) (0,vl,L) (sl rfl) ⟨aoZ _,by simp,b3,xX.yX fun b hb e=>⟨e,fun e2=>(hsep b e2).2 hb⟩,YL,n03⟩ ?_;rintro ⟨j,vl2,L2⟩ G2 W2 ⟨hj,hL2,bW2,tC,oN2,nW2⟩;dsimp only at hj hL2 bW2 tC oN2 nW2;simp only [ql];have aaU:L2.length<=100000:=by
    have g1:=xk (f:=fun x:Win=>Bf 3 x.1 x.2) (fun _=>JZ _ _ _) (ws.take j);have:(ws.take j).length<=ws.length:=by simp only [apb];omega
    rw [hL2,adL];omega
   have hz2:=nW2.size;have ajz:=bW2.lt;(repeat' (first|refine qq2 ?_|refine aa2 (fun _=>?_) (fun _=>?_)))
   ·obtain ⟨x,hx⟩:=pz ws (k:=j) (by omega);obtain ⟨hx1,hx2⟩:=hwx x (apD hx);refine aO (oN2.rd y9.mo) rfl rfl (by omega) hx fun b o cs hl hR hat=>?_;obtain rfl:cs=yR x:=hR;refine aS hat rfl rfl ?_;clear hat;refine Wl.alloc fun w4 b4 n4 s4=>?_;refine aK (new:=yR x) b4 rfl rfl rfl rfl zl2 (by intro c hc;simp at hc;rcases hc with rfl|rfl<;>rfl) fun w5 b5 c5 s5=>?_;replace b5:Bk w5 W2.heap.size 300 (yR x):=b5;have n25:New W2 w5:=(Chg.trans n4.any c5 i3).tN
    refine qq2 ?_;refine ah (u:=w64 x.1) rfl (b5.cell (o:=0) rfl) ?_;(repeat' (refine aa5 ?_));refine ah (u:=w64 x.2) rfl (b5.cell (o:=1) rfl) ?_;have KX:=tC.new (oH qE) n25;refine bU (dst:=some 87) rfl (Qj (kind:=3) (fr:=x.1) (size:=x.2) (bW2.chg n25 id) KX (fun k2 hk2=>by have:=(tC.lt hk2).1.1;omega) aaU hx1 hx2) rfl ?_;rintro u w6 ⟨⟨vl6,b6,WU,hs6⟩,c6⟩;simp only [xH];have n06:New w w6:=(Chg.trans (New.trans nW2 n25).any c6 fun k _ e=>e).toNew fun k2 hk2 e=>by
     rcases e with e|e
     ·omega
     ·have:=(tC.lt e).1.1;omega
    have oN6:=(oN2.new (oH yR) n25).chg (oH yR) c6 fun b hb e=>by
     rcases e with e|e
     ·have:=hsep b hb;omega
     ·exact (tC.lt e).1.2 hb
    refine qq4 ?_;refine aA (j+1,vl6,L2++Bf 3 x.1 x.2) (sl rfl) ⟨by dsimp only;omega,?_,b6,?_,oN6,n06⟩ (by dsimp only;omega)
    ·dsimp only;rw [hL2,take_snoc hx,arl];simp
    ·have anL:=n25.size;refine WU.mono vI.mo (fun b hb e=>?_) i3;rcases e with e|e
     ·exact e
     ·exact ⟨by omega,fun e2=>by have:=(oN2.lt e2).2;omega⟩
   ·obtain rfl:j=ws.length:=by omega
    rw [apZ] at hL2;subst hL2;have tC:=tC.mono (Pb':=fun b=>bv<b) vI.mo (fun b _ e=>e.1) i3;generalize hLL:L++ws.flatMap (fun x=>Bf 3 x.1 x.2)=L2 at tC aaU;have hsb: ∀k,(vl2).ownBlock=some k->k≠bv:=fun k hk=>by have:=(tC.lt hk).1;omega
    have ajA:=bW2.lt;refine ah (u:=vl2) rfl (bW2.cell (o:=0) rfl) ?_;refine au (JY tC (by omega)) rfl ?_;rintro _ w17 ⟨YM,c7⟩;have b7:=bW2.chg c7 (fun e=>hsb bv e rfl);refine qq2 ?_;refine ah (u:=vl2) rfl (b7.cell (o:=0) rfl) ?_;refine au (FI YM (by rw [ard];omega)) rfl ?_;rintro v8 w18 ⟨NI,acO,c8⟩;have b8:=b7.chg c8 (fun e=>hsb bv e rfl);generalize hcm:sF (L2.mergeSort fun x y=> !decide (tY y x<0))=cm at NI;obtain ⟨a8,cp8,rfl,hf1,hf2⟩:=NI.form;simp only [maxLen] at hf2;refine aJ (u:=.slice a8 cm.length cp8) b8 rfl (show (0:Nat)<1 by omega) rfl rfl fun w19 b9 c9=>?_;replace b9:Bk w19 bv 276 [.slice a8 cm.length cp8]:=b9;have acP:=NI.chg (oH qE) c9 fun k hk e=>hsb k (acO k hk) e;have acQ:Chg (fun k=>k=bv∨(vl2).ownBlock=some k) W2 w19:=Chg.trans (Chg.trans (c7.mono fun k _ e=>.inr e) c8 fun k _ e=>.inr e) c9 fun k _ e=>.inl e;have n09:New w w19:=(Chg.trans nW2.any acQ fun k _ e=>e).toNew fun k hk e=>by
     rcases e with e|e
     ·omega
     ·have:=(tC.lt e).1;omega
    refine qq2 ?_;refine ah (u:=.slice a8 cm.length cp8) rfl (b9.cell (o:=0) rfl) ?_;(repeat' (first|refine qq2 ?_|refine aW rfl rfl (fun _=>?_) (fun _=>?_)))
    ·refine aG rfl rfl rfl ⟨_,rfl,⟨_,_,rfl,?_⟩,n09⟩;rw [if_neg (by omega)];exact U4
    ·refine ah (u:=.slice a8 cm.length cp8) rfl (b9.cell (o:=0) rfl) ?_;refine qq6 ?_;refine aG rfl rfl rfl ⟨_,rfl,⟨_,_,rfl,?_⟩,n09⟩;rw [if_pos (by omega)];exact ⟨rfl,acP.mono vI.mo (fun b _ e=>by omega) i3⟩
 ·have h0:i=0:=by omega
  obtain rfl:k=3:=by omega
  rw [hR];dsimp only;rw [if_pos h0];dsimp only;have hsb: ∀k,(vl).ownBlock=some k->k≠bv:=fun k hk=>by have:=(own.lt hk).1;omega
  have ajA:=bW.lt;refine ah (u:=vl) rfl (bW.cell (o:=0) rfl) ?_;refine au (JY own (by omega)) rfl ?_;rintro _ w17 ⟨YM,c7⟩;have b7:=bW.chg c7 (fun e=>hsb bv e rfl);refine qq2 ?_;refine ah (u:=vl) rfl (b7.cell (o:=0) rfl) ?_;refine au (FI YM (by rw [ard];omega)) rfl ?_;rintro v8 w18 ⟨NI,acO,c8⟩;have b8:=b7.chg c8 (fun e=>hsb bv e rfl);generalize hcm:sF (L.mergeSort fun x y=> !decide (tY y x<0))=cm at NI;obtain ⟨a8,cp8,rfl,hf1,hf2⟩:=NI.form;simp only [maxLen] at hf2;refine aJ (u:=.slice a8 cm.length cp8) b8 rfl (show (0:Nat)<1 by omega) rfl rfl fun w19 b9 c9=>?_;replace b9:Bk w19 bv 276 [.slice a8 cm.length cp8]:=b9;have acP:=NI.chg (oH qE) c9 fun k hk e=>hsb k (acO k hk) e;have acQ:Chg (fun k=>k=bv∨(vl).ownBlock=some k) W w19:=Chg.trans (Chg.trans (c7.mono fun k _ e=>.inr e) c8 fun k _ e=>.inr e) c9 fun k _ e=>.inl e;have n09:New w w19:=(Chg.trans nW.any acQ fun k _ e=>e).toNew fun k hk e=>by
   rcases e with e|e
   ·omega
   ·have:=(own.lt e).1;omega
  refine qq2 ?_;refine ah (u:=.slice a8 cm.length cp8) rfl (b9.cell (o:=0) rfl) ?_;(repeat' (first|refine qq2 ?_|refine aW rfl rfl (fun _=>?_) (fun _=>?_)))
  ·refine aG rfl rfl rfl ⟨_,rfl,⟨_,_,rfl,?_⟩,n09⟩;rw [if_neg (by omega)];exact U4
  ·refine ah (u:=.slice a8 cm.length cp8) rfl (b9.cell (o:=0) rfl) ?_;refine qq6 ?_;refine aG rfl rfl rfl ⟨_,rfl,⟨_,_,rfl,?_⟩,n09⟩;rw [if_pos (by omega)];exact ⟨rfl,acP.mono vI.mo (fun b _ e=>by omega) i3⟩
end Go.Proofs.YtfbnfhhmiiahnaaGreatDoor
namespace Go.Proofs.YtfbnfhhmiiahnaaGreatDoor
open Go Wk
section
variable {P:Program} {n:Nat} {ds:List Deferred} {C:World->Prop} {K:Fr->Prop} {F:Fr} {ops rest:List Oper} {d:Nat} {ty:TypeId} {pos:String} {aft:Array Edge}
theorem kR {x i:Operand} {t e m bytes b:Nat} {agg:Bool} {z:Value} {k:IntKind} {j:Int} [ht:Und P t (.array m e)] [he:ElT P e 1 bytes agg z] (hx:ev n F x=.pointer (some ⟨b,0,none⟩)) (hi:ev n F i=.int k j) (h0:0<=j) (h1:j<m)
 (c:Wq P n ds C K ops rest (upd F d (.pointer (some ⟨b,j.toNat,none⟩)))):Wq P n ds C K ops (⟨some d,.indexAddr t x i,ty,pos,aft,none⟩::rest) F:=
 Wq.val (fun w _=>by simp only [execOp,hx,hi,Sem.run_bind,Ib ht.h he h0 h1,Result.andThen_ok,Sem.run_pure]) c
end
end Go.Proofs.YtfbnfhhmiiahnaaGreatDoor
namespace Go.Proofs.YtfbnfhhmiiahnaaGreatDoor
open Go Wk
open Go.RowKit (Below)
attribute [local irreducible] Go.Calls
theorem Wk.oP.xA {α:Type} {R:Rel α} {e:TypeId} {sz:Nat} {Pb Pe M:Nat->Prop} {w w':World} {v:Value} {xs:List α} (hR:rF R sz) (h:oP R e sz Pb Pe w v xs) (c:Chg M w w') (s: ∀k,v.ownBlock=some k-> ¬M k) (s2: ∀k,Pe k->v.ownBlock≠some k-> ¬M k):oP R e sz Pb Pe w' v xs:=by
 obtain ⟨cs,hoc,he⟩:=h.yX (Pb':=fun b=>v.ownBlock=some b/\Pb b) fun b hb hP=>⟨hb,hP⟩;exact ⟨cs,(hoc.keep (c.keep fun b _ hP=>s b hP.1)).mono fun b _ hP=>hP.2,fun i x hx=>hR.st _ _ _ _ _ (c.keep fun b _ hP=>s2 b hP.1 hP.2) (he i x hx)⟩
abbrev grC (lv:Value) (hm:Nat) (ev wv gv pv:Value):List Value:=[lv,.map (some hm),ev,wv,gv,pv]
theorem J4 {t:List Nd} {i kind:Nat} {soft:Bool} {f place:Nat} {h:Int} {c:List Int}:vS t i kind soft (f+1) place (h::c)=match Cj t h.toNat with
 |none=>[⟨i,none,kind,soft,place,[]⟩]
 |some to_=>match JC (ndA t to_) (uq kind).2 with
  |none=>[⟨i,none,kind,soft,place,[]⟩]
  |some n=>if c.length<n then [⟨i,none,kind,soft,place,[]⟩] else ⟨i,some to_,kind,soft,place,c.take n⟩::vS t i kind soft f (place+1) (c.drop n):=by
 rw [vS];rfl
theorem nX {P:Program} {n:Nat} {ds:List Deferred} {Q:Po} {F:Fr} {w:World} {ops rest:List Oper} {d:Nat} {ty t:TypeId} {pos:String} {aft:Array Edge} {x i:Operand} {a k u:Value} (hx:ev n F x=a) (hi:ev n F i=k) (hr:(Instr.index t a k).run P w=.ok u w) (c:Wl P n ds Q ops rest (upd F d u) w):
 Wl P n ds Q ops (⟨some d,.index t x i,ty,pos,aft,none⟩::rest) F w:=
 Wl.val (by simp only [execOp,hx,hi,Sem.run_bind,hr,Result.andThen_ok,Sem.run_pure]) c
theorem YN {x:Nd} {nm:Nm} {n:Nat} (h:JC x nm=some n):n<=8:=by
 unfold JC at h;split at h
 ·cases h;decide
 ·split at h
  ·split at h
   ·cases h;assumption
   ·cases h
  ·cases h
theorem L9 {lo bg hm:Nat} {w:World} {lv ev wv gv pv:Value} {t:List Nd} {es:List Ed} {i kind:Nat} {soft:Bool} {Pb Pe:Nat->Prop}
 (hb:Bk w bg 145 (grC lv hm ev wv gv pv)) (ht:RdS rNd 3 (fun k=>k<lo) w lv t) (hok:pM t=true) (hi:i<t.length) (hk1:1<=kind) (hk5:kind<=5) (hmp:sK prog 181 w hm (CQ (sG t)))
 (own:oP rEd 100 6 Pb Pe w ev es) (hel:es.length<=10000000) (hPb: ∀b,w.heap.size<=b->Pb b) (hPe: ∀b,w.heap.size<=b->Pe b) (hnb: ¬Pb bg/\ ¬Pe bg/\ ¬Pb hm/\hm≠bg) (hlo:lo<=bg/\ ∀b,b<lo-> ¬Pb b):
 Calls prog 81 #[.pointer (some ⟨bg,0,none⟩),vi i,.int .u8 kind,.bool soft] w (Ret fun _ w'=> ∃ev',Bk w' bg 145 (grC lv hm ev' wv gv pv)/\oP rEd 100 6 Pb Pe w' ev' (es++yE t i kind soft)/\Chg (fun k=>k=bg∨ev.ownBlock=some k) w w'/\ ∀k,ev'.ownBlock=some k->ev.ownBlock=some k∨w.heap.size<=k):=by
 have hlen:=qo hok;have aeJ:=hb.lt;have anM:=hmp.lt;have ajB:=ht.form;have ajC:=own.form;obtain ⟨la,lc,rfl,_,_⟩:=ajB;obtain ⟨ea,ec,rfl,_,_⟩:=ajC;refine oI func81 rfl ntmps81 rfl ?_;refine aP ?_;(repeat' (refine aU ?_));refine au SS rfl ?_;rintro _ w1 ⟨rfl,n1⟩;(repeat' (refine aa1 ?_));refine nX rfl rfl (Nz hk1 hk5) ?_;refine Wl.alloc fun w2 b2 n2 s2=>?_;refine aK (new:=kwC kind) b2 rfl rfl rfl rfl zl2 (by intro c hc;simp at hc;rcases hc with rfl|rfl<;>rfl) fun w3 b3 c3 s3=>?_;replace b3:Bk w3 w1.heap.size 237 (kwC kind):=b3;have hz1:=n1.size;have n03:New w w3:=New.trans n1 ((Chg.trans n2.any c3 i3).tN);(repeat' (first|refine ak ?_|refine aT ?_));refine aP ?_;(repeat' (refine aU ?_));refine iM rfl rfl (by omega) (by omega) ?_;refine ah (u:=vs (uq kind).1) rfl (b3.cell (o:=0) rfl) ?_;(repeat' (first|refine aa7 ?_|refine ak ?_|refine aT ?_));have hkw:(uq kind).1.length<=100/\(uq kind).2.length<=100:=by
  have:kind=1∨kind=2∨kind=3∨kind=4∨kind=5:=by omega
  rcases this with rfl|rfl|rfl|rfl|rfl<;>decide
 refine eX (fun F W=>agrees F [(0,.pointer (some ⟨bg,0,none⟩)),(1,vi i),(2,.int .u8 kind),(3,.bool soft),(8,.pointer (some ⟨w1.heap.size,0,none⟩)),(9,vs ((uq kind).1++if soft=true then [63] else []))]/\w3=W) ?_ ?_
 ·cases soft
  ·refine DY ?_;exact cO ⟨⟨rfl,rfl,rfl,rfl,rfl,by show vs (uq kind).1=_;simp,trivial⟩,rfl⟩
  ·(repeat' (first|refine aa1 ?_|refine ak ?_|refine aT ?_|refine aP ?_|refine aU ?_|refine bT rfl ?_));refine jT (a:=(uq kind).1) (b:=[63]) rfl rfl (by simp;omega) ?_;refine DY ?_;exact cO ⟨⟨rfl,rfl,rfl,rfl,rfl,rfl,trivial⟩,rfl⟩
 rintro F W ⟨hF,rfl⟩;generalize hnm:(uq kind).1++(if soft=true then [63] else [])=nm at hF;rw [<-qh hF];simp only [ql];clear hF;have hb3:=hb.chg n03 id;have hx:=IJ hi;refine qq4 ?_;refine ah (u:=.slice la t.length lc) rfl (hb3.cell (o:=0) rfl) ?_;(repeat' (refine aa1 ?_));refine aO (ht.keep pU n03.keep) rfl rfl (by omega) hx fun b o cs hl hR hat=>?_;obtain ⟨pv1,rfl,hpv⟩:=hR;refine aS hat rfl rfl ?_;clear hat;(repeat' (refine aa1 ?_));refine au (CG (x:=ndA t i) (nm:=nm) hpv) rfl ?_;rintro _ w4 ⟨rfl,n4⟩;have n04:=New.trans n03 n4;have ev1: ∀o:Option (List UInt8),Ns o=.tuple #[vs (o.getD []),.bool o.isSome]:=fun o=>by cases o<;>rfl
 rw [ev1];have hvl:((uO t i nm).getD []).length<=1024:=Ac hok hi;generalize hvv:(val (ndA t i).qj nm).getD []=txt;have hvl:txt.length<=1024:=by rw [<-hvv];exact hvl
 refine qq5 ?_;refine bJ (ps:=[(0,.tmp 39),(1,.const (vi (-1))),(2,.tmp 40),(3,.tmp 41)]) (parts:=[(0,vi i),(1,vi (-1)),(2,.int .u8 kind),(3,.bool soft)]) rfl rfl (by simp [Value.cells]) ?_;refine Wl.alloc fun w5 b5 n5 s5=>?_;refine aK (new:=edC ⟨i,none,kind,soft,0,[]⟩ (.slice none 0 0)) b5 rfl rfl rfl rfl zl6 P9 fun w6 b6 c6 s6=>?_;replace b6:Bk w6 w4.heap.size 100 (edC ⟨i,none,kind,soft,0,[]⟩ (.slice none 0 0)):=b6;have hz4:=n04.size;have n46:New w4 w6:=(Chg.trans n5.any c6 i3).tN
 refine qq4 ?_;refine au (Ef (l:=txt) (by omega)) rfl ?_;rintro _ w7 ⟨nv,rfl,Gz,n7⟩;have n47:=New.trans n46 n7;have n07:=New.trans n04 n47;have ajD:=n46.size;have hz7:=n7.size;generalize hbx:w4.heap.size=bx at b6 s5 hz4;have b7:=b6.chg n7 id;have hb7:=hb.chg n07 id;have hw8:=b3.chg (New.trans n4 n47) id;generalize hb8:w1.heap.size=b8 at b3 hw8 b2;have ajE:=b6.lt;have h8l:=b3.lt;have anN:=n4.size;have YM:=own.xA qI n07 i3 fun _ _ _ e=>e;have hrm:yE t i kind soft=if form 4 txt=0 then vS t i kind soft (nums 4 txt).length 0 (nums 4 txt) else [⟨i,none,kind,soft,0,[]⟩]:=by unfold yE;rw [hnm,show uO t i nm=val (ndA t i).qj nm from rfl,hvv]
 rw [hrm];have hnl:=FK txt;rcases Va txt with hf|hf
 ·rw [hf,if_pos rfl];obtain ⟨na,nc,rfl,_,_⟩:=Gz.form;generalize hnv:(Value.slice na (nums 4 txt).length nc).ownBlock=nb at*;have IL: ∀k,nb=some k->w6.heap.size<=k/\k<w7.heap.size:=fun k hk=>Gz.lt (by rw [hnv];exact hk);have hN:RdS (Wk.one Be) 1 (fun b=>nb=some b) w7 (.slice na (nums 4 txt).length nc) (nums 4 txt):=((Gz.yX (Pb':=fun b=>nb=some b) fun b hb _=>by rw [<-hnv];exact hb).rd (pq _)).mono (pq _) fun b _ e=>e.resolve_right id;have NI:oP rEd 100 6 (fun b=>Pb b/\b≠bx/\b≠b8/\nb≠some b) (fun b=>Pe b/\b≠bx/\b≠b8/\nb≠some b) w7 (.slice ea es.length ec) es:=by have h1:=own.mono (Pb':=fun b=>Pb b/\b<w.heap.size) (Pe':=fun b=>Pe b/\b<w.heap.size) rH (fun b hb e=>⟨e,hb⟩) (fun b hb e=>⟨e,hb⟩);exact (h1.xA qI n07 i3 fun _ _ _ e=>e).mono rH (fun b _ e=>⟨e.1,by omega,by omega,fun e2=>by have:=IL b e2;omega⟩) (fun b _ e=>⟨e.1,by omega,by omega,fun e2=>by have:=IL b e2;omega⟩)
  (repeat' (first|refine qq4 ?_|(refine aa4 (fun _=>?_) (fun _=>?_)<;>(first|(exfalso;omega)|skip))));refine aC (σ:=Nat×(Value×List Int)×(Value×List Ed)) (fun q=>[(0,.pointer (some ⟨bg,0,none⟩)),(8,.pointer (some ⟨b8,0,none⟩)),(12,.pointer (some ⟨bx,0,none⟩)),(13,q.2.1.1)]) (fun q W=>(∃f,q.2.1.2.length<=f/\q.2.2.2++vS t i kind soft f q.1 q.2.1.2=es++vS t i kind soft (nums 4 txt).length 0 (nums 4 txt))/\q.2.2.2.length+q.2.1.2.length<=es.length+1024/\q.1+q.2.1.2.length<=1024/\(∀x∈q.2.1.2, ∃n:Nat,x=(n:Int)/\n<4294967296) /\Bk W bg 145 (grC (.slice la t.length lc) hm q.2.2.1 wv gv pv)/\Bk W bx 100 (edC ⟨i,none,kind,soft,q.1,[]⟩ (.slice none 0 0))/\RdS (Wk.one Be) 1 (fun b=>nb=some b) W q.2.1.1 q.2.1.2 /\oP rEd 100 6 (fun b=>Pb b/\b≠bx/\b≠b8/\nb≠some b) (fun b=>Pe b/\b≠bx/\b≠b8/\nb≠some b) W q.2.2.1 q.2.2.2/\Chg (fun k=>k=bg∨(Value.slice ea es.length ec).ownBlock=some k) w W/\(∀k,q.2.2.1.ownBlock=some k->(Value.slice ea es.length ec).ownBlock=some k∨w.heap.size<=k)/\Bk W b8 237 (kwC kind)/\w7.heap.size<=W.heap.size) (fun q=>q.2.1.2.length) (0,(.slice na (nums 4 txt).length nc,nums 4 txt),(.slice ea es.length ec,es)) (sl rfl) ⟨⟨_,aat _,rfl⟩,by dsimp only;omega,by dsimp only;omega,U9,hb7,b7,hN,NI,n07.any,fun k hk=>.inl hk,hw8,aat _⟩ ?_;rintro ⟨pl,⟨cv,c⟩,⟨ev2,es2⟩⟩ G W ⟨⟨f,hfl,hE⟩,acS,hpl,hcn,hbW,bxW,hcW,BN,cW,KY,b8W,hzW⟩;dsimp only at hfl hE acS hpl hcn hbW bxW hcW BN cW KY b8W hzW;simp only [ql];obtain ⟨ca,cc,rfl,_,_⟩:=hcW.form;obtain ⟨pa,pc,rfl,_,_⟩:=BN.form;have hne: ∀k,(Value.slice pa es2.length pc).ownBlock=some k->k≠bg/\k≠bx/\nb≠some k/\k≠hm/\ ¬k<lo/\k≠b8:=fun k hk=>by obtain ⟨⟨h1,h2,h3,h5⟩,h4⟩:=BN.lt hk;exact ⟨fun e=>hnb.1 (e▸h1),h2,h5,fun e=>hnb.2.2.1 (e▸h1),fun e=>hlo.2 k e h1,h3⟩
  have anO:=n07.size;(repeat' (first|refine qq2 ?_|refine aW rfl rfl (fun _=>?_) (fun _=>?_)))
  ·obtain ⟨x,r,rfl⟩: ∃x r,c=x::r:=by
    cases c with
    |nil=>simp at*
    |cons x r=>exact ⟨x,r,rfl⟩
   obtain ⟨h,rfl,hhl⟩:=hcn _ (List.mem_cons_self);obtain ⟨f,rfl⟩: ∃f',f=f'+1:=⟨f-1,by simp only [aph] at hfl;omega⟩;simp only [aph] at hfl acS hpl;rw [J4,ao3] at hE;have mpW:sK prog 181 W hm (CQ (sG t)):=hmp.chg cW fun e=>by
    rcases e with e|e
    ·exact hnb.2.2.2 e
    ·exact hnb.2.2.1 (own.lt e).1
   have htW:RdS rNd 3 (fun k=>k<lo) W (.slice la t.length lc) t:=ht.keep pU (cW.keep fun b hb h1 e=>by
    rcases e with e|e
    ·omega
    ·exact hlo.2 b h1 (own.lt e).1)
   have anh:((h:Int)::r).length=r.length+1:=aph
   have fin: ∀(W':World) (v':Value),es2++ [⟨i,none,kind,soft,pl,[]⟩]=es++vS t i kind soft (nums 4 txt).length 0 (nums 4 txt)->Bk W' bg 145 (grC (.slice la t.length lc) hm v' wv gv pv)->oP rEd 100 6 (fun b=>Pb b/\b≠bx/\b≠b8/\nb≠some b) (fun b=>Pe b/\b≠bx/\b≠b8/\nb≠some b) W' v' (es2++ [⟨i,none,kind,soft,pl,[]⟩])->Chg (fun k=>k=bg∨(Value.slice ea es.length ec).ownBlock=some k) w W'->(∀k,v'.ownBlock=some k->(Value.slice ea es.length ec).ownBlock=some k∨w.heap.size<=k)->
    ∃ev',Bk W' bg 145 (grC (.slice la t.length lc) hm ev' wv gv pv)/\oP rEd 100 6 Pb Pe W' ev' (es++vS t i kind soft (nums 4 txt).length 0 (nums 4 txt))/\Chg (fun k=>k=bg∨(Value.slice ea es.length ec).ownBlock=some k) w W'/\ ∀k,ev'.ownBlock=some k->(Value.slice ea es.length ec).ownBlock=some k∨w.heap.size<=k:=fun W' v' e1 e2 e3 e4 e5=>
    ⟨v',e2,e1▸e3.mono rH (fun _ _ e=>e.1) (fun _ _ e=>e.1),e4,e5⟩
   refine aX rfl (by kernel_rfl) (fun w'=>New W w') (Chg.drew _ _) ?_;intro w8 n8;refine tJ ?_;refine aa0 (ax (u:=.map (some hm)) rfl (fun w' hw=>(hbW.chg hw id).cell (o:=1) rfl) (af ?_));(repeat' (refine aa0 (aa3 (af ?_))));refine aa0 (dD (y:=(h:Int)) hcW (fun w' hw=>hw.keep) rfl rfl (by omega) rfl fun b o hcell=>af ?_);refine aa0 (ax (u:=.int .u32 h) rfl hcell (af ?_));refine aa0 (nR (l:=CQ (sG t)) kU (fun w' hw=>mpW.chg hw id) (acH hhl) (fun r r' h1 h2=>YE (CP t) h1 h2) rfl rfl (fun q hq=>af ?_) (fun hq=>af ?_))
   ·obtain ⟨to_,rfl,hto⟩:=aaN hq;have aeK:=LW hto;have hxt:=IJ aeK;rw [hto] at hE;dsimp only at hE;(repeat' (first|refine bG ?_|refine aa0 (aa3 (af ?_))|refine aa0 (dU (by conv=>{lhs;whnf}) (af ?_))|refine aa0 (iW rfl rfl (af ?_))));refine qq5 ?_;refine aX rfl (by kernel_rfl) (fun w'=>New W w') (n8.trans (Chg.drew _ _)) ?_;intro w9 n9;replace n9:=New.trans n8 n9;refine tJ ?_;refine aa0 (ax (u:=.slice la t.length lc) rfl (fun w' hw=>(hbW.chg hw id).cell (o:=0) rfl) (af ?_));(repeat' (refine aa0 (aa3 (af ?_))));refine aa0 (aY htW (fun w' hw=>hw.keep) rfl rfl (by omega) hxt fun b o cs hl hR hat=>af ?_);obtain ⟨pv2,rfl,hpv2⟩:=hR;refine aa0 (bK hat rfl rfl (af ?_));clear hat;refine je rfl (kR rfl rfl (by omega) (by omega) (af ?_));refine aa0 (ax (u:=vs (uq kind).2) rfl (fun w' hw=>(b8W.chg hw id).cell (o:=1) rfl) (af ?_));refine aH rfl (au (PY (x:=ndA t to_) (nm:=(uq kind).2) (hpv2.keep (pI pC) n9.keep) (Fq hok aeK _)) rfl ?_);rintro _ w10 ⟨rfl,n10⟩;replace n10:=New.trans n9 n10;refine ak ⟨rfl,n10,?_⟩;(repeat' (first|refine bG ?_|refine aa0 (dU (by conv=>{lhs;whnf}) (af ?_))));cases hag:JC (ndA t to_) (uq kind).2 with
    |none=>
     rw [hag] at hE;dsimp only at hE;rw [show qC none=(-1:Int) from rfl];(repeat' (first|refine qq5 ?_|(refine aa2 (fun _=>?_) (fun _=>?_)<;>(first|(exfalso;omega)|skip))));refine aX rfl (by kernel_rfl) (fun w'=>Chg (fun k=>(Value.slice pa es2.length pc).ownBlock=some k) W w') (n10.any.trans (Chg.drew _ _) i3) ?_;intro w20 n20;replace n20:New W w20:=New.trans n10 n20;refine tJ ?_;refine aa0 (ax (u:=.slice pa es2.length pc) rfl (fun w' hw=>(hbW.chg hw fun e=>(hne bg e).1 rfl).cell (o:=2) rfl) (af ?_));refine aa0 (bK (cs:=edC ⟨i,none,kind,soft,pl,[]⟩ (.slice none 0 0)) (fun w' hw=>(bxW.chg hw fun e=>(hne bx e).2.1 rfl).at) rfl rfl (af ?_));refine aH rfl (bF (R:=rEd) (y:=⟨i,none,kind,soft,pl,[]⟩) (Pe:=NoB) qI rfl rfl rfl ⟨_,rfl,eu⟩ (by omega) (by omega) fun vt w21 ot n21 s21 P8=>?_);have n201:=New.trans n20 n21;refine ak ⟨rfl,n201.any,?_⟩;have Vb:=n20.size;have NJ:=BN.xA qI n201 i3 fun _ _ _ e=>e;have hwW:w.heap.size<=W.heap.size:=cW.size;refine aH rfl (bI qI NJ (ot.rd qI.mo) (fun y cs hy=>rH _ _ _ _ _ (fun b hb hP=>?_) hy) rfl rfl (by omega) (by simp only [maxLen,apm];omega) (by simp only [apm];omega) fun v22 w22 o22 c22 FN _=>?_)
     ·have hbb:w20.heap.size<=b:=hP.resolve_right id;exact ⟨⟨hPe b (by omega),by omega,by omega,fun e=>by have:=IL b e;omega⟩,fun e=>by have:=(BN.lt e).2;omega⟩
     have c222:Chg (fun k=>(Value.slice pa es2.length pc).ownBlock=some k) W w22:=Chg.trans n201.any c22 i3;refine ak ⟨rfl,c222,?_⟩;refine tJ ?_;have b22:=hbW.chg c222 fun e=>(hne bg e).1 rfl;refine Wt.last rfl (aJ (u:=v22) b22 rfl (show (2:Nat)<6 by omega) rfl (by obtain ⟨_,_,rfl,_⟩:=o22.form;rfl) fun w23 b23 c23=>?_);replace b23:Bk w23 bg 145 (grC (.slice la t.length lc) hm v22 wv gv pv):=b23;have NK: ∀k,v22.ownBlock=some k->(Value.slice pa es2.length pc).ownBlock=some k∨w21.heap.size<=k:=fun k hk=>by
      rcases FN with e|e
      ·exact .inl (e▸hk)
      ·exact .inr (e k hk)
     have Vd:=n201.size;have acT:=hbW.lt;have Et:=o22.mono (Pb':=fun b=>Pb b/\b≠bx/\b≠b8/\nb≠some b) (Pe':=fun b=>Pe b/\b≠bx/\b≠b8/\nb≠some b) rH (fun b _ e=>by
      rcases e with e|e
      ·exact e
      ·exact ⟨hPb b (by omega),by omega,by omega,fun e2=>by have:=IL b e2;omega⟩) i3
     have o23:=Et.xA qI c23 (fun k hk e=>by
      subst e;exact hnb.1 (Et.lt hk).1.1) fun k hk _ e=>by
      subst e;exact hnb.2.1 hk.1
     refine ak ?_;refine qq1 ?_;refine fE rfl ⟨_,rfl,fin w23 v22 hE b23 o23 (Chg.trans cW (Chg.trans (M:=fun k=>k=bg∨(Value.slice pa es2.length pc).ownBlock=some k) (c222.mono fun k _ e=>.inr e) c23 fun k _ e=>.inl e) fun k hk e=>?_) fun k hk=>?_⟩
     ·rcases e with e|e
      ·exact .inl e
      ·exact (KY k e).elim .inr fun e=>by omega
     ·rcases NK k hk with e|e
      ·exact KY k e
      ·exact .inr (by omega)
    |some n=>
     rw [hag] at hE;dsimp only at hE;have hn8:=YN hag;rw [show qC (some n)=(n:Int) from rfl];(repeat' (first|refine qq3 ?_|(refine aa2 (fun _=>?_) (fun _=>?_)<;>(first|(exfalso;omega)|skip))|refine aW rfl rfl (fun _=>?_) (fun _=>?_)))
     ·rw [if_pos (by omega)] at hE;refine aX rfl (by kernel_rfl) (fun w'=>Chg (fun k=>(Value.slice pa es2.length pc).ownBlock=some k) W w') (n10.any.trans (Chg.drew _ _) i3) ?_;intro w20 n20;replace n20:New W w20:=New.trans n10 n20;refine tJ ?_;refine aa0 (ax (u:=.slice pa es2.length pc) rfl (fun w' hw=>(hbW.chg hw fun e=>(hne bg e).1 rfl).cell (o:=2) rfl) (af ?_));refine aa0 (bK (cs:=edC ⟨i,none,kind,soft,pl,[]⟩ (.slice none 0 0)) (fun w' hw=>(bxW.chg hw fun e=>(hne bx e).2.1 rfl).at) rfl rfl (af ?_));refine aH rfl (bF (R:=rEd) (y:=⟨i,none,kind,soft,pl,[]⟩) (Pe:=NoB) qI rfl rfl rfl ⟨_,rfl,eu⟩ (by omega) (by omega) fun vt w21 ot n21 s21 P8=>?_);have n201:=New.trans n20 n21;refine ak ⟨rfl,n201.any,?_⟩;have Vb:=n20.size;have NJ:=BN.xA qI n201 i3 fun _ _ _ e=>e;have hwW:w.heap.size<=W.heap.size:=cW.size;refine aH rfl (bI qI NJ (ot.rd qI.mo) (fun y cs hy=>rH _ _ _ _ _ (fun b hb hP=>?_) hy) rfl rfl (by omega) (by simp only [maxLen,apm];omega) (by simp only [apm];omega) fun v22 w22 o22 c22 FN _=>?_)
      ·have hbb:w20.heap.size<=b:=hP.resolve_right id;exact ⟨⟨hPe b (by omega),by omega,by omega,fun e=>by have:=IL b e;omega⟩,fun e=>by have:=(BN.lt e).2;omega⟩
      have c222:Chg (fun k=>(Value.slice pa es2.length pc).ownBlock=some k) W w22:=Chg.trans n201.any c22 i3;refine ak ⟨rfl,c222,?_⟩;refine tJ ?_;have b22:=hbW.chg c222 fun e=>(hne bg e).1 rfl;refine Wt.last rfl (aJ (u:=v22) b22 rfl (show (2:Nat)<6 by omega) rfl (by obtain ⟨_,_,rfl,_⟩:=o22.form;rfl) fun w23 b23 c23=>?_);replace b23:Bk w23 bg 145 (grC (.slice la t.length lc) hm v22 wv gv pv):=b23;have NK: ∀k,v22.ownBlock=some k->(Value.slice pa es2.length pc).ownBlock=some k∨w21.heap.size<=k:=fun k hk=>by
       rcases FN with e|e
       ·exact .inl (e▸hk)
       ·exact .inr (e k hk)
      have Vd:=n201.size;have acT:=hbW.lt;have Et:=o22.mono (Pb':=fun b=>Pb b/\b≠bx/\b≠b8/\nb≠some b) (Pe':=fun b=>Pe b/\b≠bx/\b≠b8/\nb≠some b) rH (fun b _ e=>by
       rcases e with e|e
       ·exact e
       ·exact ⟨hPb b (by omega),by omega,by omega,fun e2=>by have:=IL b e2;omega⟩) i3
      have o23:=Et.xA qI c23 (fun k hk e=>by
       subst e;exact hnb.1 (Et.lt hk).1.1) fun k hk _ e=>by
       subst e;exact hnb.2.1 hk.1
      refine ak ?_;refine qq1 ?_;refine fE rfl ⟨_,rfl,fin w23 v22 hE b23 o23 (Chg.trans cW (Chg.trans (M:=fun k=>k=bg∨(Value.slice pa es2.length pc).ownBlock=some k) (c222.mono fun k _ e=>.inr e) c23 fun k _ e=>.inl e) fun k hk e=>?_) fun k hk=>?_⟩
      ·rcases e with e|e
       ·exact .inl e
       ·exact (KY k e).elim .inr fun e=>by omega
      ·rcases NK k hk with e|e
       ·exact KY k e
       ·exact .inr (by omega)
     ·rw [if_neg (by omega)] at hE;have ajF:=bxW.chg n10 id;have anP:=hbW.chg n10 id;refine bD ajF rfl rfl ?_;refine Wl.alloc fun w11 b11 n11 s11=>?_;refine aK (new:=edC ⟨i,none,kind,soft,pl,[]⟩ (.slice none 0 0)) b11 rfl rfl rfl rfl zl6 P9 fun w12 b12 c12 s12=>?_;replace b12:Bk w12 w10.heap.size 100 (edC ⟨i,none,kind,soft,pl,[]⟩ (.slice none 0 0)):=b12;have abY:New w10 w12:=(Chg.trans n11.any c12 i3).tN
      have n12:=New.trans n10 abY;refine qq4 ?_;refine lI (hcW.keep (pF _) n12.keep) rfl rfl rfl (by omega) (by omega) (by simp only [aph];omega) fun v13 aeL=>?_;rw [show ((n:Int)+1).toNat=n+1 by omega,show (1:Int).toNat=1 from rfl,List.take_succ_cons,arn,apk] at aeL;refine au (Qa aeL (by simp only [apb];omega)) rfl ?_;rintro av w14 ⟨Ve,n14⟩;obtain ⟨aa,acp,rfl,_,_⟩:=Ve.form;generalize hal:(r.take n).length=al at Ve;have b14:=b12.chg n14 id;(repeat' (refine aa5 ?_));refine aJ (u:=vi to_) b14 rfl (show (1:Nat)<6 by omega) rfl rfl fun w15 b15 c15=>?_;(repeat' (refine aa5 ?_));refine aJ (u:=.slice aa al acp) b15 rfl (show (5:Nat)<6 by omega) rfl rfl fun w16 b16 c16=>?_;replace b16:Bk w16 w10.heap.size 100 (edC ⟨i,some to_,kind,soft,pl,r.take n⟩ (.slice aa al acp)):=b16;have YO:=n10.size;have YP:=abY.size;have aeM:=n14.size;have YQ:Chg (fun k=>k=w10.heap.size) w14 w16:=Chg.trans c15 c16 i3;have n16:New W w16:=(Chg.trans (M:=fun k=>k=w10.heap.size) (New.trans n12 n14).any YQ fun k _ e=>e).tN
      have ajG:=(Ve.mono (Pb':=fun b=>w10.heap.size<b) (pq _) (fun b _ e=>by have h9:w12.heap.size<=b:=e;omega) i3).chg (oJ Be) YQ fun k hk e=>by have:=(Ve.lt hk).1;omega
      have anQ:=n16.size;have hc16:=YQ.size;refine qq1 ?_;refine aX rfl (by kernel_rfl) (fun w'=>Chg (fun k=>(Value.slice pa es2.length pc).ownBlock=some k) w16 w') (Chg.drew _ _) ?_;intro w20 n20;refine tJ ?_;refine aa0 (ax (u:=.slice pa es2.length pc) rfl (fun w' hw=>((hbW.chg n16 id).chg hw fun e=>(hne bg e).1 rfl).cell (o:=2) rfl) (af ?_));have aeN: ∀k,(Value.slice pa es2.length pc).ownBlock=some k->k<W.heap.size:=fun k hk=>(BN.lt hk).2;refine aa0 (bK (cs:=edC ⟨i,some to_,kind,soft,pl,r.take n⟩ (.slice aa al acp)) (fun w' hw=>(b16.chg hw fun e=>by have:=aeN _ e;omega).at) rfl rfl (af ?_));have ajH:=ajG.new (oJ Be) n20;have anR:=n20.size;refine aH rfl (bF (R:=rEd) (y:=⟨i,some to_,kind,soft,pl,r.take n⟩) (Pe:=fun b=>w10.heap.size<b/\b<w20.heap.size) qI rfl rfl rfl ⟨_,rfl,(ajH.mono (Pb':=fun b=>w10.heap.size<b/\b<w20.heap.size) (pq _) (fun b hb e=>⟨e,hb⟩) i3).rd (pq _) |>.mono (pq _) fun b hb e=>by rcases e with e|e;exact ⟨e,by omega⟩;exact e.elim⟩ (by omega) (by omega) fun vt w21 ot n21 s21 P8=>?_);have n201:=New.trans n20 n21;have ajI:=New.trans n16 n201;refine ak ⟨rfl,n201.any,?_⟩;have Vb:=n20.size;have NJ:=BN.xA qI ajI i3 fun _ _ _ e=>e;have hwW:w.heap.size<=W.heap.size:=cW.size;refine aH rfl (bI qI NJ (ot.rd qI.mo) (fun y cs hy=>rH _ _ _ _ _ (fun b hb hP=>?_) hy) rfl rfl (by omega) (by simp only [maxLen,apm];omega) (by simp only [apm];omega) fun v22 w22 o22 c22 FN _=>?_)
      ·have hbb:w10.heap.size<b:=by
        rcases hP with hP|hP
        ·have h9:w20.heap.size<=b:=hP;omega
        ·exact hP.1
       exact ⟨⟨hPe b (by omega),by omega,by omega,fun e=>by have:=IL b e;omega⟩,fun e=>by have:=(BN.lt e).2;omega⟩
      have c222:Chg (fun k=>(Value.slice pa es2.length pc).ownBlock=some k) w16 w22:=Chg.trans n201.any c22 i3;refine ak ⟨rfl,c222,?_⟩;refine tJ ?_;have b22:=(hbW.chg n16 id).chg c222 fun e=>(hne bg e).1 rfl;have ajJ:=(bxW.chg n16 id).chg c222 fun e=>(hne bx e).2.1 rfl;refine Wt.last rfl (aJ (u:=v22) b22 rfl (show (2:Nat)<6 by omega) rfl (by obtain ⟨_,_,rfl,_⟩:=o22.form;rfl) fun w23 b23 c23=>?_);replace b23:Bk w23 bg 145 (grC (.slice la t.length lc) hm v22 wv gv pv):=b23;have NK: ∀k,v22.ownBlock=some k->(Value.slice pa es2.length pc).ownBlock=some k∨w21.heap.size<=k:=fun k hk=>by
       rcases FN with e|e
       ·exact .inl (e▸hk)
       ·exact .inr (e k hk)
      have Vd:=n201.size;have acT:=hbW.lt;have anS:=bxW.lt;have Et:=o22.mono (Pb':=fun b=>Pb b/\b≠bx/\b≠b8/\nb≠some b) (Pe':=fun b=>Pe b/\b≠bx/\b≠b8/\nb≠some b) rH (fun b _ e=>by
       rcases e with e|e
       ·exact e
       ·exact ⟨hPb b (by omega),by omega,by omega,fun e2=>by have:=IL b e2;omega⟩) i3
      have o23:=Et.xA qI c23 (fun k hk e=>by
       subst e;exact hnb.1 (Et.lt hk).1.1) fun k hk _ e=>by
       subst e;exact hnb.2.1 hk.1
      have Vf:Chg (fun k=>k=bg∨(Value.slice pa es2.length pc).ownBlock=some k) W w23:=Chg.trans (Chg.trans n16.any (c222.mono fun k _ e=>Or.inr e) i3) c23 fun k _ e=>.inl e;have aeO:bx≠bg:=by omega
      have h8g:b8≠bg:=by omega
      have aeP:=ajJ.chg c23 aeO;have ajK:=b8W.chg Vf fun e=>e.elim h8g fun e=>(hne b8 e).2.2.2.2.2 rfl;have hcv:=hcW.keep (pF _) (Vf.keep fun b _ e1 e2=>by
       rcases e2 with e2|e2
       ·subst e2;have:=IL b e1;omega
       ·exact (hne b e2).2.2.1 e1)
      refine ak ?_;refine qq8 ?_;refine jY hcv rfl rfl (by omega) (by simp only [aph];omega) fun v24 hv24=>?_;rw [show ((n:Int)+1).toNat=n+1 by omega,arn] at hv24;refine qq4 ?_;refine ah (u:=vi pl) rfl (aeP.cell (o:=4) rfl) ?_;refine qq5 ?_;refine aJ (u:=vi (pl+1:Nat)) aeP rfl (show (4:Nat)<6 by omega) (by show vi ((pl:Int)+1)=_;rfl) rfl fun w25 b25 c25=>?_;replace b25:Bk w25 bx 100 (edC ⟨i,none,kind,soft,pl+1,[]⟩ (.slice none 0 0)):=b25;refine qq0 ?_;refine aA (pl+1,(v24,r.drop n),(v22,es2++ [⟨i,some to_,kind,soft,pl,r.take n⟩])) (sl rfl) ⟨⟨f,?_,?_⟩,?_,?_,?_,b23.chg c25 aeO.symm,b25,hv24.keep (pF _) (c25.keep fun b _ e1 e2=>by subst e2;have:=IL b e1;omega),o23.xA qI c25 (fun k hk e=>by subst e;exact (Et.lt hk).1.2.1 rfl) (fun k hk _ e=>hk.2.1 e),Chg.trans (Chg.trans cW Vf fun k hk e=>?_) c25 fun k hk e=>by omega,fun k hk=>?_,ajK.chg c25 (by omega),by have:=c25.size;have:=Vf.size;omega⟩ ?_
      ·simp only [apt];omega
      ·dsimp only;rw [<-hE];simp
      ·simp only [adL,apm,apt];omega
      ·simp only [apt];omega
      ·exact fun x hx=>hcn x (aqd _ (aro hx))
      ·rcases e with e|e
       ·exact .inl e
       ·exact (KY k e).elim .inr fun e=>by omega
      ·rcases NK k hk with e|e
       ·exact KY k e
       ·exact .inr (by omega)
      ·simp only [aph,apt];omega
   ·rw [YD hq] at hE;dsimp only at hE;(repeat' (first|refine bG ?_|refine aa0 (aa3 (af ?_))|refine aa0 (dU (by conv=>{lhs;whnf}) (af ?_))|refine aa0 (iW rfl rfl (af ?_))));(repeat' (first|refine qq6 ?_|(refine aa2 (fun _=>?_) (fun _=>?_)<;>(first|(exfalso;omega)|skip))));refine aX rfl (by kernel_rfl) (fun w'=>Chg (fun k=>(Value.slice pa es2.length pc).ownBlock=some k) W w') (n8.any.trans (Chg.drew _ _) i3) ?_;intro w20 n20;replace n20:New W w20:=New.trans n8 n20;refine tJ ?_;refine aa0 (ax (u:=.slice pa es2.length pc) rfl (fun w' hw=>(hbW.chg hw fun e=>(hne bg e).1 rfl).cell (o:=2) rfl) (af ?_));refine aa0 (bK (cs:=edC ⟨i,none,kind,soft,pl,[]⟩ (.slice none 0 0)) (fun w' hw=>(bxW.chg hw fun e=>(hne bx e).2.1 rfl).at) rfl rfl (af ?_));refine aH rfl (bF (R:=rEd) (y:=⟨i,none,kind,soft,pl,[]⟩) (Pe:=NoB) qI rfl rfl rfl ⟨_,rfl,eu⟩ (by omega) (by omega) fun vt w21 ot n21 s21 P8=>?_);have n201:=New.trans n20 n21;refine ak ⟨rfl,n201.any,?_⟩;have Vb:=n20.size;have NJ:=BN.xA qI n201 i3 fun _ _ _ e=>e;have hwW:w.heap.size<=W.heap.size:=cW.size;refine aH rfl (bI qI NJ (ot.rd qI.mo) (fun y cs hy=>rH _ _ _ _ _ (fun b hb hP=>?_) hy) rfl rfl (by omega) (by simp only [maxLen,apm];omega) (by simp only [apm];omega) fun v22 w22 o22 c22 FN _=>?_)
    ·have hbb:w20.heap.size<=b:=hP.resolve_right id;exact ⟨⟨hPe b (by omega),by omega,by omega,fun e=>by have:=IL b e;omega⟩,fun e=>by have:=(BN.lt e).2;omega⟩
    have c222:Chg (fun k=>(Value.slice pa es2.length pc).ownBlock=some k) W w22:=Chg.trans n201.any c22 i3;refine ak ⟨rfl,c222,?_⟩;refine tJ ?_;have b22:=hbW.chg c222 fun e=>(hne bg e).1 rfl;refine Wt.last rfl (aJ (u:=v22) b22 rfl (show (2:Nat)<6 by omega) rfl (by obtain ⟨_,_,rfl,_⟩:=o22.form;rfl) fun w23 b23 c23=>?_);replace b23:Bk w23 bg 145 (grC (.slice la t.length lc) hm v22 wv gv pv):=b23;have NK: ∀k,v22.ownBlock=some k->(Value.slice pa es2.length pc).ownBlock=some k∨w21.heap.size<=k:=fun k hk=>by
     rcases FN with e|e
     ·exact .inl (e▸hk)
     ·exact .inr (e k hk)
    have Vd:=n201.size;have acT:=hbW.lt;have Et:=o22.mono (Pb':=fun b=>Pb b/\b≠bx/\b≠b8/\nb≠some b) (Pe':=fun b=>Pe b/\b≠bx/\b≠b8/\nb≠some b) rH (fun b _ e=>by
     rcases e with e|e
     ·exact e
     ·exact ⟨hPb b (by omega),by omega,by omega,fun e2=>by have:=IL b e2;omega⟩) i3
    have o23:=Et.xA qI c23 (fun k hk e=>by
     subst e;exact hnb.1 (Et.lt hk).1.1) fun k hk _ e=>by
     subst e;exact hnb.2.1 hk.1
    refine ak ?_;refine qq1 ?_;refine fE rfl ⟨_,rfl,fin w23 v22 hE b23 o23 (Chg.trans cW (Chg.trans (M:=fun k=>k=bg∨(Value.slice pa es2.length pc).ownBlock=some k) (c222.mono fun k _ e=>.inr e) c23 fun k _ e=>.inl e) fun k hk e=>?_) fun k hk=>?_⟩
    ·rcases e with e|e
     ·exact .inl e
     ·exact (KY k e).elim .inr fun e=>by omega
    ·rcases NK k hk with e|e
     ·exact KY k e
     ·exact .inr (by omega)
  ·have hc0:c=[]:=aoP (by omega);subst hc0;have he:vS t i kind soft f pl []=[]:=by cases f<;>rfl
   rw [he,aqJ] at hE;refine dh rfl ⟨_,rfl,⟨_,hbW,?_,cW,KY⟩⟩;rw [<-hE];exact BN.mono rH (fun _ _ e=>e.1) (fun _ _ e=>e.1)
 ·rw [hf,if_neg (by decide)];have hne: ∀k,(Value.slice ea es.length ec).ownBlock=some k->k≠bg/\k<w.heap.size:=fun k hk=>⟨fun e=>hnb.1 (e▸(own.lt hk).1),(own.lt hk).2⟩;(repeat' (first|refine qq5 ?_|(refine aa4 (fun _=>?_) (fun _=>?_)<;>(first|(exfalso;omega)|skip))));refine aX rfl (by kernel_rfl) (fun w'=>Chg (fun k=>(Value.slice ea es.length ec).ownBlock=some k) w7 w') (Chg.drew _ _) ?_;intro w20 n20;refine tJ ?_;refine aa0 (ax (u:=.slice ea es.length ec) rfl (fun w' hw=>(hb7.chg hw fun e=>(hne bg e).1 rfl).cell (o:=2) rfl) (af ?_));refine aa0 (bK (cs:=edC ⟨i,none,kind,soft,0,[]⟩ (.slice none 0 0)) (fun w' hw=>(b7.chg hw fun e=>by have:=(hne bx e).2;omega).at) rfl rfl (af ?_));refine aH rfl (bF (R:=rEd) (y:=⟨i,none,kind,soft,0,[]⟩) (Pe:=NoB) qI rfl rfl rfl ⟨_,rfl,eu⟩ (by omega) (by omega) fun vt w21 ot n21 s21 P8=>?_);have n201:=New.trans n20 n21;refine ak ⟨rfl,n201.any,?_⟩;have Vb:=n20.size;have NJ:=YM.xA qI n201 i3 fun _ _ _ e=>e;have hwW:w.heap.size<=w7.heap.size:=n07.size;refine aH rfl (bI qI NJ (ot.rd qI.mo) (fun y cs hy=>rH _ _ _ _ _ (fun b hb hP=>?_) hy) rfl rfl (by omega) (by simp only [maxLen,apm];omega) (by simp only [apm];omega) fun v22 w22 o22 c22 FN _=>?_)
  ·have hbb:w20.heap.size<=b:=hP.resolve_right id;exact ⟨hPe b (by omega),fun e=>by have:=(own.lt e).2;omega⟩
  have c222:Chg (fun k=>(Value.slice ea es.length ec).ownBlock=some k) w7 w22:=Chg.trans n201.any c22 i3;refine ak ⟨rfl,c222,?_⟩;refine tJ ?_;have b22:=hb7.chg c222 fun e=>(hne bg e).1 rfl;refine Wt.last rfl (aJ (u:=v22) b22 rfl (show (2:Nat)<6 by omega) rfl (by obtain ⟨_,_,rfl,_⟩:=o22.form;rfl) fun w23 b23 c23=>?_);replace b23:Bk w23 bg 145 (grC (.slice la t.length lc) hm v22 wv gv pv):=b23;have NK: ∀k,v22.ownBlock=some k->(Value.slice ea es.length ec).ownBlock=some k∨w21.heap.size<=k:=fun k hk=>by
   rcases FN with e|e
   ·exact .inl (e▸hk)
   ·exact .inr (e k hk)
  have Vd:=n201.size;have Et:=o22.mono (Pb':=Pb) (Pe':=Pe) rH (fun b _ e=>by
   rcases e with e|e
   ·exact e
   ·exact hPb b (by omega)) i3
  have o23:=Et.xA qI c23 (fun k hk e=>by
   subst e;exact hnb.1 (Et.lt hk).1) fun k hk _ e=>by
   subst e;exact hnb.2.1 hk
  refine ak ?_;refine qq1 ?_;refine fE rfl ⟨_,rfl,v22,b23,o23,Chg.trans (Chg.trans n07.any (c222.mono fun k _ e=>Or.inr e) i3) c23 fun k _ e=>.inl e,fun k hk=>?_⟩;rcases NK k hk with e|e
  ·exact .inl e
  ·exact .inr (by omega)
end Go.Proofs.YtfbnfhhmiiahnaaGreatDoor
namespace Go.Proofs.YtfbnfhhmiiahnaaGreatDoor
open Go Wk Sy
open Go.RowKit (Below)
attribute [local irreducible] Go.Calls
abbrev SV:=Option Addr×Nat×Nat
abbrev svV (x:SV):Value:=.slice x.1 x.2.1 x.2.2
abbrev SE:=(Ed×SV)×Nat
abbrev seC (x:SE):List Value:=edC x.1.1 (svV x.1.2)
theorem IQ (x:SE): ∀c∈seC x,c.oneCell'=true:=P9
theorem Ti:rF (flat seC) 6:=rC _ (fun _=>rfl) IQ
abbrev sO (Pb:Nat->Prop) (w:World) (v:Value) (D:List SE):Prop:=oP (flat seC) 100 6 Pb NoB w v D
theorem jl {ops:Array Oper} {k N:Nat} {p:Nat->Bool} (h:(abS N).all (fun j=>bd ops j k||p j)=true) (hN: ∀j,N<=j->p j=true) (hk: ∀j,k<j->p j=true) {j:Nat} (hj:k<j∨bd ops j k=false):p j=true:=by
 rcases hj with hj|hj
 ·exact hk j hj
 ·rcases Nat.lt_or_ge j N with hlt|hge
  ·have:=List.all_eq_true.1 h j (List.mem_range.2 hlt);rw [hj,Bool.false_or] at this;exact this
  ·exact hN j hge
def aaV (j:Nat):Bool:=decide (4<=j/\j<=7∨20<=j)
theorem yK {Pb:Nat->Prop} {w:World} {g cap a b n L:Nat} {cv:Value} {D:List SE} (hL:D.length=L) (own:sO Pb w (.slice (some ⟨g,0,none⟩) L cap) D) (h1:a+n<=b) (h2:b+n<=L) (hl:L<=2000000000):
 Calls prog 170 #[.slice (some ⟨g,0,none⟩) L cap,vi a,vi b,vi n,cv] w (Ret fun _ w'=> ∃D',Swp D a b n D'/\sO Pb w' (.slice (some ⟨g,0,none⟩) L cap) D'/\Chg (fun k=>k=g) w w'):=by
 refine oI func170 rfl ntmps170 rfl ?_;refine qq2 ?_;refine aC (σ:=Nat×List SE) (fun q=>[(0,.slice (some ⟨g,0,none⟩) L cap),(1,vi a),(2,vi b),(3,vi n),(10,vi q.1)]) (fun q W=>q.1<=n/\Swp D a b q.1 q.2/\sO Pb W (.slice (some ⟨g,0,none⟩) L cap) q.2/\Chg (fun k=>k=g) w W) (fun q=>n-q.1) (0,D) (sl rfl) ⟨aoZ _,Swp.zero D (by omega) (by omega),own,aB _ _⟩ ?_;rintro ⟨i,D1⟩ G W ⟨hi,hS,o1,c1⟩;dsimp only at hi hS o1 c1;simp only [ql];(repeat' (first|refine qq2 ?_|refine aa2 (fun _=>?_) (fun _=>?_)))
 ·have hl1:=hS.len;obtain ⟨p,q,hp,hq,hS2⟩:=hS.step (by omega) (by omega);refine jg rfl (by kernel_rfl) (fun k w'=>Chg (fun b=>aaV k=true/\b=g) W w') (fun k=>Chg.drew _ _) ?_;intro w2 n2;have hat: ∀(k:Nat) (w':World) (j:Nat) (x:SE),aaV k=false->D1[j]? =some x->Chg (fun b=>aaV k=true/\b=g) W w'->At w' g (0+((j:Nat):Int).toNat*6) (seC x):=fun k w' j x hk hx hw=>by have:=(o1.chg (oH seC) hw fun _ _ e=>by rw [hk] at e;cases e.1).at rfl rfl hx;rw [acL,ao3];exact this
  (repeat' (first|refine aZ rfl (aa3 (af ?_))|refine aZ rfl (Wq.add rfl rfl (by omega) (by omega) (af ?_))));refine aZ rfl (aa8 (af ?_));refine aZ rfl (bK (cs:=seC q) (fun w' hw=>hat 13 w' (b+i) q rfl hq hw) rfl (by rfl) (af ?_));(repeat' (first|refine aZ rfl (aa3 (af ?_))|refine aZ rfl (Wq.add rfl rfl (by omega) (by omega) (af ?_))));refine aZ rfl (aa8 (af ?_));refine aZ rfl (bK (cs:=seC p) (fun w' hw=>hat 19 w' (a+i) p rfl hp hw) rfl (by rfl) (af ?_));refine aZ rfl (aa8 (af ?_));refine jf rfl (fJ (f:=seC) (q:=q) (j:=a+i) (sz:=6) (cap:=cap) (fun _=>rfl) IQ (o1.new (oH seC) n2) (by rw [hl1,hL]) (by omega) (by show Value.pointer (some ⟨g,0+((a:Int)+(i:Int)).toNat*6,none⟩)=_;rw [show ((a:Int)+(i:Int)).toNat=a+i by omega,acL]) rfl rfl fun w3 o3 c3=>?_);have c13:Chg (fun k=>k=g) W w3:=Chg.trans n2.any c3 fun k _ e=>by injection e with e;exact e.symm
  refine ak ⟨rfl,fun j hj=>c13.mono fun k _ e=>⟨jl (N:=24) (p:=aaV) (by kernel_rfl) (fun j hj=>decide_eq_true (.inr (by omega))) (fun j hj=>decide_eq_true (.inr (by omega))) hj,e⟩,?_⟩;refine aZ rfl (aa8 (af ?_));refine Wu.last rfl (fJ (f:=seC) (q:=p) (j:=b+i) (sz:=6) (cap:=cap) (fun _=>rfl) IQ o3 (by rw [aqY,hl1,hL]) (by rw [aqY];omega) (by show Value.pointer (some ⟨g,0+((b:Int)+(i:Int)).toNat*6,none⟩)=_;rw [show ((b:Int)+(i:Int)).toNat=b+i by omega,acL]) rfl rfl fun w4 o4 c4=>?_);refine ak ?_;refine qq4 ?_;exact aA (i+1,(D1.set (a+i) q).set (b+i) p) (sl rfl) ⟨by dsimp only;omega,hS2,o4,Chg.trans (Chg.trans c1 c13 i3) c4 fun k _ e=>by injection e with e;exact e.symm⟩ (by dsimp only;omega)
 ·obtain rfl:i=n:=by omega
  exact dh rfl ⟨_,rfl,D1,hS,o1,c1⟩
theorem Qo {Pb:Nat->Prop} {w:World} {g cap a m b L:Nat} {cv:Value} {X U V Z:List SE} (hL:(X++U++V++Z).length=L) (own:sO Pb w (.slice (some ⟨g,0,none⟩) L cap) (X++U++V++Z)) (hX:X.length=a) (hU:a+U.length=m) (hV:m+V.length=b) (h1:0<U.length) (h2:0<V.length) (hl:L<=2000000000):
 Calls prog 155 #[.slice (some ⟨g,0,none⟩) L cap,vi a,vi m,vi b,cv] w (Ret fun _ w'=>sO Pb w' (.slice (some ⟨g,0,none⟩) L cap) (X++V++U++Z)/\Chg (fun k=>k=g) w w'):=by
 have hGl:(X++V++U++Z).length=L:=by rw [<-hL];simp;omega
 have hLe:a+U.length+V.length<=L:=by rw [<-hL];simp;omega
 refine oI func155 rfl ntmps155 rfl ?_;refine qq2 ?_;refine aC (σ:=Nat×Nat×List SE) (fun q=>[(0,.slice (some ⟨g,0,none⟩) L cap),(2,vi m),(4,cv),(10,vi q.1),(11,vi q.2.1)]) (fun q W=>0<q.1/\0<q.2.1/\Rot (X++V++U++Z) m q.1 q.2.1 q.2.2/\sO Pb W (.slice (some ⟨g,0,none⟩) L cap) q.2.2/\Chg (fun k=>k=g) w W) (fun q=>q.1+q.2.1) (U.length,V.length,X++U++V++Z) ⟨rfl,rfl,rfl,by show vi ((m:Int)-a)=vi (U.length:Nat);congr 1;omega,by show vi ((b:Int)-m)=vi (V.length:Nat);congr 1;omega,trivial⟩ ⟨h1,h2,⟨X,U,V,Z,rfl,by omega,rfl,rfl,rfl⟩,own,aB _ _⟩ ?_;rintro ⟨i,j,l⟩ G W ⟨hi,hj,hR,o1,c1⟩;dsimp only at hi hj hR o1 c1;simp only [ql];have hll:l.length=L/\i<=m/\m+j<=L:=by obtain ⟨X',U',V',Z',rfl,e1,e2,e3,e4⟩:=hR.ex;have:=congrArg aq0 e4;rw [hGl] at this;simp only [adL] at this ⊢;omega
 obtain ⟨hll,him,hmj⟩:=hll;have hc1:((m-i:Nat):Int)=(m:Int)-i:=by omega
 have hc2:i<=m+j->((m+j-i:Nat):Int)=(m:Int)+j-i:=fun h=>by omega
 (repeat' (first|refine qq0 ?_|refine aW rfl rfl (fun _=>?_) (fun _=>?_)|refine aa4 (fun _=>?_) (fun _=>?_)))
 ·refine au (yK (a:=m-i) (b:=m) (n:=j) (cv:=cv) hll o1 (by omega) (by omega) hl) (by rw [hc1];rfl) ?_;rintro u w2 ⟨l2,hS,o2,c2⟩;refine qq0 ?_;refine aA (i-j,j,l2) ⟨rfl,rfl,rfl,by show vi ((i:Int)-j)=vi (i-j:Nat);congr 1;omega,rfl,trivial⟩ ⟨by dsimp only;omega,hj,hR.big (by omega) hS,o2,Chg.trans c1 c2 i3⟩ (by dsimp only;omega)
 ·refine au (yK (a:=m-i) (b:=m+j-i) (n:=i) (cv:=cv) hll o1 (by omega) (by omega) hl) (by rw [hc1,hc2 (by omega)];rfl) ?_;rintro u w2 ⟨l2,hS,o2,c2⟩;refine qq0 ?_;refine aA (i,j-i,l2) ⟨rfl,rfl,rfl,rfl,by show vi ((j:Int)-i)=vi (j-i:Nat);congr 1;omega,trivial⟩ ⟨hi,by dsimp only;omega,hR.small (by omega) hS,o2,Chg.trans c1 c2 i3⟩ (by dsimp only;omega)
 ·obtain rfl:i=j:=by omega
  refine au (yK (a:=m-i) (b:=m) (n:=i) (cv:=cv) hll o1 (by omega) (by omega) hl) (by rw [hc1];rfl) ?_;rintro u w2 ⟨l2,hS,o2,c2⟩;refine qq0 ?_;have e:=hR.last hS;subst e;exact dh rfl ⟨_,rfl,o2,Chg.trans c1 c2 i3⟩
def IU (j:Nat):Bool:=decide (2<=j/\j<=4∨14<=j)
def ltE (key:SE->Nm) (x y:SE):Prop:=key x<key y∨(key x=key y/\x.2<y.2)
def cpE (key:SE->Nm) (y x:SE):Bool:=decide (key y<key x)
theorem NM (key:SE->Nm): ∀x y z,ltE key x y->ltE key y z->ltE key x z:=by
 intro x y z h1 h2;unfold ltE at*;rcases h1 with h1|⟨h1,h3⟩<;>rcases h2 with h2|⟨h2,h4⟩
 ·exact .inl (aqO h1 h2)
 ·exact .inl (h2▸h1)
 ·exact .inl (h1▸h2)
 ·exact .inr ⟨h1.trans h2,by omega⟩
theorem acU (key:SE->Nm): ∀x y,ltE key x y-> ¬ltE key y x:=by
 intro x y h1 h2;unfold ltE at*;rcases h1 with h1|⟨h1,h3⟩<;>rcases h2 with h2|⟨h2,h4⟩
 ·exact arf _ (aqO h1 h2)
 ·exact arf _ (h2▸h1)
 ·exact arf _ (h1▸h2)
 ·omega
theorem YR {key:SE->Nm} {x y:SE} (h:x.2<y.2):(cpE key y x=true->ltE key y x)/\(cpE key y x=false->ltE key x y):=by
 unfold cpE ltE;constructor
 ·intro e;exact .inl (of_decide_eq_true e)
 ·intro e;have e:=of_decide_eq_false e;by_cases e2:key y=key x
  ·exact .inr ⟨e2.symm,h⟩
  ·exact .inl (Gs e e2)
def GH (cf:FuncId) (cc:Array Value) (key:SE->Nm) (Pd:SE->Prop) (g:Nat) (w0:World):Prop:= ∀w',Chg (fun k=>k=g) w0 w'-> ∀x y,Pd x->Pd y->
 Calls prog cf ([Value.agg (seC x).toArray,Value.agg (seC y).toArray]++cc.toList).toArray w' (Ret fun r w''=>(∃z:Int,r=vi z/\(z<0↔key x<key y))/\New w' w'')
theorem GH.chg {cf:FuncId} {cc:Array Value} {key:SE->Nm} {Pd:SE->Prop} {g:Nat} {w0 w:World} (h:GH cf cc key Pd g w0) (c:Chg (fun k=>k=g) w0 w):GH cf cc key Pd g w:=fun w' c'=>h w' (Chg.trans c c' i3)
section
variable {Pb:Nat->Prop} {w:World} {g cap L:Nat} {cf:FuncId} {cc:Array Value} {key:SE->Nm} {Pd:SE->Prop} [hcf:oN prog cf]
theorem J5 {a b:Nat} {X S Z:List SE} (hL:(X++S++Z).length=L) (own:sO Pb w (.slice (some ⟨g,0,none⟩) L cap) (X++S++Z)) (hX:X.length=a) (hS:a+S.length=b) (hix:S.Pairwise fun x y=>x.2<y.2) (hP: ∀x∈S,Pd x) (hc:GH cf cc key Pd g w) (hl:L<=2000000000):
 Calls prog 131 #[.slice (some ⟨g,0,none⟩) L cap,vi a,vi b,.func (.func cf) #[] cc] w (Ret fun _ w'=> ∃E,E.Perm S/\Srt (ltE key) E/\sO Pb w' (.slice (some ⟨g,0,none⟩) L cap) (X++E++Z)/\Chg (fun k=>k=g) w w'):=by
 have hLl:a+S.length<=L:=by rw [<-hL];simp;omega
 refine oI func131 rfl ntmps131 rfl ?_;refine qq4 ?_;refine aC (σ:=Nat×List SE) (fun q=>[(0,.slice (some ⟨g,0,none⟩) L cap),(1,vi a),(2,vi b),(3,.func (.func cf) #[] cc),(8,vi q.1)]) (fun q W=>a+1<=q.1/\(q.1<=b∨q.1=a+1)/\q.2.Perm (S.take (q.1-a))/\Srt (ltE key) q.2/\sO Pb W (.slice (some ⟨g,0,none⟩) L cap) (X++q.2++S.drop (q.1-a)++Z)/\Chg (fun k=>k=g) w W) (fun q=>b+1-q.1) (a+1,S.take 1) (sl rfl) ⟨aat _,.inr rfl,by rw [arp],?_,?_,aB _ _⟩ ?_
 ·cases S with
  |nil=>simp
  |cons x r=>simp
 ·rw [arp,adI X,List.take_append_drop];exact own
 rintro ⟨i,E⟩ G W ⟨hi1,hib,hE,hsE,oW,cW⟩;dsimp only at hi1 hib hE hsE oW cW;simp only [ql];(repeat' (first|refine qq2 ?_|refine aa2 (fun _=>?_) (fun _=>?_)))
 ·obtain ⟨x,hx⟩:=pz S (k:=i-a) (by omega);have hEl:E.length=i-a:=by rw [hE.length_eq,apb];omega
  have hxd:S.drop (i-a)=x::S.drop (i+1-a):=by rw [drop_cons hx,show i-a+1=i+1-a by omega]
  have hxP:=hP x (apD hx);have hlt: ∀y∈E,y.2<x.2/\Pd y:=fun y hy=>by
   have hy:=hE.mem_iff.1 hy;obtain ⟨j,hj⟩:=List.mem_iff_getElem?.1 hy;rw [aav] at hj;split at hj
   ·rename_i hji
    refine ⟨?_,hP y (apD hj)⟩;obtain ⟨h1,rfl⟩:=List.getElem?_eq_some_iff.1 hj;obtain ⟨h2,rfl⟩:=List.getElem?_eq_some_iff.1 hx;exact List.pairwise_iff_getElem.1 hix j (i-a) h1 h2 hji
   ·cases hj
  refine aC (σ:=List SE×List SE) (fun q=>[(0,.slice (some ⟨g,0,none⟩) L cap),(1,vi a),(2,vi b),(3,.func (.func cf) #[] cc),(8,vi i),(9,vi (a+q.1.length:Nat))]) (fun q W=>E=q.1++q.2/\(∀y∈q.2,ltE key x y)/\sO Pb W (.slice (some ⟨g,0,none⟩) L cap) (X++q.1++ [x]++q.2++S.drop (i+1-a)++Z)/\Chg (fun k=>k=g) w W) (fun q=>q.1.length) (E,[]) ⟨rfl,rfl,rfl,rfl,rfl,by show vi (i:Nat)=vi ((a+E.length:Nat):Int);congr 1;omega,trivial⟩ ⟨by simp,by simp,by rw [hxd] at oW;simpa using oW,cW⟩ ?_;rintro ⟨S1,S2⟩ G2 W2 ⟨hEs,hS2,o2,c2⟩;dsimp only at hEs hS2 o2 c2;simp only [ql];have hfin: ∀w':World,(∀y,S1.getLast?=some y->ltE key y x)->sO Pb w' (.slice (some ⟨g,0,none⟩) L cap) (X++S1++ [x]++S2++S.drop (i+1-a)++Z)->Chg (fun k=>k=g) w w'->(a+1<=i+1/\(i+1<=b∨i+1=a+1)/\(S1++ [x]++S2).Perm (S.take (i+1-a))/\Srt (ltE key) (S1++ [x]++S2)/\sO Pb w' (.slice (some ⟨g,0,none⟩) L cap) (X++(S1++ [x]++S2)++S.drop (i+1-a)++Z)/\Chg (fun k=>k=g) w w'):=fun w' h1 h2 h3=>by refine ⟨by omega,.inl (by omega),?_,RS (NM key) (hEs▸hsE) hS2 h1,by simpa using h2,h3⟩;rw [show i+1-a=(i-a)+1 by omega,take_snoc hx];refine List.Perm.trans ?_ (List.Perm.append_right [x] hE);rw [hEs,adI,adI];exact List.Perm.append_left S1 arq
  have hll:(X++S1++ [x]++S2++S.drop (i+1-a)++Z).length=L:=by have h1:=congrArg aq0 hEs;have h2:=congrArg aq0 hxd;rw [<-hL];simp only [adL,aph,apK,apt] at h1 h2 ⊢;omega
  have hSl:S1.length+S2.length=i-a:=by rw [<-hEl,hEs,adL]
  rcases List.eq_nil_or_concat S1 with rfl|⟨S1',y,rfl⟩
  ·refine qq0 ?_;refine aX rfl (by kernel_rfl) (fun w'=>New W2 w') (Chg.drew _ _) ?_;intro w3 n3;simp only [apK,apn];(repeat' (first|refine bG ?_|refine gq rfl rfl (by assumption) ?_|refine aa0 (aa3 (af ?_))|refine aa0 (fC rfl (by conv=>{lhs;whnf}) (af ?_))|(refine aa0 (fV rfl rfl (fun _=>af ?_) (fun _=>af ?_))<;>(first|(exfalso;omega)|skip))));refine qq0 ?_;exact aA (i+1,[]++ [x]++S2) (sl rfl) (hfin w3 (by simp) (o2.new (oH seC) n3) (Chg.trans c2 n3.any i3)) (by dsimp only;omega)
  ·have hyE:y∈E:=by rw [hEs];simp
   have hyP:=(hlt y hyE).2;rw [aq8] at hSl;have hcl:(S1'.concat y).length=S1'.length+1:=aq8;have el:(a+(S1'.concat y).length:Nat)=a+S1'.length+1:=by rw [aq8];omega
   rw [el];have hlist:X++S1'.concat y++ [x]++S2++S.drop (i+1-a)++Z=(X++S1')++ [y]++ [x]++(S2++S.drop (i+1-a)++Z):=by simp
   rw [hlist] at o2 hll;have hgy:((X++S1')++ [y]++ [x]++(S2++S.drop (i+1-a)++Z))[a+S1'.length]? =some y:=by rw [adI,adI,aoO (by simp;omega),show a+S1'.length-(X++S1').length=0 by simp;omega];rfl
   have hgx:((X++S1')++ [y]++ [x]++(S2++S.drop (i+1-a)++Z))[a+S1'.length+1]? =some x:=by rw [adI,adI,aoO (by simp;omega),show a+S1'.length+1-(X++S1').length=1 by simp;omega];rfl
   have hXS:(X++S1').length=a+S1'.length:=by rw [adL,hX]
   have J6: ∀(w':World) (j:Nat) (xx:SE),((X++S1')++ [y]++ [x]++(S2++S.drop (i+1-a)++Z))[j]? =some xx->New W2 w'-> ∀i:Int,i=(j:Nat)->At w' g (0+i.toNat*6) (seC xx):=fun w' j xx hx hw i hi=>by have:=(o2.new (oH seC) hw).at rfl rfl hx;rw [acL,hi,ao3];exact this
   refine qq0 ?_;refine aX rfl (by kernel_rfl) (fun w'=>New W2 w') (Chg.drew _ _) ?_;intro w3 n3;(repeat' (first|refine bM rfl rfl ?_|refine aa0 (aa3 (af ?_))|(refine aa0 (fV rfl rfl (fun _=>af ?_) (fun _=>af ?_))<;>(first|(exfalso;omega)|skip))));refine aa0 (aa8 (af ?_));(repeat' (refine bM rfl rfl ?_));refine aa0 (bK (cs:=seC x) (fun w' hw=>J6 w' (a+S1'.length+1) _ hgx hw ((a+S1'.length+1:Nat):Int) rfl) rfl (by rfl) (af ?_));(repeat' (first|refine bM rfl rfl ?_|refine aa0 (aa3 (af ?_))|refine aa0 (Wq.sub rfl rfl (by omega) (by omega) (af ?_))));refine aa0 (aa8 (af ?_));(repeat' (refine bM rfl rfl ?_));refine aa0 (bK (cs:=seC y) (fun w' hw=>J6 w' (a+S1'.length) _ hgy hw (((a+S1'.length+1:Nat):Int)-1) (by omega)) rfl (by rfl) (af ?_));(repeat' (refine bM rfl rfl ?_));refine aH rfl (bU (dst:=some 32) rfl (hc w3 (Chg.trans c2 n3.any i3) x y hxP hyP) rfl ?_);rintro _ w4 ⟨⟨z,rfl,hz⟩,n4⟩;have n24:=New.trans n3 n4;simp only [xH];refine ak ⟨rfl,n24,?_⟩;have o4:=o2.new (oH seC) n24;have c4:Chg (fun k=>k=g) w w4:=Chg.trans c2 n24.any i3;by_cases hk:key x<key y
   ·have hz0:=hz.2 hk;(repeat' (first|refine bG ?_|refine bM rfl rfl ?_|refine aa0 (dI rfl (by conv=>{lhs;whnf}) (af ?_))|(refine aa0 (dQ rfl rfl (fun _=>af ?_) (fun _=>af ?_))<;>(first|(exfalso;omega)|skip))));refine qq2 ?_;refine jg rfl (by kernel_rfl) (fun k w'=>Chg (fun b=>IU k=true/\b=g) w4 w') (fun k=>Chg.drew _ _) ?_;intro w20 n20;have hgp:((X++S1')++ [y]++ [x]++(S2++S.drop (i+1-a)++Z))[(a+S1'.length)]? =some y:=by rw [adI,adI,aoO (by omega),show (a+S1'.length)-((X++S1')).length=0 by omega];rfl
    have hgq:((X++S1')++ [y]++ [x]++(S2++S.drop (i+1-a)++Z))[(a+S1'.length)+1]? =some x:=by rw [adI,adI,aoO (by omega),show (a+S1'.length)+1-((X++S1')).length=1 by omega];rfl
    have hat: ∀(k:Nat) (w':World) (j:Nat) (xx:SE),IU k=false->((X++S1')++ [y]++ [x]++(S2++S.drop (i+1-a)++Z))[j]? =some xx->Chg (fun b=>IU k=true/\b=g) w4 w'-> ∀i:Int,i=(j:Nat)->At w' g (0+i.toNat*6) (seC xx):=fun k w' j xx hk hx hw i hi=>by have:=(o4.chg (oH seC) hw fun _ _ e=>by rw [hk] at e;cases e.1).at rfl rfl hx;rw [acL,hi,ao3];exact this
    (repeat' (first|refine aZ rfl (aa3 (af ?_))|refine aZ rfl (Wq.sub rfl rfl (by omega) (by omega) (af ?_))));refine aZ rfl (aa8 (af ?_));refine aZ rfl (bK (cs:=seC (y)) (fun w' hw=>hat 9 w' ((a+S1'.length)) _ rfl hgp hw ((((a+S1'.length+1:Nat):Int)-1)) (by omega)) rfl (by rfl) (af ?_));(repeat' (refine aZ rfl (aa3 (af ?_))));refine aZ rfl (aa8 (af ?_));refine aZ rfl (bK (cs:=seC (x)) (fun w' hw=>hat 13 w' ((a+S1'.length)+1) _ rfl hgq hw (((a+S1'.length+1:Nat):Int)) (by omega)) rfl (by rfl) (af ?_));refine aZ rfl (aa8 (af ?_));refine jf rfl (fJ (f:=seC) (q:=y) (j:=(a+S1'.length)+1) (sz:=6) (cap:=cap) (fun _=>rfl) IQ (o4.new (oH seC) n20) (by rw [hll]) (by rw [hll];omega) (by show Value.pointer (some ⟨g,0+(((a+S1'.length+1:Nat):Int):Int).toNat*6,none⟩)=_;rw [show (((a+S1'.length+1:Nat):Int):Int).toNat=(a+S1'.length)+1 by omega,acL]) rfl rfl fun w21 o21 c21=>?_);have Qp:Chg (fun k=>k=g) w4 w21:=Chg.trans n20.any c21 fun k _ e=>by injection e with e;exact e.symm
    refine ak ⟨rfl,fun j hj=>Qp.mono fun k _ e=>⟨jl (N:=18) (p:=IU) (by kernel_rfl) (fun j hj=>decide_eq_true (.inr (by omega))) (fun j hj=>decide_eq_true (.inr (by omega))) hj,e⟩,?_⟩;refine aZ rfl (aa8 (af ?_));refine Wu.last rfl (fJ (f:=seC) (q:=x) (j:=(a+S1'.length)) (sz:=6) (cap:=cap) (fun _=>rfl) IQ o21 (by rw [aqY,hll]) (by rw [aqY,hll];omega) (by show Value.pointer (some ⟨g,0+((((a+S1'.length+1:Nat):Int)-1):Int).toNat*6,none⟩)=_;rw [show ((((a+S1'.length+1:Nat):Int)-1):Int).toNat=(a+S1'.length) by omega,acL]) rfl rfl fun w22 o22 c22=>?_);rw [Lr (by omega)] at o22;have YS:Chg (fun k=>k=g) w4 w22:=Chg.trans Qp c22 fun k _ e=>by injection e with e;exact e.symm
    refine ak ?_;refine qq0 ?_;refine aA (S1',y::S2) ⟨rfl,rfl,rfl,rfl,rfl,by show vi (((a+S1'.length+1:Nat):Int)-1)=vi ((a+S1'.length:Nat):Int);congr 1;omega,trivial⟩ ⟨by rw [hEs];simp,fun q hq=>?_,by simpa using o22,Chg.trans c4 YS i3⟩ (by dsimp only;rw [aq8];omega);rcases List.mem_cons.1 hq with rfl|hq
    ·exact .inl hk
    ·exact hS2 q hq
   ·have hz0: ¬z<0:=fun e=>hk (hz.1 e);(repeat' (first|refine bG ?_|refine bM rfl rfl ?_|refine aa0 (dI rfl (by conv=>{lhs;whnf}) (af ?_))|(refine aa0 (dQ rfl rfl (fun _=>af ?_) (fun _=>af ?_))<;>(first|(exfalso;omega)|skip))));refine qq0 ?_;refine aA (i+1,S1'.concat y++ [x]++S2) (sl rfl) (hfin w4 (fun q hq=>?_) (by rw [hlist];exact o4) c4) (by dsimp only;omega);have hq':y=q:=by simpa using hq
    subst hq';exact (YR (hlt y hyE).1).2 (decide_eq_false hk)
 ·have hSi:S.length<=i-a:=by omega
  rw [apl hSi] at hE;rw [arh hSi,aqJ] at oW;exact dh rfl ⟨_,rfl,E,hE,hsE,oW,cW⟩
end
theorem NP {a:Int} {n:Nat} (h:a=(n:Nat)) (hn:n<=8000000000):(IntKind.u64.wrap a).fdiv (2^(min (1:Int).toNat IntKind.u64.bits))=((n / 2:Nat):Int):=by
 subst h;have e:IntKind.u64.wrap ((n:Nat):Int)=(n:Nat):=by simp [IntKind.wrap,IntKind.bits,IntKind.signed];omega
 rw [e];have e2:(2:Int)^(min (1:Int).toNat IntKind.u64.bits)=2:=rfl;rw [e2,Int.fdiv_eq_ediv_of_nonneg _ (by omega)];omega
theorem NQ {n:Nat} (hn:n<=8000000000):IntKind.i64.wrap ((n:Nat):Int)=(n:Nat):=by simp [IntKind.wrap,IntKind.bits,IntKind.signed];omega
section
variable {Pb:Nat->Prop} {w:World} {g cap L:Nat} {cf:FuncId} {cc:Array Value} {key:SE->Nm} {Pd:SE->Prop} [hcf:oN prog cf]
theorem Tj {a m b:Nat} {X R Z D:List SE} {x:SE} (pre:Pre (ltE key) (cpE key) D a m b X [x] R Z) (hL:D.length=L) (own:sO Pb w (.slice (some ⟨g,0,none⟩) L cap) D) (hR0:0<R.length) (hP: ∀y∈ [x]++R,Pd y) (hc:GH cf cc key Pd g w) (hl:L<=2000000000):
 Calls prog 132 #[.slice (some ⟨g,0,none⟩) L cap,vi a,vi m,vi b,.func (.func cf) #[] cc] w (Ret fun _ w'=> ∃D',Post (ltE key) X [x] R Z D'/\sO Pb w' (.slice (some ⟨g,0,none⟩) L cap) D'/\Chg (fun k=>k=g) w w'):=by
 have ham:a+1=m:=pre.l;have hmb:=pre.r;have hXl:=pre.x;have hbL:b<=L:=by rw [<-hL,pre.e];simp only [adL,apm];omega
 have hDa:D[a]? =some x:=by rw [pre.RP (aat a) (by omega)];simp
 refine oI func132 rfl ntmps132 rfl ?_;(repeat' (first|refine qq2 ?_|(refine bH rfl rfl (fun _=>?_) (fun _=>?_)<;>(first|(exfalso;omega)|skip))));refine aC (σ:=Nat×Nat) (fun q=>[(0,(.slice (some ⟨g,0,none⟩) L cap)),(1,vi a),(4,.func (.func cf) #[] cc),(10,vi q.1),(11,vi q.2)]) (fun q W=>m<=q.1/\q.1<=q.2/\q.2<=b/\(q.1=m∨ ∃y,D[q.1-1]? =some y/\ltE key y x)/\(q.2=b∨ ∃y,D[q.2]? =some y/\ltE key x y)/\New w W) (fun q=>q.2-q.1) (m,b) (sl rfl) ⟨aat _,by omega,aat _,.inl rfl,.inl rfl,aB _ _⟩ ?_;rintro ⟨i,j⟩ G W ⟨hmi,hij,hjb,g1,g2,n1⟩;dsimp only at hmi hij hjb g1 g2 n1;simp only [ql];(repeat' (first|refine qq8 ?_|refine aa2 (fun _=>?_) (fun _=>?_)))
 ·refine iU rfl rfl (by omega) ?_;rw [NP (n:=i+j) (by push_cast;rfl) (by omega)];refine fK rfl ?_;rw [NQ (by omega)];refine qq1 ?_;have hh:i<=(i+j) / 2/\(i+j) / 2<j:=by omega
  generalize hhe:(i+j) / 2=h at hh ⊢;obtain ⟨y,hy⟩:=pz R (k:=h-m) (by omega);have hDh:D[h]? =some y:=by rw [pre.RQ (by omega) (by omega)];exact hy
  have hyR:=apD hy;have hxP:=hP x (by simp);have hyP:=hP y (by simp [hyR]);have hcr:=pre.cr y hyR x (by simp);have o1:=own.new (oH seC) n1;have J6: ∀(w':World) (j:Nat) (xx:SE),(D)[j]? =some xx->New W w'-> ∀i:Int,i=(j:Nat)->At w' g (0+i.toNat*6) (seC xx):=fun w' j xx hx hw i hi=>by have:=(o1.new (oH seC) hw).at rfl rfl hx;rw [acL,hi,ao3];exact this
  refine aX rfl (by kernel_rfl) (fun w'=>New W w') (Chg.drew _ _) ?_;intro w3 n3;(repeat' (refine aa0 (aa3 (af ?_))));refine aa0 (aa8 (af ?_));refine aa0 (bK (cs:=seC y) (fun w' hw=>J6 w' (h) _ hDh hw ((h:Nat):Int) (by omega)) rfl (by rfl) (af ?_));(repeat' (refine aa0 (aa3 (af ?_))));refine aa0 (aa8 (af ?_));refine aa0 (bK (cs:=seC x) (fun w' hw=>J6 w' (a) _ hDa hw ((a:Nat):Int) (by omega)) rfl (by rfl) (af ?_));refine aH rfl (bU (dst:=some 49) rfl (hc w3 (New.any (New.trans n1 n3)) y x hyP hxP) rfl ?_);rintro _ w4 ⟨⟨z,rfl,hz⟩,n4⟩;have n24:=New.trans n3 n4;have n04:=New.trans n1 n24;simp only [xH];refine ak ⟨rfl,n24,?_⟩;by_cases hk:key y<key x
  ·have hz0:=hz.2 hk;(repeat' (first|refine bG ?_|(refine aa0 (dQ rfl rfl (fun _=>af ?_) (fun _=>af ?_))<;>(first|(exfalso;omega)|skip))));refine qq4 ?_;exact aA (h+1,j) (sl rfl) ⟨by dsimp only;omega,by dsimp only;omega,hjb,.inr ⟨y,by rw [aqF];exact hDh,hcr.1 (decide_eq_true hk)⟩,g2,n04⟩ (by dsimp only;omega)
  ·have hz0: ¬z<0:=fun e=>hk (hz.1 e);(repeat' (first|refine bG ?_|(refine aa0 (dQ rfl rfl (fun _=>af ?_) (fun _=>af ?_))<;>(first|(exfalso;omega)|skip))));refine qq0 ?_;exact aA (i,h) (sl rfl) ⟨hmi,by dsimp only;omega,by dsimp only;omega,g1,.inr ⟨y,hDh,hcr.2 (decide_eq_false hk)⟩,n04⟩ (by dsimp only;omega)
 ·obtain rfl:i=j:=by omega
  obtain ⟨R1,R2,hR,hR1,hsr⟩:=pre.left1 (NM key) hmi hjb g1 g2;have o1:=own.new (oH seC) n1;rw [pre.e,hR] at o1;have hD:=congrArg aq0 pre.e;rw [hR] at hD;refine aC (σ:=Nat) (fun q=>[(0,(.slice (some ⟨g,0,none⟩) L cap)),(10,vi i),(13,vi q)]) (fun q W=>a<=q/\q+1<=i/\sO Pb W (.slice (some ⟨g,0,none⟩) L cap) (X++R1.take (q-a)++ [x]++(R1.drop (q-a)++R2++Z))/\Chg (fun k=>k=g) w W) (fun q=>i-q) a (sl rfl) ⟨aat _,by omega,by simpa using o1,n1.any⟩ ?_;rintro k G2 W2 ⟨hak,hki,o2,c2⟩;simp only [ql];(repeat' (first|refine qq1 ?_|refine aa2 (fun _=>?_) (fun _=>?_)))
  ·obtain ⟨q,hq⟩:=pz R1 (k:=k-a) (by omega);have hd:R1.drop (k-a)=q::R1.drop (k+1-a):=by rw [drop_cons hq,show k-a+1=k+1-a by omega]
   have hAk:(X++R1.take (k-a)).length=k:=by rw [adL,apb];omega
   have hlist:X++R1.take (k-a)++ [x]++(R1.drop (k-a)++R2++Z)=(X++R1.take (k-a))++ [x]++ [q]++(R1.drop (k+1-a)++R2++Z):=by rw [hd];simp
   rw [hlist] at o2;have hll:((X++R1.take (k-a))++ [x]++ [q]++(R1.drop (k+1-a)++R2++Z)).length=L:=by rw [<-hL,hD];simp only [adL,apm,apb,apt];omega
   generalize hA:X++R1.take (k-a)=A at o2 hll hAk;generalize hB:R1.drop (k+1-a)++R2++Z=B at o2 hll;refine jg rfl (by kernel_rfl) (fun k w'=>Chg (fun b=>IU k=true/\b=g) W2 w') (fun k=>Chg.drew _ _) ?_;intro w20 n20;have hgp:(A++ [x]++ [q]++B)[k]? =some x:=by rw [adI,adI,aoO (by omega),show k-(A).length=0 by omega];rfl
   have hgq:(A++ [x]++ [q]++B)[k+1]? =some q:=by rw [adI,adI,aoO (by omega),show k+1-(A).length=1 by omega];rfl
   have hat: ∀(k:Nat) (w':World) (j:Nat) (xx:SE),IU k=false->(A++ [x]++ [q]++B)[j]? =some xx->Chg (fun b=>IU k=true/\b=g) W2 w'-> ∀i:Int,i=(j:Nat)->At w' g (0+i.toNat*6) (seC xx):=fun k w' j xx hk hx hw i hi=>by have:=(o2.chg (oH seC) hw fun _ _ e=>by rw [hk] at e;cases e.1).at rfl rfl hx;rw [acL,hi,ao3];exact this
   (repeat' (first|refine aZ rfl (aa3 (af ?_))|refine aZ rfl (Wq.add rfl rfl (by omega) (by omega) (af ?_))));refine aZ rfl (aa8 (af ?_));refine aZ rfl (bK (cs:=seC (q)) (fun w' hw=>hat 9 w' (k+1) _ rfl hgq hw (((k:Nat):Int)+1) (by omega)) rfl (by rfl) (af ?_));(repeat' (refine aZ rfl (aa3 (af ?_))));refine aZ rfl (aa8 (af ?_));refine aZ rfl (bK (cs:=seC (x)) (fun w' hw=>hat 13 w' (k) _ rfl hgp hw (((k:Nat):Int)) (by omega)) rfl (by rfl) (af ?_));refine aZ rfl (aa8 (af ?_));refine jf rfl (fJ (f:=seC) (q:=q) (j:=k) (sz:=6) (cap:=cap) (fun _=>rfl) IQ (o2.new (oH seC) n20) (by rw [hll]) (by rw [hll];omega) (by show Value.pointer (some ⟨g,0+(((k:Nat):Int):Int).toNat*6,none⟩)=_;rw [show (((k:Nat):Int):Int).toNat=k by omega,acL]) rfl rfl fun w21 o21 c21=>?_);have Qp:Chg (fun k=>k=g) W2 w21:=Chg.trans n20.any c21 fun k _ e=>by injection e with e;exact e.symm
   refine ak ⟨rfl,fun j hj=>Qp.mono fun k _ e=>⟨jl (N:=18) (p:=IU) (by kernel_rfl) (fun j hj=>decide_eq_true (.inr (by omega))) (fun j hj=>decide_eq_true (.inr (by omega))) hj,e⟩,?_⟩;refine aZ rfl (aa8 (af ?_));refine Wu.last rfl (fJ (f:=seC) (q:=x) (j:=k+1) (sz:=6) (cap:=cap) (fun _=>rfl) IQ o21 (by rw [aqY,hll]) (by rw [aqY,hll];omega) (by show Value.pointer (some ⟨g,0+(((k:Nat):Int)+1:Int).toNat*6,none⟩)=_;rw [show (((k:Nat):Int)+1:Int).toNat=k+1 by omega,acL]) rfl rfl fun w22 o22 c22=>?_);rw [XZ (by omega)] at o22;have YS:Chg (fun k=>k=g) W2 w22:=Chg.trans Qp c22 fun k _ e=>by injection e with e;exact e.symm
   refine ak ?_;refine qq4 ?_;refine aA (k+1) (sl rfl) ⟨by omega,by omega,?_,Chg.trans c2 YS i3⟩ (by omega);rw [show k+1-a=(k-a)+1 by omega,take_snoc hq, <-show k+1-a=(k-a)+1 by omega,hB, <-adI X,hA];exact o22
  ·obtain rfl:i=k+1:=by omega
   rw [apl (by omega),arh (by omega),aoQ] at o2;exact fE rfl ⟨_,rfl,X++(R1++ [x]++R2)++Z,⟨R1++ [x]++R2,rfl,by rw [hR];simp,hsr⟩,by simpa using o2,c2⟩
theorem Qq {a m b:Nat} {X Lf Z D:List SE} {x:SE} (pre:Pre (ltE key) (cpE key) D a m b X Lf [x] Z) (hL:D.length=L) (own:sO Pb w (.slice (some ⟨g,0,none⟩) L cap) D) (hR0:1<Lf.length) (hP: ∀y∈Lf++ [x],Pd y) (hc:GH cf cc key Pd g w) (hl:L<=2000000000):
 Calls prog 132 #[.slice (some ⟨g,0,none⟩) L cap,vi a,vi m,vi b,.func (.func cf) #[] cc] w (Ret fun _ w'=> ∃D',Post (ltE key) X Lf [x] Z D'/\sO Pb w' (.slice (some ⟨g,0,none⟩) L cap) D'/\Chg (fun k=>k=g) w w'):=by
 have ham:=pre.l;have hmb:m+1=b:=pre.r;have hXl:=pre.x;have hbL:b<=L:=by rw [<-hL,pre.e];simp only [adL,apm];omega
 have hDm:D[m]? =some x:=by rw [pre.RQ (aat m) (by omega)];simp
 refine oI func132 rfl ntmps132 rfl ?_;(repeat' (first|refine qq0 ?_|(refine bH rfl rfl (fun _=>?_) (fun _=>?_)<;>(first|(exfalso;omega)|skip))));refine aC (σ:=Nat×Nat) (fun q=>[(0,(.slice (some ⟨g,0,none⟩) L cap)),(2,vi m),(4,.func (.func cf) #[] cc),(14,vi q.1),(15,vi q.2)]) (fun q W=>a<=q.1/\q.1<=q.2/\q.2<=m/\(q.1=a∨ ∃y,D[q.1-1]? =some y/\ltE key y x)/\(q.2=m∨ ∃y,D[q.2]? =some y/\ltE key x y)/\New w W) (fun q=>q.2-q.1) (a,m) (sl rfl) ⟨aat _,by omega,aat _,.inl rfl,.inl rfl,aB _ _⟩ ?_;rintro ⟨i,j⟩ G W ⟨hmi,hij,hjb,g1,g2,n1⟩;dsimp only at hmi hij hjb g1 g2 n1;simp only [ql];(repeat' (first|refine qq8 ?_|refine aa2 (fun _=>?_) (fun _=>?_)))
 ·refine iU rfl rfl (by omega) ?_;rw [NP (n:=i+j) (by push_cast;rfl) (by omega)];refine fK rfl ?_;rw [NQ (by omega)];refine qq1 ?_;have hh:i<=(i+j) / 2/\(i+j) / 2<j:=by omega
  generalize hhe:(i+j) / 2=h at hh ⊢;obtain ⟨y,hy⟩:=pz Lf (k:=h-a) (by omega);have hDh:D[h]? =some y:=by rw [pre.RP (by omega) (by omega)];exact hy
  have hyR:=apD hy;have hxP:=hP x (by simp);have hyP:=hP y (by simp [hyR]);have hcr:=pre.cr x (by simp) y hyR;have o1:=own.new (oH seC) n1;have J6: ∀(w':World) (j:Nat) (xx:SE),(D)[j]? =some xx->New W w'-> ∀i:Int,i=(j:Nat)->At w' g (0+i.toNat*6) (seC xx):=fun w' j xx hx hw i hi=>by have:=(o1.new (oH seC) hw).at rfl rfl hx;rw [acL,hi,ao3];exact this
  refine aX rfl (by kernel_rfl) (fun w'=>New W w') (Chg.drew _ _) ?_;intro w3 n3;(repeat' (refine aa0 (aa3 (af ?_))));refine aa0 (aa8 (af ?_));refine aa0 (bK (cs:=seC x) (fun w' hw=>J6 w' (m) _ hDm hw ((m:Nat):Int) (by omega)) rfl (by rfl) (af ?_));(repeat' (refine aa0 (aa3 (af ?_))));refine aa0 (aa8 (af ?_));refine aa0 (bK (cs:=seC y) (fun w' hw=>J6 w' (h) _ hDh hw ((h:Nat):Int) (by omega)) rfl (by rfl) (af ?_));refine aH rfl (bU (dst:=some 101) rfl (hc w3 (New.any (New.trans n1 n3)) x y hxP hyP) rfl ?_);rintro _ w4 ⟨⟨z,rfl,hz⟩,n4⟩;have n24:=New.trans n3 n4;have n04:=New.trans n1 n24;simp only [xH];refine ak ⟨rfl,n24,?_⟩;by_cases hk:key x<key y
  ·have hz0:=hz.2 hk;(repeat' (first|refine bG ?_|refine aa0 (dP rfl (af ?_))|(refine aa0 (dQ rfl rfl (fun _=>af ?_) (fun _=>af ?_))<;>(first|(exfalso;omega)|skip))));refine qq0 ?_;exact aA (i,h) (sl rfl) ⟨hmi,by dsimp only;omega,by dsimp only;omega,g1,.inr ⟨y,hDh,hcr.1 (decide_eq_true hk)⟩,n04⟩ (by dsimp only;omega)
  ·have hz0: ¬z<0:=fun e=>hk (hz.1 e);(repeat' (first|refine bG ?_|refine aa0 (dP rfl (af ?_))|(refine aa0 (dQ rfl rfl (fun _=>af ?_) (fun _=>af ?_))<;>(first|(exfalso;omega)|skip))));refine qq4 ?_;exact aA (h+1,j) (sl rfl) ⟨by dsimp only;omega,by dsimp only;omega,hjb,.inr ⟨y,by rw [aqF];exact hDh,hcr.2 (decide_eq_false hk)⟩,g2,n04⟩ (by dsimp only;omega)
 ·obtain rfl:i=j:=by omega
  obtain ⟨L1,L2,hR,hR1,hsr⟩:=pre.aco (NM key) hmi hjb g1 g2;have o1:=own.new (oH seC) n1;rw [pre.e,hR] at o1;have hD:=congrArg aq0 pre.e;rw [hR] at hD;have hLl:Lf.length=L1.length+L2.length:=by rw [hR,adL]
  refine aC (σ:=Nat) (fun q=>[(0,(.slice (some ⟨g,0,none⟩) L cap)),(14,vi i),(17,vi q)]) (fun q W=>i<=q/\q<=m/\sO Pb W (.slice (some ⟨g,0,none⟩) L cap) (X++L1++L2.take (q-i)++ [x]++(L2.drop (q-i)++Z))/\Chg (fun k=>k=g) w W) (fun q=>q) m (sl rfl) ⟨by omega,aat _,by rw [apl (by omega),arh (by omega)];simpa using o1,n1.any⟩ ?_;rintro k0 G2 W2 ⟨hak,hki,o2,c2⟩;simp only [ql];(repeat' (first|refine qq1 ?_|refine aW rfl rfl (fun _=>?_) (fun _=>?_)))
  ·obtain ⟨k,rfl⟩: ∃j,k0=j+1:=⟨k0-1,by omega⟩;obtain ⟨q,hq⟩:=pz L2 (k:=k-i) (by omega);have hd:L2.drop (k-i)=q::L2.drop (k+1-i):=by rw [drop_cons hq,show k-i+1=k+1-i by omega]
   have hAk:(X++L1++L2.take (k-i)).length=k:=by rw [adL,adL,apb];omega
   have hlist:X++L1++L2.take (k+1-i)++ [x]++(L2.drop (k+1-i)++Z)=(X++L1++L2.take (k-i))++ [q]++ [x]++(L2.drop (k+1-i)++Z):=by rw [show k+1-i=(k-i)+1 by omega,take_snoc hq];simp
   rw [hlist] at o2;have hll:((X++L1++L2.take (k-i))++ [q]++ [x]++(L2.drop (k+1-i)++Z)).length=L:=by rw [<-hL,hD];simp only [adL,apm,apb,apt];omega
   generalize hA:X++L1++L2.take (k-i)=A at o2 hll hAk;generalize hB:L2.drop (k+1-i)++Z=B at o2 hll;refine jg rfl (by kernel_rfl) (fun k w'=>Chg (fun b=>IU k=true/\b=g) W2 w') (fun k=>Chg.drew _ _) ?_;intro w20 n20;have hgp:(A++ [q]++ [x]++B)[k]? =some q:=by rw [adI,adI,aoO (by omega),show k-(A).length=0 by omega];rfl
   have hgq:(A++ [q]++ [x]++B)[k+1]? =some x:=by rw [adI,adI,aoO (by omega),show k+1-(A).length=1 by omega];rfl
   have hat: ∀(k:Nat) (w':World) (j:Nat) (xx:SE),IU k=false->(A++ [q]++ [x]++B)[j]? =some xx->Chg (fun b=>IU k=true/\b=g) W2 w'-> ∀i:Int,i=(j:Nat)->At w' g (0+i.toNat*6) (seC xx):=fun k w' j xx hk hx hw i hi=>by have:=(o2.chg (oH seC) hw fun _ _ e=>by rw [hk] at e;cases e.1).at rfl rfl hx;rw [acL,hi,ao3];exact this
   (repeat' (first|refine aZ rfl (aa3 (af ?_))|refine aZ rfl (Wq.sub rfl rfl (by omega) (by omega) (af ?_))));refine aZ rfl (aa8 (af ?_));refine aZ rfl (bK (cs:=seC (q)) (fun w' hw=>hat 9 w' (k) _ rfl hgp hw ((((k+1:Nat):Int)-1)) (by omega)) rfl (by rfl) (af ?_));(repeat' (refine aZ rfl (aa3 (af ?_))));refine aZ rfl (aa8 (af ?_));refine aZ rfl (bK (cs:=seC (x)) (fun w' hw=>hat 13 w' (k+1) _ rfl hgq hw (((k+1:Nat):Int)) (by omega)) rfl (by rfl) (af ?_));refine aZ rfl (aa8 (af ?_));refine jf rfl (fJ (f:=seC) (q:=q) (j:=k+1) (sz:=6) (cap:=cap) (fun _=>rfl) IQ (o2.new (oH seC) n20) (by rw [hll]) (by rw [hll];omega) (by show Value.pointer (some ⟨g,0+(((k+1:Nat):Int):Int).toNat*6,none⟩)=_;rw [show (((k+1:Nat):Int):Int).toNat=k+1 by omega,acL]) rfl rfl fun w21 o21 c21=>?_);have Qp:Chg (fun k=>k=g) W2 w21:=Chg.trans n20.any c21 fun k _ e=>by injection e with e;exact e.symm
   refine ak ⟨rfl,fun j hj=>Qp.mono fun k _ e=>⟨jl (N:=18) (p:=IU) (by kernel_rfl) (fun j hj=>decide_eq_true (.inr (by omega))) (fun j hj=>decide_eq_true (.inr (by omega))) hj,e⟩,?_⟩;refine aZ rfl (aa8 (af ?_));refine Wu.last rfl (fJ (f:=seC) (q:=x) (j:=k) (sz:=6) (cap:=cap) (fun _=>rfl) IQ o21 (by rw [aqY,hll]) (by rw [aqY,hll];omega) (by show Value.pointer (some ⟨g,0+((((k+1:Nat):Int)-1):Int).toNat*6,none⟩)=_;rw [show ((((k+1:Nat):Int)-1):Int).toNat=k by omega,acL]) rfl rfl fun w22 o22 c22=>?_);rw [Lr (by omega)] at o22;have YS:Chg (fun k=>k=g) W2 w22:=Chg.trans Qp c22 fun k _ e=>by injection e with e;exact e.symm
   refine ak ?_;refine qq0 ?_;refine aA k ⟨rfl,rfl,by show vi (((k+1:Nat):Int)-1)=vi ((k:Nat):Int);congr 1;omega,trivial⟩ ⟨by omega,by omega,?_,Chg.trans c2 YS i3⟩ (by omega);rw [hd,hA,List.cons_append,hB];simpa using o22
  ·obtain rfl:i=k0:=by omega
   rw [aq7,List.take_zero,apk,aqJ] at o2;exact fE rfl ⟨_,rfl,X++(L1++ [x]++L2)++Z,⟨L1++ [x]++L2,rfl,by rw [hR];simpa using List.Perm.append_left L1 (arq (l₁:=[x]) (l₂:=L2)),hsr⟩,by simpa using o2,c2⟩
end
theorem Vh {α:Type} {lt:α->α->Prop} {cp:α->α->Bool} {Lf R L1 R1 D X Z:List α} {a m b:Nat} (hc: ∀y∈R, ∀x∈Lf,(cp y x=true->lt y x)/\(cp y x=false->lt x y)) (sl:Srt lt Lf) (sr:Srt lt R) (h1:L1.Sublist Lf) (h2:R1.Sublist R) (e:D=X++L1++R1++Z) (hx:X.length=a) (hm:a+L1.length=m) (hb:m+R1.length=b):Pre lt cp D a m b X L1 R1 Z:=
 ⟨e,hx,hm,hb,sl.sublist h1,sr.sublist h2,fun y hy x hx=>hc y (h2.subset hy) x (h1.subset hx)⟩
section
variable {Pb:Nat->Prop} {g cap L:Nat} {cf:FuncId} {cc:Array Value} {key:SE->Nm} {Pd:SE->Prop} [hcf:oN prog cf]
theorem DU (hl:L<=2000000000): ∀(n:Nat) {w:World} {a m b:Nat} {X Lf R Z D:List SE},b-a<=n->Pre (ltE key) (cpE key) D a m b X Lf R Z->D.length=L->sO Pb w (.slice (some ⟨g,0,none⟩) L cap) D->0<Lf.length->0<R.length->(∀y∈Lf++R,Pd y)->GH cf cc key Pd g w->
 Calls prog 132 #[.slice (some ⟨g,0,none⟩) L cap,vi a,vi m,vi b,.func (.func cf) #[] cc] w (Ret fun _ w'=> ∃D',Post (ltE key) X Lf R Z D'/\sO Pb w' (.slice (some ⟨g,0,none⟩) L cap) D'/\Chg (fun k=>k=g) w w')
 |0,w,a,m,b,X,Lf,R,Z,D,hn,pre,hL,own,hL0,hR0,hP,hc=>by have:=pre.l;have:=pre.r;omega
 |n+1,w,a,m,b,X,Lf,R,Z,D,hn,pre,hL,own,hL0,hR0,hP,hc=>by
  have ham:=pre.l;have hmb:=pre.r;have hXl:=pre.x;have hbL:b<=L:=by rw [<-hL,pre.e];simp only [adL];omega
  by_cases hl1:Lf.length=1
  ·obtain ⟨x,rfl⟩:=List.length_eq_one_iff.1 hl1;exact Tj pre hL own hR0 hP hc hl
  by_cases hr1:R.length=1
  ·obtain ⟨x,rfl⟩:=List.length_eq_one_iff.1 hr1;exact Qq pre hL own (by omega) hP hc hl
  have ih:= @DU hl n;refine oI func132 rfl ntmps132 rfl ?_;(repeat' (first|refine qq0 ?_|(refine bH rfl rfl (fun _=>?_) (fun _=>?_)<;>(first|(exfalso;omega)|skip))));refine iU rfl rfl (by omega) ?_;rw [NP (n:=a+b) (by push_cast;rfl) (by omega)];refine fK rfl ?_;rw [NQ (by omega)];generalize hmid:(a+b) / 2=mid;(repeat' (first|refine aa7 ?_|refine ak ?_|refine aT ?_));refine aP ?_;(repeat' (first|refine aa1 ?_|refine aa7 ?_|refine ak ?_|refine aT ?_|refine aU ?_|refine Wl.add rfl rfl (by omega) (by omega) ?_));refine aP ?_;(repeat' (first|refine aa7 ?_|refine ak ?_|refine aT ?_|refine aU ?_));refine eX (fun F W=> ∃s0 r0:Nat,agrees F [(0,(.slice (some ⟨g,0,none⟩) L cap)),(1,vi a),(2,vi m),(3,vi b),(4,.func (.func cf) #[] cc),(18,vi mid),(19,vi ((mid+m:Nat):Int)),(20,vi s0),(21,vi r0)]/\w=W/\(if mid<m then s0=mid+m-b/\r0=mid else s0=a/\r0=m)) ?_ ?_
  ·(repeat' (first|refine DY ?_|refine aW rfl rfl (fun _=>?_) (fun _=>?_)))
   ·exact cO ⟨mid+m-b,mid,⟨rfl,rfl,rfl,rfl,rfl,rfl,by show vi ((mid:Int)+m)=vi ((mid+m:Nat):Int);congr 1,by show vi ((mid:Int)+m-b)=vi ((mid+m-b:Nat):Int);congr 1;omega,rfl,trivial⟩,rfl,by rw [if_pos (by omega)];exact ⟨rfl,rfl⟩⟩
   ·exact cO ⟨a,m,⟨rfl,rfl,rfl,rfl,rfl,rfl,by show vi ((mid:Int)+m)=vi ((mid+m:Nat):Int);congr 1,rfl,rfl,trivial⟩,rfl,by rw [if_neg (by omega)];exact ⟨rfl,rfl⟩⟩
  rintro F W ⟨s0,r0,hF,rfl,h0⟩;rw [<-qh hF];simp only [ql];clear hF;have hb0:s0<=r0/\r0<=m/\r0<=mid/\a<=s0/\mid+m<=b+s0:=by split at h0<;>omega
  refine qq2 ?_;refine aC (σ:=Nat×Nat) (fun q=>[(0,(.slice (some ⟨g,0,none⟩) L cap)),(1,vi a),(2,vi m),(3,vi b),(4,.func (.func cf) #[] cc),(18,vi mid),(19,vi ((mid+m:Nat):Int)),(20,vi q.1),(21,vi q.2),(22,vi ((mid+m-1:Nat):Int))]) (fun q W=>s0<=q.1/\q.1<=q.2/\q.2<=r0/\(q.1=s0∨ ∃x y,D[q.1-1]? =some x/\D[mid+m-1-(q.1-1)]? =some y/\ltE key x y)/\(q.2=r0∨ ∃x y,D[q.2]? =some x/\D[mid+m-1-q.2]? =some y/\ltE key y x)/\New w W) (fun q=>q.2-q.1) (s0,r0) ⟨rfl,rfl,rfl,rfl,rfl,rfl,rfl,rfl,rfl,by show vi (((mid+m:Nat):Int)-1)=vi ((mid+m-1:Nat):Int);congr 1;omega,trivial⟩ ⟨aat _,by omega,aat _,.inl rfl,.inl rfl,aB _ _⟩ ?_;rintro ⟨i,j⟩ G W ⟨hmi,hij,hjb,g1,g2,n1⟩;dsimp only at hmi hij hjb g1 g2 n1;simp only [ql];refine aP ?_;refine aP ?_;(repeat' (first|refine aa1 ?_|refine ak ?_|refine aT ?_|refine aU ?_|refine Wc.skip ?_|refine fA ?_|refine fB ?_|refine dO ?_|refine dS ?_|refine bT rfl ?_|refine dm rfl ?_|refine aa2 (fun _=>?_) (fun _=>?_)))
  ·refine qq0 ?_;refine iU rfl rfl (by omega) ?_;rw [NP (n:=i+j) (by push_cast;rfl) (by omega)];refine fK rfl ?_;rw [NQ (by omega)];refine qq1 ?_;have hh:i<=(i+j) / 2/\(i+j) / 2<j:=by omega
   generalize hhe:(i+j) / 2=h at hh ⊢;obtain ⟨x,hx⟩:=pz Lf (k:=h-a) (by omega);obtain ⟨y,hy⟩:=pz R (k:=mid+m-1-h-m) (by omega);have hDx:D[h]? =some x:=by rw [pre.RP (by omega) (by omega)];exact hx
   have hDy:D[mid+m-1-h]? =some y:=by rw [pre.RQ (by omega) (by omega)];exact hy
   have hxR:=apD hx;have hyR:=apD hy;have hxP:=hP x (by simp [hxR]);have hyP:=hP y (by simp [hyR]);have hcr:=pre.cr y hyR x hxR;have o1:=own.new (oH seC) n1;have J6: ∀(w':World) (j:Nat) (xx:SE),(D)[j]? =some xx->New W w'-> ∀i:Int,i=(j:Nat)->At w' g (0+i.toNat*6) (seC xx):=fun w' j xx hx hw i hi=>by have:=(o1.new (oH seC) hw).at rfl rfl hx;rw [acL,hi,ao3];exact this
   refine aX rfl (by kernel_rfl) (fun w'=>New W w') (Chg.drew _ _) ?_;intro w3 n3;(repeat' (first|refine aa0 (aa3 (af ?_))|refine aa0 (Wq.sub rfl rfl (by omega) (by omega) (af ?_))));refine aa0 (aa8 (af ?_));refine aa0 (bK (cs:=seC y) (fun w' hw=>J6 w' (mid+m-1-h) _ hDy hw (((mid+m-1:Nat):Int)-(h:Nat)) (by omega)) rfl (by rfl) (af ?_));(repeat' (refine aa0 (aa3 (af ?_))));refine aa0 (aa8 (af ?_));refine aa0 (bK (cs:=seC x) (fun w' hw=>J6 w' (h) _ hDx hw ((h:Nat):Int) (by omega)) rfl (by rfl) (af ?_));refine aH rfl (bU (dst:=some 169) rfl (hc w3 (New.any (New.trans n1 n3)) y x hyP hxP) rfl ?_);rintro _ w4 ⟨⟨z,rfl,hz⟩,n4⟩;have n24:=New.trans n3 n4;have n04:=New.trans n1 n24;simp only [xH];refine ak ⟨rfl,n24,?_⟩;by_cases hk:key y<key x
   ·have hz0:=hz.2 hk;(repeat' (first|refine bG ?_|refine aa0 (dP rfl (af ?_))|(refine aa0 (dQ rfl rfl (fun _=>af ?_) (fun _=>af ?_))<;>(first|(exfalso;omega)|skip))));refine qq0 ?_;exact aA (i,h) (sl rfl) ⟨hmi,by dsimp only;omega,by dsimp only;omega,g1,.inr ⟨x,y,hDx,hDy,hcr.1 (decide_eq_true hk)⟩,n04⟩ (by dsimp only;omega)
   ·have hz0: ¬z<0:=fun e=>hk (hz.1 e);(repeat' (first|refine bG ?_|refine aa0 (dP rfl (af ?_))|(refine aa0 (dQ rfl rfl (fun _=>af ?_) (fun _=>af ?_))<;>(first|(exfalso;omega)|skip))));refine qq4 ?_;exact aA (h+1,j) (sl rfl) ⟨by dsimp only;omega,by dsimp only;omega,hjb,.inr ⟨x,y,by rw [aqF];exact hDx,by rw [aqF];exact hDy,hcr.2 (decide_eq_false hk)⟩,g2,n04⟩ (by dsimp only;omega)
  ·obtain rfl:i=j:=by omega
   obtain ⟨L1,L2,R1,R2,ct,hL1,hR1,hL2,hR2,k1,k2,k3,k4,k5⟩:=pre.search (NM key) (by omega) (by omega) hmid.symm h0 hmi hjb g1 g2;have hLe:=ct.l;have hRe:=ct.r;have hLl:Lf.length=L1.length+L2.length:=by rw [hLe,adL]
   have hRl:R.length=R1.length+R2.length:=by rw [hRe,adL]
   have o1:=own.new (oH seC) n1;have hD:=congrArg aq0 pre.e;rw [pre.e,hLe,hRe] at o1;rw [hLe,hRe,hL] at hD;simp only [adL] at hD;generalize he:mid+m-i=e at hL2 hR2 k4 k5;refine aP ?_;(repeat' (first|refine aa1 ?_|refine aa7 ?_|refine ak ?_|refine aT ?_|refine aU ?_|refine Wl.sub rfl rfl (by omega) (by omega) ?_));refine eX (fun F W=>agrees F [(0,(.slice (some ⟨g,0,none⟩) L cap)),(1,vi a),(3,vi b),(4,.func (.func cf) #[] cc),(18,vi mid),(20,vi i),(24,vi e)]/\sO Pb W (.slice (some ⟨g,0,none⟩) L cap) (X++L1++R1++L2++R2++Z)/\Chg (fun k=>k=g) w W) ?_ ?_
   ·have hei:((mid+m:Nat):Int)-i=(e:Nat):=by omega
    rw [hei];(repeat' (first|refine aa1 ?_|refine ak ?_|refine aQ rfl rfl ?_|refine dG rfl rfl ?_|refine dN rfl (by conv=>{lhs;whnf}) ?_|refine aa9 ?_|refine aT ?_|refine aP ?_|refine aU ?_|refine Wc.skip ?_|refine bT rfl ?_|refine dm rfl ?_|refine aa2 (fun _=>?_) (fun _=>?_)))
    ·refine au (Qo (X:=X++L1) (U:=L2) (V:=R1) (Z:=R2++Z) (a:=i) (m:=m) (b:=e) (cv:=.func (.func cf) #[] cc) (by simp only [adL];omega) (by simpa using o1) (by rw [adL];omega) (by omega) (by omega) (by omega) (by omega) hl) rfl ?_;rintro u w2 ⟨o2,c2⟩;refine DY ?_;exact cO ⟨⟨rfl,rfl,rfl,rfl,rfl,rfl,rfl,trivial⟩,by simpa using o2,Chg.trans n1.any c2 i3⟩
    ·obtain rfl:R1=[]:=List.length_eq_zero_iff.1 (by omega);exact cO ⟨⟨rfl,rfl,rfl,rfl,rfl,rfl,rfl,trivial⟩,by simpa using o1,n1.any⟩
    ·obtain rfl:L2=[]:=List.length_eq_zero_iff.1 (by omega);exact cO ⟨⟨rfl,rfl,rfl,rfl,rfl,rfl,rfl,trivial⟩,by simpa using o1,n1.any⟩
   rintro F W2 ⟨hF,o2,c2⟩;rw [<-qh hF];simp only [ql];clear hF;refine eX (fun F W=> ∃E1,agrees F [(0,(.slice (some ⟨g,0,none⟩) L cap)),(3,vi b),(4,.func (.func cf) #[] cc),(18,vi mid),(24,vi e)]/\E1.Perm (L1++R1)/\Srt (ltE key) E1/\sO Pb W (.slice (some ⟨g,0,none⟩) L cap) (X++E1++L2++R2++Z)/\Chg (fun k=>k=g) w W) ?_ ?_
   ·have sl1:Srt (ltE key) L1:=pre.sl.sublist (by rw [hLe];exact aq9 _ _);have sr1:Srt (ltE key) R1:=pre.sr.sublist (by rw [hRe];exact aq9 _ _);(repeat' (first|refine aa1 ?_|refine ak ?_|refine aQ rfl rfl ?_|refine dG rfl rfl ?_|refine dN rfl (by conv=>{lhs;whnf}) ?_|refine aa9 ?_|refine aT ?_|refine aP ?_|refine aU ?_|refine Wc.skip ?_|refine bT rfl ?_|refine dm rfl ?_|refine aa2 (fun _=>?_) (fun _=>?_)))
    ·refine au (ih (a:=a) (m:=i) (b:=mid) (X:=X) (Lf:=L1) (R:=R1) (Z:=L2++R2++Z) (by omega) (Vh pre.cr pre.sl pre.sr (by rw [hLe];exact aq9 _ _) (by rw [hRe];exact aq9 _ _) rfl hXl (by omega) (by omega)) (by simp only [adL];omega) (by simpa using o2) (by omega) (by omega) (fun y hy=>hP y (by rw [hLe,hRe];rcases List.mem_append.1 hy with h|h<;>simp [h])) (hc.chg c2)) rfl ?_;rintro u w3 ⟨D',⟨E1,rfl,p1,s1⟩,o3,c3⟩;refine DY ?_;exact cO ⟨E1,⟨rfl,rfl,rfl,rfl,rfl,trivial⟩,p1,s1,by simpa using o3,Chg.trans c2 c3 i3⟩
    ·obtain rfl:R1=[]:=List.length_eq_zero_iff.1 (by omega);exact cO ⟨L1,⟨rfl,rfl,rfl,rfl,rfl,trivial⟩,by simp,sl1,by simpa using o2,c2⟩
    ·obtain rfl:L1=[]:=List.length_eq_zero_iff.1 (by omega);exact cO ⟨R1,⟨rfl,rfl,rfl,rfl,rfl,trivial⟩,by simp,sr1,by simpa using o2,c2⟩
   rintro F W3 ⟨E1,hF,p1,s1,o3,c3⟩;rw [<-qh hF];simp only [ql];clear hF;have hE1:=p1.length_eq;rw [adL] at hE1;have sl2:Srt (ltE key) L2:=pre.sl.sublist (by rw [hLe];exact ara _ _);have sr2:Srt (ltE key) R2:=pre.sr.sublist (by rw [hRe];exact ara _ _);(repeat' (first|refine qq6 ?_|refine aa2 (fun _=>?_) (fun _=>?_)))
   ·refine au (ih (a:=mid) (m:=e) (b:=b) (X:=X++E1) (Lf:=L2) (R:=R2) (Z:=Z) (by omega) (Vh pre.cr pre.sl pre.sr (by rw [hLe];exact ara _ _) (by rw [hRe];exact ara _ _) rfl (by rw [adL];omega) (by omega) (by omega)) (by simp only [adL];omega) (by simpa using o3) (by omega) (by omega) (fun y hy=>hP y (by rw [hLe,hRe];rcases List.mem_append.1 hy with h|h<;>simp [h])) (hc.chg c3)) rfl ?_;rintro u w4 ⟨D',⟨E2,rfl,p2,s2⟩,o4,c4⟩;refine qq0 ?_;exact dh rfl ⟨_,rfl,_,ct.post p1 s1 p2 s2 (D':=X++E1++E2++Z) rfl,o4,Chg.trans c3 c4 i3⟩
   ·obtain rfl:R2=[]:=List.length_eq_zero_iff.1 (by omega);exact dh rfl ⟨_,rfl,_,ct.post p1 s1 (E2:=L2) (by simp) sl2 (D':=X++E1++L2++Z) rfl,by simpa using o3,c3⟩
   ·obtain rfl:L2=[]:=List.length_eq_zero_iff.1 (by omega);exact dh rfl ⟨_,rfl,_,ct.post p1 s1 (E2:=R2) (by simp) sr2 (D':=X++E1++R2++Z) rfl,by simpa using o3,c3⟩
end
end Go.Proofs.YtfbnfhhmiiahnaaGreatDoor
namespace Go.Proofs.YtfbnfhhmiiahnaaGreatDoor
open Go Wk Sy
section
def Chk (key:SE->Nm) (D0 D D':List SE) (a b:Nat):Prop:= ∃X E0 E Z,D=X++E0++Z/\D'=X++E++Z/\E.Perm E0/\X.length=a/\a+E.length=b/\Seg (ltE key) D0 D' a b
variable {key:SE->Nm} {D0 D D':List SE} {a b:Nat}
theorem Chk.len (h:Chk key D0 D D' a b):D'.length=D.length:=by
 obtain ⟨X,E0,E,Z,rfl,rfl,p,_⟩:=h;simp [p.length_eq]
theorem Chk.mem (h:Chk key D0 D D' a b): ∀y∈D',y∈D:=by
 obtain ⟨X,E0,E,Z,rfl,rfl,p,_⟩:=h;intro y hy;simp only [ars] at hy ⊢;rcases hy with (h|h)|h
 ·exact .inl (.inl h)
 ·exact .inl (.inr (p.mem_iff.1 h))
 ·exact .inr h
theorem Chk.left (h:Chk key D0 D D' a b): ∀u v,Seg (ltE key) D0 D u v->v<=a->Seg (ltE key) D0 D' u v:=by
 obtain ⟨X,E0,E,Z,rfl,rfl,p,rfl,_⟩:=h;intro u v h hv;unfold Seg at h ⊢;rw [X4 (E':=E0) hv];exact h
theorem Chk.right (h:Chk key D0 D D' a b): ∀u v,Seg (ltE key) D0 D u v->b<=u->Seg (ltE key) D0 D' u v:=by
 obtain ⟨X,E0,E,Z,rfl,rfl,p,rfl,hb,_⟩:=h;intro u v h hu;unfold Seg at h ⊢;rw [VR (E':=E0) p.length_eq (by omega)];exact h
theorem Chk.seg (h:Chk key D0 D D' a b):Seg (ltE key) D0 D' a b:=by obtain ⟨X,E0,E,Z,_,_,_,_,_,h⟩:=h;exact h
theorem Chk.drop (h:Chk key D0 D D' a b):D'.drop b=D.drop b:=by
 obtain ⟨X,E0,E,Z,rfl,rfl,p,h1,h2,_⟩:=h;have hp:=p.length_eq;have q: ∀A:List SE,A.length=b->(A++Z).drop b=Z:=fun A h=>by rw [<-h,List.drop_left]
 rw [q _ (by rw [adL];omega),q _ (by rw [adL];omega)]
theorem BM.put {B j hi:Nat} (h:BM (ltE key) D0 D B 0 a) (ha:a=j*B) (c: ∀u v,Seg (ltE key) D0 D u v->v<=a->Seg (ltE key) D0 D' u v) (s:Seg (ltE key) D0 D' a (min (a+B) D0.length)) (hhi:hi<=a+B):BM (ltE key) D0 D' B 0 hi:=by
 intro k _ hk;have hk2:k*B<(j+1)*B:=by rw [aqZ];omega
 have hkj:k<j+1:=Nat.lt_of_mul_lt_mul_right hk2;rcases Nat.lt_or_eq_of_le (Nat.le_of_lt_succ hkj) with h1|rfl
 ·have h2:(k+1)*B<=j*B:=aaI B h1;have h3:k*B+B<=a:=by rw [aqZ] at h2;omega
  by_cases hB:B=0
  ·subst hB;omega
  refine c _ _ (h k (aoZ _) (by omega)) ?_;rw [aqZ];omega
 ·rw [aqZ, <-ha];exact s
theorem BM.rest {B lo lo' hi:Nat} (h:BM (ltE key) D0 D B lo hi) (hlo:lo<=lo') (c: ∀u v,Seg (ltE key) D0 D u v->lo'<=u->Seg (ltE key) D0 D' u v):BM (ltE key) D0 D' B lo' hi:=fun k h1 h2=>c _ _ (h k (Nat.le_trans hlo h1) h2) h1
theorem Qr {α:Type} (l:List α) {a m b:Nat} (h1:a<=m) (h2:m<=b):(l.drop a).take (m-a)++(l.drop m).take (b-m)=(l.drop a).take (b-a):=by
 rw [show b-a=(m-a)+(b-m) by omega,List.take_add,apM,show a+(m-a)=m by omega]
theorem Vj {α:Type} {l:List α} {u v:Nat} {x:α} (h:x∈(l.drop u).take (v-u)): ∃i,u<=i/\i<v/\l[i]? =some x:=by
 obtain ⟨i,hi⟩:=List.mem_iff_getElem?.1 h;rw [aav] at hi;split at hi
 ·rename_i h1
  rw [ack] at hi;exact ⟨u+i,by omega,by omega,hi⟩
 ·cases hi
theorem acV {D0:List SE} (hix:D0.Pairwise fun x y=>x.2<y.2) {i j:Nat} {x y:SE} (h:i<j) (hx:D0[i]? =some x) (hy:D0[j]? =some y):x.2<y.2:=by
 obtain ⟨h1,rfl⟩:=List.getElem?_eq_some_iff.1 hx;obtain ⟨h2,rfl⟩:=List.getElem?_eq_some_iff.1 hy;exact List.pairwise_iff_getElem.1 hix i j h1 h2 h
theorem WV {m:Nat} (hix:D0.Pairwise fun x y=>x.2<y.2) (h1:a<=m) (h2:m<=b) (h3:b<=D.length) (s1:Seg (ltE key) D0 D a m) (s2:Seg (ltE key) D0 D m b):
 ∃X Lf R Z,Pre (ltE key) (cpE key) D a m b X Lf R Z/\Lf.length=m-a/\R.length=b-m/\(∀y∈Lf++R,y∈D)/\ ∀D',Post (ltE key) X Lf R Z D'->Chk key D0 D D' a b:=by
 have e:D=D.take a++(D.drop a).take (m-a)++(D.drop m).take (b-m)++D.drop b:=by obtain ⟨e1, -, -⟩:=X3 D (u:=a) (v:=b) (by omega) h3;rw [adI (D.take a),Qr D h1 h2];exact e1
 have l0:(D.take a).length=a:=by rw [apb];omega
 have l1:((D.drop a).take (m-a)).length=m-a:=by rw [apb,apt];omega
 have l2:((D.drop m).take (b-m)).length=b-m:=by rw [apb,apt];omega
 refine ⟨D.take a,(D.drop a).take (m-a),(D.drop m).take (b-m),D.drop b,⟨e,l0,by omega,by omega,s1.2,s2.2,fun y hy x hx=>?_⟩,l1,l2,fun y hy=>by rw [e];simp only [ars] at hy ⊢;rcases hy with h|h;exact .inl (.inl (.inr h));exact .inl (.inr h),?_⟩
 ·obtain ⟨i,_,hi,hx0⟩:=Vj (s1.1.mem_iff.1 hx);obtain ⟨j,hj,_,hy0⟩:=Vj (s2.1.mem_iff.1 hy);exact YR (acV hix (by omega) hx0 hy0)
 ·rintro D' ⟨E,rfl,hp,hs⟩;have hE:=hp.length_eq;rw [adL,l1,l2] at hE;refine ⟨_,(D.drop a).take (m-a)++(D.drop m).take (b-m),E,_,by rw [<-adI];exact e,rfl,hp,l0,by omega,?_⟩;unfold Seg;rw [X0 l0 (by omega)];exact ⟨hp.trans (by rw [<-Qr D0 h1 h2];exact s1.1.append s2.1),hs⟩
theorem Tm {X S E Z:List SE} (hX:X.length=a) (hS:a+S.length=b) (hD:(D0.drop a).take (b-a)=S) (hp:E.Perm S) (hs:Srt (ltE key) E):Chk key D0 (X++S++Z) (X++E++Z) a b:=by
 have:=hp.length_eq;refine ⟨X,S,E,Z,rfl,rfl,hp,hX,by omega,?_⟩;unfold Seg;rw [X0 hX (by omega),hD];exact ⟨hp,hs⟩
end
end Go.Proofs.YtfbnfhhmiiahnaaGreatDoor
namespace Go.Proofs.YtfbnfhhmiiahnaaGreatDoor
open Go Wk Sy
open Go.RowKit (Below)
attribute [local irreducible] Go.Calls
section
variable {Pb:Nat->Prop} {w:World} {g cap L:Nat} {cf:FuncId} {cc:Array Value} {key:SE->Nm} {Pd:SE->Prop} [hcf:oN prog cf]
theorem DV {w:World} {a b:Nat} {D0 D:List SE} (hix:D0.Pairwise fun x y=>x.2<y.2) (hd:D.drop a=D0.drop a) (hab:a<=b) (hbL:b<=L) (hL:D.length=L) (own:sO Pb w (.slice (some ⟨g,0,none⟩) L cap) D) (hP: ∀y∈D,Pd y) (hc:GH cf cc key Pd g w) (hl:L<=2000000000):
 Calls prog 131 #[.slice (some ⟨g,0,none⟩) L cap,vi a,vi b,.func (.func cf) #[] cc] w (Ret fun _ w'=> ∃D',Chk key D0 D D' a b/\sO Pb w' (.slice (some ⟨g,0,none⟩) L cap) D'/\Chg (fun k=>k=g) w w'):=by
 obtain ⟨e,h1,h2⟩:=X3 D hab (by omega:b<=D.length);rw [e] at own;have hs:((D.drop a).take (b-a)).Pairwise fun x y=>x.2<y.2:=by rw [hd];exact (hix.sublist (List.drop_sublist _ _)).sublist (List.take_sublist _ _)
 refine (J5 (a:=a) (b:=b) (by rw [<-e];exact hL) own h1 (by omega) hs (fun x hx=>hP x (aro (List.mem_of_mem_take hx))) hc hl).mono ?_;rintro _ w' ⟨_,rfl,E,hp,hs,o,c⟩;refine ⟨_,rfl,_,?_,o,c⟩;have:=Tm (D0:=D0) (b:=b) (Z:=D.drop b) h1 (by omega) (by rw [hd]) hp hs;rw [<-e] at this;exact this
theorem Mc {w:World} {a m b:Nat} {D0 D:List SE} (hix:D0.Pairwise fun x y=>x.2<y.2) (s1:Seg (ltE key) D0 D a m) (s2:Seg (ltE key) D0 D m b) (h1:a<m) (h2:m<b) (hbL:b<=L) (hL:D.length=L) (own:sO Pb w (.slice (some ⟨g,0,none⟩) L cap) D) (hP: ∀y∈D,Pd y) (hc:GH cf cc key Pd g w) (hl:L<=2000000000):
 Calls prog 132 #[.slice (some ⟨g,0,none⟩) L cap,vi a,vi m,vi b,.func (.func cf) #[] cc] w (Ret fun _ w'=> ∃D',Chk key D0 D D' a b/\sO Pb w' (.slice (some ⟨g,0,none⟩) L cap) D'/\Chg (fun k=>k=g) w w'):=by
 obtain ⟨X,Lf,R,Z,pre,k1,k2,k3,k4⟩:=WV hix (by omega) (by omega) (by omega:b<=D.length) s1 s2;refine (DU hl _ (aat _) pre hL own (by omega) (by omega) (fun y hy=>hP y (k3 y hy)) hc).mono ?_;rintro _ w' ⟨_,rfl,D',hp,o,c⟩;exact ⟨_,rfl,D',k4 D' hp,o,c⟩
theorem Qs {D0:List SE} (hix:D0.Pairwise fun x y=>x.2<y.2) (hL:D0.length=L) (own:sO Pb w (.slice (some ⟨g,0,none⟩) L cap) D0) (hP: ∀y∈D0,Pd y) (hc:GH cf cc key Pd g w) (hl:L<=400000000):
 Calls prog 98 #[.slice (some ⟨g,0,none⟩) L cap,vi L,.func (.func cf) #[] cc] w (Ret fun _ w'=> ∃E,E.Perm D0/\Srt (ltE key) E/\sO Pb w' (.slice (some ⟨g,0,none⟩) L cap) E/\Chg (fun k=>k=g) w w'):=by
 refine oI func98 rfl ntmps98 rfl ?_;refine qq4 ?_;refine aC (σ:=Nat×List SE) (fun q=>[(0,.slice (some ⟨g,0,none⟩) L cap),(1,vi L),(2,.func (.func cf) #[] cc),(6,vi (20:Nat)),(7,vi ((q.1*20:Nat):Int)),(8,vi ((q.1*20+20:Nat):Int))]) (fun q W=>q.1*20<=L/\q.2.length=L/\q.2.drop (q.1*20)=D0.drop (q.1*20)/\BM (ltE key) D0 q.2 20 0 (q.1*20)/\(∀y∈q.2,Pd y)/\sO Pb W (.slice (some ⟨g,0,none⟩) L cap) q.2/\Chg (fun k=>k=g) w W) (fun q=>L-q.1*20) (0,D0) (sl rfl) ⟨by simp,hL,rfl,fun k _ h=>by simp at h,hP,own,aB _ _⟩ ?_;rintro ⟨j,D⟩ G W ⟨hj,hDl,hdr,hB,hPD,o1,c1⟩;dsimp only at hj hDl hdr hB hPD o1 c1;simp only [ql];refine aP ?_;refine aP ?_;(repeat' (first|refine aa1 ?_|refine ak ?_|refine aT ?_|refine aU ?_|refine Wc.skip ?_|refine fA ?_|refine fB ?_|refine dO ?_|refine dS ?_|refine bT rfl ?_|refine dm rfl ?_|refine dW rfl rfl (fun _=>?_) (fun _=>?_)))
 ·refine qq0 ?_;refine au (DV (a:=j*20) (b:=j*20+20) hix hdr (by omega) (by omega) hDl o1 hPD (hc.chg c1) (by omega)) rfl ?_;rintro u w2 ⟨D',ck,o2,c2⟩;refine qq4 ?_;refine aA (j+1,D') ⟨rfl,rfl,rfl,rfl,by show vi ((j*20+20:Nat):Int)=vi (((j+1)*20:Nat):Int);congr 1;omega,by show vi (((j*20+20:Nat):Int)+20)=vi (((j+1)*20+20:Nat):Int);congr 1;omega,trivial⟩ ⟨by dsimp only;omega,by rw [ck.len];exact hDl,?_,?_,fun y hy=>hPD y (ck.mem y hy),o2,Chg.trans c1 c2 i3⟩ (by dsimp only;omega)
  ·dsimp only;rw [show (j+1)*20=j*20+20 by omega,ck.drop, <-apM, <-apM,hdr]
  ·exact BM.put hB rfl ck.left (by rw [aoT (by omega)];exact ck.seg) (by dsimp only;omega)
 refine aP ?_;(repeat' (first|refine aa1 ?_|refine aU ?_));refine au (DV (a:=j*20) (b:=L) hix hdr (by omega) (aat _) hDl o1 hPD (hc.chg c1) (by omega)) rfl ?_;rintro u w2 ⟨D2,ck2,o2,c2⟩;(repeat' (first|refine ak ?_|refine aT ?_));have hB2:BM (ltE key) D0 D2 20 0 L:=BM.put hB rfl ck2.left (by rw [hL,aq1 (by omega)];exact ck2.seg) (by omega);have hl2:D2.length=L:=by rw [ck2.len];exact hDl
 have hP2: ∀y∈D2,Pd y:=fun y hy=>hPD y (ck2.mem y hy);have c2':=Chg.trans c1 c2 i3;clear hB hDl hdr ck2 hPD;refine Wc.block ?_;refine aC (σ:=Nat×List SE) (fun q=>[(0,.slice (some ⟨g,0,none⟩) L cap),(1,vi L),(2,.func (.func cf) #[] cc),(6,vi q.1)]) (fun q W=>20<=q.1/\q.1<=2*L+20/\q.2.length=L/\BM (ltE key) D0 q.2 q.1 0 L/\(∀y∈q.2,Pd y)/\sO Pb W (.slice (some ⟨g,0,none⟩) L cap) q.2/\Chg (fun k=>k=g) w W) (fun q=>2*L+20-q.1) (20,D2) (sl rfl) ⟨aat _,by omega,hl2,hB2,hP2,o2,c2'⟩ ?_;clear hB2 hl2 hP2 o2 c2 o1 c1 c2';rintro ⟨bs,D⟩ G W ⟨hbs,ajL,hDl,hB,hPD,o1,c1⟩;dsimp only at hbs ajL hDl hB hPD o1 c1;simp only [ql];refine aP ?_;refine aP ?_;(repeat' (first|refine aa1 ?_|refine ak ?_|refine aT ?_|refine aU ?_|refine Wc.skip ?_|refine fA ?_|refine fB ?_|refine dO ?_|refine dS ?_|refine bT rfl ?_|refine dm rfl ?_|refine aa2 (fun _=>?_) (fun _=>?_)))
 ·refine Wc.block ?_;refine aP ?_;(repeat' (first|refine aa1 ?_|refine aa7 ?_|refine ak ?_|refine aT ?_|refine aU ?_|refine jr rfl rfl (by omega) (by omega) ?_));refine aP ?_;refine Wc.block ?_;refine aC (σ:=Nat×List SE) (fun q=>[(0,.slice (some ⟨g,0,none⟩) L cap),(1,vi L),(2,.func (.func cf) #[] cc),(6,vi bs),(7,vi ((q.1*(2*bs):Nat):Int)),(8,vi ((q.1*(2*bs)+2*bs:Nat):Int))]) (fun q W=>q.1*(2*bs)<=L/\q.2.length=L/\BM (ltE key) D0 q.2 (2*bs) 0 (q.1*(2*bs))/\BM (ltE key) D0 q.2 bs (q.1*(2*bs)) L/\(∀y∈q.2,Pd y)/\sO Pb W (.slice (some ⟨g,0,none⟩) L cap) q.2/\Chg (fun k=>k=g) w W) (fun q=>L-q.1*(2*bs)) (0,D) ⟨rfl,rfl,rfl,rfl,by show vi 0=vi ((0*(2*bs):Nat):Int);rw [apw];rfl,by show vi (2*(bs:Int))=vi ((0*(2*bs)+2*bs:Nat):Int);rw [apw];congr 1;omega,trivial⟩ ⟨by simp,hDl,fun k _ h=>by simp at h,by simpa using hB,hPD,o1,c1⟩ ?_;clear hB hDl hPD o1 c1;rintro ⟨j,D⟩ G W ⟨hj,hDl,hB1,hB2,hPD,o1,c1⟩;dsimp only at hj hDl hB1 hB2 hPD o1 c1;simp only [ql];generalize ha:j*(2*bs)=a at hj hB1 hB2 ⊢;have ek1:2*j*bs=a:=by rw [<-ha,apz 2 j,Nat.mul_assoc]
  have ek2:(2*j+1)*bs=a+bs:=by rw [aqZ,ek1]
  have ek3:(2*j+1+1)*bs=a+2*bs:=by rw [aqZ,ek2];omega
  have ek4:(j+1)*(2*bs)=a+2*bs:=by rw [aqZ,ha]
  have hs1:a<L->Seg (ltE key) D0 D a (min (a+bs) L):=fun h=>by have:=hB2 (2*j) (by omega) (by omega);rw [ek1,ek2,hL] at this;exact this
  have hs2:a+bs<L->Seg (ltE key) D0 D (a+bs) (min (a+2*bs) L):=fun h=>by have:=hB2 (2*j+1) (by omega) (by omega);rw [ek2,ek3,hL] at this;exact this
  refine aP ?_;refine aP ?_;(repeat' (first|refine aa1 ?_|refine ak ?_|refine aT ?_|refine aU ?_|refine Wc.skip ?_|refine fA ?_|refine fB ?_|refine dO ?_|refine dS ?_|refine bT rfl ?_|refine dm rfl ?_|refine dW rfl rfl (fun _=>?_) (fun _=>?_)))
  ·refine qq0 ?_;have h1:=hs1 (by omega);have h2:=hs2 (by omega);rw [aoT (by omega)] at h1 h2;refine au (Mc (a:=a) (m:=a+bs) (b:=a+2*bs) hix h1 h2 (by omega) (by omega) (by omega) hDl o1 hPD (hc.chg c1) (by omega)) rfl ?_;rintro u w2 ⟨D',ck,o2,c2⟩;refine qq4 ?_;refine aA (j+1,D') ⟨rfl,rfl,rfl,rfl,by show vi ((a+2*bs:Nat):Int)=vi (((j+1)*(2*bs):Nat):Int);rw [ek4],by show vi (((a+2*bs:Nat):Int)+2*(bs:Int))=vi (((j+1)*(2*bs)+2*bs:Nat):Int);rw [ek4];congr 1,trivial⟩ ⟨by dsimp only;omega,by rw [ck.len];exact hDl,?_,?_,fun y hy=>hPD y (ck.mem y hy),o2,Chg.trans c1 c2 i3⟩ (by dsimp only;omega)
   ·dsimp only;rw [ek4];exact BM.put hB1 ha.symm ck.left (by rw [hL,aoT (by omega)];exact ck.seg) (aat _)
   ·dsimp only;rw [ek4];exact BM.rest hB2 (by omega) ck.right
  ·refine eX (fun F W=> ∃D',agrees F [(0,.slice (some ⟨g,0,none⟩) L cap),(1,vi L),(2,.func (.func cf) #[] cc),(6,vi bs)]/\D'.length=L/\BM (ltE key) D0 D' (2*bs) 0 L/\(∀y∈D',Pd y)/\sO Pb W (.slice (some ⟨g,0,none⟩) L cap) D'/\Chg (fun k=>k=g) w W) ?_ ?_
   ·(repeat' (first|refine DY ?_|refine aa2 (fun _=>?_) (fun _=>?_)))
    ·have h1:=hs1 (by omega);have h2:=hs2 (by omega);rw [aoT (by omega)] at h1;rw [aq1 (by omega)] at h2;refine au (Mc (a:=a) (m:=a+bs) (b:=L) hix h1 h2 (by omega) (by omega) (aat _) hDl o1 hPD (hc.chg c1) (by omega)) rfl ?_;rintro u w2 ⟨D',ck,o2,c2⟩;refine DY ?_;exact cO ⟨D',⟨rfl,rfl,rfl,rfl,trivial⟩,by rw [ck.len];exact hDl,BM.put hB1 ha.symm ck.left (by rw [hL,aq1 (by omega)];exact ck.seg) (by omega),fun y hy=>hPD y (ck.mem y hy),o2,Chg.trans c1 c2 i3⟩
    ·refine cO ⟨D,⟨rfl,rfl,rfl,rfl,trivial⟩,hDl,?_,hPD,o1,c1⟩;by_cases haL:a<L
     ·have h1:=hs1 haL;exact BM.put hB1 ha.symm (fun _ _ h _=>h) (by rw [hL,aq1 (by omega)];rw [aq1 (by omega)] at h1;exact h1) (by omega)
     ·obtain rfl:a=L:=by omega
      exact hB1
   rintro F W2 ⟨D',hF,hl',hB',hP',o2,c2⟩;rw [<-qh hF];simp only [ql];clear hF;refine qq0 ?_;exact aA (2*bs,D') ⟨rfl,rfl,rfl,by show vi ((bs:Int)*2)=vi ((2*bs:Nat):Int);congr 1;omega,trivial⟩ ⟨by dsimp only;omega,by dsimp only;omega,hl',hB',hP',o2,c2⟩ (by dsimp only;omega)
 ·have hp:D.Perm D0/\Srt (ltE key) D:=by
   by_cases h0:L=0
   ·rw [h0] at hDl hL;rw [List.length_eq_zero_iff.1 hDl,List.length_eq_zero_iff.1 hL];exact ⟨List.Perm.refl _,by simp⟩
   ·have:=hB 0 (by omega) (by omega);unfold Seg at this;rw [apw,hL,aq1 (by omega),apk,apk,Nat.sub_zero,apl (by omega),apl (by omega)] at this;exact this
  exact dh rfl ⟨_,rfl,D,hp.1,hp.2,o1,c1⟩
theorem IV {D0:List SE} (hix:D0.Pairwise fun x y=>x.2<y.2) (hL:D0.length=L) (own:sO Pb w (.slice (some ⟨g,0,none⟩) L cap) D0) (hP: ∀y∈D0,Pd y) (hc:GH cf cc key Pd g w) (hl:L<=400000000):
 Calls prog 73 #[.slice (some ⟨g,0,none⟩) L cap,.func (.func cf) #[] cc] w (Ret fun _ w'=> ∃E,E.Perm D0/\Srt (ltE key) E/\sO Pb w' (.slice (some ⟨g,0,none⟩) L cap) E/\Chg (fun k=>k=g) w w'):=by
 refine oI func73 rfl ntmps73 rfl ?_;refine qq0 ?_;refine au (Qs hix hL own hP hc hl) rfl ?_;rintro u w2 ⟨E,h1,h2,o2,c2⟩;refine qq0 ?_;exact dh rfl ⟨_,rfl,E,h1,h2,o2,c2⟩
end
end Go.Proofs.YtfbnfhhmiiahnaaGreatDoor
