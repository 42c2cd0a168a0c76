/-
  Texts of this claim, one behind the other: W9, Wa, Wb, Wc, Wd, We, Wf, Wh, Wl, Wm, Wg, Wi, Wj, Wk, Wo, Wp, L4, Wq, Wr.
-/
import Derived.Test.YtfbnfhhmiiahnaaGreatDoorZe
set_option linter.all false
set_option maxHeartbeats 16000000
set_option maxRecDepth 8000
open List renaming getD_eq_getElem?_getD → apJ,mem_of_getElem? → apD,length_singleton → apm,getElem?_eq_none → aoS,length_map → aqt,range → abS,length_append → adL,length_range → arE,getElem?_map → apF,take_length → apZ,mem_cons_self → arK,map_append → aqn,getElem?_range → aq3,length_filter_le → arD,ext_getElem? → ao6,getElem?_set → apo,mem_cons_of_mem → aqd,filter_append → arF,length_cons → aph,length_nil → apK,append_assoc → adI,length_take → apb,length_set → aqY,replicate → apW,length → aq0,mem_append → ars,eq_nil_of_length_eq_zero → aoP,all_eq_true → aqS,drop_eq_nil_of_le → aqo,append_nil → aqJ,findIdx?_map → asr,append_of_mem → ap4,mem_singleton → ar2,drop_length → aqi,map_const' → ast,mem_of_mem_erase → asu,length_erase → asv,nodup_nil → ash,count_append → asw,take_zero → apB,length_reverse → asx,getElem?_append_left → aoY,getElem?_append_right → aoO,filter_cons_of_neg → asz,mem_or_eq_of_mem_set → arM,range_succ → arz,filterMap_append → asc,length_filterMap_le → arV,find?_eq_none → asA,getElem_range → asB,nil_append → aoQ,mem_cons → asD,not_mem_nil → asE
open Nat renaming zero_le → aoZ,le_refl → aat,beq → aoX,le_trans → aru,sub_self → aq7,zero_add → acL
open Int renaming toNat_natCast → ao3,eq_ofNat_of_zero_le → aoR,toNat_of_nonneg → asy,le_refl → apV
open Bool renaming true_and → aqf,and_eq_true → ao0,eq_iff_iff → asC
open Go.Proofs.Tryz
namespace Go.Proofs.YtfbnfhhmiiahnaaGreatDoor
open Go Wk
open Go.RowKit (Below)
attribute [local irreducible] Go.Calls
abbrev stC (p:Stp):List Value:=[vi p.1,.bool p.2]
theorem Dc:rF (flat stC) 2:=rC _ (fun _=>rfl) fun x c hc=>by simp at hc;rcases hc with rfl|rfl<;>rfl
section
variable {Pb:Nat->Prop} {bb:Nat} {N:List Sn} {ord pV:List Nat} {down:Bool} {nv ov sv:Value} {W:World}
def Oi (Pb:Nat->Prop) (bb:Nat) (N:List Sn) (ord pV:List Nat) (down:Bool) (nv ov sv:Value) (W:World) (i:Int) (r:Value) (w':World):Prop:=
 (xZ N down i true≠0/\r=.tuple #[.slice none 0 0,vi (xZ N down i true)]/\New W w')∨
 (xZ N down i true=0/\(N.getD i.toNat default).ol.all (aF N)=false/\r=.tuple #[.slice none 0 0,vi 240]/\New W w')∨
 (xZ N down i true=0/\(N.getD i.toNat default).ol.all (aF N)=true/\ ∃v,r=.tuple #[v,vi 0]/\oP (flat stC) 64 2 (fun b=>W.heap.size<=b) NoB w' v [(i.toNat,true)]/\
   BdM Pb bb (N.set i.toNat {N.getD i.toNat default with asleep:=true}) ord pV down nv ov sv w'/\Chg (fun k=>nv.ownBlock=some k) W w')
theorem MP {i:Int} {v:Bool} (h:xZ N down i v=0): ∃k:Nat,i=k/\k<N.length:=by
 unfold xZ at h;split at h
 ·cases h
 ·rename_i h1
  rw [not_or,not_or] at h1;exact ⟨i.toNat,by omega,by omega⟩
theorem Us {i:Int} (g:BdM Pb bb N ord pV down nv ov sv W):
 Calls prog 20 #[pT bb,vi i] W (Ret fun r w'=>Oi Pb bb N ord pV down nv ov sv W i r w'):=by
 have hnl:=g.nl;obtain ⟨na,nc,hnv,_,_⟩:=g.nd.a.row.form;have hrd:=g.nd.a.row.rd (oU snC);refine oI func20 rfl ntmps20 rfl ?_;refine qq2 ?_;refine au (Q9 g) rfl ?_;rintro _ w1 ⟨rfl,n1⟩;have g1:=g.new n1;by_cases hm:xZ N down i true=0
 ·obtain ⟨k,rfl,hk⟩:=MP hm;obtain ⟨x,hx⟩:=pz N hk;have hxd:N.getD k default=x:=by rw [apJ,hx];rfl
  have hxm:=apD hx;have hov:=(g1.nd.b.el x hxm).rd qQ.mo;have hwin:=(g.win x hxm).2;rw [hm];have QJ:=hrd.keep (pI snC) n1.keep;subst hnv;(repeat' (first|refine qq4 ?_|(refine aa4 (fun _=>?_) (fun _=>?_)<;>(first|(exfalso;omega)|skip))));refine ah (u:=.slice na N.length nc) rfl (g1.b.cell (o:=0) rfl) ?_;(repeat' (refine aa1 ?_));refine aO QJ rfl rfl (by omega) hx fun b o cs hl hR hat=>?_;obtain rfl:cs=snC x:=hR;obtain ⟨oa,oc,hoe,_,hom⟩:=hov.form;simp only [maxLen] at hom;(repeat' (refine aa5 ?_));refine ah (u:=svV x.ov) rfl (hat.get 4 rfl) ?_;clear hat;rw [hoe] at hov ⊢;refine qq6 ?_;refine aC (σ:=Nat) (fun q=>[(0,pT bb),(1,vi k),(22,.slice oa x.ol.length oc),(23,vi x.ol.length),(24,vi q)]) (fun q w'=>q<=x.ol.length/\(∀m∈x.ol.take q,aF N m=true)/\New w1 w') (fun q=>x.ol.length-q) 0 (sl rfl) ⟨aoZ _,by simp,aB _ _⟩ ?_;rintro q G w2 ⟨hq,hall,n2⟩;simp only [ql];have g2:=g1.new n2;(repeat' (first|refine qq2 ?_|refine aa2 (fun _=>?_) (fun _=>?_)))
  ·obtain ⟨m,hm2⟩:=pz x.ol (k:=q) (by omega);have hml:=hwin m (apD hm2);obtain ⟨y,hy⟩:=pz N hml;have hya:aF N m=y.asleep:=by unfold aF;rw [apJ,hy];rfl
   refine bC (hov.keep (pF _) n2.keep) rfl rfl (by omega) hm2 fun b o hcell=>?_;refine ah (u:=vi m) rfl hcell ?_;refine qq4 ?_;refine ah (u:=.slice na N.length nc) rfl (g2.b.cell (o:=0) rfl) ?_;(repeat' (refine aa1 ?_));refine aO (QJ.keep (pI snC) n2.keep) rfl rfl (by omega) hy fun b o cs hl hR hat=>?_;obtain rfl:cs=snC y:=hR;(repeat' (refine aa5 ?_));refine ah (u:=.bool y.asleep) rfl (hat.get 5 rfl) ?_;clear hat;cases hys:y.asleep with
   |true=>
    refine qq4 ?_;refine aA (q+1) (sl rfl) ⟨by omega,fun m2 hm3=>?_,n2⟩ (by omega);rw [take_snoc hm2] at hm3;rcases List.mem_append.1 hm3 with h|h
    ·exact hall m2 h
    ·rw [ar2] at h;rw [h,hya,hys]
   |false=>refine qq5 ?_;refine aG rfl rfl rfl ⟨_,rfl,.inr (.inl ⟨hm,?_,rfl,New.trans n1 n2⟩)⟩;rw [ao3,hxd,List.all_eq_false];exact ⟨m,apD hm2,by rw [hya,hys];decide⟩
  ·obtain rfl:q=x.ol.length:=by omega
   rw [apZ] at hall;refine au (Q7 (v:=true) g2 hx) rfl ?_;rintro _ w3 ⟨rfl,g3,c3⟩;refine bF (R:=flat stC) (Pe:=NoB) (y:=(k,true)) Dc rfl rfl rfl rfl (by omega) (by omega) fun v5 w5 o5 n5 s5 e5=>?_;have hz1:=n1.size;have hz2:=n2.size;have hz3:=c3.size;refine qq6 ?_;refine aG rfl rfl rfl ⟨_,rfl,.inr (.inr ⟨hm,?_,v5,rfl,?_,?_,?_⟩)⟩
   ·rw [ao3,hxd,aqS];exact hall
   ·rw [ao3];exact o5.mono (oU _) (fun b _ e=>by have e:w3.heap.size<=b:=e;show W.heap.size<=b;omega) i3
   ·rw [ao3,hxd];exact g3.new n5
   ·exact Chg.trans (Chg.trans (New.trans n1 n2).any c3 i3) n5.any i3
 ·have fin: ∀w',New W w'->Oi Pb bb N ord pV down nv ov sv W i (.tuple #[.slice none 0 0,vi (xZ N down i true)]) w':=fun w' n=>.inl ⟨hm,rfl,n⟩;generalize xZ N down i true=mm at*;(repeat' (first|refine qq4 ?_|(refine aa4 (fun _=>?_) (fun _=>?_)<;>(first|(exfalso;omega)|skip))));exact aG rfl rfl rfl ⟨_,rfl,fin _ n1⟩
theorem Ut (g:BdM Pb bb N ord pV down nv ov sv W) (hl:ord.length<=512):
 Calls prog 19 #[pT bb] W (Ret fun r w'=>oP (Wk.one viN) 3 1 (fun b=>W.heap.size<=b) NoB w' r ord/\New W w'):=by
 obtain ⟨oa,oc,rfl,_,_⟩:=g.od.form;refine oI func19 rfl ntmps19 rfl ?_;refine qq2 ?_;refine gZ rfl rfl ?_;refine qq4 ?_;refine ah (u:=.slice oa ord.length oc) rfl (g.b.cell (o:=1) rfl) ?_;refine au (Ij (g.od.rd (pq _)) (by omega)) rfl ?_;rintro v w1 ⟨o,n⟩;refine qq6 ?_;exact ay rfl rfl ⟨_,rfl,o,n⟩
end
theorem G7 {Pb:Nat->Prop} {w:World} {v:Value} {l:List Sn} {p:Sn->Bool} {g:FuncId} {cap:Array Value} [hc:oN prog g] (h:RdS (flat snC) 6 Pb w v l)
 (hf: ∀y w',y∈l->New w w'->Calls prog g ([Value.agg (snC y).toArray]++cap.toList).toArray w' (Ret fun r w''=>r=.bool (p y)/\New w' w'')):
 Calls prog 52 #[v,.func (.func g) #[] cap] w (Ret fun r w'=>r=vi (idx p l)/\New w w'):=by
 obtain ⟨a,cp,rfl,hc1,hc2⟩:=h.form;simp only [maxLen] at hc2;refine oI func52 rfl ntmps52 rfl ?_;refine qq4 ?_;refine aC (σ:=Nat) (fun i=>[(0,.slice a l.length cp),(1,.func (.func g) #[] cap),(7,vi l.length),(8,vi i)]) (fun i w'=>i<=l.length/\(∀x∈l.take i,p x=false)/\New w w') (fun i=>l.length-i) 0 (sl rfl) ⟨aoZ _,by simp,aB _ _⟩ ?_;rintro i G w1 ⟨hi,hall,n1⟩;simp only [ql];(repeat' (first|refine qq2 ?_|refine aa2 (fun _=>?_) (fun _=>?_)))
 ·obtain ⟨y,hy⟩:=pz l (k:=i) (by omega);refine dF h n1.keep rfl rfl (by omega) hy fun b o cs hl hR hat=>?_;obtain rfl:cs=snC y:=hR;refine aS hat rfl rfl ?_;refine bU (dst:=some 16) rfl (hf y w1 (apD hy) n1) rfl ?_;rintro _ w2 ⟨rfl,n2⟩;simp only [xH];cases hp:p y with
  |true=>refine qq5 ?_;refine ay rfl rfl ⟨_,rfl,?_,New.trans n1 n2⟩;rw [Fe hy hall hp];rfl
  |false=>refine qq3 ?_;exact aA (i+1) (sl rfl) ⟨by omega,Cm hy hall hp,New.trans n1 n2⟩ (by omega)
 ·have e:i=l.length:=by omega
  subst e;rw [apZ] at hall;refine ay rfl rfl ⟨_,rfl,?_,n1⟩;rw [Ad hall];rfl
abbrev wkC (x:Wkr):List Value:=[vi x.1,vs x.2]
theorem Rf {w:World} {b:Nat} {c:Wkr} {x:Sn} (h:Bk w b 75 (wkC c)):
 Calls prog 53 #[.agg (snC x).toArray,.pointer (some ⟨b,0,none⟩)] w (Ret fun r w'=>r=.bool (x.path == c.2)/\New w w'):=by
 refine oI func53 rfl ntmps53 rfl ?_;refine qq0 ?_;refine Wl.box rfl fun w1 b1 n1 s1=>?_;replace b1:Bk w1 w.heap.size 94 (snC x):=b1;replace h:=h.chg n1 id;refine qq2 ?_;refine ah (u:=vs x.path) rfl (b1.cell (o:=0) rfl) ?_;(repeat' (refine aa5 ?_));refine ah (u:=vs c.2) rfl (h.cell (o:=1) rfl) ?_;refine fD rfl rfl (fun e=>?_) (fun e=>?_)
 ·rw [show (x.path == c.2)=true by simpa using e];refine qq6 ?_;exact ay rfl rfl ⟨_,rfl,rfl,n1⟩
 ·rw [show (x.path == c.2)=false by simpa using e];refine qq6 ?_;exact ay rfl rfl ⟨_,rfl,rfl,n1⟩
theorem Oj:rF (flat wkC) 2:=rC _ (fun _=>rfl) fun x c hc=>by simp at hc;rcases hc with rfl|rfl<;>rfl
def sQ (N:List Sn):List Wkr->Int->Int
 | [],_=> -1
 |x::r,k=>if x.1=k/\0<=idx (fun s:Sn=>s.path == x.2) N/\(N.getD (idx (fun s:Sn=>s.path == x.2) N).toNat default).bound=true/\(N.getD (idx (fun s:Sn=>s.path == x.2) N).toNat default).yP=true then idx (fun s:Sn=>s.path == x.2) N else sQ N r k
section
variable {Pb Pw:Nat->Prop} {bb:Nat} {N:List Sn} {ord pV:List Nat} {down:Bool} {nv ov sv wv:Value} {wakes:List Wkr} {W:World}
theorem Uu {k:Int} (g:BdM Pb bb N ord pV down nv ov sv W) (hw:RdS (flat wkC) 2 Pw W wv wakes):
 Calls prog 33 #[pT bb,wv,vi k] W (Ret fun r w'=>r=vi (sQ N wakes k)/\New W w'):=by
 have hnl:=g.nl;obtain ⟨na,nc,rfl,_,_⟩:=g.nd.a.row.form;obtain ⟨wa,wc,rfl,_,hwm⟩:=hw.form;simp only [maxLen] at hwm;have hrd:=g.nd.a.row.rd (oU snC);refine oI func33 rfl ntmps33 rfl ?_;refine qq4 ?_;refine aC (σ:=Nat) (fun q=>[(0,pT bb),(2,vi k),(10,.slice wa wakes.length wc),(11,vi wakes.length),(12,vi q)]) (fun q w'=>q<=wakes.length/\sQ N wakes k=sQ N (wakes.drop q) k/\New W w') (fun q=>wakes.length-q) 0 (sl rfl) ⟨aoZ _,rfl,aB _ _⟩ ?_;rintro q G w1 ⟨hq,hgo,n1⟩;simp only [ql];(repeat' (first|refine qq2 ?_|refine aa2 (fun _=>?_) (fun _=>?_)))
 ·obtain ⟨x,hx⟩:=pz wakes (k:=q) (by omega);rw [drop_cons hx,sQ] at hgo;refine aO (hw.keep (pI wkC) n1.keep) rfl rfl (by omega) hx fun b o cs hl hR hat=>?_;obtain rfl:cs=wkC x:=hR;refine aS hat rfl rfl ?_;clear hat;refine Wl.alloc fun w2 b8 n2 s2=>?_;refine aK (new:=wkC x) b8 rfl rfl rfl rfl zl2 (by intro c hc;simp at hc;rcases hc with rfl|rfl<;>rfl) fun w3 b83 c3 s3=>?_;replace b83:Bk w3 w1.heap.size 75 (wkC x):=b83;have n13:New w1 w3:=(Chg.trans n2.any c3 i3).tN
  have g3:=g.new (New.trans n1 n13);have afw:=(hrd.keep (pI snC) n1.keep).keep (pI snC) n13.keep;clear b8 n2 c3;refine qq4 ?_;refine ah (u:=.slice na N.length nc) rfl (g3.b.cell (o:=0) rfl) ?_;refine dw (f1:=[]) (c1:=[pT w1.heap.size]) rfl rfl ?_;refine au (G7 (p:=fun s=>s.path == x.2) (g:=53) (cap:= #[pT w1.heap.size]) afw fun y w' _ n=>Rf (b83.chg n id)) rfl ?_;rintro _ w4 ⟨rfl,n4⟩;have n04:=New.trans n1 (New.trans n13 n4);have g4:=g.new n04;have b84:=b83.chg n4 id;have afx:=afw.keep (pI snC) n4.keep;have ha:idx (fun s:Sn=>s.path == x.2) N= -1∨ ∃(j:Nat) (y:Sn),idx (fun s:Sn=>s.path == x.2) N=(j:Int)/\N[j]? =some y:=by
   have h:=yF (p:=fun s:Sn=>s.path == x.2) N;unfold idx;cases hf:N.findIdx? (fun s:Sn=>s.path == x.2) with
   |none=>exact .inl rfl
   |some j=>rw [hf] at h;obtain ⟨y,hy,_⟩:=h;exact .inr ⟨j,y,rfl,hy⟩
  generalize idx (fun s:Sn=>s.path == x.2) N=a at*;have next: ∀w',New w4 w'-> ¬(x.1=k/\0<=a/\(N.getD a.toNat default).bound=true/\(N.getD a.toNat default).yP=true)->q+1<=wakes.length/\sQ N wakes k=sQ N (wakes.drop (q+1)) k/\New W w':=fun w' n h=>⟨by omega,by rw [hgo,if_neg h],New.trans n04 n⟩
  refine qq2 ?_;refine ah (u:=vi x.1) rfl (b84.cell (o:=0) rfl) ?_;(repeat' (first|refine qq4 ?_|refine aV rfl rfl (fun _=>?_) (fun _=>?_)|refine bH rfl rfl (fun _=>?_) (fun _=>?_)))
  ·rcases ha with rfl|⟨j,y,rfl,hy⟩
   ·omega
   ·have hj:j<N.length:=(List.getElem?_eq_some_iff.1 hy).1;have hyd:N.getD (j:Int).toNat default=y:=by rw [ao3,apJ,hy];rfl
    rw [hyd] at hgo next
    refine ah (u:=.slice na N.length nc) rfl (g4.b.cell (o:=0) rfl) ?_;refine qq5 ?_;refine aO afx rfl rfl (by omega) hy fun b o cs hl hR hat=>?_;obtain rfl:cs=snC y:=hR;refine qq5 ?_;refine ah (u:=.bool y.bound) rfl (hat.get 1 rfl) ?_;clear hat;cases hyb:y.bound with
    |false=>refine qq4 ?_;exact aA (q+1) (sl rfl) (next w4 (aB _ _) fun h=>by rw [hyb] at h;cases h.2.2.1) (by omega)
    |true=>
     refine qq5 ?_;refine ah (u:=.slice na N.length nc) rfl (g4.b.cell (o:=0) rfl) ?_;refine qq5 ?_;refine aO afx rfl rfl (by omega) hy fun b o cs hl hR hat=>?_;obtain rfl:cs=snC y:=hR;refine qq5 ?_;refine ah (u:=.bool y.yP) rfl (hat.get 2 rfl) ?_;clear hat;cases hyw:y.yP with
     |false=>refine qq4 ?_;exact aA (q+1) (sl rfl) (next w4 (aB _ _) fun h=>by rw [hyw] at h;cases h.2.2.2) (by omega)
     |true=>rw [if_pos ⟨by omega,by omega,hyb,hyw⟩] at hgo;refine qq5 ?_;exact ay rfl rfl ⟨_,rfl,by rw [hgo];rfl,n04⟩
  ·exact aA (q+1) (sl rfl) (next w4 (aB _ _) fun h=>by have:=h.2.1;omega) (by omega)
  ·exact aA (q+1) (sl rfl) (next w4 (aB _ _) fun h=>by have:=h.1;omega) (by omega)
 ·obtain rfl:q=wakes.length:=by omega
  rw [aqi,sQ] at hgo;exact ay rfl rfl ⟨_,rfl,by rw [hgo];rfl,n1⟩
end
def bdN (N:List Sn) (i:Nat):Bool:=(N.getD i default).bound
def ptN (N:List Sn) (i:Nat):Nm:=(N.getD i default).path
def hgN (N:List Sn) (i:Nat):List Nat:=(N.getD i default).hl
def ovN (N:List Sn) (i:Nat):List Nat:=(N.getD i default).ol
theorem uS {N:List Sn} {i:Nat} {x:Sn} (h:N[i]? =some x):bdN N i=x.bound/\ptN N i=x.path/\hgN N i=x.hl/\ovN N i=x.ol:=by
 have e:N.getD i default=x:=by rw [apJ,h];rfl
 unfold bdN ptN hgN ovN;rw [e];exact ⟨rfl,rfl,rfl,rfl⟩
def fnL (n:Nat) (f:Nat->Int):List Int:=(abS n).map f
theorem uH (n:Nat) (f:Nat->Int):(fnL n f).length=n:=by unfold fnL;rw [aqt,arE]
theorem I9 {n k:Nat} {f:Nat->Int} (h:k<n):(fnL n f)[k]? =some (f k):=by unfold fnL;rw [apF,aq3 h];rfl
theorem KH {n:Nat} {f g:Nat->Int} (h: ∀i,i<n->f i=g i):fnL n f=fnL n g:=by
 unfold fnL;exact List.map_congr_left fun i hi=>h i (List.mem_range.1 hi)
theorem Ol {n k:Nat} {f g:Nat->Int} {v:Int} (h: ∀i,g i=if i=k then v else f i):(fnL n f).set k v=fnL n g:=by
 apply ao6;intro i;rw [apo];by_cases hi:i<n
 ·rw [I9 (f:=g) hi,h i];by_cases e:k=i
  ·subst e;rw [if_pos rfl,if_pos (by rw [uH];exact hi),if_pos rfl]
  ·rw [if_neg e,if_neg (fun q=>e q.symm),I9 hi]
 ·rw [aoS (by rw [uH];omega:(fnL n g).length<=i)];by_cases e:k=i
  ·subst e;rw [if_pos rfl,if_neg (by rw [uH];omega)]
  ·rw [if_neg e,aoS (by rw [uH];omega)]
theorem abz (n:Nat):apW n (0:Int)=fnL n fun _=>0:=by
 unfold fnL;rw [ast,arE]
theorem KI: ∀ {l:List Nat} {n:Nat},l.Nodup->(∀k∈l,k<n)->l.length<=n:=by
 intro l n h1 h2;have h3: ∀(m:List Nat) (l:List Nat),l.Nodup->(∀k∈l,k∈m)->l.length<=m.length:=by
  intro m;induction m with
  |nil=>
   intro l _ h;cases l with
   |nil=>exact aat _
   |cons a r=>exact absurd (h a arK) (by simp)
  |cons a r ih=>
   intro l hl h;have:=ih (l.erase a) (hl.erase a) fun k hk=>by
    rcases List.mem_cons.1 (h k (asu hk)) with e|e
    ·subst e;exact absurd hk (by rw [hl.mem_erase_iff];exact fun q=>q.1 rfl)
    ·exact e
   have h4:l.length<=(l.erase a).length+1:=by rw [asv];split<;>omega
   rw [aph];omega
 have:=h3 (abS n) l h1 fun k hk=>List.mem_range.2 (h2 k hk)
 rwa [arE] at this
section
variable {n:Nat} {b:Nat->Bool} {path:Nat->Nm} {h o:Nat->List Nat}
theorem WkI.init:WkI n b h [] fun i=>((h i).length:Nat):=⟨fun k=>by rw [if_neg (by simp)];simp,fun k hk=>(by cases hk),ash,fun k hk=>(by cases hk)⟩
theorem WkI.le {O:List Nat} {L:Nat->Int} (I:WkI n b h O L):O.length<=n:=KI I.nd fun k hk=>(I.bn k hk).1
theorem WkI.low {O:List Nat} {L:Nat->Int} (I:WkI n b h O L) (k:Nat): -1<=L k/\L k<=(h k).length:=by
 rw [I.l k];split
 ·omega
 ·have:(h k).countP (fun j=>decide (j∉O))<=(h k).length:=List.countP_le_length;omega
def xP (o:Nat->List Nat) (L:Nat->Int) (k m:Nat):Nat->Int:=fun i=>(if i=k then-1 else L i)-((((o k).take m).count i:Nat):Int)
theorem Xy {O:List Nat} {L:Nat->Int} {k m:Nat} (I:WkI n b h O L) (hc: ∀j k,(o j).count k=(h k).count j) (hp:Ar n b path L=some k) (i:Nat): -1<=xP o L k m i/\xP o L k m i<=(h i).length:=by
 have h1:=((I.step hc hp).2.2.low i).1;have h2:=(I.low i).2;unfold QY at h1;unfold xP;have h3:((o k).take m).count i<=(o k).count i:=(List.take_sublist _ _).count_le i;split at h1<;>rename_i e
 ·rw [if_pos e];omega
 ·rw [if_neg e];omega
theorem Uw {L:Nat->Int} {k m j:Nat} (hj:(o k)[m]? =some j) (i:Nat):xP o L k (m+1) i=if i=j then xP o L k m j-1 else xP o L k m i:=by
 unfold xP;rw [take_snoc hj];by_cases e:i=j
 ·subst e;rw [if_pos rfl,asw,List.count_singleton_self];omega
 ·rw [if_neg e,asw,List.count_eq_zero.2 (by rw [ar2];exact e:i∉ [j])];omega
end
theorem Rh {Pb:Nat->Prop} {bb:Nat} {N:List Sn} {ord pV:List Nat} {down:Bool} {nv ov sv:Value} {W:World} (g:BdM Pb bb N ord pV down nv ov sv W) (hc: ∀j k,(ovN N j).count k=(hgN N k).count j):
 Calls prog 27 #[pT bb] W (Ret fun r w'=>oP (Wk.one viN) 3 1 (fun b=>W.heap.size<=b) NoB w' r (FV N.length (bdN N) (ptN N) (hgN N) (ovN N))/\New W w'):=by
 have hnl:=g.nl;replace g:=g.mono (Pb':=fun b=>Pb b/\b<W.heap.size) fun b hb e=>⟨e,hb⟩;obtain ⟨na,nc,rfl,_,_⟩:=g.nd.a.row.form;have hrd:=g.nd.a.row.rd (oU snC);refine oI func27 rfl ntmps27 rfl ?_;refine qq4 ?_;refine ah (u:=.slice na N.length nc) rfl (g.b.cell (o:=0) rfl) ?_;(repeat' (refine cu rfl ?_));refine fF (f:=vi) (y0:=(0:Int)) (Pe:=NoB) rfl rfl rfl (by omega) (by omega) (by omega) fun lv w1 o1 n1=>?_;rw [ao3,abz] at o1;have g1:=g.new n1;refine qq4 ?_;refine ah (u:=.slice na N.length nc) rfl (g1.b.cell (o:=0) rfl) ?_;refine qq6 ?_;refine aC (σ:=Nat) (fun q=>[(0,pT bb),(3,lv),(21,.slice na N.length nc),(22,vi N.length),(23,vi q)]) (fun q W'=>q<=N.length/\oP (Wk.one vi) 3 1 (fun b=>W.heap.size<=b) NoB W' lv (fnL N.length fun i=>if i<q then ((hgN N i).length:Nat) else 0)/\New W W') (fun q=>N.length-q) 0 (sl rfl) ⟨aoZ _,by rw [KH (g:=fun _=>0) fun i _=>if_neg (Nat.not_lt_zero i)];exact o1,n1⟩ ?_;rintro q G w2 ⟨hq,own,n2⟩;simp only [ql];have hlo: ∀k,lv.ownBlock=some k->W.heap.size<=k:=fun k hk=>(own.lt hk).1;(repeat' (first|refine qq2 ?_|refine aa2 (fun _=>?_) (fun _=>?_)))
 ·obtain ⟨x,hx⟩:=pz N (k:=q) (by omega);have hxm:=apD hx;have hxg:=uS hx;refine dF hrd n2.keep rfl rfl (by omega) hx fun b o cs hl hR hat=>?_;obtain rfl:cs=snC x:=hR;refine aS hat rfl rfl ?_;clear hat;refine Wl.alloc fun w3 b3 n3 s3=>?_;(repeat' (refine aa7 ?_));refine aK (new:=snC x) b3 rfl rfl rfl rfl zl6 (adk x) fun w4 b4 c4 s4=>?_;replace b4:Bk w4 w2.heap.size 94 (snC x):=b4;have n24:New w2 w4:=(Chg.trans n3.any c4 i3).tN
  clear b3 n3 c4;obtain ⟨ha,hcp,hhe,_,hhm⟩:=(g.nd.a.el x hxm).form;simp only [maxLen] at hhm;refine qq2 ?_;refine ah (u:=svV x.hv) rfl (b4.cell (o:=3) rfl) ?_;rw [hhe];(repeat' (refine cu rfl ?_));have own4:=own.new (oJ _) n24;obtain ⟨lg,lc,hlv,_,_,_⟩:=own4.blk (by intro e;have:=congrArg aq0 e;rw [uH,apK] at this;omega);rw [uH] at hlv;refine dB (b:=lg) (off:=0) (l:=N.length) (cap:=lc) hlv rfl (by omega) (by omega) ?_;refine dR (f:=vi) (q:=((x.hl.length:Nat):Int)) (j:=q) (cap:=lc) own4 (by rw [uH];exact hlv) (by rw [uH];omega) (by show Value.pointer (some ⟨lg,0+(q:Int).toNat*1,none⟩)=_;simp) rfl rfl rfl fun w5 o5 c5=>?_;rw [Ol (g:=fun i=>if i<q+1 then ((hgN N i).length:Nat) else 0) (fun i=>by
   by_cases e:i=q
   ·subst e;rw [if_pos rfl,if_pos (by omega),hxg.2.2.1]
   ·rw [if_neg e];by_cases e2:i<q
    ·rw [if_pos e2,if_pos (by omega)]
    ·rw [if_neg e2,if_neg (by omega)])] at o5
  refine qq4 ?_;exact aA (q+1) (sl rfl) ⟨by omega,o5,(Chg.trans (New.trans n2 n24).any c5 i3).toNew fun k hk e=>by have:=hlo k e;omega⟩ (by omega)
 obtain rfl:q=N.length:=by omega
 rw [KH (g:=fun i=>((hgN N i).length:Nat)) fun i hi=>if_pos hi] at own;refine aC (σ:=List Nat×(Nat->Int)×Value) (fun q=>[(0,pT bb),(3,lv),(6,q.2.2)]) (fun q W'=>WkI N.length (bdN N) (hgN N) q.1 q.2.1/\FV N.length (bdN N) (ptN N) (hgN N) (ovN N)=q.1++yN N.length (bdN N) (ptN N) (ovN N) (N.length+1-q.1.length) q.2.1/\oP (Wk.one vi) 3 1 (fun b=>W.heap.size<=b) NoB W' lv (fnL N.length q.2.1)/\oP (Wk.one viN) 3 1 (fun b=>W.heap.size<=b) NoB W' q.2.2 q.1/\Sep lv q.2.2/\New W W') (fun q=>N.length-q.1.length) ([],(fun i=>((hgN N i).length:Nat)),.slice none 0 0) (sl rfl) ⟨WkI.init,rfl,own,aN,(fun k _ e=>by cases e),n2⟩ ?_;clear own o1 n1 g1 n2;rintro ⟨O,L,v⟩ G0 w3 ⟨hI,hgo,own,oO,hsep,n3⟩;dsimp only at hI hgo own oO hsep n3;simp only [ql];have hOl:=hI.le;have g3:=g.new n3;refine qq4 ?_;refine ah (u:=.slice na N.length nc) rfl (g3.b.cell (o:=0) rfl) ?_;refine qq6 ?_;refine aC (σ:=Nat×Option Nat) (fun q=>[(0,pT bb),(3,lv),(6,v),(7,vi (qC q.2)),(38,.slice na N.length nc),(39,vi N.length),(40,vi q.1)]) (fun q W'=>q.1<=N.length/\Ar N.length (bdN N) (ptN N) L=uZ (bdN N) (ptN N) L q.2 ((abS N.length).drop q.1)/\(∀j,q.2=some j->j<N.length)/\New w3 W') (fun q=>N.length-q.1) (0,none) (sl rfl) ⟨aoZ _,rfl,(fun j e=>by cases e),aB _ _⟩ ?_;rintro ⟨q,a⟩ G w4 ⟨hq,hpk,haj,n4⟩;dsimp only at hq hpk haj n4;simp only [ql];(repeat' (first|refine qq1 ?_|refine aa2 (fun _=>?_) (fun _=>?_)))
 ·obtain ⟨x,hx⟩:=pz N (k:=q) (by omega);have hxg:=uS hx;rw [drop_cons (show (abS N.length)[q]? =some q by rw [aq3 (by omega)]),uZ,hxg.1,hxg.2.1] at hpk;have n04:=New.trans n3 n4;refine dF hrd n04.keep rfl rfl (by omega) hx fun b o cs hl hR hat=>?_;obtain rfl:cs=snC x:=hR;refine aS hat rfl rfl ?_;clear hat;refine Wl.alloc fun w5 b5 n5 s5=>?_;(repeat' (refine aa7 ?_));refine aK (new:=snC x) b5 rfl rfl rfl rfl zl6 (adk x) fun w6 b6 c6 s6=>?_;replace b6:Bk w6 w4.heap.size 94 (snC x):=b6;have n46:New w4 w6:=(Chg.trans n5.any c6 i3).tN
  clear b5 n5 c6;have n36:=New.trans n4 n46;have nx0: ∀w',New w6 w'-> ¬(x.bound=true/\L q=0/\ ∀j,a=some j->x.path<ptN N j)->q+1<=N.length/\Ar N.length (bdN N) (ptN N) L=uZ (bdN N) (ptN N) L a ((abS N.length).drop (q+1))/\(∀j,a=some j->j<N.length)/\New w3 w':=fun w' n h=>by rw [if_neg h] at hpk;exact ⟨by omega,hpk,haj,New.trans n36 n⟩
  have nx1: ∀w',New w6 w'->(x.bound=true/\L q=0/\ ∀j,a=some j->x.path<ptN N j)->q+1<=N.length/\Ar N.length (bdN N) (ptN N) L=uZ (bdN N) (ptN N) L (some q) ((abS N.length).drop (q+1))/\(∀j,some q=some j->j<N.length)/\New w3 w':=fun w' n h=>by rw [if_pos h] at hpk;exact ⟨by omega,hpk,fun j e=>by cases e;omega,New.trans n36 n⟩
  clear hpk;have g6:=g.new (New.trans n3 n36);have oL:=(own.new (oJ _) n36).rd (pq _);have hLq:=I9 (f:=L) (show q<N.length by omega);refine qq1 ?_;refine fG rfl (by kernel_rfl) ?_;(repeat' (refine aa6 ?_));refine ax (u:=.bool x.bound) rfl (fun w' hw=>(b6.chg hw id).cell (o:=1) rfl) ?_;cases hb:x.bound with
  |false=>refine qq7 ?_;intro w7 n7;refine qq3 ?_;exact aA (q+1,a) (sl rfl) (nx0 w7 n7 fun h=>by rw [hb] at h;cases h.1) (by dsimp only;omega)
  |true=>
   (repeat' (first|refine aa3 ?_|refine bY rfl rfl ?_));refine dD oL (fun w' hw=>hw.keep) rfl rfl (by omega) hLq fun b o hcell=>?_;(try refine bY rfl rfl ?_);refine ax (u:=vi (L q)) rfl hcell ?_;clear hcell;by_cases hL0:L q=0
   ·rw [hL0];cases a with
    |none=>rw [show qC none=(-1:Int) from rfl];(repeat' (first|refine aa3 ?_|refine af ?_|refine bY rfl rfl ?_|refine iH rfl rfl ?_|refine dI rfl (by conv=>{lhs;whnf}) ?_|(refine dQ rfl rfl (fun _=>?_) (fun _=>?_)<;>(first|(exfalso;omega)|skip))|(refine gY rfl rfl (fun _=>?_) (fun _=>?_)<;>(first|(exfalso;omega)|skip))));intro w7 n7;refine qq4 ?_;exact aA (q+1,some q) (sl rfl) (nx1 w7 n7 ⟨hb,hL0,fun j e=>by cases e⟩) (by dsimp only;omega)
    |some j=>
     rw [show qC (some j)=(j:Int) from rfl];have hjl:=haj j rfl;obtain ⟨y,hy⟩:=pz N hjl;have hyg:=uS hy;(repeat' (first|refine qq7 ?_|(refine dQ rfl rfl (fun _=>?_) (fun _=>?_)<;>(first|(exfalso;omega)|skip))|(refine gY rfl rfl (fun _=>?_) (fun _=>?_)<;>(first|(exfalso;omega)|skip))));refine ax (u:=vs x.path) rfl (fun w' hw=>(b6.chg hw id).cell (o:=0) rfl) ?_;refine qq7 ?_;refine ax (u:=.slice na N.length nc) rfl (fun w' hw=>(g6.b.chg hw id).cell (o:=0) rfl) ?_;(repeat' (first|refine aa3 ?_|refine bY rfl rfl ?_));refine aY (w:=w6) (hrd.keep (pI snC) (New.trans n3 n36).keep) (fun w' hw=>hw.keep) rfl rfl (by omega) hy fun b o cs hl hR hat=>?_;obtain rfl:cs=snC y:=hR;refine qq7 ?_;refine ax (u:=vs y.path) rfl (fun w' hw=>(hat w' hw).get 0 rfl) ?_;(try refine bY rfl rfl ?_);refine kV rfl rfl (fun e=>?_) (fun e=>?_)
     ·refine qq7 ?_;intro w7 n7;refine qq4 ?_;exact aA (q+1,some q) (sl rfl) (nx1 w7 n7 ⟨hb,hL0,fun j' e'=>by cases e';rw [hyg.2.1];exact e⟩) (by dsimp only;omega)
     ·refine qq7 ?_;intro w7 n7;refine qq3 ?_;exact aA (q+1,some j) (sl rfl) (nx0 w7 n7 fun h=>e (by have:=h.2.2 j rfl;rwa [hyg.2.1] at this)) (by dsimp only;omega)
   ·(repeat' (first|refine qq7 ?_|(refine gY rfl rfl (fun _=>?_) (fun _=>?_)<;>(first|(exfalso;omega)|skip))));intro w7 n7;refine qq3 ?_;exact aA (q+1,a) (sl rfl) (nx0 w7 n7 fun h=>hL0 h.2.1) (by dsimp only;omega)
 ·have n04:=New.trans n3 n4;obtain rfl:q=N.length:=by omega
  rw [aqo (by rw [arE];exact aat _),uZ] at hpk;rw [show N.length+1-O.length=(N.length-O.length)+1 by omega,yN,hpk] at hgo;have e0:qC a<0:=by omega
  cases a with
  |none=>dsimp only at hgo;rw [aqJ] at hgo;exact ay rfl rfl ⟨_,rfl,by rw [hgo];exact oO.new (oJ _) n4,n04⟩
  |some k=>have e1:qC (some k)=(k:Int):=rfl;omega
 ·have n04:=New.trans n3 n4;obtain rfl:q=N.length:=by omega
  rw [aqo (by rw [arE];exact aat _),uZ] at hpk;rw [show N.length+1-O.length=(N.length-O.length)+1 by omega,yN,hpk] at hgo;have e0: ¬qC a<0:=by omega
  cases a with
  |none=>exact absurd (show qC none<0 by decide) e0
  |some k=>
   clear e0;dsimp only at hgo;have own4:=own.new (oJ _) n4;have oO4:=oO.new (oJ _) n4;obtain ⟨hkl,hkb,hkL⟩:=EG hpk;obtain ⟨x,hx⟩:=pz N hkl;have hxg:=uS hx;have hxm:=apD hx;obtain ⟨hkO,_,hI'⟩:=hI.step hc hpk;have ako:=hI'.le;rw [adL,apm] at ako;obtain ⟨lg,lc,hlv,_,_,_⟩:=own4.blk (by intro e;have:=congrArg aq0 e;rw [uH,apK] at this;omega);rw [uH] at hlv;rw [show qC (some k)=(k:Int) from rfl];refine dB (b:=lg) (off:=0) (l:=N.length) (cap:=lc) hlv rfl (by omega) (by omega) ?_;refine dR (f:=vi) (q:=(-1:Int)) (j:=k) (cap:=lc) own4 (by rw [uH];exact hlv) (by rw [uH];omega) (by show Value.pointer (some ⟨lg,0+(k:Int).toNat*1,none⟩)=_;simp) rfl rfl rfl fun w5 o5 c5=>?_;rw [Ol (g:=xP (ovN N) L k 0) (fun i=>by unfold xP;rw [apB,List.count_nil];split<;>simp)] at o5;have n5:New W w5:=(Chg.trans n04.any c5 i3).toNew fun j hj e=>by have:=hlo j e;omega
   have g5:=g.new n5;have oO5:=oO4.chg (oJ _) c5 fun j hj e=>hsep j e hj;clear own4 oO4 c5 n04 own oO n4;refine qq4 ?_;refine ah (u:=.slice na N.length nc) rfl (g5.b.cell (o:=0) rfl) ?_;(repeat' (refine aa1 ?_));refine dF hrd n5.keep rfl rfl (by omega) hx fun b o cs hl hR hat=>?_;obtain rfl:cs=snC x:=hR;obtain ⟨oa,oc,hoe,_,hom⟩:=((g.nd.b.el x hxm).rd qQ.mo).form;simp only [maxLen] at hom;(repeat' (refine aa5 ?_));refine ah (u:=svV x.ov) rfl (hat.get 4 rfl) ?_;clear hat;have hov:=(g5.nd.b.el x hxm).rd qQ.mo;rw [hoe] at hov ⊢;refine qq6 ?_;refine aC (σ:=Nat) (fun q=>[(0,pT bb),(3,lv),(6,v),(7,vi k),(86,.slice oa x.ol.length oc),(87,vi x.ol.length),(88,vi q)]) (fun q W'=>q<=x.ol.length/\oP (Wk.one vi) 3 1 (fun b=>W.heap.size<=b) NoB W' lv (fnL N.length (xP (ovN N) L k q))/\Chg (fun b=>lv.ownBlock=some b) w5 W') (fun q=>x.ol.length-q) 0 (sl rfl) ⟨aoZ _,o5,aB _ _⟩ ?_;rintro m G w6 ⟨hm,o6,c6⟩;simp only [ql];(repeat' (first|refine qq2 ?_|refine aa2 (fun _=>?_) (fun _=>?_)))
   ·obtain ⟨j,hj⟩:=pz x.ol (k:=m) (by omega);have hjl:=(g.win x hxm).2 j (apD hj);obtain ⟨y,hy⟩:=pz N hjl;have hyg:=uS hy;obtain ⟨ya,yc,hye,_,hym⟩:=((g.nd.a.el y (apD hy)).rd qQ.mo).form;simp only [maxLen] at hym;have hlow:=Xy (m:=m) hI hc hpk j;rw [hyg.2.2.1] at hlow;refine bC (hov.keep (pF _) (c6.keep fun b _ hb e=>by have:=hlo b e;have:=(hb.elim id fun q=>q.elim).2;omega)) rfl rfl (by omega) hj fun b o hcell=>?_;refine ah (u:=vi j) rfl hcell ?_;refine qq0 ?_;refine dB (b:=lg) (off:=0) (l:=N.length) (cap:=lc) hlv rfl (by omega) (by omega) ?_;refine ah (u:=vi (xP (ovN N) L k m j)) rfl (show w6.cell? ⟨lg,0+(j:Int).toNat*1,none⟩=some (vi (xP (ovN N) L k m j)) by have:=o6.cell1 hlv (I9 (f:=xP (ovN N) L k m) hjl);simpa using this) ?_;(repeat' (refine Wl.sub rfl rfl (by omega) (by omega) ?_));refine dB (b:=lg) (off:=0) (l:=N.length) (cap:=lc) hlv rfl (by omega) (by omega) ?_;refine dR (f:=vi) (q:=xP (ovN N) L k m j-1) (j:=j) (cap:=lc) o6 (by rw [uH];exact hlv) (by rw [uH];omega) (by show Value.pointer (some ⟨lg,0+(j:Int).toNat*1,none⟩)=_;simp) rfl rfl rfl fun w7 o7 c7=>?_;rw [Ol (g:=xP (ovN N) L k (m+1)) (Uw (by rw [hxg.2.2.2];exact hj))] at o7;refine qq4 ?_;exact aA (m+1) (sl rfl) ⟨by omega,o7,Chg.trans c6 c7 i3⟩ (by omega)
   ·obtain rfl:m=x.ol.length:=by omega
    rw [KH (g:=QY (ovN N) L k) fun i _=>by unfold xP QY;rw [hxg.2.2.2,apZ]] at o6;have oO6:=oO5.chg (oJ _) c6 fun j hj e=>hsep j e hj;have n6:New W w6:=(Chg.trans n5.any c6 i3).toNew fun j hj e=>by have:=hlo j e;omega
    have hlO: ∀j,v.ownBlock=some j->W.heap.size<=j:=fun j hj=>(oO6.lt hj).1;have hz6:=n6.size;refine bZ (R:=Wk.one viN) (y:=k) qQ oO6 rfl rfl rfl rfl rfl (by omega) (by omega) (by simp only [maxLen];omega) (by omega) rfl rfl fun v7 w7 p o7 c7 lie=>?_;refine qq0 ?_;refine aA (O++ [k],QY (ovN N) L k,v7) (sl rfl) ⟨hI',?_,o6.chg (oJ _) c7 fun j hj e=>hsep j hj e,o7.mono (pq _) (fun b _ e=>e.elim id fun e=>by have e:w6.heap.size<=b:=e;show W.heap.size<=b;omega) i3,?_,(Chg.trans n6.any c7 i3).toNew fun j hj e=>by have:=hlO j e;omega⟩ ?_
    ·dsimp only;rw [hgo,adI,adL,apm,show N.length+1-(O.length+1)=N.length-O.length by omega];rfl
    ·intro j e1 e2;rcases lie with l|l
     ·exact hsep j e1 (l▸e2)
     ·have:=l j e2;have:=(o6.lt e1).2;omega
    ·dsimp only;rw [adL,apm];omega
def SqB (Pb:Nat->Prop) (bs:Nat) (v:Value) (l:List Nat) (W:World):Prop:=Bk W bs 65 [v]/\RdS (Wk.one viN) 1 Pb W v l
def yS (l:List Nat) (k:Nat):Nat:=l.getD (l.length-1-k) 0
theorem KJ {l:List Nat} {k:Nat} (h:k<l.length):l.reverse[k]? =some (yS l k):=by
 unfold yS;rw [List.getElem?_reverse h,apJ];obtain ⟨y,hy⟩:=pz l (k:=l.length-1-k) (by omega);rw [hy];rfl
theorem MQ {Pb:Nat->Prop} {bs:Nat} {v:Value} {l:List Nat}:Vm prog 50 #[pT bs] l.length (fun k=> #[vi ((l.length-1-k:Nat):Int),vi (yS l k)]) (SqB Pb bs v l):=by
 intro L J Jx W hRd hN hY h0;obtain ⟨hb,hr⟩:=hRd _ _ h0;obtain ⟨a,cp,rfl,hc1,hc2⟩:=hr.form;simp only [maxLen] at hc2;show CallsIn Fence.wide 0 prog _ ([.func (.yield L) #[] #[],pT bs]:List Value).toArray W _;refine jO func50 rfl ntmps50 rfl ?_;(repeat' (first|refine di ?_|refine bP rfl (by repeat' (first|exact Qfn.out (by rintro _ ⟨⟨_,e⟩,_⟩;cases e)|exact Qrd.out|exact Qas.out|refine Qsr.out ?_|refine oZ.out ?_|refine Qsc.out ?_|refine qH.out ?_)) ?_));refine ah rfl (hb.cell (o:=0) rfl) ?_;(repeat' (first|refine aa7 ?_|refine ak ?_|refine cu rfl ?_|refine bQ ?_|refine Wr.block ?_|refine Wl.sub rfl rfl (by omega) (by omega) ?_));refine jL (σ:=Nat) (fun k=>[(0,.func (.yield L) #[] #[]),(1,pT bs),(3,vi ((l.length:Int)-1-(k:Int)))]) (fun k W'=>k<=l.length/\J k W') (fun k=>l.length-k) 0 ⟨rfl,rfl,by show vi ((l.length:Int)-1)=vi ((l.length:Int)-1-((0:Nat):Int));simp,trivial⟩ ⟨aoZ _,h0⟩ ?_;rintro k G W1 ⟨hk,hJ⟩;obtain ⟨hb1,hr1⟩:=hRd _ _ hJ;simp only [ql];obtain ⟨m,hm⟩: ∃m:Int,(l.length:Int)-1-(k:Int)=m:=⟨_,rfl⟩;rw [hm];(repeat' (refine di ?_));refine bP rfl (by repeat' (first|exact Qfn.out (by rintro _ ⟨⟨_,e⟩,_⟩;cases e)|exact Qrd.out|exact Qas.out|refine Qsr.out ?_|refine oZ.out ?_|refine Qsc.out ?_|refine qH.out ?_)) ?_;(repeat' (first|refine aa1 ?_|refine ak ?_|refine bQ ?_|refine di ?_|refine Wr.block ?_|refine Wr.skip ?_|refine iO ?_|refine iP ?_|refine dO ?_|refine dS ?_|refine eH rfl ?_|refine eP rfl ?_|refine aV rfl rfl (fun _=>?_) (fun _=>?_)))
 ·obtain ⟨q,rfl⟩:=aoR (show 0<=m by omega);obtain ⟨y,hy⟩:=pz l (k:=q) (by omega);have hq:q=l.length-1-k:=by omega
  have hg:yS l k=y:=by unfold yS;rw [<-hq,apJ,hy];rfl
  refine jM (l1:=[_,_,_,_,_,_]) (l2:=[_]) rfl rfl rfl (by repeat' (first|exact Qfn.out (by rintro _ ⟨⟨_,e⟩,_⟩;cases e)|exact Qrd.out|exact Qas.out|refine Qsr.out ?_|refine oZ.out ?_|refine Qsc.out ?_|refine qH.out ?_)) ?_;(repeat' (refine aa1 ?_));refine ah rfl (hb1.cell (o:=0) rfl) ?_;(repeat' (refine aa1 ?_));refine bC hr1 rfl rfl (by omega) hy fun bb o hcell=>?_;refine ah (u:=vi y) rfl hcell ?_;(repeat' (refine ak ?_));refine ⟨rfl,L,vi q,vi y,rfl,rfl,rfl,?_⟩;have hy2:=hY k W1 (by omega) hJ;dsimp only at hy2;rw [hg, <-hq] at hy2;refine Wk.YieldAt.mono hy2 ?_;rintro e W4 (⟨rfl,hJ4⟩|⟨rfl,hJ4⟩)
  ·refine ⟨_,rfl,?_⟩;(repeat' (first|refine aa1 ?_|refine aa7 ?_|refine ak ?_|refine dn rfl ?_|refine bQ ?_|refine bP rfl (by repeat' (first|exact Qfn.out (by rintro _ ⟨⟨_,e⟩,_⟩;cases e)|exact Qrd.out|exact Qas.out|refine Qsr.out ?_|refine oZ.out ?_|refine Qsc.out ?_|refine qH.out ?_)) ?_|refine Wr.skip ?_|refine dM ?_|refine eP rfl ?_|refine Wl.sub rfl rfl (by omega) (by omega) ?_));exact aA (k+1) ⟨rfl,rfl,by show vi ((q:Int)-1)=vi ((l.length:Int)-1-((k+1:Nat):Int));congr 1;omega,trivial⟩ ⟨by omega,hJ4⟩ (by omega)
  ·refine ⟨_,rfl,?_⟩;(repeat' (first|refine ak ?_|refine dn rfl ?_|refine bQ ?_|refine jJ ?_|refine jK ?_|refine gI ?_|refine gK ?_|refine eH rfl ?_));exact fE rfl ⟨⟨_,rfl⟩,.inr hJ4⟩
 ·have e:k=l.length:=by omega
  subst e;exact dh rfl ⟨⟨_,rfl⟩,.inl hJ⟩
theorem DX {w:World} {v:Value} {a:Option Addr} {n m:Nat} (hv:v=.slice a n m):
 Calls prog 28 #[v] w (Ret fun r w'=>r=.func (.func 50) #[] #[pT w.heap.size]/\Bk w' w.heap.size 65 [v]/\New w w'):=by
 subst hv;refine oI func28 rfl ntmps28 rfl ?_;refine qq0 ?_;refine Wl.box rfl fun w1 b1 n1 s1=>?_;replace b1:Bk w1 w.heap.size 65 [.slice a n m]:=b1;refine qq1 ?_;refine dw (f1:=[]) (c1:=[pT w.heap.size]) rfl rfl ?_;refine qq6 ?_;exact ay rfl rfl ⟨_,rfl,rfl,b1,n1⟩
def snA (N:List Sn) (A:As):List Sn:=(abS N.length).map fun i=>{N.getD i default with asleep:=A i}
theorem tu (N:List Sn) (A:As):(snA N A).length=N.length:=by unfold snA;rw [aqt,arE]
theorem x8 {N:List Sn} {A:As} {i:Nat} (h:i<N.length):(snA N A)[i]? =some {N.getD i default with asleep:=A i}:=by unfold snA;rw [apF,aq3 h];rfl
theorem Ri {N:List Sn} {A:As} {i:Nat} (h:i<N.length):(snA N A).getD i default={N.getD i default with asleep:=A i}:=by rw [apJ,x8 h];rfl
theorem VD {N:List Sn} {A:As} {i:Nat} (h: ¬i<N.length):(snA N A).getD i default=N.getD i default:=by rw [apJ,apJ,aoS (by rw [tu];omega),aoS (by omega)]
theorem FZ (N:List Sn) (A:As) (i:Nat):bdN (snA N A) i=bdN N i/\ptN (snA N A) i=ptN N i/\hgN (snA N A) i=hgN N i/\ovN (snA N A) i=ovN N i:=by
 unfold bdN ptN hgN ovN;by_cases h:i<N.length
 ·rw [Ri h];exact ⟨rfl,rfl,rfl,rfl⟩
 ·rw [VD h];exact ⟨rfl,rfl,rfl,rfl⟩
theorem Om {N:List Sn} {A:As} {i:Nat} (h:i<N.length):aF (snA N A) i=A i:=by unfold aF;rw [Ri h]
theorem VE {N:List Sn} {A:As} {i:Nat} {v:Bool} (h:i<N.length):(snA N A).set i {({N.getD i default with asleep:=A i}:Sn) with asleep:=v}=snA N (ve A i v):=by
 apply ao6;intro k;rw [apo];by_cases hk:k<N.length
 ·rw [x8 (A:=ve A i v) hk];by_cases e:i=k
  ·subst e;rw [if_pos rfl,if_pos (by rw [tu];exact hk),ug]
  ·rw [if_neg e,x8 hk,uG (fun q=>e q.symm)]
 ·rw [aoS (l:=snA N (ve A i v)) (by rw [tu];omega)];by_cases e:i=k
  ·subst e;exact absurd h hk
  ·rw [if_neg e,aoS (by rw [tu];omega)]
theorem ZF (N:List Sn):snA N (aF N)=N:=by
 apply ao6;intro k;by_cases hk:k<N.length
 ·rw [x8 hk];obtain ⟨x,hx⟩:=pz N hk;have e:N.getD k default=x:=by rw [apJ,hx];rfl
  unfold aF;rw [e,hx]
 ·rw [aoS (by rw [tu];omega),aoS (by omega)]
section
variable {Pb:Nat->Prop} {bb:Nat} {N:List Sn} {A:As} {ord pV:List Nat} {down:Bool} {nv ov sv:Value} {W:World}
theorem Dx {i:Nat} {v:Bool} (g:BdM Pb bb (snA N A) ord pV down nv ov sv W) (hi:i<N.length):
 Calls prog 29 #[pT bb,vi i,.bool v] W (Ret fun r w'=>r=.agg #[vi i,.bool v]/\BdM Pb bb (snA N (ve A i v)) ord pV down nv ov sv w'/\Chg (fun k=>nv.ownBlock=some k) W w'):=
 (Q7 (v:=v) g (x8 hi)).mono fun e w' h=>by obtain ⟨r,rfl,h1,h2,h3⟩:=h;rw [VE hi] at h2;exact ⟨r,rfl,h1,h2,h3⟩
theorem Oo (l:List Nat):(dnS l).length=l.length:=by unfold dnS;rw [aqt,asx]
theorem ZG {l:List Nat} {k:Nat} (h:k<l.length):(dnS l)[k]? =some (yS l k,false):=by
 unfold dnS;rw [apF,KJ h];rfl
theorem KL {l:List Nat} {k:Nat} (h:k<l.length):yS l k∈l:=by
 have:=apD (KJ h)
 rwa [List.mem_reverse] at this
theorem yt (A:As) (l:List Stp) (i:Nat) (v:Bool):rP A (l++ [(i,v)])=ve (rP A l) i v:=by rw [zD];rfl
def abA (Pb:Nat->Prop) (bb:Nat) (N:List Sn) (A:As) (ord pV:List Nat) (down:Bool) (nv ov:Value) (W:World) (r:Value) (w':World):Prop:=
 (down=false/\r=.tuple #[.slice none 0 0,vi 5]/\New W w')∨
 (down=true/\ ∃v,r=.tuple #[v,vi 0]/\oP (flat stC) 64 2 (fun b=>W.heap.size<=b) NoB w' v (dnS pV)/\
   BdM Pb bb (snA N (rP A (dnS pV))) ord [] false nv ov (.slice none 0 0) w'/\Chg (fun k=>nv.ownBlock=some k∨k=bb) W w')
theorem Rj (g:BdM Pb bb (snA N A) ord pV down nv ov sv W) (hs: ∀i∈pV,i<N.length) (hsl:pV.length<=512):
 Calls prog 14 #[pT bb] W (Ret fun r w'=>abA Pb bb N A ord pV down nv ov W r w'):=by
 obtain ⟨sa,sc,rfl,_,_⟩:=g.sl.form;replace g:=g.mono (Pb':=fun b=>Pb b/\b<W.heap.size) fun b hb e=>⟨e,hb⟩;refine xB func14 rfl ntmps14 rfl ?_;refine Az ?_;refine Wl.box rfl fun w1 b1 n1 s1=>?_;replace b1:Bk w1 W.heap.size 38 [pT bb]:=b1;refine AA ?_;refine ah (u:=pT bb) rfl (b1.cell (o:=0) rfl) ?_;refine gZ rfl rfl ?_;refine AA ?_;refine ah (u:=pT bb) rfl (b1.cell (o:=0) rfl) ?_;have g1:=g.new n1;refine DF ?_;refine ah (u:=.bool down) rfl (g1.b.cell (o:=3) rfl) ?_;cases hdn:down with
 |false=>refine Az ?_;exact dL (rO rfl (qy rfl) (qy rfl)) ⟨_,rfl,.inl ⟨rfl,rfl,n1⟩⟩
 |true=>
 subst hdn;(repeat' (first|refine aa7 ?_|refine ak ?_|refine dn rfl ?_|refine dV ?_|refine iR rfl ?_|refine dJ ?_|refine fM ?_|refine eU ?_|refine Wd.skip ?_));refine Wl.alloc fun w2 b2 n2 s2=>?_;replace b2:Bk w2 w1.heap.size 46 [.slice none 0 0]:=b2;have b12:=b1.chg n2 id;have g2:=g1.new n2;refine AA ?_;refine ah (u:=pT bb) rfl (b12.cell (o:=0) rfl) ?_;refine DF ?_;refine ah (u:=.slice sa pV.length sc) rfl (g2.b.cell (o:=2) rfl) ?_;refine au (DX rfl) rfl ?_;rintro _ w3 ⟨rfl,b3,n3⟩;have hz1:=n1.size;have hz2:=n2.size;have hz3:=n3.size;have adn:=b1.lt;have Zg:=b2.lt;have ac4:=b3.lt;generalize hbs:w2.heap.size=bs at*;generalize hbl:w1.heap.size=bl at*;have g3:=g2.new n3;have b13:=b12.chg n3 id;have b23:=b2.chg n3 id;have hnv: ∀j,nv.ownBlock=some j->j<W.heap.size:=fun j e=>(g.nd.a.row.lt e).1.2;have n03:=New.trans n1 (New.trans n2 n3);have akp:bb<W.heap.size:=g.lo.2;clear b1 b2 b12 g1 g2 n1 n2 n3;let I:Nat->World->Prop:=fun k V=>Chg (fun j=>nv.ownBlock=some j) W V/\w3.heap.size+2<=V.heap.size/\Bk V bs 65 [.slice sa pV.length sc]/\Bk V W.heap.size 38 [pT bb]/\BdM (fun b=>Pb b/\b<W.heap.size) bb (snA N (rP A ((dnS pV).take k))) ord pV true nv ov (.slice sa pV.length sc) V/\ ∃lv,Bk V bl 46 [lv]/\oP (flat stC) 64 2 (fun b=>W.heap.size<=b) NoB V lv ((dnS pV).take k);refine Az ?_;refine iC (gf:=50) (lb:= #[pT bs]) rfl (fun args _=>rE inferInstance args) (MQ (Pb:=fun _=>True) (bs:=bs) (v:=.slice sa pV.length sc) (l:=pV)) (fun k=>rfl) I (fun _ _=>False) ?_ ?_ ?_ ?_ ?_ ?_ ?_ ?_ ?_
 ·exact fun k V h=>⟨h.2.2.1,(h.2.2.2.2.1.sl.rd (pq _)).mono (pq _) fun _ _ _=>trivial⟩
 ·rintro k V V' ⟨h1,h2,h3,h4,h5,lv,h6,h7⟩ n;exact ⟨Chg.trans h1 n.any i3,aru h2 n.size,h3.chg n id,h4.chg n id,h5.new n,lv,h6.chg n id,h7.new (oH _) n⟩
 ·rintro k V r1 r2 ⟨h1,h2,h3,h4,h5,lv,h6,h7⟩ hL;have nL:NoC V (w3.heap.size+1):=.loop hL;exact ⟨h1.put _ (by omega),by simpa using h2,h3.put _ nL,h4.put _ nL,h5.chg (Chg.putObj V _ _) (fun j hj e=>by have:=hj.2;omega),lv,h6.put _ nL,h7.put _ (oH _) nL⟩
 ·exact fun _ _ _ _ h=>h.elim
 ·intro r1;have n:=iD (w:=w3) (.deferred (some [])) (.loop r1);exact ⟨(New.trans n03 n).any,by simp,b3.chg n id,b13.chg n id,g3.new n,_,b23.chg n id,aN⟩
 ·rintro k V r1 hk ⟨h1,h2,h3,h4,h5,lv,h6,h7⟩ hL hDf;have hi:=hs _ (KL hk);have hlt:((dnS pV).take k).length=k:=by rw [apb,Oo];omega
  show Wr _ _ _ _ _ (upd (upd _ 21 (vi _)) 22 (vi (yS pV k))) V;(repeat' (first|refine aa7 ?_|refine ak ?_|refine bP rfl (by repeat' (first|exact Qfn.out (by rintro _ ⟨⟨_,e⟩,_⟩;cases e)|exact Qrd.out|exact Qas.out|refine Qsr.out ?_|refine oZ.out ?_|refine Qsc.out ?_|refine qH.out ?_)) ?_));refine ⟨aB _ _,fun r'=>?_⟩;have nL:NoC V (w3.heap.size+1):=.loop hL;have hLt:=nL.lt;have q1:=h1.put (.loop r') (L:=w3.heap.size+1) (by omega);have q2:w3.heap.size+2<=(V.putObj (w3.heap.size+1) (.loop r')).heap.size:=by simpa using h2
  have q3:=h3.put (.loop r') nL;have q4:=h4.put (.loop r') nL;have q5:=h5.chg (Chg.putObj V (w3.heap.size+1) (.loop r')) (fun j hj e=>by have:=hj.2;omega);have q6:=h6.put (.loop r') nL;have q7:=h7.put (.loop r') (oH _) nL;have qL:NoC (V.putObj (w3.heap.size+1) (.loop r')) (w3.heap.size+1):=.loop (World.putObj_heap_same hLt);have qD:NoC (V.putObj (w3.heap.size+1) (.loop r')) w3.heap.size:=.mark ((World.putObj_heap_other (by omega)).trans hDf);generalize V.putObj (w3.heap.size+1) (.loop r')=V3 at*;clear h1 h2 h3 h4 h5 h6 h7 hL hDf nL hLt;have afh:=qL.lt;have hno: ∀ {b:Nat} {T:TypeId} {cs:List Value},Bk V3 b T cs->aoX 64 T=false->W.heap.size<=b-> ¬(nv.ownBlock=some b∨lv.ownBlock=some b):=fun hb hT hW e=>by
   rcases e with e|e
   ·have:=hnv _ e;omega
   ·exact q7.pR hb hT e rfl
  have hqv: ∀j,lv.ownBlock=some j->W.heap.size<=j:=fun j e=>(q7.lt e).1;(repeat' (refine Wr.block ?_));refine iE rfl (by repeat' (first|exact Qfn.out (by rintro _ ⟨⟨_,e⟩,_⟩;cases e)|exact Qrd.out|exact Qas.out|refine Qsr.out ?_|refine oZ.out ?_|refine Qsc.out ?_|refine qH.out ?_)) rfl (by kernel_rfl) (fun W'=>Chg (fun j=>nv.ownBlock=some j∨lv.ownBlock=some j) V3 W') (Chg.drew _ _) ?_;intro W4 m4;refine aa0 (ax (u:=lv) rfl (fun W' c=>(q6.chg c (hno q6 rfl (by omega))).cell (o:=0) rfl) (af ?_));refine aa0 (ax (u:=pT bb) rfl (fun W' c=>(q4.chg c (hno q4 rfl (by omega))).cell (o:=0) rfl) (af ?_));(repeat' (refine aa0 (aa3 (af ?_))));refine aH rfl (au (Dx (v:=false) (q5.new m4) hi) rfl ?_);rintro _ W5 ⟨rfl,g5,c5⟩;have c35:Chg (fun j=>nv.ownBlock=some j) V3 W5:=Chg.trans m4.any c5 i3;refine ak ⟨rfl,c35.mono fun _ _ e=>.inl e,?_⟩;refine aH rfl (bF (R:=flat stC) (Pe:=NoB) (y:=(yS pV k,false)) Dc rfl rfl rfl rfl (by omega) (by omega) fun v6 W6 o6 n6 s6 e6=>?_);have c36:Chg (fun j=>nv.ownBlock=some j) V3 W6:=Chg.trans c35 n6.any i3;refine ak ⟨rfl,c36.mono fun _ _ e=>.inl e,?_⟩;refine aH rfl (bI (R:=flat stC) Dc (q7.chg (oH _) c36 fun j hj e=>by have:=hnv j e;have:=hqv j hj;omega) (o6.rd (oU _)) (fun y cs hy=>hy) rfl rfl (by omega) (by simp only [maxLen,apm];omega) (by simp only [apm];omega) fun u' W7 o7 c7 lie _=>?_);have c37:Chg (fun j=>nv.ownBlock=some j∨lv.ownBlock=some j) V3 W7:=Chg.trans (c36.mono fun _ _ e=>.inl e) c7 fun _ _ e=>.inr e;refine ak ⟨rfl,c37,?_⟩;refine Wt.last rfl (aJ (u:=u') (q6.chg c37 (hno q6 rfl (by omega))) rfl (show (0:Nat)<1 by omega) rfl (by obtain ⟨_,_,rfl,_⟩:=o7.form;rfl) fun W8 b8 c8=>?_);refine ak ?_;have hz6:=c36.size;have hz7:=c37.size;have hz1:=q1.size;have ajz:=q6.lt;have hul: ∀j,u'.ownBlock=some j->W.heap.size<=j/\j≠bl:=fun j e=>by
   have h9:=o7.pR (q6.chg c37 (hno q6 rfl (by omega))) rfl e;refine ⟨?_,h9⟩;rcases lie with l|l
   ·exact hqv j (l▸e)
   ·have:=l j e;omega
  have g8:=((g5.new n6).chg c7 fun j hj e=>by have:=hj.2;have:=hqv j e;omega).chg c8 fun j hj e=>by have:=hj.2;omega
  have e38:Chg (fun j=>j=bl∨nv.ownBlock=some j∨lv.ownBlock=some j) V3 W8:=Chg.trans (c37.mono fun _ _ e=>.inr e) c8 fun _ _ e=>.inl e;have ht:=take_snoc (ZG hk);rw [<-ht] at o7;rw [show ve (rP A ((dnS pV).take k)) (yS pV k) false=rP A ((dnS pV).take (k+1)) by rw [ht,yt]] at g8;(repeat' (refine dM ?_));refine ⟨e38.block _ qL.lt ?_,e38.block _ qD.lt ?_,Chg.trans q1 e38 fun j hj e=>?_,by have:=e38.size;omega,q3.chg e38 ?_,q4.chg e38 ?_,g8,u',b8,(o7.chg (oH _) c8 fun j hj e=>(hul j hj).2 e).yX fun j hj _=>(hul j hj).1⟩
  ·rintro (e|e|e)
   ·omega
   ·have:=hnv _ e;omega
   ·exact q7.nl qL e rfl
  ·rintro (e|e|e)
   ·omega
   ·have:=hnv _ e;omega
   ·exact q7.nl qD e rfl
  ·rcases e with e|e|e
   ·omega
   ·exact e
   ·have:=hqv j e;omega
  ·rintro (e|e)
   ·omega
   ·exact hno q3 rfl (by omega) e
  ·rintro (e|e)
   ·omega
   ·exact hno q4 rfl (by omega) e
 ·rintro V ⟨h1,h2,h3,h4,h5,lv,h6,h7⟩ hDf;have ht:(dnS pV).take pV.length=dnS pV:=by rw [<-Oo,apZ]
  rw [ht] at h5 h7;have hlv: ∀j,lv.ownBlock=some j->W.heap.size<=j:=fun j e=>(h7.lt e).1;(repeat' (first|refine dJ ?_|refine fM ?_));refine gy ?_;refine aP ?_;refine aX rfl (by kernel_rfl) (fun W'=>Chg (fun j=>j=bb) V W') (Chg.drew _ _) ?_;intro V1 m1;have hb4: ∀W',Chg (fun j=>j=bb) V W'->Bk W' W.heap.size 38 [pT bb]:=fun W' c=>h4.chg c fun e=>by omega
  refine aa0 (ax (u:=pT bb) rfl (fun W' c=>(hb4 W' c).cell (o:=0) rfl) (af ?_));refine aa0 (ax (u:=pT bb) rfl (fun W' c=>(hb4 W' c).cell (o:=0) rfl) (af ?_));refine tJ ?_;refine aH rfl (aJ (u:=.slice none 0 0) (h5.b.chg m1 id) rfl (show (2:Nat)<4 by omega) rfl rfl fun V2 b2 c2=>?_);have c12:Chg (fun j=>j=bb) V V2:=Chg.trans m1.any c2 i3;refine ak ⟨rfl,c12,?_⟩;refine tJ ?_;refine Wt.last rfl (aJ (u:=.bool false) b2 rfl (show (3:Nat)<4 by omega) rfl rfl fun V3 b3' c3=>?_);refine ak ?_;have c13:Chg (fun j=>j=bb) V V3:=Chg.trans c12 c3 i3;have g9:BdM (fun b=>Pb b/\b<W.heap.size) bb (snA N (rP A (dnS pV))) ord [] false nv ov (.slice none 0 0) V3:= ⟨b3',⟨h5.nd.a.DW (P:=prog) h5.b rfl rfl c13,h5.nd.b.DW (P:=prog) h5.b rfl rfl c13,h5.nd.x⟩,h5.od.chg (oJ _) c13 (fun j hj e=>h5.od.pR h5.b rfl hj e),aN,(fun x hx=>⟨(h5.so x hx).1,(h5.so x hx).2.1,(fun k _ e=>by cases e),(fun k _ e=>by cases e)⟩),(fun k _ e=>by cases e),h5.win,h5.nl,h5.lo⟩;have h63:=h6.chg c13 fun e=>by omega
  have h73:=h7.chg (oH _) c13 fun j hj e=>by have:=hlv j hj;omega
  have hD3:=(c13.block _ (Array.getElem?_eq_some_iff.1 hDf).1 fun e=>by omega).trans hDf;have c03:Chg (fun k=>nv.ownBlock=some k∨k=bb) W V3:=Chg.trans (h1.mono fun _ _ e=>.inl e) c13 fun _ _ e=>.inr e;clear h1 h3 h4 h5 h6 h7 hDf c12 c13 c2 c3 b2 b3';refine qq2 ?_;refine ah (u:=lv) rfl (h63.cell (o:=0) rfl) ?_;refine qq6 ?_;refine Qdn.e ?_;refine gB (by simp) hD3 ?_;refine dL (rO rfl (qy rfl) (qy rfl)) ⟨_,rfl,.inr ⟨rfl,lv,rfl,h73.put _ (oH _) (.mark hD3),?_,c03.put _ (by omega)⟩⟩;exact (g9.chg (Chg.putObj V3 _ _) (fun j hj e=>by have:=hj.2;omega)).mono fun b _ e=>e.1
 ·exact fun _ h=>h.elim
 ·exact fun _ _ h=>h.elim
end
theorem G8 {Pb:Nat->Prop} {w:World} {v:Value} {l:List Wkr} {p:Wkr->Bool} {g:FuncId} {cap:Array Value} [hc:oN prog g] (h:RdS (flat wkC) 2 Pb w v l)
 (hf: ∀y w',y∈l->New w w'->Calls prog g ([Value.agg (wkC y).toArray]++cap.toList).toArray w' (Ret fun r w''=>r=.bool (p y)/\New w' w'')):
 Calls prog 51 #[v,.func (.func g) #[] cap] w (Ret fun r w'=>r=vi (idx p l)/\New w w'):=by
 obtain ⟨a,cp,rfl,hc1,hc2⟩:=h.form;simp only [maxLen] at hc2;refine oI func51 rfl ntmps51 rfl ?_;refine qq4 ?_;refine aC (σ:=Nat) (fun i=>[(0,.slice a l.length cp),(1,.func (.func g) #[] cap),(7,vi l.length),(8,vi i)]) (fun i w'=>i<=l.length/\(∀x∈l.take i,p x=false)/\New w w') (fun i=>l.length-i) 0 (sl rfl) ⟨aoZ _,by simp,aB _ _⟩ ?_;rintro i G w1 ⟨hi,hall,n1⟩;simp only [ql];(repeat' (first|refine qq2 ?_|refine aa2 (fun _=>?_) (fun _=>?_)))
 ·obtain ⟨y,hy⟩:=pz l (k:=i) (by omega);refine dF h n1.keep rfl rfl (by omega) hy fun b o cs hl hR hat=>?_;obtain rfl:cs=wkC y:=hR;refine aS hat rfl rfl ?_;refine bU (dst:=some 16) rfl (hf y w1 (apD hy) n1) rfl ?_;rintro _ w2 ⟨rfl,n2⟩;simp only [xH];cases hp:p y with
  |true=>refine qq5 ?_;refine ay rfl rfl ⟨_,rfl,?_,New.trans n1 n2⟩;rw [Fe hy hall hp];rfl
  |false=>refine qq3 ?_;exact aA (i+1) (sl rfl) ⟨by omega,Cm hy hall hp,New.trans n1 n2⟩ (by omega)
 ·have e:i=l.length:=by omega
  subst e;rw [apZ] at hall;refine ay rfl rfl ⟨_,rfl,?_,n1⟩;rw [Ad hall];rfl
def early (x:Wkr):Bool:=decide (x.1<0)
theorem Ux {w:World} {x:Wkr}:Calls prog 30 #[.agg (wkC x).toArray] w (Ret fun r w'=>r=.bool (early x)/\New w w'):=by
 refine oI func30 rfl ntmps30 rfl ?_;refine qq0 ?_;refine Wl.box rfl fun w1 b1 n1 s1=>?_;replace b1:Bk w1 w.heap.size 75 (wkC x):=b1;refine qq2 ?_;refine ah (u:=vi x.1) rfl (b1.cell (o:=0) rfl) ?_;(repeat' (first|refine qq6 ?_|refine aa2 (fun _=>?_) (fun _=>?_)))
 ·exact ay rfl rfl ⟨_,rfl,by unfold early;rw [decide_eq_true (by omega)];rfl,n1⟩
 ·exact ay rfl rfl ⟨_,rfl,by unfold early;rw [decide_eq_false (by omega)];rfl,n1⟩
theorem IY {Pb:Nat->Prop} {w:World} {v:Value} {l:List Wkr} (h:RdS (flat wkC) 2 Pb w v l):
 Calls prog 31 #[v,.func (.func 30) #[] #[]] w (Ret fun r w'=>r=.bool (l.any early)/\New w w'):=by
 refine oI func31 rfl ntmps31 rfl ?_;refine qq2 ?_;refine au (G8 (p:=early) (g:=30) (cap:= #[]) h fun y w' _ n=>Ux) rfl ?_;rintro _ w1 ⟨rfl,n1⟩;have hi:=yF (p:=early) l;unfold idx;cases hf:l.findIdx? early with
 |none=>
  have ha:l.any early=false:=by rw [List.any_eq_false];intro x hx;rw [List.findIdx?_eq_none_iff.1 hf x hx];decide
  rw [ha];(repeat' (first|refine qq6 ?_|(refine aV rfl rfl (fun _=>?_) (fun _=>?_)<;>(first|(exfalso;contradiction)|skip))));exact ay rfl rfl ⟨_,rfl,rfl,n1⟩
 |some j=>rw [hf] at hi;obtain ⟨y,hy,hp⟩:=hi;have ha:l.any early=true:=List.any_eq_true.2 ⟨y,apD hy,List.find?_some hp⟩;rw [ha];(repeat' (first|refine qq6 ?_|(refine aV rfl rfl (fun _=>?_) (fun _=>?_)<;>(first|(exfalso;contradiction)|skip))));exact ay rfl rfl ⟨_,rfl,rfl,n1⟩
def sJ (N:List Sn) (refuse:List Nm) (wakes:List Wkr) (sl:Int) (next:Int):Int×Bool:=
 if 0<=sQ N wakes sl then (sQ N wakes sl,true) else if 0<=next/\refuse.contains (ptN N next.toNat)=true then (next,false) else (sQ N wakes sl,false)
theorem Iy (N:List Sn) (wakes:List Wkr) (sl:Int):sQ N wakes sl= -1∨ ∃j:Nat,sQ N wakes sl=j/\j<N.length:=by
 induction wakes with
 |nil=>exact .inl rfl
 |cons x r ih=>
  unfold sQ;split
  ·rename_i h
   right;have hi:=yF (p:=fun s:Sn=>s.path == x.2) N;unfold idx at h ⊢;cases hf:N.findIdx? (fun s:Sn=>s.path == x.2) with
   |none=>rw [hf] at h;exact absurd h.2.1 (by decide)
   |some j=>rw [hf] at hi;obtain ⟨y,hy,_⟩:=hi;exact ⟨j,rfl,(List.getElem?_eq_some_iff.1 hy).1⟩
  ·exact ih
abbrev oC (d k:Bool) (by0:Int) (v:Value):List Value:=[.bool d,.bool k,vi by0,v]
section
variable {Pb Pw Pr:Nat->Prop} {bb b1 b2 b3 b4 b5:Nat} {N:List Sn} {ord pV:List Nat} {down:Bool} {nv ov sv wv rv stv:Value} {refuse:List Nm} {wakes:List Wkr} {W:World}
theorem MR {next:Int} {sa:Option Addr} {sl sc:Nat} {d k0:Bool} {by0:Int} (g:BdM Pb bb N ord pV down nv ov sv W) (v1:Bk W b1 38 [pT bb]) (v2:Bk W b2 55 [wv]) (hw:RdS (flat wkC) 2 Pw W wv wakes) (v3:Bk W b3 65 [.slice sa sl sc])
 (v4:Bk W b4 59 (oC d k0 by0 stv)) (v5:Bk W b5 24 [rv]) (hr:RdS (Wk.one vs) 1 Pr W rv refuse) (hn:next<N.length) (h1: ∀k,Pb k->k≠b4) (h2: ∀k,Pw k->k≠b4) (h3: ∀k,Pr k->k≠b4) (hsl:sl<=512):
 Calls prog 32 #[vi next,pT b1,pT b2,pT b3,pT b4,pT b5] W (Ret fun r w'=>r=.bool (decide (0<=(sJ N refuse wakes sl next).1))/\Bk w' b4 59 (oC d (sJ N refuse wakes sl next).2 (sJ N refuse wakes sl next).1 stv)/\Chg (fun j=>j=b4) W w'):=by
 have hnl:=g.nl;obtain ⟨na,nc,hnv,_,_⟩:=g.nd.a.row.form;have n14:b1≠b4:=v1.pR v4 rfl;have n34:b3≠b4:=v3.pR v4 rfl;have n54:b5≠b4:=v5.pR v4 rfl;refine oI func32 rfl ntmps32 rfl ?_;refine qq1 ?_;refine ah (u:=pT bb) rfl (v1.cell (o:=0) rfl) ?_;refine ah (u:=wv) rfl (v2.cell (o:=0) rfl) ?_;refine ah (u:=.slice sa sl sc) rfl (v3.cell (o:=0) rfl) ?_;(repeat' (refine cu rfl ?_));refine au (Uu (k:=sl) g hw) rfl ?_;rintro _ w1 ⟨rfl,m1⟩;have hwk:=Iy N wakes sl;have hst:sJ N refuse wakes sl next=if 0<=sQ N wakes sl then (sQ N wakes sl,true) else if 0<=next/\refuse.contains (ptN N next.toNat)=true then (next,false) else (sQ N wakes sl,false):=rfl
 rw [hst];clear hst;generalize sQ N wakes sl=a at*;(repeat' (refine aa5 ?_));refine aJ (u:=vi a) (v4.chg m1 id) rfl (show (2:Nat)<4 by omega) rfl rfl fun w2 b42 c2=>?_;replace b42:Bk w2 b4 59 (oC d k0 a stv):=b42;refine qq2 ?_;refine ah (u:=vi a) rfl (b42.cell (o:=2) rfl) ?_;by_cases ha:0<=a
 ·rw [if_pos ha];(repeat' (first|refine aa5 ?_|(refine aV rfl rfl (fun _=>?_) (fun _=>?_)<;>(first|(exfalso;omega)|skip))));refine aJ (u:=.bool true) b42 rfl (show (1:Nat)<4 by omega) rfl rfl fun w3 b43 c3=>?_;replace b43:Bk w3 b4 59 (oC d true a stv):=b43;have c03:Chg (fun j=>j=b4) W w3:=Chg.trans (Chg.trans m1.any c2 i3) c3 i3;refine qq1 ?_;refine aX rfl (by kernel_rfl) (fun w'=>New w3 w') (Chg.drew _ _) ?_;intro w4 m4;(repeat' (refine aa0 (aa6 (af ?_))));refine aa0 (ax (u:=.bool true) rfl (fun w' hw=>(b43.chg hw id).cell (o:=1) rfl) (af ?_));(repeat' (first|refine bG ?_|refine gq rfl rfl (by assumption) ?_|refine aa0 (aa3 (af ?_))|refine aa0 (fC rfl (by conv=>{lhs;whnf}) (af ?_))|refine aa0 (dP rfl (af ?_))));refine qq2 ?_;have b44:=b43.chg m4 id;refine ah (u:=vi a) rfl (b44.cell (o:=2) rfl) ?_;(repeat' (first|refine qq6 ?_|(refine aV rfl rfl (fun _=>?_) (fun _=>?_)<;>(first|(exfalso;omega)|skip))));exact ay rfl rfl ⟨_,rfl,by rw [decide_eq_true ha]<;>rfl,b44,Chg.trans c03 m4.any i3⟩
 ·rw [if_neg ha];(repeat' (first|refine aa5 ?_|(refine aV rfl rfl (fun _=>?_) (fun _=>?_)<;>(first|(exfalso;omega)|skip))));refine aJ (u:=.bool false) b42 rfl (show (1:Nat)<4 by omega) rfl rfl fun w3 b43 c3=>?_;replace b43:Bk w3 b4 59 (oC d false a stv):=b43;have c03:Chg (fun j=>j=b4) W w3:=Chg.trans (Chg.trans m1.any c2 i3) c3 i3;have g3:=g.chg c03 h1;have v13:=v1.chg c03 n14;have v53:=v5.chg c03 n54;have hr3:=hr.keep (pF _) (c03.keep fun b _ hb=>h3 b hb);subst hnv;have hrd:=g3.nd.a.row.rd (oU snC);refine qq1 ?_;by_cases hx:0<=next
  ·obtain ⟨q,rfl⟩:=aoR hx;obtain ⟨x,hxq⟩:=pz N (k:=q) (by omega);have hxg:=uS hxq;rw [ao3,hxg.2.1];refine aX rfl (by kernel_rfl) (fun w'=>New w3 w') (Chg.drew _ _) ?_;intro w4 m4;(repeat' (refine aa0 (aa6 (af ?_))));refine aa0 (ax (u:=.bool false) rfl (fun w' hw=>(b43.chg hw id).cell (o:=1) rfl) (af ?_));(repeat' (first|refine bM rfl rfl ?_|refine aa0 (aa3 (af ?_))|refine aa0 (dI rfl (by conv=>{lhs;whnf}) (af ?_))|refine aa0 (dP rfl (af ?_))|(refine aa0 (iY rfl rfl (fun _=>af ?_) (fun _=>af ?_))<;>(first|(exfalso;omega)|skip))));refine aa0 (ax (u:=rv) rfl (fun w' hw=>(v53.chg hw id).cell (o:=0) rfl) (af ?_));(repeat' (refine bM rfl rfl ?_));refine aa0 (ax (u:=pT bb) rfl (fun w' hw=>(v13.chg hw id).cell (o:=0) rfl) (af ?_));refine tJ ?_;refine aa0 (ax (u:=.slice na N.length nc) rfl (fun w' hw=>(g3.b.chg hw id).cell (o:=0) rfl) (af ?_));(repeat' (first|refine bM rfl rfl ?_|refine aa0 (aa3 (af ?_))));refine aa0 (aY hrd (fun w' hw=>hw.keep) rfl rfl (by omega) hxq fun b o cs hl hR hat=>af ?_);obtain rfl:cs=snC x:=hR;refine tJ ?_;refine aa0 (ax (u:=vs x.path) rfl (fun w' hw=>(hat w' hw).get 0 rfl) (af ?_));(repeat' (refine bM rfl rfl ?_));refine aH rfl (au (yH (hr3.keep (pF _) m4.keep)) rfl ?_);rintro _ _ ⟨rfl,rfl⟩;refine ak ⟨rfl,m4,?_⟩;(repeat' (first|refine bG ?_|refine aa0 (dI rfl (by conv=>{lhs;whnf}) (af ?_))));refine qq6 ?_;have b44:=b43.chg m4 id;have c04:Chg (fun j=>j=b4) W w4:=Chg.trans c03 m4.any i3;cases hc:refuse.contains x.path with
   |true=>rw [if_pos ⟨by omega,rfl⟩];refine qq4 ?_;refine aJ (u:=vi q) b44 rfl (show (2:Nat)<4 by omega) rfl rfl fun w5 b45 c5=>?_;replace b45:Bk w5 b4 59 (oC d false q stv):=b45;refine qq2 ?_;refine ah (u:=vi q) rfl (b45.cell (o:=2) rfl) ?_;(repeat' (first|refine qq6 ?_|(refine aV rfl rfl (fun _=>?_) (fun _=>?_)<;>(first|(exfalso;omega)|skip))));exact ay rfl rfl ⟨_,rfl,by rw [decide_eq_true (by dsimp only;omega)]<;>rfl,b45,Chg.trans c04 c5 i3⟩
   |false=>rw [if_neg (fun h=>by cases h.2)];refine qq2 ?_;refine ah (u:=vi a) rfl (b44.cell (o:=2) rfl) ?_;(repeat' (first|refine qq6 ?_|(refine aV rfl rfl (fun _=>?_) (fun _=>?_)<;>(first|(exfalso;omega)|skip))));exact ay rfl rfl ⟨_,rfl,by rw [decide_eq_false ha]<;>rfl,b44,c04⟩
  ·rw [if_neg (fun h=>hx h.1)];refine aX rfl (by kernel_rfl) (fun w'=>New w3 w') (Chg.drew _ _) ?_;intro w4 m4;(repeat' (refine aa0 (aa6 (af ?_))));refine aa0 (ax (u:=.bool false) rfl (fun w' hw=>(b43.chg hw id).cell (o:=1) rfl) (af ?_));(repeat' (first|refine bG ?_|refine bM rfl rfl ?_|refine gq rfl rfl (by assumption) ?_|refine aa0 (aa3 (af ?_))|refine aa0 (dI rfl (by conv=>{lhs;whnf}) (af ?_))|refine aa0 (fC rfl (by conv=>{lhs;whnf}) (af ?_))|refine aa0 (dP rfl (af ?_))|(refine aa0 (iY rfl rfl (fun _=>af ?_) (fun _=>af ?_))<;>(first|(exfalso;omega)|skip))));have b44:=b43.chg m4 id;refine qq2 ?_;refine ah (u:=vi a) rfl (b44.cell (o:=2) rfl) ?_;(repeat' (first|refine qq6 ?_|(refine aV rfl rfl (fun _=>?_) (fun _=>?_)<;>(first|(exfalso;omega)|skip))));exact ay rfl rfl ⟨_,rfl,by rw [decide_eq_false ha]<;>rfl,b44,Chg.trans c03 m4.any i3⟩
end
abbrev fnV (bx b3:Nat) (c:Nat):Value:=.func (.func 35) #[] #[pT bx,pT b3,pT c]
theorem afy (bx b3:Nat):rF (Wk.one (fnV bx b3)) 1:=uI _ fun _=>rfl
def SqF (Pb:Nat->Prop) (bs:Nat) (v:Value) (f:Nat->Value) (l:List Nat) (W:World):Prop:=Bk W bs 108 [v]/\RdS (Wk.one f) 1 Pb W v l
theorem Uy {Pb:Nat->Prop} {bs:Nat} {v:Value} {f:Nat->Value} {l:List Nat}:Vm prog 55 #[pT bs] l.length (fun k=> #[vi ((l.length-1-k:Nat):Int),f (yS l k)]) (SqF Pb bs v f l):=by
 intro L J Jx W hRd hN hY h0;obtain ⟨hb,hr⟩:=hRd _ _ h0;obtain ⟨a,cp,rfl,hc1,hc2⟩:=hr.form;simp only [maxLen] at hc2;show CallsIn Fence.wide 0 prog _ ([.func (.yield L) #[] #[],pT bs]:List Value).toArray W _;refine jO func55 rfl ntmps55 rfl ?_;(repeat' (first|refine di ?_|refine bP rfl (by repeat' (first|exact Qfn.out (by rintro _ ⟨⟨_,e⟩,_⟩;cases e)|exact Qrd.out|exact Qas.out|refine Qsr.out ?_|refine oZ.out ?_|refine Qsc.out ?_|refine qH.out ?_)) ?_));refine ah rfl (hb.cell (o:=0) rfl) ?_;(repeat' (first|refine aa7 ?_|refine ak ?_|refine cu rfl ?_|refine bQ ?_|refine Wr.block ?_|refine Wl.sub rfl rfl (by omega) (by omega) ?_));refine jL (σ:=Nat) (fun k=>[(0,.func (.yield L) #[] #[]),(1,pT bs),(3,vi ((l.length:Int)-1-(k:Int)))]) (fun k W'=>k<=l.length/\J k W') (fun k=>l.length-k) 0 ⟨rfl,rfl,by show vi ((l.length:Int)-1)=vi ((l.length:Int)-1-((0:Nat):Int));simp,trivial⟩ ⟨aoZ _,h0⟩ ?_;rintro k G W1 ⟨hk,hJ⟩;obtain ⟨hb1,hr1⟩:=hRd _ _ hJ;simp only [ql];obtain ⟨m,hm⟩: ∃m:Int,(l.length:Int)-1-(k:Int)=m:=⟨_,rfl⟩;rw [hm];(repeat' (refine di ?_));refine bP rfl (by repeat' (first|exact Qfn.out (by rintro _ ⟨⟨_,e⟩,_⟩;cases e)|exact Qrd.out|exact Qas.out|refine Qsr.out ?_|refine oZ.out ?_|refine Qsc.out ?_|refine qH.out ?_)) ?_;(repeat' (first|refine aa1 ?_|refine ak ?_|refine bQ ?_|refine di ?_|refine Wr.block ?_|refine Wr.skip ?_|refine iO ?_|refine iP ?_|refine dO ?_|refine dS ?_|refine eH rfl ?_|refine eP rfl ?_|refine aV rfl rfl (fun _=>?_) (fun _=>?_)))
 ·obtain ⟨q,rfl⟩:=aoR (show 0<=m by omega);obtain ⟨y,hy⟩:=pz l (k:=q) (by omega);have hq:q=l.length-1-k:=by omega
  have hg:yS l k=y:=by unfold yS;rw [<-hq,apJ,hy];rfl
  refine jM (l1:=[_,_,_,_,_,_]) (l2:=[_]) rfl rfl rfl (by repeat' (first|exact Qfn.out (by rintro _ ⟨⟨_,e⟩,_⟩;cases e)|exact Qrd.out|exact Qas.out|refine Qsr.out ?_|refine oZ.out ?_|refine Qsc.out ?_|refine qH.out ?_)) ?_;(repeat' (refine aa1 ?_));refine ah rfl (hb1.cell (o:=0) rfl) ?_;(repeat' (refine aa1 ?_));refine bC hr1 rfl rfl (by omega) hy fun bb o hcell=>?_;refine ah (u:=f y) rfl hcell ?_;(repeat' (refine ak ?_));refine ⟨rfl,L,vi q,f y,rfl,rfl,rfl,?_⟩;have hy2:=hY k W1 (by omega) hJ;dsimp only at hy2;rw [hg, <-hq] at hy2;refine Wk.YieldAt.mono hy2 ?_;rintro e W4 (⟨rfl,hJ4⟩|⟨rfl,hJ4⟩)
  ·refine ⟨_,rfl,?_⟩;(repeat' (first|refine aa1 ?_|refine aa7 ?_|refine ak ?_|refine dn rfl ?_|refine bQ ?_|refine bP rfl (by repeat' (first|exact Qfn.out (by rintro _ ⟨⟨_,e⟩,_⟩;cases e)|exact Qrd.out|exact Qas.out|refine Qsr.out ?_|refine oZ.out ?_|refine Qsc.out ?_|refine qH.out ?_)) ?_|refine Wr.skip ?_|refine dM ?_|refine eP rfl ?_|refine Wl.sub rfl rfl (by omega) (by omega) ?_));exact aA (k+1) ⟨rfl,rfl,by show vi ((q:Int)-1)=vi ((l.length:Int)-1-((k+1:Nat):Int));congr 1;omega,trivial⟩ ⟨by omega,hJ4⟩ (by omega)
  ·refine ⟨_,rfl,?_⟩;(repeat' (first|refine ak ?_|refine dn rfl ?_|refine bQ ?_|refine jJ ?_|refine jK ?_|refine gI ?_|refine gK ?_|refine eH rfl ?_));exact fE rfl ⟨⟨_,rfl⟩,.inr hJ4⟩
 ·have e:k=l.length:=by omega
  subst e;exact dh rfl ⟨⟨_,rfl⟩,.inl hJ⟩
theorem KN {w:World} {v:Value} {a:Option Addr} {n m:Nat} (hv:v=.slice a n m):
 Calls prog 36 #[v] w (Ret fun r w'=>r=.func (.func 55) #[] #[pT w.heap.size]/\Bk w' w.heap.size 108 [v]/\New w w'):=by
 subst hv;refine oI func36 rfl ntmps36 rfl ?_;refine qq0 ?_;refine Wl.box rfl fun w1 b1 n1 s1=>?_;replace b1:Bk w1 w.heap.size 108 [.slice a n m]:=b1;refine qq1 ?_;refine dw (f1:=[]) (c1:=[pT w.heap.size]) rfl rfl ?_;refine qq6 ?_;exact ay rfl rfl ⟨_,rfl,rfl,b1,n1⟩
section
variable {Pb:Nat->Prop} {bb:Nat} {N:List Sn} {A:As} {ord pV:List Nat} {down:Bool} {nv ov sv stv:Value} {W:World}
theorem Xz {lo bx b3 c i:Nat} {d k:Bool} {by0:Int} {S:List Stp} (g:BdM Pb bb (snA N A) ord pV down nv ov sv W) (vx:Bk W bx 59 (oC d k by0 stv)) (oS:oP (flat stC) 64 2 (fun b=>lo<=b) NoB W stv S)
 (v3:Bk W b3 38 [pT bb]) (vc:Bk W c 3 [vi i]) (hi:i<N.length) (hP: ∀b,Pb b->b<lo) (hx:lo<=bx) (h3:lo<=b3) (hc:lo<=c) (hlo:lo<=W.heap.size) (hS:S.length<=2000):
 Calls prog 35 #[pT bx,pT b3,pT c] W (Ret fun _ w'=> ∃Au,Bk w' bx 59 (oC d k by0 Au)/\oP (flat stC) 64 2 (fun b=>lo<=b) NoB w' Au (S++ [(i,false)])/\
  BdM Pb bb (snA N (ve A i false)) ord pV down nv ov sv w'/\Chg (fun j=>nv.ownBlock=some j∨j=bx∨stv.ownBlock=some j) W w'):=by
 have hnv: ∀j,nv.ownBlock=some j->j<lo:=fun j e=>hP j (g.nd.a.row.lt e).1;have hsv: ∀j,stv.ownBlock=some j->lo<=j:=fun j e=>(oS.lt e).1;have hno: ∀ {b:Nat} {T:TypeId} {cs:List Value},Bk W b T cs->aoX 64 T=false->lo<=b-> ∀W',Chg (fun j=>nv.ownBlock=some j∨stv.ownBlock=some j) W W'->Bk W' b T cs:=fun hb hT hW W' c=>hb.chg c fun e=>by
  rcases e with e|e
  ·have:=hnv _ e;omega
  ·exact oS.pR hb hT e rfl
 refine oI func35 rfl ntmps35 rfl ?_;refine aX rfl (by kernel_rfl) (fun w'=>Chg (fun j=>nv.ownBlock=some j∨stv.ownBlock=some j) W w') (Chg.drew _ _) ?_;intro w1 m1;(repeat' (refine aa0 (aa6 (af ?_))));refine aa0 (ax (u:=stv) rfl (fun W' c=>(hno vx rfl hx W' c).cell (o:=3) rfl) (af ?_));refine aa0 (ax (u:=pT bb) rfl (fun W' c=>(hno v3 rfl h3 W' c).cell (o:=0) rfl) (af ?_));refine aa0 (ax (u:=vi i) rfl (fun W' c'=>(hno vc rfl hc W' c').cell (o:=0) rfl) (af ?_));refine aH rfl (au (Dx (v:=false) (g.new m1) hi) rfl ?_);rintro _ w2 ⟨rfl,g2,c2⟩;have c02:Chg (fun j=>nv.ownBlock=some j) W w2:=Chg.trans m1.any c2 i3;refine ak ⟨rfl,c02.mono fun _ _ e=>.inl e,?_⟩;refine aH rfl (bF (R:=flat stC) (Pe:=NoB) (y:=(i,false)) Dc rfl rfl rfl rfl (by omega) (by omega) fun v3' w3 o3 n3 s3' e3=>?_);have c03:Chg (fun j=>nv.ownBlock=some j) W w3:=Chg.trans c02 n3.any i3;refine ak ⟨rfl,c03.mono fun _ _ e=>.inl e,?_⟩;refine aH rfl (bI (R:=flat stC) Dc (oS.chg (oH _) c03 fun j hj e=>by have:=hnv j e;have:=hsv j hj;omega) (o3.rd (oU _)) (fun y cs hy=>hy) rfl rfl (by omega) (by simp only [maxLen,apm];omega) (by simp only [apm];omega) fun u' w4 o4 c4 lie _=>?_);have c04:Chg (fun j=>nv.ownBlock=some j∨stv.ownBlock=some j) W w4:=Chg.trans (c03.mono fun _ _ e=>.inl e) c4 fun _ _ e=>.inr e;refine ak ⟨rfl,c04,?_⟩;(repeat' (refine aa0 (aa6 (af ?_))));have vx4:=hno vx rfl hx w4 c04;refine Wt.last rfl (aJ (u:=u') vx4 rfl (show (3:Nat)<4 by omega) rfl (by obtain ⟨_,_,rfl,_⟩:=o4.form;rfl) fun w5 b5 c5=>?_);refine ak ?_;have hz3:=c03.size;refine dh rfl ⟨_,rfl,u',b5,(o4.chg (oH _) c5 fun j hj e=>o4.pR vx4 rfl hj e).mono (oU _) (fun b _ e=>e.elim id fun e=>by have e:w3.heap.size<=b:=e;show lo<=b;omega) i3,((g2.new n3).chg c4 fun j hj e=>by have:=hP j hj;have:=hsv j e;omega).chg c5 fun j hj e=>by have:=hP j hj;omega,Chg.trans (c04.mono fun j _ e=>?_) c5 fun j _ e=>.inr (.inl e)⟩;rcases e with e|e
 ·exact .inl e
 ·exact .inr (.inr e)
end
structure SuE (Pb:Nat->Prop) (lo bb b3 b4 b5 b6 bx bk bl bf:Nat) (N:List Sn) (A:As) (ord pV:List Nat) (nv ov sv:Value) (refuse:List Nm) (wakes:List Wkr) (rv wv:Value) (kb:Bool) (by0:Int) (S:List Stp) (sl B:List Nat) (stv slv bkv:Value) (V:World):Prop where
 g:BdM Pb bb (snA N A) ord pV false nv ov sv V
 v3:Bk V b3 38 [pT bb]
 v4:Bk V b4 24 [rv]
 v5:Bk V b5 55 [wv]
 v6:Bk V b6 59 (oC false false 0 (.slice none 0 0))
 vx:Bk V bx 59 (oC false kb by0 stv)
 vk:Bk V bk 108 [bkv]
 vl:Bk V bl 65 [slv]
 vf:Bk V bf 51 [.func (.func 32) #[] #[pT b3,pT b5,pT bl,pT bx,pT b4]]
 oS:oP (flat stC) 64 2 (fun b=>lo<=b) NoB V stv S
 oL:oP (Wk.one viN) 3 1 (fun b=>lo<=b) NoB V slv sl
 oB:oP (Wk.one (fnV bx b3)) 1 1 (fun b=>lo<=b) NoB V bkv B
 len:B.length=sl.length
 box: ∀(m c i:Nat),B[m]? =some c->sl[m]? =some i->Bk V c 3 [vi i]/\lo<=c/\slv.ownBlock≠some c
 rr:RdS (Wk.one vs) 1 (fun b=>b<lo/\ ¬Pb b) V rv refuse
 rw:RdS (flat wkC) 2 (fun b=>b<lo/\ ¬Pb b) V wv wakes
 hP: ∀b,Pb b->b<lo
 lo0:lo<=b3/\lo<=b4/\lo<=b5/\lo<=b6/\lo<=bx/\lo<=bk/\lo<=bl/\lo<=bf/\lo<=V.heap.size
 ne:b6≠bx
section
variable {Pb:Nat->Prop} {lo bb b3 b4 b5 b6 bx bk bl bf:Nat} {N:List Sn} {A:As} {ord pV:List Nat} {nv ov sv:Value} {refuse:List Nm} {wakes:List Wkr} {rv wv:Value} {kb:Bool} {by0:Int} {S:List Stp} {sl B:List Nat} {stv slv bkv:Value} {V V':World} {M:Nat->Prop}
theorem SuE.nvl (h:SuE Pb lo bb b3 b4 b5 b6 bx bk bl bf N A ord pV nv ov sv refuse wakes rv wv kb by0 S sl B stv slv bkv V): ∀j,nv.ownBlock=some j->j<lo:=fun j e=>h.hP j (h.g.nd.a.row.lt e).1
theorem SuE.XA (h:SuE Pb lo bb b3 b4 b5 b6 bx bk bl bf N A ord pV nv ov sv refuse wakes rv wv kb by0 S sl B stv slv bkv V) (c:Chg M V V') (hM: ∀j,M j->NoC V j/\lo<=j):SuE Pb lo bb b3 b4 b5 b6 bx bk bl bf N A ord pV nv ov sv refuse wakes rv wv kb by0 S sl B stv slv bkv V':=by
 have hk:Keep (fun b=>b<lo/\ ¬Pb b) V V':=c.keep fun b _ hb e=>by have:=(hM b e).2;have:=hb.1;omega
 refine ⟨h.g.chg c fun k hk e=>by have:=h.hP k hk;have:=(hM k e).2;omega,h.v3.chg c fun e=>h.v3.nl (hM _ e).1 rfl,h.v4.chg c fun e=>h.v4.nl (hM _ e).1 rfl,h.v5.chg c fun e=>h.v5.nl (hM _ e).1 rfl,h.v6.chg c fun e=>h.v6.nl (hM _ e).1 rfl,h.vx.chg c fun e=>h.vx.nl (hM _ e).1 rfl,h.vk.chg c fun e=>h.vk.nl (hM _ e).1 rfl,h.vl.chg c fun e=>h.vl.nl (hM _ e).1 rfl,h.vf.chg c fun e=>h.vf.nl (hM _ e).1 rfl,
  h.oS.chg (oH _) c fun k hk e=>h.oS.nl (hM k e).1 hk rfl,h.oL.chg (oJ _) c fun k hk e=>h.oL.nl (hM k e).1 hk rfl,h.oB.chg (oJ _) c fun k hk e=>h.oB.nl (hM k e).1 hk rfl,h.len,fun m x i h1 h2=>?_,h.rr.keep (pF _) hk,h.rw.keep (pI _) hk,h.hP,?_,h.ne⟩
 ·obtain ⟨q1,q2⟩:=h.box m x i h1 h2;exact ⟨q1.chg c fun e=>q1.nl (hM _ e).1 rfl,q2⟩
 ·have:=h.lo0;have:=c.size;omega
theorem SuE.new (h:SuE Pb lo bb b3 b4 b5 b6 bx bk bl bf N A ord pV nv ov sv refuse wakes rv wv kb by0 S sl B stv slv bkv V) (n:New V V'):SuE Pb lo bb b3 b4 b5 b6 bx bk bl bf N A ord pV nv ov sv refuse wakes rv wv kb by0 S sl B stv slv bkv V':=h.XA n fun _ e=>e.elim
theorem SuE.stop {kb':Bool} {by':Int} (h:SuE Pb lo bb b3 b4 b5 b6 bx bk bl bf N A ord pV nv ov sv refuse wakes rv wv kb by0 S sl B stv slv bkv V) (vx:Bk V' bx 59 (oC false kb' by' stv)) (c:Chg (fun j=>j=bx) V V'):SuE Pb lo bb b3 b4 b5 b6 bx bk bl bf N A ord pV nv ov sv refuse wakes rv wv kb' by' S sl B stv slv bkv V':=by
 have hk:Keep (fun b=>b<lo/\ ¬Pb b) V V':=c.keep fun b _ hb e=>by have:=h.lo0;have:=hb.1;omega
 refine ⟨h.g.chg c fun k hk e=>by have:=h.hP k hk;have:=h.lo0;omega,h.v3.chg c fun e=>h.v3.pR h.vx rfl e,h.v4.chg c fun e=>h.v4.pR h.vx rfl e,h.v5.chg c fun e=>h.v5.pR h.vx rfl e,h.v6.chg c h.ne,vx,h.vk.chg c fun e=>h.vk.pR h.vx rfl e,h.vl.chg c fun e=>h.vl.pR h.vx rfl e,h.vf.chg c fun e=>h.vf.pR h.vx rfl e,
  h.oS.chg (oH _) c fun k hk e=>h.oS.pR h.vx rfl hk e,h.oL.chg (oJ _) c fun k hk e=>h.oL.pR h.vx rfl hk e,h.oB.chg (oJ _) c fun k hk e=>h.oB.pR h.vx rfl hk e,h.len,fun m x i h1 h2=>?_,h.rr.keep (pF _) hk,h.rw.keep (pI _) hk,h.hP,?_,h.ne⟩
 ·obtain ⟨q1,q2⟩:=h.box m x i h1 h2;exact ⟨q1.chg c fun e=>q1.pR h.vx rfl e,q2⟩
 ·have:=h.lo0;have:=c.size;omega
theorem SuE.step {A':As} {S':List Stp} {Au:Value} (h:SuE Pb lo bb b3 b4 b5 b6 bx bk bl bf N A ord pV nv ov sv refuse wakes rv wv kb by0 S sl B stv slv bkv V) (g:BdM Pb bb (snA N A') ord pV false nv ov sv V') (vx:Bk V' bx 59 (oC false kb by0 Au)) (oS:oP (flat stC) 64 2 (fun b=>lo<=b) NoB V' Au S')
 (c:Chg (fun j=>nv.ownBlock=some j∨j=bx∨stv.ownBlock=some j) V V'):SuE Pb lo bb b3 b4 b5 b6 bx bk bl bf N A' ord pV nv ov sv refuse wakes rv wv kb by0 S' sl B Au slv bkv V':=by
 have hnv:=h.nvl;have hl:=h.lo0;have hb: ∀ {b:Nat} {T:TypeId} {cs:List Value},Bk V b T cs->aoX 64 T=false->b≠bx->lo<=b->Bk V' b T cs:=fun hb hT hx hl=>hb.chg c fun e=>by
  rcases e with e|e|e
  ·have:=hnv _ e;omega
  ·exact hx e
  ·exact h.oS.pR hb hT e rfl
 have akq: ∀j,stv.ownBlock=some j->lo<=j:=fun j e=>(h.oS.lt e).1;have hk:Keep (fun b=>b<lo/\ ¬Pb b) V V':=c.keep fun b _ hb e=>by
  have h1:=hb.1;rcases e with e|e|e
  ·exact hb.2 (h.g.nd.a.row.lt e).1
  ·omega
  ·have:=akq b e;omega
 refine ⟨g,hb h.v3 rfl (h.v3.pR h.vx rfl) (by omega),hb h.v4 rfl (h.v4.pR h.vx rfl) (by omega),hb h.v5 rfl (h.v5.pR h.vx rfl) (by omega),hb h.v6 rfl h.ne (by omega),vx,hb h.vk rfl (h.vk.pR h.vx rfl) (by omega),hb h.vl rfl (h.vl.pR h.vx rfl) (by omega),hb h.vf rfl (h.vf.pR h.vx rfl) (by omega),oS, h.oL.chg (oJ _) c fun k hk e=>?_,h.oB.chg (oJ _) c fun k hk e=>?_,h.len,fun m x i h1 h2=>?_,h.rr.keep (pF _) hk,h.rw.keep (pI _) hk,h.hP,?_,h.ne⟩
 ·have h9:lo<=k:=(h.oL.lt hk).1;rcases e with e|e|e
  ·have:=hnv k e;omega
  ·exact h.oL.pR h.vx rfl hk e
  ·exact h.oS.tK h.oL rfl k e hk
 ·have h9:lo<=k:=(h.oB.lt hk).1;rcases e with e|e|e
  ·have:=hnv k e;omega
  ·exact h.oB.pR h.vx rfl hk e
  ·exact h.oS.tK h.oB rfl k e hk
 ·obtain ⟨q1,q2,q3⟩:=h.box m x i h1 h2;exact ⟨hb q1 rfl (q1.pR h.vx rfl) q2,q2,q3⟩
 ·have:=c.size;omega
end
theorem kY {P:Program} {n:Nat} {Q:Pd} {ds:List Deferred} {F:Fr} {w:World} {a b:Code} (M:List Deferred->Fr->World->Prop)
 (h1:Wd P n (fun e ds' F w=>e=.normal/\M ds' F w) a ds F w) (h2: ∀ds' F w,M ds' F w->Wd P n Q b ds' F w):Wd P n Q (.seq a b) ds F w:=by
 refine dV ?_;unfold Wd at h1 ⊢;refine wp_mono h1 ?_;rintro e a' w' ⟨ds',F',rfl,rfl,hM⟩;refine ⟨_,F',rfl,?_⟩;unfold Qds;exact h2 ds' F' w' hM
theorem abB {N:List Sn} {A:As} (q:Nm):idx (fun s:Sn=>s.path == q) (snA N A)=idx (fun s:Sn=>s.path == q) N:=by
 have hm:(snA N A).map (·.path)=N.map (·.path):=by
  apply ao6;intro k;rw [apF,apF];by_cases hk:k<N.length
  ·rw [x8 hk];obtain ⟨x,hx⟩:=pz N hk;have e:N.getD k default=x:=by rw [apJ,hx];rfl
   rw [hx,e];rfl
  ·rw [aoS (by rw [tu];omega),aoS (by omega)]
 have h1: ∀l:List Sn,l.findIdx? (fun s:Sn=>s.path == q)=(l.map (·.path)).findIdx? (· == q):=fun l=>by rw [asr];rfl
 unfold idx;rw [h1,h1,hm]
theorem XB {N:List Sn} {A:As} (l:List Wkr) (k:Int):sQ (snA N A) l k=sQ N l k:=by
 induction l with
 |nil=>rfl
 |cons x r ih=>
  unfold sQ;rw [abB,ih];have h1: ∀i,((snA N A).getD i default).bound=(N.getD i default).bound:=fun i=>(FZ N A i).1;have h2: ∀i,((snA N A).getD i default).yP=(N.getD i default).yP:=fun i=>by
   by_cases h:i<N.length
   ·rw [Ri h]
   ·rw [VD h]
  rw [h1,h2]
theorem Rk {N:List Sn} {A:As} (refuse:List Nm) (wakes:List Wkr) (k next:Int):sJ (snA N A) refuse wakes k next=sJ N refuse wakes k next:=by
 unfold sJ;rw [XB,(FZ N A next.toNat).2.1]
theorem Rl (N:List Sn) (refuse:List Nm) (wakes:List Wkr) (k next:Int):(0<=(sJ N refuse wakes k next).1)∨sJ N refuse wakes k next=(-1,false):=by
 unfold sJ;rcases Iy N wakes k with h|⟨j,h,_⟩
 ·rw [h,if_neg (by decide)];split
  ·rename_i h2;exact .inl h2.1
  ·exact .inr rfl
 ·rw [h,if_pos (by omega)];exact .inl (by dsimp only;omega)
def Iz (N:List Sn) (refuse:List Nm) (wakes:List Wkr) (m:Nat) (o:Option Nat):Option (Nat×Bool):=
 if 0<=(sJ N refuse wakes m (qC o)).1 then some ((sJ N refuse wakes m (qC o)).1.toNat,(sJ N refuse wakes m (qC o)).2) else none
section
variable {Pb:Nat->Prop} {lo bb b3 b4 b5 b6 bx bk bl bf:Nat} {N:List Sn} {A:As} {ord pV:List Nat} {nv ov sv:Value} {refuse:List Nm} {wakes:List Wkr} {rv wv:Value} {kb:Bool} {by0:Int} {S:List Stp} {sl B:List Nat} {stv slv bkv:Value} {V V':World} {M:Nat->Prop}
theorem SuE.push {ZH ado:Value} {i c:Nat} (h:SuE Pb lo bb b3 b4 b5 b6 bx bk bl bf N A ord pV nv ov sv refuse wakes rv wv kb by0 S sl B stv slv bkv V) (vl:Bk V' bl 65 [ZH]) (vk:Bk V' bk 108 [ado]) (oL:oP (Wk.one viN) 3 1 (fun b=>lo<=b) NoB V' ZH (sl++ [i])) (oB:oP (Wk.one (fnV bx b3)) 1 1 (fun b=>lo<=b) NoB V' ado (B++ [c]))
 (vc:Bk V' c 3 [vi i]) (hc:lo<=c) (hs:ZH.ownBlock≠some c) (hs2: ∀j,ZH.ownBlock=some j->slv.ownBlock=some j∨V.heap.size<=j) (cg:Chg (fun j=>j=bl∨j=bk∨slv.ownBlock=some j∨bkv.ownBlock=some j) V V'):SuE Pb lo bb b3 b4 b5 b6 bx bk bl bf N A ord pV nv ov sv refuse wakes rv wv kb by0 S (sl++ [i]) (B++ [c]) stv ZH ado V':=by
 have hl:=h.lo0;have hlL: ∀j,slv.ownBlock=some j->lo<=j:=fun j e=>(h.oL.lt e).1;have hlB: ∀j,bkv.ownBlock=some j->lo<=j:=fun j e=>(h.oB.lt e).1;have low: ∀j,j<lo-> ¬(j=bl∨j=bk∨slv.ownBlock=some j∨bkv.ownBlock=some j):=fun j hj e=>by
  rcases e with e|e|e|e
  ·omega
  ·omega
  ·have:=hlL j e;omega
  ·have:=hlB j e;omega
 have hb: ∀ {b:Nat} {T:TypeId} {cs:List Value},Bk V b T cs->aoX T 65=false->aoX T 108=false->aoX 3 T=false->aoX 1 T=false->Bk V' b T cs:=fun hb h1 h2 h3 h4=>hb.chg cg fun e=>by
  rcases e with e|e|e|e
  ·exact hb.pR h.vl h1 e
  ·exact hb.pR h.vk h2 e
  ·exact h.oL.pR hb h3 e rfl
  ·exact h.oB.pR hb h4 e rfl
 have hk:Keep (fun b=>b<lo/\ ¬Pb b) V V':=cg.keep fun b _ hb e=>low b hb.1 e;refine ⟨h.g.chg cg fun k hk e=>low k (h.hP k hk) e,hb h.v3 rfl rfl rfl rfl,hb h.v4 rfl rfl rfl rfl,hb h.v5 rfl rfl rfl rfl,hb h.v6 rfl rfl rfl rfl,hb h.vx rfl rfl rfl rfl,vk,vl,hb h.vf rfl rfl rfl rfl,h.oS.chg (oH _) cg fun k hk e=>?_,oL,oB,by rw [adL,adL,h.len];rfl,fun m x j h1 h2=>?_,h.rr.keep (pF _) hk,h.rw.keep (pI _) hk,h.hP,?_,h.ne⟩
 ·rcases e with e|e|e|e
  ·exact h.oS.pR h.vl rfl hk e
  ·exact h.oS.pR h.vk rfl hk e
  ·exact h.oS.tK h.oL rfl k hk e
  ·exact h.oS.tK h.oB rfl k hk e
 ·by_cases hm:m<sl.length
  ·rw [aoY (by rw [h.len];exact hm)] at h1;rw [aoY hm] at h2;obtain ⟨r1,r2,r3⟩:=h.box m x j h1 h2;have hxl:=r1.lt;refine ⟨r1.chg cg fun e=>?_,r2,fun e=>?_⟩
   ·rcases e with e|e|e|e
    ·exact r1.pR h.vl rfl e
    ·exact r1.pR h.vk rfl e
    ·exact r3 e
    ·exact h.oB.pR r1 rfl e rfl
   ·rcases hs2 x e with e|e
    ·exact r3 e
    ·omega
  ·have hml:m=sl.length:=by have:=(List.getElem?_eq_some_iff.1 h2).1;rw [adL,apm] at this;omega
   subst hml;rw [aoO (by rw [h.len];exact aat _),h.len,aq7] at h1;rw [aoO (aat _),aq7] at h2;cases h1;cases h2;exact ⟨vc,hc,hs⟩
 ·have:=cg.size;omega
theorem BdM.akr (g:BdM Pb bb N ord pV false nv ov sv V) (hP: ∀b,Pb b->b<lo) (oL:oP (Wk.one viN) 3 1 (fun b=>lo<=b) NoB V slv sl) (b':Bk V' bb 85 [nv,ov,slv,.bool true]) (c:Chg (fun k=>k=bb) V V'):BdM (fun b=>Pb b∨slv.ownBlock=some b) bb N ord sl true nv ov slv V':=by
 have sep: ∀u:Value,(∀k,u.ownBlock=some k->Pb k)->Sep u slv:=fun u hu k e1 e2=>by have h1:=hP k (hu k e1);have h2:lo<=k:=(oL.lt e2).1;omega
 refine ⟨b',⟨(g.nd.a.DW (P:=prog) g.b rfl rfl c).mono fun b _ e=>.inl e,(g.nd.b.DW (P:=prog) g.b rfl rfl c).mono fun b _ e=>.inl e,g.nd.x⟩,(g.od.chg (oJ _) c fun k hk e=>g.od.pR g.b rfl hk e).mono (pq _) (fun b _ e=>.inl e) i3,(oL.chg (oJ _) c fun k hk e=>oL.pR g.b rfl hk e).yX fun b hb _=>.inr hb, fun x hx=>⟨(g.so x hx).1,(g.so x hx).2.1,sep _ fun k e=>((g.nd.a.el x hx).lt e).1,sep _ fun k e=>((g.nd.b.el x hx).lt e).1⟩,sep _ fun k e=>(g.od.lt e).1,g.win,g.nl,.inl g.lo⟩
end
theorem x9 {w:World}:(Instr.build 59 #[]).run prog w=.ok (.agg (oC false false 0 (.slice none 0 0)).toArray) w:=by
 kernel_rfl
theorem Lp {w:World}:(Instr.build 59 #[(2,vi (-1))]).run prog w=.ok (.agg (oC false false (-1) (.slice none 0 0)).toArray) w:=by
 kernel_rfl
theorem oC1 {d k:Bool} {by0:Int} {a:Option Addr} {l m:Nat}: ∀c∈oC d k by0 (.slice a l m),c.oneCell'=true:=by
 intro c hc;simp at hc;rcases hc with rfl|rfl|rfl|rfl<;>rfl
def ZI (Pb:Nat->Prop) (bb:Nat) (N:List Sn) (A:As) (ord pV:List Nat) (down:Bool) (nv ov sv:Value) (refuse:List Nm) (wakes:List Wkr) (W:World) (r:Value) (w':World):Prop:=
 (down=true/\r=.tuple #[.agg (oC false false 0 (.slice none 0 0)).toArray,vi 5]/\New W w')∨
 (down=false/\(512<refuse.length∨512<wakes.length∨wakes.any early=true)/\r=.tuple #[.agg (oC false false 0 (.slice none 0 0)).toArray,vi 1]/\New W w')∨
 (down=false/\ ¬(512<refuse.length∨512<wakes.length∨wakes.any early=true)/\ ∃(l:List Nat) (o:Option (Nat×Bool)) (v:Value),qG (Iz N refuse wakes) ord.reverse A []=(l,o)/\
   match o with
   |some x=>r=.tuple #[.agg (oC false x.2 x.1 v).toArray,vi 0]/\oP (flat stC) 64 2 (fun b=>W.heap.size<=b) NoB w' v (upS l++dnS l)/\BdM Pb bb (snA N (rP A (upS l++dnS l))) ord pV false nv ov sv w'/\Chg (fun k=>nv.ownBlock=some k) W w'
   |none=> ∃slv,r=.tuple #[.agg (oC true false (-1) v).toArray,vi 0]/\oP (flat stC) 64 2 (fun b=>W.heap.size<=b) NoB w' v (upS l)/\BdM Pb bb (snA N (rP A (upS l))) ord l true nv ov slv w'/\Chg (fun k=>nv.ownBlock=some k∨k=bb) W w')
theorem EK {stop:Nat->Option Nat->Option (Nat×Bool)}: ∀(r:List Nat) (A:As) (sl:List Nat), ∀i∈(qG stop r A sl).1,i∈r∨i∈sl
 | [],A,sl,i,h=>.inr h
 |k::r,A,sl,i,h=>by
  rw [qG] at h;split at h
  ·rcases EK r A sl i h with e|e
   ·exact .inl (aqd _ e)
   ·exact .inr e
  ·cases hs:stop sl.length (some k) with
   |some x=>rw [hs] at h;exact .inr h
   |none=>
    rw [hs] at h;rcases EK r _ _ i h with e|e
    ·exact .inl (aqd _ e)
    ·rcases List.mem_append.1 e with e|e
     ·exact .inr e
     ·rw [List.mem_singleton.1 e];exact .inl arK
section
variable {Pb Pr Pw:Nat->Prop} {bb:Nat} {N:List Sn} {A:As} {ord pV:List Nat} {down:Bool} {nv ov sv rv wv:Value} {refuse:List Nm} {wakes:List Wkr} {W:World}
theorem Oq (g:BdM Pb bb (snA N A) ord pV down nv ov sv W) (hP: ∀b,W.heap.size<=b->Pb b) (ho: ∀k∈ord,k<N.length) (hol:ord.length<=512) (hr:RdS (Wk.one vs) 1 Pr W rv refuse) (hrP: ∀b,Pr b-> ¬Pb b) (hw:RdS (flat wkC) 2 Pw W wv wakes) (hwP: ∀b,Pw b-> ¬Pb b):
 Calls prog 16 #[pT bb,rv,wv] W (Ret fun r w'=>ZI Pb bb N A ord pV down nv ov sv refuse wakes W r w'):=by
 have hnl:=g.nl;rw [tu] at hnl;obtain ⟨oa,oc,rfl,_,_⟩:=g.od.form;obtain ⟨ra,rc,rfl,_,_⟩:=hr.form;obtain ⟨wa,wc,rfl,_,_⟩:=hw.form;have gP:=g;replace g:=g.mono (Pb':=fun b=>Pb b/\b<W.heap.size) fun b hb e=>⟨e,hb⟩;refine xB func16 rfl ntmps16 rfl ?_;refine Az ?_;refine Wl.box rfl fun w1 b1 n1 s1=>?_;replace b1:Bk w1 W.heap.size 38 [pT bb]:=b1;refine Wl.box rfl fun w2 b2 n2 s2=>?_;replace b2:Bk w2 w1.heap.size 24 [.slice ra refuse.length rc]:=b2;refine Wl.box rfl fun w3 b3 n3 s3=>?_;replace b3:Bk w3 w2.heap.size 55 [.slice wa wakes.length wc]:=b3;refine Wl.alloc fun w4 b4 n4 s4=>?_;replace b4:Bk w4 w3.heap.size 59 (oC false false 0 (.slice none 0 0)):=b4;have n04:=New.trans n1 (New.trans n2 (New.trans n3 n4));have v1:=b1.chg (New.trans n2 (New.trans n3 n4)) id;have v2:=b2.chg (New.trans n3 n4) id;have v3:=b3.chg n4 id;have g4:=g.new n04;have hz1:=n1.size;have hz2:=n2.size;have hz3:=n3.size;have hz4:=n4.size;have Zg:=b2.lt;have ac4:=b3.lt;have abr:=b4.lt;clear b1 b2 b3 n1 n2 n3 n4;generalize hbr:w1.heap.size=br at*;generalize hbw:w2.heap.size=bw at*;generalize hb6:w3.heap.size=b6 at*;refine AA ?_;refine ah (u:=pT bb) rfl (v1.cell (o:=0) rfl) ?_;refine gZ rfl rfl ?_;refine AA ?_;refine ah (u:=pT bb) rfl (v1.cell (o:=0) rfl) ?_;refine DF ?_;refine ah (u:=.bool down) rfl (g4.b.cell (o:=3) rfl) ?_;cases hdn:down with
 |true=>refine AA ?_;refine eG (ps:=[]) (parts:=[]) rfl x9 ?_;refine aK (new:=oC false false 0 (.slice none 0 0)) b4 rfl rfl rfl rfl zl4 oC1 fun w5 b5 c5 s5=>?_;refine Az ?_;exact dL (rO rfl (rY rfl rfl b5 rfl) (qy rfl)) ⟨_,rfl,.inl ⟨rfl,rfl,(Chg.trans (M:=fun k=>k=b6) n04.any c5 i3).tN⟩⟩
 |false=>
 subst hdn;have c45: ∀ {w5:World},Chg (fun k=>k=b6) w4 w5->New W w5:=fun c=>(Chg.trans (M:=fun k=>k=b6) n04.any c i3).tN
 refine AA ?_;refine ah (u:=.slice ra refuse.length rc) rfl (v2.cell (o:=0) rfl) ?_;(repeat' (first|refine AA ?_|refine aW rfl rfl (fun _=>?_) (fun _=>?_)))
 ·refine eG (ps:=[]) (parts:=[]) rfl x9 ?_;refine aK (new:=oC false false 0 (.slice none 0 0)) b4 rfl rfl rfl rfl zl4 oC1 fun w5 b5 c5 s5=>?_;refine Az ?_;exact dL (rO rfl (rY rfl rfl b5 rfl) (qy rfl)) ⟨_,rfl,.inr (.inl ⟨rfl,.inl (by omega),rfl,c45 c5⟩)⟩
 refine ah (u:=.slice wa wakes.length wc) rfl (v3.cell (o:=0) rfl) ?_;(repeat' (first|refine AA ?_|refine aW rfl rfl (fun _=>?_) (fun _=>?_)))
 ·refine eG (ps:=[]) (parts:=[]) rfl x9 ?_;refine aK (new:=oC false false 0 (.slice none 0 0)) b4 rfl rfl rfl rfl zl4 oC1 fun w5 b5 c5 s5=>?_;refine Az ?_;exact dL (rO rfl (rY rfl rfl b5 rfl) (qy rfl)) ⟨_,rfl,.inr (.inl ⟨rfl,.inr (.inl (by omega)),rfl,c45 c5⟩)⟩
 refine ah (u:=.slice wa wakes.length wc) rfl (v3.cell (o:=0) rfl) ?_;(repeat' (refine aa1 ?_));refine au (IY (hw.keep (pI _) n04.keep)) rfl ?_;rintro _ w5 ⟨rfl,n5⟩;cases hea:wakes.any early with
 |true=>refine AA ?_;refine eG (ps:=[]) (parts:=[]) rfl x9 ?_;refine aK (new:=oC false false 0 (.slice none 0 0)) (b4.chg n5 id) rfl rfl rfl rfl zl4 oC1 fun w6 b5 c5 s5=>?_;refine Az ?_;exact dL (rO rfl (rY rfl rfl b5 rfl) (qy rfl)) ⟨_,rfl,.inr (.inl ⟨rfl,.inr (.inr hea),rfl,c45 (Chg.trans n5.any c5 i3)⟩)⟩
 |false=>
 have hno: ¬(512<refuse.length∨512<wakes.length∨wakes.any early=true):=by
  rintro (h|h|h)
  ·omega
  ·omega
  ·rw [hea] at h;cases h
 clear c45;(repeat' (first|refine aa7 ?_|refine ak ?_|refine dV ?_|refine iR rfl ?_|refine dJ ?_|refine fM ?_|refine eU ?_|refine Wd.skip ?_));refine eG (ps:=[(2,.const (vi (-1)))]) (parts:=[(2,vi (-1))]) rfl Lp ?_;refine Wl.alloc fun w6 b7 n6 s6=>?_;refine aK (new:=oC false false (-1) (.slice none 0 0)) b7 rfl rfl rfl rfl zl4 oC1 fun w7 b7' c7 s7=>?_;replace b7':Bk w7 w5.heap.size 59 (oC false false (-1) (.slice none 0 0)):=b7';refine AA ?_;refine Wl.alloc fun w8 b8 n8 s8=>?_;replace b8:Bk w8 w7.heap.size 108 [.slice none 0 0]:=b8;refine AA ?_;refine Wl.alloc fun w9 b9 n9 s9=>?_;replace b9:Bk w9 w8.heap.size 65 [.slice none 0 0]:=b9;refine AA ?_;refine dw (f1:=[]) (c1:=[pT W.heap.size,pT bw,pT w8.heap.size,pT w5.heap.size,pT br]) rfl rfl ?_;refine Wl.alloc fun w10 b10 n10 s10=>?_;refine aJ (u:=.func (.func 32) #[] #[pT W.heap.size,pT bw,pT w8.heap.size,pT w5.heap.size,pT br]) b10 rfl (show (0:Nat)<1 by omega) rfl rfl fun w11 b11 c11=>?_;replace b11:Bk w11 w9.heap.size 51 [.func (.func 32) #[] #[pT W.heap.size,pT bw,pT w8.heap.size,pT w5.heap.size,pT br]]:=b11;have n57:New w5 w7:=(Chg.trans n6.any c7 i3).tN
 have GZ:New w9 w11:=(Chg.trans n10.any c11 i3).tN
 have hz5:=n5.size;have acX:=n57.size;have hz8:=n8.size;have hz9:=n9.size;have ann:=GZ.size;have ajE:=b7'.lt;have aon:=b8.lt;have aoo:=b9.lt;have aop:=b11.lt;have Uz:=New.trans n5 (New.trans n57 (New.trans n8 (New.trans n9 GZ)));have TR:=New.trans n04 Uz;have E:SuE (fun b=>Pb b/\b<W.heap.size) W.heap.size bb W.heap.size br bw b6 w5.heap.size w7.heap.size w8.heap.size w9.heap.size N A ord pV nv (.slice oa ord.length oc) sv refuse wakes (.slice ra refuse.length rc) (.slice wa wakes.length wc) false (-1) [] [] [] (.slice none 0 0) (.slice none 0 0) (.slice none 0 0) w11:= ⟨g4.new Uz,v1.chg Uz id,v2.chg Uz id,v3.chg Uz id,b4.chg Uz id,b7'.chg (New.trans n8 (New.trans n9 GZ)) id,b8.chg (New.trans n9 GZ) id,b9.chg GZ id,b11,aN,aN,aN,rfl,(fun m c i h=>by cases h), (hr.mono (Pb':=fun b=>b<W.heap.size/\ ¬(Pb b/\b<W.heap.size)) (pq _) fun b hb e=>⟨hb,fun q=>hrP b e q.1⟩).keep (pF _) TR.keep,(hw.mono (Pb':=fun b=>b<W.heap.size/\ ¬(Pb b/\b<W.heap.size)) (oU _) fun b hb e=>⟨hb,fun q=>hwP b e q.1⟩).keep (pI _) TR.keep,fun b e=>e.2,⟨by omega,by omega,by omega,by omega,by omega,by omega,by omega,by omega,by omega⟩,by omega⟩;clear b4 b7 b7' b8 b9 b10 b11 v1 v2 v3 g4 n5 n6 c7 n8 n9 n10 c11 n57 GZ Uz n04;generalize hbx:w5.heap.size=bx at*;generalize hbk:w7.heap.size=bk at*;generalize hbl:w8.heap.size=bl at*;generalize hbf:w9.heap.size=bf at*;obtain ⟨stop,hstop⟩: ∃stop,stop=Iz N refuse wakes:=⟨_,rfl⟩;let Sg:Bool->Int->List Nat->List Nat->Value->Value->Value->World->Prop:=fun kb by0 sl B stv slv bkv V=>SuE (fun b=>Pb b/\b<W.heap.size) W.heap.size bb W.heap.size br bw b6 bx bk bl bf N (rP A (upS sl)) ord pV nv (.slice oa ord.length oc) sv refuse wakes (.slice ra refuse.length rc) (.slice wa wakes.length wc) kb by0 (upS sl) sl B stv slv bkv V;(repeat' (first|refine ak ?_|refine dJ ?_));refine kY (fun ds' F V=> ∃D,ds'=[{target:=.collected D,args:= #[]}]/\agrees F [(3,pT W.heap.size),(6,pT b6),(9,pT bx),(10,pT bk),(11,pT bl),(12,pT bf)]/\V.heap[D]? =some (.deferred (some []))/\W.heap.size<=D/\ ∃(kb:Bool) (by0:Int) (sl B:List Nat) (stv slv bkv:Value), Sg kb by0 sl B stv slv bkv V/\Chg (fun j=>nv.ownBlock=some j) W V/\sl.length<=ord.length/\((by0= -1/\kb=false/\qG stop ord.reverse A []=(sl,stop sl.length none))∨ ∃x:Nat,by0=x/\qG stop ord.reverse A []=(sl,some (x,kb)))) ?_ ?_
 ·refine Az ?_;refine ah (u:=pT bb) rfl (E.v3.cell (o:=0) rfl) ?_;refine DF ?_;refine ah (u:=.slice oa ord.length oc) rfl (E.g.b.cell (o:=1) rfl) ?_;refine au (DX rfl) rfl ?_;rintro _ w12 ⟨rfl,b12,n12⟩;have E12:=E.new n12;have YP:=n12.size;have ab9:=b12.lt;generalize hbs:w11.heap.size=bs at*;let I:Nat->World->Prop:=fun k V=>w12.heap.size+2<=V.heap.size/\Bk V bs 65 [.slice oa ord.length oc]/\Chg (fun j=>nv.ownBlock=some j) W V/\ ∃(sl B:List Nat) (stv slv bkv:Value),Sg false (-1) sl B stv slv bkv V/\sl.length<=k/\qG stop ord.reverse A []=qG stop (ord.reverse.drop k) (rP A (upS sl)) sl;let Ix:Code->World->Prop:=fun c V=>c=.exit 1/\Chg (fun j=>nv.ownBlock=some j) W V/\w12.heap.size+2<=V.heap.size/\ ∃(kb:Bool) (x:Nat) (sl B:List Nat) (stv slv bkv:Value),Sg kb x sl B stv slv bkv V/\sl.length<=ord.length/\qG stop ord.reverse A []=(sl,some (x,kb));refine Az ?_;refine Wd.frame [(3,pT W.heap.size),(6,pT b6),(9,pT bx),(10,pT bk),(11,pT bl),(12,pT bf),(44,.func (.func 50) #[] #[pT bs])] ⟨rfl,rfl,rfl,rfl,rfl,rfl,rfl,trivial⟩ fun G0=>?_;simp only [ql];refine iC (gf:=50) (lb:= #[pT bs]) rfl (fun args _=>rE inferInstance args) (MQ (Pb:=fun _=>True) (bs:=bs) (v:=.slice oa ord.length oc) (l:=ord)) (fun k=>rfl) I Ix ?_ ?_ ?_ ?_ ?_ ?_ ?_ ?_ ?_
  ·rintro k V ⟨h1,h2,h3,sl,B,stv,slv,bkv,h4,h5⟩;exact ⟨h2,(h4.g.od.rd (pq _)).mono (pq _) fun _ _ _=>trivial⟩
  ·rintro k V V' ⟨h1,h2,h3,sl,B,stv,slv,bkv,h4,h5⟩ n;exact ⟨aru h1 n.size,h2.chg n id,Chg.trans h3 n.any i3,sl,B,stv,slv,bkv,SuE.new h4 n,h5⟩
  ·rintro k V r1 r2 ⟨h1,h2,h3,sl,B,stv,slv,bkv,h4,h5⟩ hL;have nL:NoC V (w12.heap.size+1):=.loop hL;exact ⟨by simpa using h1,h2.put _ nL,h3.put _ (by omega),sl,B,stv,slv,bkv,SuE.XA h4 (Chg.putObj V _ _) (fun j e=>by subst e;exact ⟨nL,by omega⟩),h5⟩
  ·rintro c V r1 r2 ⟨rfl,h3,h1,kb,x,sl,B,stv,slv,bkv,h4,h5⟩ hL;have nL:NoC V (w12.heap.size+1):=.loop hL;exact ⟨rfl,h3.put _ (by omega),by simpa using h1,kb,x,sl,B,stv,slv,bkv,SuE.XA h4 (Chg.putObj V _ _) (fun j e=>by subst e;exact ⟨nL,by omega⟩),h5⟩
  ·intro r1;have n:=iD (w:=w12) (.deferred (some [])) (.loop r1);exact ⟨by simp,b12.chg n id,(New.trans TR (New.trans n12 n)).any,[],[],_,_,_,E12.new n,aat _,rfl⟩
  ·rintro k V r1 hk ⟨h1,h2,h3,sl,B,stv,slv,bkv,h4,h5,h6⟩ hL hDf;have hi:=ho _ (KL hk);have hrv:=KJ hk;rw [drop_cons hrv,qG] at h6;show Wr _ _ _ _ _ (upd (upd _ 45 (vi _)) 46 (vi (yS ord k))) V;(repeat' (refine bP rfl (by repeat' (first|exact Qfn.out (by rintro _ ⟨⟨_,e⟩,_⟩;cases e)|exact Qrd.out|exact Qas.out|refine Qsr.out ?_|refine oZ.out ?_|refine Qsc.out ?_|refine qH.out ?_)) ?_));refine Wl.alloc fun V1 bc1 n1 s1=>?_;refine aJ (u:=vi (yS ord k)) bc1 rfl (show (0:Nat)<1 by omega) rfl rfl fun V2 bc2 c2=>?_;replace bc2:Bk V2 V.heap.size 3 [vi (yS ord k)]:=bc2;have n02:New V V2:=(Chg.trans n1.any c2 i3).tN
   (repeat' (refine ak ?_));refine ⟨n02,fun r'=>?_⟩;have hL2:=(n02.block _ (Array.getElem?_eq_some_iff.1 hL).1 id).trans hL;have hD2:=(n02.block _ (Array.getElem?_eq_some_iff.1 hDf).1 id).trans hDf;have aoq:=n02.size;have nL:NoC V2 (w12.heap.size+1):=.loop hL2;have hLt:=nL.lt;have hslB: ∀j,slv.ownBlock=some j->j<V.heap.size:=fun j e=>(h4.oL.lt e).2;have E3:=SuE.XA (SuE.new h4 n02) (Chg.putObj V2 (w12.heap.size+1) (.loop r')) (fun j e=>by subst e;exact ⟨nL,by omega⟩);have bs3:=(h2.chg n02 id).put (.loop r') nL;have bc3:=bc2.put (.loop r') nL;have cW3:Chg (fun j=>nv.ownBlock=some j) W (V2.putObj (w12.heap.size+1) (.loop r')):=(Chg.trans h3 n02.any i3).put _ (by omega);have hz3:V.heap.size<(V2.putObj (w12.heap.size+1) (.loop r')).heap.size:=by have:=bc2.lt;simpa using this
   have qL:NoC (V2.putObj (w12.heap.size+1) (.loop r')) (w12.heap.size+1):=.loop (World.putObj_heap_same hLt);have qD:NoC (V2.putObj (w12.heap.size+1) (.loop r')) w12.heap.size:=.mark ((World.putObj_heap_other (by omega)).trans hD2);generalize V2.putObj (w12.heap.size+1) (.loop r')=V3 at*;clear h2 h3 h4 hL hDf hL2 hD2 bc1 bc2 n1 c2 n02 nL hLt;generalize hbc:V.heap.size=bc at*;generalize hiv:yS ord k=iv at*;have KA:=E3.nvl;have hlo:=E3.lo0;obtain ⟨la,lc,hle,_,_⟩:=E3.oL.form;(repeat' (first|refine di ?_|refine Wr.block ?_));refine iE rfl xE.out rfl (by kernel_rfl) (fun V'=>New V3 V') (Chg.drew _ _) ?_;intro V4 m4;refine aa0 (ax (u:=pT bb) rfl (fun V' c=>(E3.v3.chg c id).cell (o:=0) rfl) (af ?_));refine tJ ?_;refine aa0 (ax (u:=nv) rfl (fun V' c=>(E3.g.b.chg c id).cell (o:=0) rfl) (af ?_));refine aa0 (ax (u:=vi iv) rfl (fun V' c=>(bc3.chg c id).cell (o:=0) rfl) (af ?_));refine aa0 (aY (w:=V3) (E3.g.nd.a.row.rd (oU snC)) (fun V' c=>c.keep) rfl rfl (by omega) (x8 hi) fun b o cs hl hR hat=>af ?_);obtain rfl:cs=snC _:=hR;(repeat' (refine aa0 (aa6 (af ?_))));refine aa0 (ax (u:=.bool (rP A (upS sl) iv)) rfl (fun V' c=>(hat V' c).get 5 rfl) (af ?_));clear hat;(repeat' (refine bG ?_));have E4:=E3.new m4;have bs4:=bs3.chg m4 id;have bc4:=bc3.chg m4 id;have cW4:Chg (fun j=>nv.ownBlock=some j) W V4:=Chg.trans cW3 m4.any i3;have hz4:=m4.size;cases hrs:rP A (upS sl) iv with
   |true=>rw [if_pos hrs] at h6;(repeat' (first|refine bQ ?_|refine iO ?_|refine iP ?_|refine dO ?_|refine eH rfl ?_));exact ⟨m4.block _ qL.lt id,m4.block _ qD.lt id,by omega,bs4,cW4,sl,B,stv,slv,bkv,E4,by omega,h6⟩
   |false=>
    rw [if_neg (by rw [hrs];decide)] at h6;(repeat' (first|refine bQ ?_|refine di ?_|refine bP rfl Wk.xE.out ?_|refine Wr.skip ?_|refine eP rfl ?_));refine ah (u:=.func (.func 32) #[] #[pT W.heap.size,pT bw,pT bl,pT bx,pT br]) rfl (E4.vf.cell (o:=0) rfl) ?_;refine ah (u:=vi iv) rfl (bc4.cell (o:=0) rfl) ?_;refine bU (dst:=some 57) rfl (MR (sa:=la) (sl:=sl.length) (sc:=lc) E4.g E4.v3 E4.v5 E4.rw (by rw [<-hle];exact E4.vl) E4.vx E4.v4 E4.rr (by rw [tu];omega) (fun j hj=>by have:=hj.2;omega) (fun j hj=>by have:=hj.1;omega) (fun j hj=>by have:=hj.1;omega) (by omega)) rfl ?_;rintro _ V5 ⟨rfl,vx5,c5⟩;simp only [xH];rw [Rk] at vx5 ⊢;have E5:=E4.stop vx5 c5;have c45:Chg (fun j=>j=bx) V3 V5:=Chg.trans m4.any c5 i3;have hz5:=c5.size;have nbL:w12.heap.size+1≠bx:=fun e=>E3.vx.nl qL e.symm;have nbD:w12.heap.size≠bx:=fun e=>E3.vx.nl qD e.symm;have hst:stop sl.length (some iv)=if 0<=(sJ N refuse wakes sl.length iv).1 then some ((sJ N refuse wakes sl.length iv).1.toNat,(sJ N refuse wakes sl.length iv).2) else none:=by rw [hstop];rfl
    rw [hst] at h6;rcases Rl N refuse wakes sl.length iv with h|h
    ·rw [if_pos h] at h6;rw [decide_eq_true h];(repeat' (first|refine ak ?_|refine bQ ?_|refine iO ?_|refine iP ?_|refine jw rfl ?_|refine eH rfl ?_));refine ⟨c45.block _ qL.lt nbL,c45.block _ qD.lt nbD,rfl,Chg.trans cW4 c5 fun j _ e=>by omega,by omega,(sJ N refuse wakes sl.length iv).2,(sJ N refuse wakes sl.length iv).1.toNat,sl,B,stv,slv,bkv,?_,by omega,h6⟩;rw [asy h];exact E5
    ·rw [h] at E5 h6 ⊢;rw [if_neg (by decide)] at h6;dsimp only at E5 h6;rw [show decide ((0:Int)<=(-1,false).1)=false from rfl];have hsv: ∀j,stv.ownBlock=some j->W.heap.size<=j:=fun j e=>(E3.oS.lt e).1;have Ot: ∀ {b:Nat} {T:TypeId} {cs:List Value},Bk V5 b T cs->aoX 64 T=false->W.heap.size<=b-> ∀W',Chg (fun j=>nv.ownBlock=some j∨stv.ownBlock=some j) V5 W'->Bk W' b T cs:=fun hb hT hW W' c=>hb.chg c fun e=>by
      rcases e with e|e
      ·have:=KA _ e;omega
      ·exact E5.oS.pR hb hT e rfl
     have bc5:=bc4.chg c5 fun e=>bc4.pR E4.vx rfl e;have bs5:=bs4.chg c5 fun e=>bs4.pR E4.vx rfl e;(repeat' (first|refine ak ?_|refine bQ ?_|refine di ?_|refine Wr.skip ?_|refine eP rfl ?_));refine iE rfl xE.out rfl (by kernel_rfl) (fun V'=>Chg (fun j=>nv.ownBlock=some j∨stv.ownBlock=some j) V5 V') (Chg.drew _ _) ?_;intro V6 m6;(repeat' (refine aa0 (aa6 (af ?_))));refine aa0 (ax (u:=stv) rfl (fun V' c=>(Ot E5.vx rfl (by omega) V' c).cell (o:=3) rfl) (af ?_));refine aa0 (ax (u:=pT bb) rfl (fun V' c=>(Ot E5.v3 rfl (by omega) V' c).cell (o:=0) rfl) (af ?_));refine aa0 (ax (u:=vi iv) rfl (fun V' c=>(Ot bc5 rfl (by omega) V' c).cell (o:=0) rfl) (af ?_));refine aH rfl (au (Dx (v:=true) (E5.g.new m6) hi) rfl ?_);rintro _ V7 ⟨rfl,g7,c7⟩;have c57:Chg (fun j=>nv.ownBlock=some j) V5 V7:=Chg.trans m6.any c7 i3;refine ak ⟨rfl,c57.mono fun _ _ e=>.inl e,?_⟩;refine aH rfl (bF (R:=flat stC) (Pe:=NoB) (y:=(iv,true)) Dc rfl rfl rfl rfl (by omega) (by omega) fun v8 V8 o8 n8 s8 e8=>?_);have c58:Chg (fun j=>nv.ownBlock=some j) V5 V8:=Chg.trans c57 n8.any i3;refine ak ⟨rfl,c58.mono fun _ _ e=>.inl e,?_⟩;have aor:(upS sl).length=sl.length:=by unfold upS;rw [aqt]
     refine aH rfl (bI (R:=flat stC) Dc (E5.oS.chg (oH _) c58 fun j hj e=>by have:=KA j e;have:=hsv j hj;omega) (o8.rd (oU _)) (fun y cs hy=>hy) rfl rfl (by omega) (by simp only [maxLen,apm];omega) (by simp only [apm];omega) fun u' V9 o9 c9 abC _=>?_);have c59:Chg (fun j=>nv.ownBlock=some j∨stv.ownBlock=some j) V5 V9:=Chg.trans (c58.mono fun _ _ e=>.inl e) c9 fun _ _ e=>.inr e;refine ak ⟨rfl,c59,?_⟩;(repeat' (refine aa0 (aa6 (af ?_))));have vx9:=Ot E5.vx rfl (by omega) V9 c59;refine Wt.last rfl (aJ (u:=u') vx9 rfl (show (3:Nat)<4 by omega) rfl (by obtain ⟨_,_,rfl,_⟩:=o9.form;rfl) fun V10 aks c10=>?_);refine ak ?_;have afk:=c58.size;have aos:=c59.size;have afl:=c10.size;have afA:Chg (fun j=>nv.ownBlock=some j∨j=bx∨stv.ownBlock=some j) V5 V10:=Chg.trans (c59.mono fun j _ e=>e.imp id fun e=>.inr e) c10 fun j _ e=>.inr (.inl e);have o10:=(o9.chg (oH _) c10 fun j hj e=>o9.pR vx9 rfl hj e).mono (Pb':=fun b=>W.heap.size<=b) (oU _) (fun b _ e=>e.elim id fun e=>by have e:V8.heap.size<=b:=e;show W.heap.size<=b;omega) i3;have E10:=E5.step (((g7.new n8).chg c9 fun j hj e=>by have:=hj.2;have:=hsv j e;omega).chg c10 fun j hj e=>by have:=hj.2;omega) aks o10 afA;have afB:=(Ot bc5 rfl (by omega) V9 c59).chg c10 fun e=>(Ot bc5 rfl (by omega) V9 c59).pR vx9 rfl e;have abD:=(Ot bs5 rfl (by omega) V9 c59).chg c10 fun e=>(Ot bs5 rfl (by omega) V9 c59).pR vx9 rfl e;clear Ot c57 c58 c59 c9 c10 o8 o9 vx9 g7 c7 n8 m6 abC;rw [show upS sl++ [(iv,true)]=upS (sl++ [iv]) by unfold upS;rw [aqn];rfl,show ve (rP A (upS sl)) iv true=rP A (upS (sl++ [iv])) by rw [show upS (sl++ [iv])=upS sl++ [(iv,true)] by unfold upS;rw [aqn];rfl,yt]] at E10;rw [show ve (rP A (upS sl)) iv true=rP A (upS (sl++ [iv])) by rw [show upS (sl++ [iv])=upS sl++ [(iv,true)] by unfold upS;rw [aqn];rfl,yt]] at h6;have hBl:=E10.len;(repeat' (first|refine bQ ?_|refine di ?_|refine bP rfl Wk.xE.out ?_));refine ah (u:=slv) rfl (E10.vl.cell (o:=0) rfl) ?_;refine ah (u:=vi iv) rfl (afB.cell (o:=0) rfl) ?_;refine bZ (R:=Wk.one viN) (y:=iv) qQ E10.oL rfl rfl rfl rfl rfl (by omega) (by omega) (by simp only [maxLen];omega) (by omega) rfl rfl fun v11 V11 p11 o11 c11 acd=>?_;have ZJ:=E10.vl.chg c11 fun e=>E10.oL.pR E10.vl rfl e rfl;refine aJ (u:=v11) ZJ rfl (show (0:Nat)<1 by omega) rfl (by obtain ⟨_,_,rfl,_⟩:=o11.form;rfl) fun V12 afC c12=>?_;have afD:=E10.vk.chg c11 fun e=>E10.oL.pR E10.vk rfl e rfl;have adp:=afD.chg c12 fun e=>afD.pR ZJ rfl e;have afE:=E10.oB.chg (oJ _) c11 fun j hj e=>E10.oL.tK E10.oB rfl j e hj;have ZK:=afE.chg (oJ _) c12 fun j hj e=>afE.pR ZJ rfl hj e;have afF:=o11.chg (oJ _) c12 fun j hj e=>o11.pR ZJ rfl hj e;have afG:slv.ownBlock≠some bc:=fun e=>by have:=hslB bc e;omega
     have afH:=afB.chg c11 afG;have afI:=afH.chg c12 fun e=>afH.pR ZJ rfl e;have Tn:=c11.size;have ano:=c12.size;have hlB: ∀j,bkv.ownBlock=some j->W.heap.size<=j:=fun j e=>(E10.oB.lt e).1;have hlL: ∀j,slv.ownBlock=some j->W.heap.size<=j:=fun j e=>(E10.oL.lt e).1;(repeat' (first|refine ak ?_|refine bQ ?_|refine bP rfl Wk.xE.out ?_));refine ah (u:=bkv) rfl (adp.cell (o:=0) rfl) ?_;refine dw (f1:=[]) (c1:=[pT bx,pT W.heap.size,pT bc]) rfl rfl ?_;refine bZ (R:=Wk.one (fnV bx W.heap.size)) (y:=bc) (afy bx W.heap.size) ZK rfl rfl rfl rfl rfl (by omega) (by omega) (by simp only [maxLen];omega) (by omega) rfl rfl fun v13 V13 p13 o13 c13 abV=>?_;have ZL:=adp.chg c13 fun e=>ZK.pR adp rfl e rfl;refine aJ (u:=v13) ZL rfl (show (0:Nat)<1 by omega) rfl (by obtain ⟨_,_,rfl,_⟩:=o13.form;rfl) fun V14 akt c14=>?_;have afJ:=afC.chg c13 fun e=>ZK.pR afC rfl e rfl;have aku:=afJ.chg c14 fun e=>afJ.pR ZL rfl e;have afK:=afF.chg (oJ _) c13 fun j hj e=>ZK.tK afF rfl j e hj;have akv:=afK.chg (oJ _) c14 fun j hj e=>afK.pR ZL rfl hj e;have akw:=o13.chg (oJ _) c14 fun j hj e=>o13.pR ZL rfl hj e;have afL:=afI.chg c13 fun e=>ZK.pR afI rfl e rfl;have akx:=afL.chg c14 fun e=>afL.pR ZL rfl e;have adb:=c13.size;have aeM:=c14.size;have ZM:Chg (fun j=>j=bl∨j=bk∨slv.ownBlock=some j∨bkv.ownBlock=some j) V10 V14:=Chg.trans (Chg.trans (Chg.trans (c11.mono fun j _ e=>.inr (.inr (.inl e))) c12 fun j _ e=>.inl e) c13 fun j _ e=>.inr (.inr (.inr e))) c14 fun j _ e=>.inr (.inl e);have E14:=E10.push aku akt (akv.mono (pq _) (fun b _ e=>e.elim id fun e=>by have e:V10.heap.size<=b:=e;show W.heap.size<=b;omega) i3) (akw.mono (pq _) (fun b _ e=>e.elim id fun e=>by have e:V12.heap.size<=b:=e;show W.heap.size<=b;omega) i3) akx (by omega) (fun e=>by rcases acd with l|l;exact afG (l▸e);have:=l bc e;omega) (fun j e=>by rcases acd with l|l;exact .inl (l▸e);exact .inr (l j e)) ZM;have adq:Chg (fun j=>(nv.ownBlock=some j∨j=bx∨stv.ownBlock=some j)∨(j=bl∨j=bk∨slv.ownBlock=some j∨bkv.ownBlock=some j)) V3 V14:=Chg.trans (Chg.trans (c45.mono fun j _ e=>.inl (.inr (.inl e))) afA fun j _ e=>.inl e) ZM fun j _ e=>.inr e;have hnc: ∀j,NoC V3 j-> ¬((nv.ownBlock=some j∨j=bx∨stv.ownBlock=some j)∨(j=bl∨j=bk∨slv.ownBlock=some j∨bkv.ownBlock=some j)):=fun j hj e=>by
      rcases e with (e|e|e)|(e|e|e|e)
      ·exact E3.g.nd.a.row.nl hj e rfl
      ·exact E3.vx.nl hj e.symm
      ·exact E3.oS.nl hj e rfl
      ·exact E3.vl.nl hj e.symm
      ·exact E3.vk.nl hj e.symm
      ·exact E3.oL.nl hj e rfl
      ·exact E3.oB.nl hj e rfl
     have aky:Bk V14 bs 65 [.slice oa ord.length oc]:=abD.chg ZM fun e=>by
      rcases e with e|e|e|e
      ·omega
      ·exact abD.pR E10.vk rfl e
      ·exact E10.oL.pR abD rfl e rfl
      ·exact E10.oB.pR abD rfl e rfl
     (repeat' (first|refine ak ?_|refine dM ?_));refine ⟨adq.block _ qL.lt (hnc _ qL),adq.block _ qD.lt (hnc _ qD),by omega,aky,Chg.trans cW3 adq fun j hj e=>?_,sl++ [iv],B++ [bc],u',v11,v13,E14,by rw [adL,apm];omega,h6⟩;rcases e with (e|e|e)|(e|e|e|e)
     ·exact e
     ·omega
     ·have:=hsv j e;omega
     ·omega
     ·omega
     ·have:=hlL j e;omega
     ·have:=hlB j e;omega
  ·rintro V ⟨h1,h2,h3,sl,B,stv,slv,bkv,h4,h5,h6⟩ hDf;rw [show ord.reverse.drop ord.length=[] from aqo (by rw [asx];exact aat _),qG] at h6;refine fM ⟨rfl,w12.heap.size,rfl,⟨rfl,rfl,rfl,rfl,rfl,rfl,trivial⟩,hDf,by omega,false, -1,sl,B,stv,slv,bkv,h4,h3,h5,.inl ⟨rfl,rfl,h6⟩⟩
  ·rintro V ⟨h,_⟩ _;cases h
  ·rintro id V ⟨hid,h3,h1,kb,x,sl,B,stv,slv,bkv,h4,h5,h6⟩ hDf;cases hid;exact Qdb.hit ⟨rfl,w12.heap.size,rfl,⟨rfl,rfl,rfl,rfl,rfl,rfl,trivial⟩,hDf,by omega,kb,x,sl,B,stv,slv,bkv,h4,h3,h5,.inr ⟨x,rfl,h6⟩⟩
 ·rintro ds' F V ⟨D,rfl,hF,hDm,afM,kb,by0,sl,B,stv,slv,bkv,E0,cV,hsl,hor⟩;rw [<-qh hF];simp only [ql];clear hF E;have hlo:=E0.lo0;obtain ⟨la,lc,hle,_,_⟩:=E0.oL.form;refine dV ?_;refine kY (fun ds' F V=>ds'=[{target:=.collected D,args:= #[]}]/\V.heap[D]? =some (.deferred (some []))/\ ∃(st kb:Bool) (by0:Int),agrees F [(3,pT W.heap.size),(6,pT b6),(9,pT bx),(10,pT bk),(11,pT bl),(80,.bool st)]/\ Sg kb by0 sl B stv slv bkv V/\Chg (fun j=>nv.ownBlock=some j) W V/\((st=true/\ ∃x:Nat,by0=x/\qG stop ord.reverse A []=(sl,some (x,kb)))∨(st=false/\by0= -1/\kb=false/\qG stop ord.reverse A []=(sl,none)))) ?_ ?_
  ·refine DF ?_;refine ah (u:=vi by0) rfl (E0.vx.cell (o:=2) rfl) ?_;rcases hor with ⟨rfl,rfl,hgo⟩|⟨x,rfl,hgo⟩
   ·have hst:stop sl.length none=if 0<=(sJ N refuse wakes sl.length (-1)).1 then some ((sJ N refuse wakes sl.length (-1)).1.toNat,(sJ N refuse wakes sl.length (-1)).2) else none:=by rw [hstop];rfl
    rw [hst] at hgo;(repeat' (first|refine DF ?_|(refine aV rfl rfl (fun _=>?_) (fun _=>?_)<;>(first|(exfalso;omega)|skip))));refine ah (u:=.func (.func 32) #[] #[pT W.heap.size,pT bw,pT bl,pT bx,pT br]) rfl (E0.vf.cell (o:=0) rfl) ?_;(try refine aQ rfl rfl ?_);refine bU (dst:=some 79) rfl (MR (next:= -1) (sa:=la) (sl:=sl.length) (sc:=lc) E0.g E0.v3 E0.v5 E0.rw (by rw [<-hle];exact E0.vl) E0.vx E0.v4 E0.rr (by omega) (fun j hj=>by have:=hj.2;omega) (fun j hj=>by have:=hj.1;omega) (fun j hj=>by have:=hj.1;omega) (by omega)) rfl ?_;rintro _ V1 ⟨rfl,vx1,c1⟩;simp only [xH];rw [Rk] at vx1 ⊢;have E1:=E0.stop vx1 c1;have cW1:Chg (fun j=>nv.ownBlock=some j) W V1:=Chg.trans cV c1 fun j _ e=>by omega
    have nbD:D≠bx:=fun e=>E0.vx.nl (.mark hDm) e.symm;have hD1:=(c1.block _ (Array.getElem?_eq_some_iff.1 hDm).1 nbD).trans hDm;rcases Rl N refuse wakes sl.length (-1) with h|h
    ·rw [if_pos h] at hgo;rw [decide_eq_true h];(repeat' (first|refine ak ?_|refine aa9 ?_|refine Qdn.e ?_));refine ⟨rfl,rfl,hD1,true,(sJ N refuse wakes sl.length (-1)).2,(sJ N refuse wakes sl.length (-1)).1,⟨rfl,rfl,rfl,rfl,rfl,rfl,trivial⟩,E1,cW1,.inl ⟨rfl,(sJ N refuse wakes sl.length (-1)).1.toNat,(asy h).symm,hgo⟩⟩
    ·rw [h] at E1 hgo ⊢;rw [if_neg (by decide)] at hgo;dsimp only at E1 hgo;rw [show decide ((0:Int)<=(-1,false).1)=false from rfl];(repeat' (first|refine ak ?_|refine aa9 ?_|refine Qdn.e ?_));exact ⟨rfl,rfl,hD1,false,false, -1,⟨rfl,rfl,rfl,rfl,rfl,rfl,trivial⟩,E1,cW1,.inr ⟨rfl,rfl,rfl,hgo⟩⟩
   ·(repeat' (first|refine aa1 ?_|refine ak ?_|refine dG rfl rfl ?_|refine dN rfl (by conv=>{lhs;whnf}) ?_|refine Qdn.e ?_|(refine aV rfl rfl (fun _=>?_) (fun _=>?_)<;>(first|(exfalso;omega)|skip))));exact ⟨rfl,rfl,hDm,true,kb,x,⟨rfl,rfl,rfl,rfl,rfl,rfl,trivial⟩,E0,cV,.inl ⟨rfl,x,rfl,hgo⟩⟩
  clear hor cV hDm E0 hle;rintro ds' F V ⟨rfl,hDm,st,kb,by0,hF,E0,cV,hor⟩;rw [<-qh hF];simp only [ql];clear hF;have hDl:=(Array.getElem?_eq_some_iff.1 hDm).1;have hlo:=E0.lo0;have KA:=E0.nvl;have akz: ∀i∈sl,i<N.length:=fun i hi=>by
   have hs:(qG stop ord.reverse A []).1=sl:=by rcases hor with ⟨_,x,_,h⟩|⟨_,_,_,h⟩<;>rw [h]
   rcases EK ord.reverse A [] i (by rw [hs];exact hi) with e|e
   ·exact ho i (List.mem_reverse.1 e)
   ·cases e
  rcases hor with ⟨rfl,x,rfl,hgo⟩|⟨rfl,rfl,rfl,hgo⟩
  ·obtain ⟨ba,bc,hbe,_,_⟩:=E0.oB.form;have hBl:=E0.len;refine Az ?_;refine ah (u:=bkv) rfl (E0.vk.cell (o:=0) rfl) ?_;rw [hbe];refine au (KN rfl) rfl ?_;rw [<-hbe];rintro _ w12 ⟨rfl,b12,n12⟩;have E12:=SuE.new E0 n12;have YP:=n12.size;have ab9:=b12.lt;have akA:=(n12.block _ hDl id).trans hDm;generalize hbs:V.heap.size=bs at*;let I:Nat->World->Prop:=fun m V=>w12.heap.size+2<=V.heap.size/\Bk V bs 108 [bkv]/\V.heap[D]? =some (.deferred (some []))/\Chg (fun j=>nv.ownBlock=some j) W V/\ ∃Au,SuE (fun b=>Pb b/\b<W.heap.size) W.heap.size bb W.heap.size br bw b6 bx bk bl bf N (rP A (upS sl++(dnS sl).take m)) ord pV nv (.slice oa ord.length oc) sv refuse wakes (.slice ra refuse.length rc) (.slice wa wakes.length wc) kb x (upS sl++(dnS sl).take m) sl B Au slv bkv V;refine Az ?_;refine Wd.frame [(6,pT b6),(9,pT bx),(82,.func (.func 55) #[] #[pT bs])] ⟨rfl,rfl,rfl,trivial⟩ fun G0=>?_;simp only [ql];refine iC (gf:=55) (lb:= #[pT bs]) rfl (fun args _=>rE inferInstance args) (Uy (Pb:=fun _=>True) (bs:=bs) (v:=bkv) (f:=fnV bx W.heap.size) (l:=B)) (fun k=>rfl) I (fun _ _=>False) ?_ ?_ ?_ ?_ ?_ ?_ ?_ ?_ ?_
   ·rintro k V ⟨h1,h2,hd,h3,Au,h4⟩;exact ⟨h2,(h4.oB.rd (pq _)).mono (pq _) fun _ _ _=>trivial⟩
   ·rintro k V V' ⟨h1,h2,hd,h3,Au,h4⟩ n;exact ⟨aru h1 n.size,h2.chg n id,(n.block _ (Array.getElem?_eq_some_iff.1 hd).1 id).trans hd,Chg.trans h3 n.any i3,Au,h4.new n⟩
   ·rintro k V r1 r2 ⟨h1,h2,hd,h3,Au,h4⟩ hL;have nL:NoC V (w12.heap.size+1):=.loop hL;exact ⟨by simpa using h1,h2.put _ nL,(World.putObj_heap_other (by omega)).trans hd,h3.put _ (by omega),Au,h4.XA (Chg.putObj V _ _) (fun j e=>by subst e;exact ⟨nL,by omega⟩)⟩
   ·exact fun _ _ _ _ h=>h.elim
   ·intro r1;have n:=iD (w:=w12) (.deferred (some [])) (.loop r1);refine ⟨by simp,b12.chg n id,(n.block _ (by omega) id).trans akA,Chg.trans (Chg.trans cV n12.any i3) n.any i3,stv,?_⟩;rw [apB,aqJ];exact E12.new n
   ·rintro m V1 r1 hm ⟨h1,h2,hd,h3,Au,h4⟩ hL hDf;show Wr _ _ _ _ _ (upd (upd _ 83 (vi _)) 84 (fnV bx W.heap.size (yS B m))) V1;(repeat' (first|refine aa7 ?_|refine ak ?_|refine bP rfl (by repeat' (first|exact Qfn.out (by rintro _ ⟨⟨_,e⟩,_⟩;cases e)|exact Qrd.out|exact Qas.out|refine Qsr.out ?_|refine oZ.out ?_|refine Qsc.out ?_|refine qH.out ?_)) ?_));refine ⟨aB _ _,fun r'=>?_⟩;have nL:NoC V1 (w12.heap.size+1):=.loop hL;have hLt:=nL.lt;have E3:=h4.XA (Chg.putObj V1 (w12.heap.size+1) (.loop r')) (fun j e=>by subst e;exact ⟨nL,by omega⟩);have bs3:=h2.put (.loop r') nL;have cW3:=h3.put (.loop r') (L:=w12.heap.size+1) (by omega);have hz3:w12.heap.size+2<=(V1.putObj (w12.heap.size+1) (.loop r')).heap.size:=by simpa using h1
    have hd3:(V1.putObj (w12.heap.size+1) (.loop r')).heap[D]? =some (.deferred (some [])):=(World.putObj_heap_other (by omega)).trans hd;have qL:NoC (V1.putObj (w12.heap.size+1) (.loop r')) (w12.heap.size+1):=.loop (World.putObj_heap_same hLt);have qD:NoC (V1.putObj (w12.heap.size+1) (.loop r')) w12.heap.size:=.mark ((World.putObj_heap_other (by omega)).trans hDf);generalize V1.putObj (w12.heap.size+1) (.loop r')=V3 at*;clear h1 h2 h3 h4 hd hL hDf nL hLt;have hms:m<sl.length:=by omega
    have hBm:B[B.length-1-m]? =some (yS B m):=by obtain ⟨y,hy⟩:=pz B (k:=B.length-1-m) (by omega);unfold yS;rw [apJ,hy];rfl
    have hSm:sl[B.length-1-m]? =some (yS sl m):=by rw [hBl];obtain ⟨y,hy⟩:=pz sl (k:=sl.length-1-m) (by omega);unfold yS;rw [apJ,hy];rfl
    obtain ⟨vc,hcl,_⟩:=E3.box _ _ _ hBm hSm;have hi:=akz _ (KL hms);have hlen:(upS sl++(dnS sl).take m).length<=2000:=by
     have h1:(upS sl).length=sl.length:=by unfold upS;rw [aqt]
     have h2:((dnS sl).take m).length<=m:=by rw [apb];exact Nat.min_le_left _ _
     rw [adL];omega
    have ht:=take_snoc (ZG hms);(repeat' (first|refine aa1 ?_|refine bP rfl Wk.xE.out ?_|refine Wr.block ?_));refine bU (dst:=some 86) rfl (Xz E3.g E3.vx E3.oS E3.v3 vc hi (fun b hb=>hb.2) (by omega) (by omega) hcl (by omega) hlen) rfl ?_;rintro u V4 ⟨akB,vx4,oS4,g4,c4⟩;simp only [xH];rw [<-yt,adI, <-ht] at g4;rw [adI, <-ht] at oS4;have E4:=E3.step g4 vx4 oS4 c4;have hsv: ∀j,Au.ownBlock=some j->W.heap.size<=j:=fun j e=>(E3.oS.lt e).1;have hnc: ∀j,NoC V3 j-> ¬(nv.ownBlock=some j∨j=bx∨Au.ownBlock=some j):=fun j hj e=>by
     rcases e with e|e|e
     ·exact E3.g.nd.a.row.nl hj e rfl
     ·exact E3.vx.nl hj e.symm
     ·exact E3.oS.nl hj e rfl
    (repeat' (first|refine ak ?_|refine dM ?_));refine ⟨c4.block _ qL.lt (hnc _ qL),c4.block _ qD.lt (hnc _ qD),by have:=c4.size;omega,bs3.chg c4 fun e=>?_,(c4.block _ (by omega) (hnc _ (.mark hd3))).trans hd3,Chg.trans cW3 c4 fun j hj e=>?_,akB,E4⟩
    ·rcases e with e|e|e
     ·have:=KA _ e;omega
     ·exact bs3.pR E3.vx rfl e
     ·exact E3.oS.pR bs3 rfl e rfl
    ·rcases e with e|e|e
     ·exact e
     ·omega
     ·have:=hsv j e;omega
   ·rintro V1 ⟨h1,h2,hd,h3,Au,h4⟩ hDf;rw [hBl,show (dnS sl).take sl.length=dnS sl by rw [<-Oo,apZ]] at h4;obtain ⟨ua,uc,hue,_,_⟩:=h4.oS.form;have E4:=h4;(repeat' (first|refine dV ?_|refine dJ ?_|refine fM ?_|refine eU ?_));refine bD h4.vx rfl rfl ?_;refine aK (new:=oC false kb x Au) h4.v6 rfl rfl rfl rfl zl4 (by rw [hue];exact oC1) fun V2 b2 c2 s2=>?_;replace b2:Bk V2 b6 59 (oC false kb x Au):=b2;refine Az ?_;have hd2:V2.heap[D]? =some (.deferred (some [])):=(c2.block _ (Array.getElem?_eq_some_iff.1 hd).1 fun e=>h4.v6.nl (.mark hd) e.symm).trans hd;have hD2:V2.heap[w12.heap.size]? =some (.deferred (some [])):=(c2.block _ (Array.getElem?_eq_some_iff.1 hDf).1 fun e=>h4.v6.nl (.mark hDf) e.symm).trans hDf;have oS2:=h4.oS.chg (oH _) c2 fun j hj e=>h4.oS.pR h4.v6 rfl hj e;have g2:=h4.g.chg c2 fun j hj e=>by have:=hj.2;omega
    have cW2:Chg (fun j=>nv.ownBlock=some j) W V2:=Chg.trans h3 c2 fun j hj e=>by omega
    refine gB (by simp) hD2 ?_;have nD2:NoC V2 w12.heap.size:=.mark hD2;have hd3:(V2.putObj w12.heap.size (.deferred none)).heap[D]? =some (.deferred (some [])):=(World.putObj_heap_other (by omega)).trans hd2;refine gB (by simp) hd3 ?_;have nd3:NoC (V2.putObj w12.heap.size (.deferred none)) D:=.mark hd3;refine dL (rO rfl (rY rfl rfl ((b2.put _ nD2).put _ nd3) rfl) (qy rfl)) ⟨_,rfl,.inr (.inr ⟨rfl,hno,sl,some (x,kb),Au,by rw [<-hstop];exact hgo,rfl,(oS2.put _ (oH _) nD2).put _ (oH _) nd3,?_,(cW2.put _ (by omega)).put _ afM⟩)⟩;exact ((g2.chg (Chg.putObj V2 _ _) (fun j hj e=>by have:=hj.2;omega)).chg (Chg.putObj _ _ _) (fun j hj e=>by have:=hj.2;omega)).mono fun b _ e=>e.1
   ·exact fun _ h=>h.elim
   ·exact fun _ _ h=>h.elim
  ·refine DF ?_;refine gy ?_;refine aX rfl (by kernel_rfl) (fun w'=>Chg (fun j=>j=bb) V w') (Chg.drew _ _) ?_;intro V1 m1;have akp:bb<W.heap.size:=E0.g.lo.2;have hb3: ∀V',Chg (fun j=>j=bb) V V'->Bk V' W.heap.size 38 [pT bb]:=fun V' c=>E0.v3.chg c fun e=>by omega
   have akC: ∀V',Chg (fun j=>j=bb) V V'->Bk V' bl 65 [slv]:=fun V' c=>E0.vl.chg c fun e=>by omega
   refine aa0 (ax (u:=pT bb) rfl (fun V' c=>(hb3 V' c).cell (o:=0) rfl) (af ?_));refine aa0 (ax (u:=pT bb) rfl (fun V' c=>(hb3 V' c).cell (o:=0) rfl) (af ?_));refine aa0 (ax (u:=slv) rfl (fun V' c=>(akC V' c).cell (o:=0) rfl) (af ?_));refine tJ ?_;obtain ⟨la,lc,hle,_,_⟩:=E0.oL.form;refine aH rfl (aJ (u:=slv) (E0.g.b.chg m1 id) rfl (show (2:Nat)<4 by omega) rfl (by rw [hle];rfl) fun V2 b2 c2=>?_);have c02:Chg (fun j=>j=bb) V V2:=Chg.trans m1.any c2 i3;refine ak ⟨rfl,c02,?_⟩;refine tJ ?_;refine Wt.last rfl (aJ (u:=.bool true) b2 rfl (show (3:Nat)<4 by omega) rfl rfl fun V3 b3' c3=>?_);refine ak ?_;have c03:Chg (fun j=>j=bb) V V3:=Chg.trans c02 c3 i3;have g3:=E0.g.akr E0.hP E0.oL b3' c03;have vx3:=E0.vx.chg c03 fun e=>by omega
   have v63:=E0.v6.chg c03 fun e=>by omega
   have oS3:=E0.oS.chg (oH _) c03 fun j hj e=>by have h9:W.heap.size<=j:=(E0.oS.lt hj).1;omega
   have hD3:=(c03.block _ hDl fun e=>by omega).trans hDm;obtain ⟨ua,uc,hue,_,_⟩:=E0.oS.form;have hne:=E0.ne;refine Qdn.e ?_;refine AA ?_;refine aJ (u:=.bool true) vx3 rfl (show (0:Nat)<4 by omega) rfl rfl fun V4 vx4 c4=>?_;replace vx4:Bk V4 bx 59 (oC true false (-1) stv):=vx4;refine AA ?_;refine bD vx4 rfl rfl ?_;have v64:=v63.chg c4 hne;refine aK (new:=oC true false (-1) stv) v64 rfl rfl rfl rfl zl4 (by rw [hue];exact oC1) fun V5 b5 c5 s5=>?_;replace b5:Bk V5 b6 59 (oC true false (-1) stv):=b5;have o4:=oS3.chg (oH _) c4 fun j hj e=>oS3.pR vx3 rfl hj e;have o5:=o4.chg (oH _) c5 fun j hj e=>o4.pR v64 rfl hj e;have hD4:=(c4.block _ (Array.getElem?_eq_some_iff.1 hD3).1 fun e=>vx3.nl (.mark hD3) e.symm).trans hD3;have hD5:=(c5.block _ (Array.getElem?_eq_some_iff.1 hD4).1 fun e=>v64.nl (.mark hD4) e.symm).trans hD4;have hnD:bx≠D:=vx3.nl (.mark hD3);have g5:=(g3.chg c4 fun j hj e=>by
    rcases hj with hj|hj
    ·have:=hj.2;omega
    ·exact E0.oL.pR E0.vx rfl hj e).chg c5 fun j hj e=>by
    rcases hj with hj|hj
    ·have:=hj.2;omega
    ·exact E0.oL.pR E0.v6 rfl hj e
   have hlD: ∀j,slv.ownBlock=some j->W.heap.size<=j/\j≠D:=fun j e=>⟨(E0.oL.lt e).1,E0.oL.nl (.mark hDm) e⟩;refine Az ?_;refine gB (by simp) hD5 ?_;have nD5:NoC V5 D:=.mark hD5;have c05:Chg (fun k=>nv.ownBlock=some k∨k=bb) W V5:=Chg.trans (Chg.trans (Chg.trans (cV.mono fun _ _ e=>.inl e) c03 fun _ _ e=>.inr e) c4 fun j hj e=>by omega) c5 fun j hj e=>by omega
   refine dL (rO rfl (rY rfl rfl (b5.put _ nD5) rfl) (qy rfl)) ⟨_,rfl,.inr (.inr ⟨rfl,hno,sl,none,stv,by rw [<-hstop];exact hgo,slv,rfl,o5.put _ (oH _) nD5,?_,c05.put _ afM⟩)⟩;exact (g5.chg (Chg.putObj V5 _ _) fun j hj e=>by
    rcases hj with hj|hj
    ·have:=hj.2;omega
    ·exact (hlD j hj).2 e).mono fun b _ e=>e.elim (fun e=>e.1) fun e=>hP b (hlD b e).1
end
section
variable {n:Nat} {ds:List Deferred} {Q:Po} {F:Fr} {w w':World} {ops rest:List Oper} {d:Nat} {ty:TypeId} {pos:String} {aft:Array Edge}
theorem jP {x i:Operand} {t e:TypeId} {b k:Nat} {bytes:Nat} {f:Nat->Option Int} {v:Int} [ht:Und prog t (.map 3 e)] [he:ElT prog e 1 bytes false (vi 0)] (h:ImL w b f) (hk:k<9223372036854775808)
 (hx:ev n F x=.map (some b)) (hi:ev n F i=vi k) (hv:(f k).getD 0=v) (c:Wl prog n ds Q ops rest (upd F d (vi v)) w):
 Wl prog n ds Q ops (⟨some d,.lookup t x i false,ty,pos,aft,none⟩::rest) F w:=by
 obtain ⟨L,h1,h2,h3⟩:=h;subst hv;refine jb abn h2 (abo hk) hx hi ?_;rintro r (hr|⟨rfl,hr⟩)
 ·obtain ⟨⟨k',v⟩,hm,e⟩:=List.mem_map.1 hr;simp only [Prod.mk.injEq,Value.int.injEq,true_and] at e;obtain ⟨e1,rfl⟩:=e;obtain rfl:k'=k:=by omega
  rw [(h3 _ _).2 hm] at c;exact c
 ·have:f k=none:=by
   cases hf:f k with
   |none=>rfl
   |some v=>exact absurd rfl (hr _ (List.mem_map.2 ⟨_,(h3 _ _).1 hf,rfl⟩))
  rw [this] at c;exact c
end
def cF (c:Nat->Int):Nat->Option Int:=fun k=>if c k=0 then none else some (c k)
theorem UA (c:Nat->Int) (k:Nat):(cF c k).getD 0=c k:=by
 unfold cF;split
 ·rename_i h;rw [h];rfl
 ·rfl
def cU (c:Nat->Int) (i:Nat):Nat->Int:=fun k=>if k=i then c i+1 else c k
theorem adr {c:Nat->Int} {i:Nat} (h:0<=c i):FU (cF c) i (c i+1)=cF (cU c i):=by
 funext k;unfold FU cF cU;by_cases e:k=i
 ·subst e;rw [if_pos rfl,if_pos rfl,if_neg (by omega)]
 ·rw [if_neg e,if_neg e]
def mkS (n:Nat) (c:Nat->Int):List Bool:=(abS n).map fun k=>decide (c k≠0)
theorem Dy (n:Nat) (c:Nat->Int):(mkS n c).length=n:=by unfold mkS;rw [aqt,arE]
theorem Dz {n k:Nat} {c:Nat->Int} (h:k<n):(mkS n c)[k]? =some (decide (c k≠0)):=by unfold mkS;rw [apF,aq3 h];rfl
theorem VF {n i:Nat} {c:Nat->Int} (hi:i<n) (h:0<=c i):mkS n (cU c i)=(mkS n c).set i true:=by
 apply ao6;intro k;rw [apo];by_cases hk:k<n
 ·rw [Dz hk];unfold cU;by_cases e:i=k
  ·subst e;rw [if_pos rfl,if_pos rfl,if_pos (by rw [Dy];exact hk),decide_eq_true (by omega)]
  ·rw [if_neg e,if_neg (fun q=>e q.symm),Dz hk]
 ·rw [aoS (by rw [Dy];omega)];by_cases e:i=k
  ·subst e;exact absurd hi hk
  ·rw [if_neg e,aoS (by rw [Dy];omega)]
theorem VG {n i:Nat} {c:Nat->Int} (hi:i<n) (h:0<c i):mkS n (cU c i)=mkS n c:=by
 rw [VF hi (by omega)];apply ao6;intro k;rw [apo];by_cases e:i=k
 ·subst e;rw [if_pos rfl,if_pos (by rw [Dy];exact hi),Dz hi,decide_eq_true (by omega)]
 ·rw [if_neg e]
def Ou (W:Nat->List Nat) (i:Nat) (S S':List Bool):Prop:=(S[i]? =some true/\S'=S)∨(S[i]? =some false/\Mrk W i (W i) (S.set i true) S')
theorem Mrk.to {W:Nat->List Nat} {i k:Nat} {ks:List Nat} {S S1 S2:List Bool} (h:Mrk W i ks S S1) (hk:k∈W i) (hl:k<S1.length) (h2:Ou W k S1 S2):Mrk W i (ks++ [k]) S S2:=by
 rcases h2 with ⟨h3,rfl⟩|⟨_,h3⟩
 ·exact h.skip h3
 ·exact h.step hk hl h3
theorem Ou.all {W:Nat->List Nat} {i n:Nat} {S':List Bool} (hi:i<n) (h:Ou W i (apW n false) S') (k:Nat):S'[k]? =some true↔k=i∨Rch W i k:=by
 have hf: ∀k:Nat,(apW n false)[k]? ≠some true:=fun k e=>by rw [List.getElem?_replicate] at e;split at e<;>cases e
 have hset: ∀m:Nat,((apW n false).set i true)[m]? =some true->m=i:=fun m e=>by
  rw [apo] at e;by_cases q:i=m
  ·exact q.symm
  ·rw [if_neg q] at e;exact absurd e (hf m)
 rcases h with ⟨h,_⟩|⟨_,h⟩
 ·exact absurd h (hf i)
 have h0:S'[i]? =some true:=h.mo i (by rw [apo,if_pos rfl,if_pos (by simpa using hi)]);have hcl: ∀m:Nat,S'[m]? =some true-> ∀q∈W m,S'[q]? =some true:=fun m hm q hq=>by
  rcases h.cl m hm with e|e
  ·have:=hset m e;subst this;exact h.all q hq
  ·exact e q hq
 constructor
 ·intro e;rcases h.snd k e with e|e
  ·exact .inl (hset k e)
  ·exact .inr e
 ·rintro (rfl|e)
  ·exact h0
  ·induction e with
   |one h1=>exact hcl _ h0 _ h1
   |more _ h1 ih=>exact hcl _ ih _ h1
structure Rw (W0:World) (bb bm b1 b2 b3:Nat) (W:World):Prop where
 n:Chg (fun k=>k=bm) W0 W
 v1:Bk W b1 116 [.map (some bm)]
 v2:Bk W b2 38 [pT bb]
 v3:Bk W b3 117 [.func (.func 39) #[] #[pT b1,pT b2,pT b3]]
theorem Rw.chg {W0 W W':World} {bb bm b1 b2 b3:Nat} {f:Nat->Option Int} (h:Rw W0 bb bm b1 b2 b3 W) (hm:ImL W bm f) (c:Chg (fun k=>k=bm) W W'):Rw W0 bb bm b1 b2 b3 W':=by
 obtain ⟨L,_,hm,_⟩:=hm;exact ⟨Chg.trans h.n c i3,h.v1.chg c fun e=>h.v1.rZ hm e,h.v2.chg c fun e=>h.v2.rZ hm e,h.v3.chg c fun e=>h.v3.rZ hm e⟩
theorem UB {Pb:Nat->Prop} {bb bm b1 b2 b3:Nat} {N:List Sn} {ord pV:List Nat} {down:Bool} {nv ov sv:Value} {W0:World} (g0:BdM Pb bb N ord pV down nv ov sv W0) (hP: ∀k,Pb k->k≠bm) (hB: ∀i,(hgN N i).length<=1000000000):
 ∀(M:Nat) (w:World) (c:Nat->Int) (i:Nat) (C:Int),opn (mkS N.length c)<=M->i<N.length->(∀k,0<=c k/\c k+opn (mkS N.length c)*1000000000+1<=C)->C<=1000000000000000->Rw W0 bb bm b1 b2 b3 w->ImL w bm (cF c)->
  Calls prog 39 #[vi i,pT b1,pT b2,pT b3] w (Ret fun _ w'=> ∃c',Ou (hgN N) i (mkS N.length c) (mkS N.length c')/\(∀k,0<=c' k/\c' k+opn (mkS N.length c')*1000000000<=C)/\ImL w' bm (cF c')/\Chg (fun k=>k=bm) w w'):=by
 intro M;induction M using Nat.strongRecOn with
 |ind M IH=>
  intro w c i C hM hi hC hCl rw0 hm;have hnl:=g0.nl;obtain ⟨x,hx⟩:=pz N hi;have hxm:=apD hx;have hxg:=uS hx;have hBi:=hB i;have hCi:=hC i;have g:=g0.chg rw0.n hP;obtain ⟨na,nc,hnv,_,_⟩:=g.nd.a.row.form;have hrd:=g.nd.a.row.rd (oU snC);subst hnv;refine oI func39 rfl ntmps39 rfl ?_;refine qq0 ?_;refine ah (u:=.map (some bm)) rfl (rw0.v1.cell (o:=0) rfl) ?_;(repeat' (refine aa1 ?_));refine jP hm (by omega) rfl rfl (UA c i) ?_;(repeat' (refine Wl.add rfl rfl (by omega) (by omega) ?_));refine jm (u:=c i+1) hm (by omega) rfl rfl rfl fun w1 m1 c1 s1=>?_;rw [adr hCi.1] at m1;have rw1:=rw0.chg hm c1;have g1:=g.chg c1 hP;refine qq2 ?_;refine ah (u:=.map (some bm)) rfl (rw1.v1.cell (o:=0) rfl) ?_;(repeat' (refine aa1 ?_));refine jP (v:=c i+1) m1 (by omega) rfl rfl (by rw [UA];unfold cU;rw [if_pos rfl]) ?_;(repeat' (first|refine qq4 ?_|refine aW rfl rfl (fun _=>?_) (fun _=>?_)))
  ·refine fE rfl ⟨_,rfl,cU c i,.inl ⟨?_,VG hi (by omega)⟩,fun k=>?_,m1,c1⟩
   ·rw [Dz hi,decide_eq_true (by omega)]
   ·rw [VG hi (by omega)];have hk:=hC k;unfold cU;split
    ·omega
    ·omega
  ·have h0:c i=0:=by omega
   have hS:(mkS N.length c)[i]? =some false:=by rw [Dz hi,decide_eq_false (fun e=>e h0)]
   have hset:=VF hi hCi.1;have hop:=Vq hS;rw [<-hset] at hop;refine ah (u:=pT bb) rfl (rw1.v2.cell (o:=0) rfl) ?_;refine qq5 ?_;refine ah (u:=.slice na N.length nc) rfl (g1.b.cell (o:=0) rfl) ?_;(repeat' (refine aa1 ?_));refine aO (hrd.keep (pI snC) (c1.keep fun b _ hb e=>hP b (hb.elim id fun q=>q.elim) e)) rfl rfl (by omega) hx fun b o cs hl hR hat=>?_;obtain rfl:cs=snC x:=hR;obtain ⟨oa,oc,hoe,_,hom⟩:=((g0.nd.a.el x hxm).rd qQ.mo).form;simp only [maxLen] at hom;rw [hxg.2.2.1] at hBi;(repeat' (refine aa5 ?_));refine ah (u:=svV x.hv) rfl (hat.get 3 rfl) ?_;clear hat;have hov:=(g1.nd.a.el x hxm).rd qQ.mo;rw [hoe] at hov ⊢;refine qq6 ?_;refine aC (σ:=Nat×(Nat->Int)) (fun q=>[(1,pT b1),(2,pT b2),(3,pT b3),(22,.slice oa x.hl.length oc),(23,vi x.hl.length),(24,vi q.1)]) (fun q W=>q.1<=x.hl.length/\Mrk (hgN N) i (x.hl.take q.1) (mkS N.length (cU c i)) (mkS N.length q.2)/\(∀k,0<=q.2 k/\q.2 k+opn (mkS N.length q.2)*1000000000+(x.hl.length-q.1)<=C)/\ImL W bm (cF q.2)/\Rw W0 bb bm b1 b2 b3 W/\Chg (fun k=>k=bm) w1 W) (fun q=>x.hl.length-q.1) (0,cU c i) (sl rfl) ⟨aoZ _,kT _ _ _,fun k=>?_,m1,rw1,aB _ _⟩ ?_
   ·have hk:=hC k;dsimp only;unfold cU at hop ⊢;split<;>omega
   rintro ⟨q,cq⟩ G W ⟨hq,hMk,hCq,mW,rwW,cW⟩;dsimp only at hq hMk hCq mW rwW cW;simp only [ql];(repeat' (first|refine qq2 ?_|refine aa2 (fun _=>?_) (fun _=>?_)))
   ·obtain ⟨j,hj⟩:=pz x.hl (k:=q) (by omega);have hjl:=(g0.win x hxm).1 j (apD hj);have aot:=hMk.opn;refine bC (hov.keep (pF _) (cW.keep fun b _ hb e=>hP b (hb.elim id fun q=>q.elim) e)) rfl rfl (by omega) hj fun b o hcell=>?_;refine ah (u:=vi j) rfl hcell ?_;refine qq4 ?_;refine ah (u:=.func (.func 39) #[] #[pT b1,pT b2,pT b3]) rfl (rwW.v3.cell (o:=0) rfl) ?_;(repeat' (refine aa1 ?_));refine bU (dst:=some 30) rfl (IH (opn (mkS N.length cq)) (by omega) W cq j (C-(x.hl.length-q-1)) (aat _) hjl (fun k=>by have:=hCq k;omega) (by omega) rwW mW) rfl ?_;rintro u w3 ⟨c3',hT,hC3,m3,c3⟩;simp only [xH];refine qq4 ?_;refine aA (q+1,c3') (sl rfl) ⟨by dsimp only;omega,?_,fun k=>by have:=hC3 k;dsimp only;omega,m3,rwW.chg mW c3,Chg.trans cW c3 i3⟩ (by dsimp only;omega);dsimp only;rw [take_snoc hj];exact hMk.to (by rw [hxg.2.2.1];exact apD hj) (by rw [Dy];exact hjl) hT
   ·obtain rfl:q=x.hl.length:=by omega
    rw [apZ] at hMk;refine dh rfl ⟨_,rfl,cq,.inr ⟨hS,?_⟩,fun k=>by have:=hCq k;omega,mW,Chg.trans c1 cW i3⟩;rw [<-hset,hxg.2.2.1];exact hMk
theorem ZO (n:Nat):mkS n (fun _=>0)=apW n false:=by
 unfold mkS;rw [show (fun k:Nat=>decide ((fun _=>(0:Int)) k≠0))=fun _=>false from funext fun _=>by simp,ast,arE]
theorem ads (n:Nat) (c:Nat->Int):opn (mkS n c)<=n:=by
 have h:(mkS n c).count false<=(mkS n c).length:=List.count_le_length;rw [Dy] at h;exact h
section
variable {Pb:Nat->Prop} {bb:Nat} {N:List Sn} {A:As} {ord pV:List Nat} {down:Bool} {nv ov sv:Value} {W:World}
def UC (Pb:Nat->Prop) (bb:Nat) (N:List Sn) (A:As) (ord pV:List Nat) (down:Bool) (nv ov sv:Value) (W:World) (i:Int) (r:Value) (w':World):Prop:=
 (xZ (snA N A) down i false≠0/\r=.tuple #[.slice none 0 0,vi (xZ (snA N A) down i false)]/\New W w')∨
 (xZ (snA N A) down i false=0/\ ∃(In:Nat->Bool) (v:Value),(∀k,k<N.length->(In k=true↔k=i.toNat∨Rch (hgN N) i.toNat k))/\r=.tuple #[v,vi 0]/\oP (flat stC) 64 2 (fun b=>W.heap.size<=b) NoB w' v (vz In ord A)/\
   BdM Pb bb (snA N (rP A (vz In ord A))) ord pV down nv ov sv w'/\Chg (fun k=>nv.ownBlock=some k) W w')
theorem XC {i:Int} (g:BdM Pb bb (snA N A) ord pV down nv ov sv W) (hB: ∀i,(hgN N i).length<=1000000000) (ho: ∀k∈ord,k<N.length) (hol:ord.length<=512):
 Calls prog 21 #[pT bb,vi i] W (Ret fun r w'=>UC Pb bb N A ord pV down nv ov sv W i r w'):=by
 have hnl:=g.nl;rw [tu] at hnl;have hhg:hgN (snA N A)=hgN N:=funext fun i=>(FZ N A i).2.2.1;replace g:=g.mono (Pb':=fun b=>Pb b/\b<W.heap.size) fun b hb e=>⟨e,hb⟩;have hnv: ∀j,nv.ownBlock=some j->j<W.heap.size:=fun j e=>(g.nd.a.row.lt e).1.2;obtain ⟨na,nc,adt,_,_⟩:=g.nd.a.row.form;rw [tu] at adt;refine oI func21 rfl ntmps21 rfl ?_;refine qq0 ?_;refine Wl.box rfl fun w1 b1 n1 s1=>?_;replace b1:Bk w1 W.heap.size 38 [pT bb]:=b1;refine qq1 ?_;refine ah (u:=pT bb) rfl (b1.cell (o:=0) rfl) ?_;(repeat' (refine aa1 ?_));refine au (Q9 (g.new n1)) rfl ?_;rintro _ w2 ⟨rfl,n2⟩;have n02:=New.trans n1 n2;have b12:=b1.chg n2 id;by_cases hm:xZ (snA N A) down i false=0
 ·obtain ⟨k,rfl,hk⟩:=MP hm;rw [tu] at hk;rw [hm];(repeat' (first|refine qq4 ?_|(refine aa4 (fun _=>?_) (fun _=>?_)<;>(first|(exfalso;omega)|skip))));refine fZ (k:=3) fun w3 m3 n3 s3=>?_;refine Wl.alloc fun w4 b4 n4 s4=>?_;replace b4:Bk w4 w3.heap.size 116 [.map none]:=b4;refine aJ (u:=.map (some w2.heap.size)) b4 rfl (show (0:Nat)<1 by omega) rfl rfl fun w5 b5 c5=>?_;replace b5:Bk w5 w3.heap.size 116 [.map (some w2.heap.size)]:=b5;refine qq2 ?_;refine Wl.alloc fun w6 b6 n6 s6=>?_;replace b6:Bk w6 w5.heap.size 117 [.nilFunc]:=b6;refine qq2 ?_;refine dw (f1:=[]) (c1:=[pT w3.heap.size,pT W.heap.size,pT w5.heap.size]) rfl rfl ?_;refine aJ (u:=.func (.func 39) #[] #[pT w3.heap.size,pT W.heap.size,pT w5.heap.size]) b6 rfl (show (0:Nat)<1 by omega) rfl rfl fun w7 b7 c7=>?_;replace b7:Bk w7 w5.heap.size 117 [.func (.func 39) #[] #[pT w3.heap.size,pT W.heap.size,pT w5.heap.size]]:=b7;have hz1:=n02.size;have hz3:=n3.size;have hz4:=n4.size;have hz5:=c5.size;have hz6:=n6.size;have hbm:=m3.lt;have aou:=b5.lt;have n25:New w2 w5:=(Chg.trans (New.trans n3 n4).any c5 i3).tN
  have n57:New w5 w7:=(Chg.trans n6.any c7 i3).tN
  have m7:=((m3.chg n4 id).chg c5 fun e=>by omega).chg n57 id;have n07:=New.trans n02 (New.trans n25 n57);have b17:=b12.chg (New.trans n25 n57) id;have b57:=b5.chg n57 id;have g7:=g.new n07;clear b1 b12 b4 c5 b5 b6 c7 n1 n2 n3 n4 n6 n25 n57 m3;generalize aov:w3.heap.size=bv at*;generalize aow:w2.heap.size=bm at*;generalize aox:w5.heap.size=bf at*;have rw7:Rw w7 bb bm bv W.heap.size bf w7:=⟨aB _ _,b57,b17,b7⟩;have hP: ∀j,(Pb j/\j<W.heap.size)->j≠bm:=fun j hj e=>by have:=hj.2;omega
  have im7:ImL w7 bm (cF fun _=>0):=kX m7;refine qq2 ?_;refine ah (u:=.func (.func 39) #[] #[pT bv,pT W.heap.size,pT bf]) rfl (b7.cell (o:=0) rfl) ?_;(repeat' (refine aa1 ?_));refine bU (dst:=some 22) rfl (UB g7 hP (by rw [hhg];exact hB) _ w7 (fun _=>0) k 1000000000000000 (aat _) (by rw [tu];exact hk) (fun j=>⟨apV _,by have:=ads (snA N A).length (fun _=>0);rw [tu] at this ⊢;omega⟩) (apV _) rw7 im7) rfl ?_;rintro u w8 ⟨c',hT,hC',m8,c8⟩;simp only [xH];rw [tu,ZO,hhg] at hT;have rw8:=rw7.chg im7 c8;have g8:=g7.chg c8 hP;have hIn: ∀j,j<N.length->(decide (c' j≠0)=true↔j=k∨Rch (hgN N) k j):=fun j hj=>by have h:=hT.all hk j;rw [Dz hj] at h;rw [<-h];simp
  have n08:Chg (fun j=>nv.ownBlock=some j) W w8:=(Chg.trans (M:=fun j=>j=bm) n07.any c8 i3).toNew (fun j hj e=>by omega) |>.any
  clear hT c8 m7 im7 rw7 g7 b7 b17 b57;obtain ⟨In,adu⟩: ∃In:Nat->Bool,In=fun j=>decide (c' j≠0):=⟨_,rfl⟩;have akD: ∀j,j<N.length->(In j=true↔j=k∨Rch (hgN N) k j):=fun j hj=>by rw [adu];exact hIn j hj
  have afN: ∀j,In j=decide (c' j≠0):=fun j=>by rw [adu]
  clear adu hIn;obtain ⟨oa,oc,hoe,_,_⟩:=g8.od.form;refine qq1 ?_;refine ah (u:=pT bb) rfl (rw8.v2.cell (o:=0) rfl) ?_;refine qq5 ?_;refine ah (u:=ov) rfl (g8.b.cell (o:=1) rfl) ?_;rw [hoe];refine qq6 ?_;refine aC (σ:=Nat×List Stp×Value) (fun q=>[(2,pT W.heap.size),(7,pT bv),(9,q.2.2),(26,.slice oa ord.length oc),(27,vi ord.length),(28,vi q.1)]) (fun q V=>q.1<=ord.length/\q.2.1.length<=q.1/\vz In ord A=q.2.1++vz In (ord.drop q.1) (rP A q.2.1)/\oP (flat stC) 64 2 (fun b=>W.heap.size<=b) NoB V q.2.2 q.2.1/\BdM (fun b=>Pb b/\b<W.heap.size) bb (snA N (rP A q.2.1)) ord pV down nv ov sv V/\ Bk V bv 116 [.map (some bm)]/\Bk V W.heap.size 38 [pT bb]/\ImL V bm (cF c')/\Chg (fun j=>nv.ownBlock=some j) W V) (fun q=>ord.length-q.1) (0,[],.slice none 0 0) (sl rfl) ⟨aoZ _,aat _,rfl,aN,g8,rw8.v1,rw8.v2,m8,n08⟩ ?_;clear g8 rw8 m8 n08;rintro ⟨q,S,lv⟩ G V ⟨hq,hSl,hro,own,gV,bV,b2V,mV,cV⟩;dsimp only at hq hSl hro own gV bV b2V mV cV;simp only [ql];have hlv: ∀j,lv.ownBlock=some j->W.heap.size<=j:=fun j e=>(own.lt e).1;have hzV:=cV.size;(repeat' (first|refine qq2 ?_|refine aa2 (fun _=>?_) (fun _=>?_)))
  ·obtain ⟨j,hj⟩:=pz ord (k:=q) (by omega);have hjl:=ho j (apD hj);rw [drop_cons hj,vz] at hro;have hov:=gV.od.rd qQ.mo;rw [hoe] at hov;refine bC hov rfl rfl (by omega) hj fun b o hcell=>?_;refine ah (u:=vi j) rfl hcell ?_;refine qq1 ?_;refine ah (u:=.map (some bm)) rfl (bV.cell (o:=0) rfl) ?_;(repeat' (refine aa1 ?_));refine jP mV (by omega) rfl rfl (UA c' j) ?_
   have next: ∀V',New V V'-> ¬(In j=true/\rP A S j=true)->q+1<=ord.length/\S.length<=q+1/\vz In ord A=S++vz In (ord.drop (q+1)) (rP A S)/\oP (flat stC) 64 2 (fun b=>W.heap.size<=b) NoB V' lv S/\BdM (fun b=>Pb b/\b<W.heap.size) bb (snA N (rP A S)) ord pV down nv ov sv V'/\
    Bk V' bv 116 [.map (some bm)]/\Bk V' W.heap.size 38 [pT bb]/\ImL V' bm (cF c')/\Chg (fun j=>nv.ownBlock=some j) W V':=fun V' n h=>by
    rw [if_neg h] at hro;exact ⟨by omega,by omega,hro,own.new (oH _) n,gV.new n,bV.chg n id,b2V.chg n id,mV.chg n id,Chg.trans cV n.any i3⟩
   by_cases hc0:In j=true
   ·have hpos:0<c' j:=by
     have h0:=(hC' j).1;rw [afN] at hc0;have h1:c' j≠0:=by simpa using hc0
     omega
    (repeat' (first|refine qq5 ?_|(refine aW rfl rfl (fun _=>?_) (fun _=>?_)<;>(first|(exfalso;omega)|skip))));refine ah (u:=pT bb) rfl (b2V.cell (o:=0) rfl) ?_;refine qq5 ?_;refine ah (u:=nv) rfl (gV.b.cell (o:=0) rfl) ?_;refine qq5 ?_;refine aO (gV.nd.a.row.rd (oU snC)) rfl rfl (by omega) (x8 hjl) fun b o cs hl hR hat=>?_;obtain rfl:cs=snC _:=hR;refine qq5 ?_;refine ah (u:=.bool (rP A S j)) rfl (hat.get 5 rfl) ?_;clear hat;cases hrs:rP A S j with
    |true=>
     rw [if_pos ⟨hc0,hrs⟩] at hro;refine qq5 ?_;refine ah (u:=pT bb) rfl (b2V.cell (o:=0) rfl) ?_;(repeat' (refine aa1 ?_));refine au (Dx (v:=false) gV hjl) rfl ?_;rintro _ V1 ⟨rfl,g1,c1⟩;have BO:=own.chg (oH _) c1 fun k hk e=>by have:=hlv k hk;have:=hnv k e;omega
     have bV1:=bV.chg c1 fun e=>by have:=hnv _ e;omega
     have afO:=b2V.chg c1 fun e=>by have:=hnv _ e;omega
     have mV1:=mV.chg c1 fun e=>by have:=hnv _ e;omega
     have aoy:=c1.size;refine bZ (R:=flat stC) (y:=(j,false)) Dc BO rfl rfl rfl rfl rfl (by omega) (by omega) (by simp only [maxLen];omega) (by omega) rfl rfl fun v2 V2 p o2 c2 lie=>?_;refine qq4 ?_;refine aA (q+1,S++ [(j,false)],v2) (sl rfl) ⟨by dsimp only;omega,by dsimp only;rw [adL,apm];omega,?_,o2.mono (oU _) (fun b _ e=>e.elim id fun e=>by have e:V1.heap.size<=b:=e;show W.heap.size<=b;omega) i3,?_,bV1.chg c2 fun e=>BO.pR bV1 rfl e rfl,afO.chg c2 fun e=>BO.pR afO rfl e rfl,mV1.chg c2 fun e=>?_,Chg.trans (Chg.trans cV c1 i3) c2 fun k hk e=>by have:=hlv k e;omega⟩ (by dsimp only;omega)
     ·dsimp only;rw [yt,adI];exact hro
     ·dsimp only;rw [yt];exact g1.chg c2 fun k hk e=>by have:=hlv k e;have:=hk.2;omega
     ·obtain ⟨L,_,hml,_⟩:=mV1;exact BO.rZ hml e rfl
    |false=>refine qq4 ?_;exact aA (q+1,S,lv) (sl rfl) (next V (aB _ _) fun h=>by rw [hrs] at h;cases h.2) (by dsimp only;omega)
   ·have hzero:c' j=0:=by rw [afN] at hc0;simpa using hc0
    (repeat' (first|refine qq4 ?_|(refine aW rfl rfl (fun _=>?_) (fun _=>?_)<;>(first|(exfalso;omega)|skip))));exact aA (q+1,S,lv) (sl rfl) (next V (aB _ _) fun h=>hc0 h.1) (by dsimp only;omega)
  ·obtain rfl:q=ord.length:=by omega
   rw [aqi,vz,aqJ] at hro;exact aG rfl rfl rfl ⟨_,rfl,.inr ⟨hm,In,lv,akD,rfl,by rw [hro];exact own,by rw [hro, <-hoe];exact gV.mono fun b _ e=>e.1,cV⟩⟩
 ·have fin: ∀w',New W w'->UC Pb bb N A ord pV down nv ov sv W i (.tuple #[.slice none 0 0,vi (xZ (snA N A) down i false)]) w':=fun w' n=>.inl ⟨hm,rfl,n⟩;generalize xZ (snA N A) down i false=mm at*;(repeat' (first|refine qq4 ?_|(refine aa4 (fun _=>?_) (fun _=>?_)<;>(first|(exfalso;omega)|skip))));exact aG rfl rfl rfl ⟨_,rfl,fin _ n02⟩
end
theorem yQ (N:List Sn) {i:Nat} {x y:Sn} (h:N[i]? =some x) (k:Nat):(N.set i y).getD k default=if k=i then y else N.getD k default:=by
 have hi:=(List.getElem?_eq_some_iff.1 h).1;rw [apJ,apJ,apo];by_cases e:k=i
 ·subst e;rw [if_pos rfl,if_pos rfl,if_pos hi];rfl
 ·rw [if_neg (fun q=>e q.symm),if_neg e]
def SmN (N N':List Sn):Prop:=N'.length=N.length/\ ∀k,bdN N' k=bdN N k/\ptN N' k=ptN N k/\(N'.getD k default).yP=(N.getD k default).yP/\aF N' k=aF N k
theorem SmN.trans {N N1 N2:List Sn} (h:SmN N N1) (h':SmN N1 N2):SmN N N2:=⟨h'.1.trans h.1,fun k=>⟨(h'.2 k).1.trans (h.2 k).1,(h'.2 k).2.1.trans (h.2 k).2.1,(h'.2 k).2.2.1.trans (h.2 k).2.2.1,(h'.2 k).2.2.2.trans (h.2 k).2.2.2⟩⟩
theorem SmN.set {N:List Sn} {i:Nat} {x y:Sn} (h:N[i]? =some x) (h1:y.path=x.path) (h2:y.bound=x.bound) (h3:y.yP=x.yP) (h4:y.asleep=x.asleep):SmN N (N.set i y):=by
 have e:N.getD i default=x:=by rw [apJ,h];rfl
 refine ⟨aqY,fun k=>?_⟩;unfold bdN ptN aF;rw [yQ N h];by_cases q:k=i
 ·subst q;rw [if_pos rfl,e];exact ⟨h2,h1,h3,h4⟩
 ·rw [if_neg q];exact ⟨rfl,rfl,rfl,rfl⟩
structure LkI (N:List Sn) (L:List (Nat×Nat)):Prop where
 h: ∀k,hgN N k=(L.filter fun p=>decide (p.1=k)).map (·.2)
 o: ∀k,ovN N k=(L.filter fun p=>decide (p.2=k)).map (·.1)
theorem LkI.lens {N:List Sn} {L:List (Nat×Nat)} (I:LkI N L) (k:Nat):(hgN N k).length<=L.length/\(ovN N k).length<=L.length:=by
 rw [I.h,I.o,aqt,aqt];exact ⟨arD _ _,arD _ _⟩
theorem LkI.step {N:List Sn} {L:List (Nat×Nat)} {i d:Nat} {x y:Sn} {v1 v2:SV} (I:LkI N L) (hx:N[i]? =some x) (hy:(N.set i {x with hv:=v1,hl:=x.hl++ [d]})[d]? =some y):LkI ((N.set i {x with hv:=v1,hl:=x.hl++ [d]}).set d {y with ov:=v2,ol:=y.ol++ [i]}) (L++ [(i,d)]):=by
 have hxg:=uS hx;have hyg:=uS hy;refine ⟨fun k=>?_,fun k=>?_⟩
 ·have h1:hgN ((N.set i {x with hv:=v1,hl:=x.hl++ [d]}).set d {y with ov:=v2,ol:=y.ol++ [i]}) k=if k=i then hgN N k++ [d] else hgN N k:=by
   unfold hgN;rw [yQ _ hy];by_cases q:k=d
   ·subst q;rw [if_pos rfl];show y.hl=_;rw [<-hyg.2.2.1];unfold hgN;rw [yQ _ hx];by_cases q2:k=i
    ·subst q2;rw [if_pos rfl,if_pos rfl];have:=hxg.2.2.1;unfold hgN at this;rw [this]
    ·rw [if_neg q2,if_neg q2]
   ·rw [if_neg q,yQ _ hx];by_cases q2:k=i
    ·subst q2;rw [if_pos rfl,if_pos rfl];have:=hxg.2.2.1;unfold hgN at this;rw [this]
    ·rw [if_neg q2,if_neg q2]
  rw [h1,I.h,arF,aqn];by_cases q:k=i
  ·subst q;simp
  ·rw [if_neg q,asz (by simpa using fun e=>q e.symm)];simp
 ·have h1:ovN ((N.set i {x with hv:=v1,hl:=x.hl++ [d]}).set d {y with ov:=v2,ol:=y.ol++ [i]}) k=if k=d then ovN N k++ [i] else ovN N k:=by
   have h2: ∀k,ovN (N.set i {x with hv:=v1,hl:=x.hl++ [d]}) k=ovN N k:=fun k=>by
    unfold ovN;rw [yQ _ hx];by_cases q2:k=i
    ·subst q2;rw [if_pos rfl];have:=hxg.2.2.2;unfold ovN at this;rw [this]
    ·rw [if_neg q2]
   have h3:=hyg.2.2.2;rw [h2] at h3;rw [<-h2 k];unfold ovN at h3 ⊢;rw [yQ _ hy];by_cases q:k=d
   ·subst q;rw [if_pos rfl,if_pos rfl];show y.ol++ [i]=_;have h4:=hyg.2.2.2;unfold ovN at h4;rw [h4]
   ·rw [if_neg q,if_neg q]
  rw [h1,I.o,arF,aqn];by_cases q:k=d
  ·subst q;simp
  ·rw [if_neg q,asz (by simpa using fun e=>q e.symm)];simp
section
variable {Pb:Nat->Prop} {bb:Nat} {N:List Sn} {down:Bool} {nv:Value} {W W':World}
theorem BdM.Za (g:BdM Pb bb N [] [] down nv (.slice none 0 0) (.slice none 0 0) W) {i d:Nat} {x:Sn} {w1:World} {v':SV} (hx:N[i]? =some x) (hd:d<N.length) (ho:oP (Wk.one viN) 3 1 Pb NoB w1 (svV v') (x.hl++ [d])) (c1:Chg (fun k=>(svV x.hv).ownBlock=some k) W w1) (lie:(svV v').ownBlock=(svV x.hv).ownBlock∨ ∀k,(svV v').ownBlock=some k->W.heap.size<=k)
 (hr:oP (flat snC) 94 6 Pb NoB W' nv (N.set i {x with hv:=v',hl:=x.hl++ [d]})) (c2:Chg (fun k=>nv.ownBlock=some k) w1 W'):BdM Pb bb (N.set i {x with hv:=v',hl:=x.hl++ [d]}) [] [] down nv (.slice none 0 0) (.slice none 0 0) W':=by
 have hxm:=apD hx;have b1:=g.b.chg c1 fun e=>(g.nd.a.el x hxm).pR g.b rfl e rfl;have hrow:=g.nd.a.row.chg (oH snC) c1 fun k hk e=>g.nd.a.wG x hxm k e hk;refine ⟨b1.chg c2 fun e=>hrow.pR b1 rfl e rfl,g.nd.set1 hx rfl rfl ho c1 lie hr c2,aN,aN,fun y hy=>⟨fun k _ e=>(by cases e),fun k _ e=>(by cases e),fun k _ e=>(by cases e),fun k _ e=>(by cases e)⟩,fun k _ e=>(by cases e),fun y hy=>?_,by rw [aqY];exact g.nl,g.lo⟩;rw [aqY];rcases arM hy with hy|rfl
 ·exact g.win y hy
 ·refine ⟨fun k hk=>?_,(g.win x hxm).2⟩;rcases List.mem_append.1 hk with hk|hk
  ·exact (g.win x hxm).1 k hk
  ·rw [List.mem_singleton.1 hk];exact hd
theorem BdM.afP (g:BdM Pb bb N [] [] down nv (.slice none 0 0) (.slice none 0 0) W) {i d:Nat} {x:Sn} {w1:World} {v':SV} (hx:N[i]? =some x) (hd:d<N.length) (ho:oP (Wk.one viN) 3 1 Pb NoB w1 (svV v') (x.ol++ [d])) (c1:Chg (fun k=>(svV x.ov).ownBlock=some k) W w1) (lie:(svV v').ownBlock=(svV x.ov).ownBlock∨ ∀k,(svV v').ownBlock=some k->W.heap.size<=k)
 (hr:oP (flat snC) 94 6 Pb NoB W' nv (N.set i {x with ov:=v',ol:=x.ol++ [d]})) (c2:Chg (fun k=>nv.ownBlock=some k) w1 W'):BdM Pb bb (N.set i {x with ov:=v',ol:=x.ol++ [d]}) [] [] down nv (.slice none 0 0) (.slice none 0 0) W':=by
 have hxm:=apD hx;have b1:=g.b.chg c1 fun e=>(g.nd.b.el x hxm).pR g.b rfl e rfl;have hrow:=g.nd.a.row.chg (oH snC) c1 fun k hk e=>g.nd.b.wG x hxm k e hk;refine ⟨b1.chg c2 fun e=>hrow.pR b1 rfl e rfl,g.nd.set2 hx rfl rfl ho c1 lie hr c2,aN,aN,fun y hy=>⟨fun k _ e=>(by cases e),fun k _ e=>(by cases e),fun k _ e=>(by cases e),fun k _ e=>(by cases e)⟩,fun k _ e=>(by cases e),fun y hy=>?_,by rw [aqY];exact g.nl,g.lo⟩;rw [aqY];rcases arM hy with hy|rfl
 ·exact g.win y hy
 ·refine ⟨(g.win x hxm).1,fun k hk=>?_⟩;rcases List.mem_append.1 hk with hk|hk
  ·exact (g.win x hxm).2 k hk
  ·rw [List.mem_singleton.1 hk];exact hd
theorem EL {i d b2:Nat} {L:List (Nat×Nat)} (g:BdM Pb bb N [] [] down nv (.slice none 0 0) (.slice none 0 0) W) (hP: ∀b,W.heap.size<=b->Pb b) (v2:Bk W b2 38 [pT bb]) (hi:i<N.length) (hd:d<N.length) (I:LkI N L) (hL:L.length<=100000000):
 Calls prog 25 #[vi i,vi d,pT b2] W (Ret fun _ w'=> ∃N',SmN N N'/\LkI N' (if bdN N i=true then L++ [(i,d)] else L)/\BdM Pb bb N' [] [] down nv (.slice none 0 0) (.slice none 0 0) w'/\Bk w' b2 38 [pT bb]/\Chg Pb W w'):=by
 have hnl:=g.nl;obtain ⟨x,hx⟩:=pz N hi;have hxm:=apD hx;have hxg:=uS hx;obtain ⟨ng,nc,adt,_,_,_⟩:=g.nd.a.row.blk (by intro e;rw [e] at hi;simp at hi);subst adt;refine oI func25 rfl ntmps25 rfl ?_;refine qq0 ?_;refine ah (u:=pT bb) rfl (v2.cell (o:=0) rfl) ?_;refine qq5 ?_;refine ah (u:=.slice (some ⟨ng,0,none⟩) N.length nc) rfl (g.b.cell (o:=0) rfl) ?_;(repeat' (refine aa1 ?_));refine dB rfl rfl (by omega) (by omega) ?_;(repeat' (refine aa5 ?_));refine ah (u:=.bool x.bound) rfl (by have:=(g.nd.a.row.at rfl rfl hx).get 1 rfl;simpa using this) ?_;rw [hxg.1];cases hb:x.bound with
 |false=>refine qq8 ?_;exact dh rfl ⟨_,rfl,N,⟨rfl,fun k=>⟨rfl,rfl,rfl,rfl⟩⟩,by rw [if_neg (by decide)];exact I,g,v2,aB _ _⟩
 |true=>
 rw [if_pos rfl];refine qq1 ?_;have hel:=g.nd.a.el x hxm;have hll:=(I.lens i).1;rw [hxg.2.2.1] at hll;have hrow:=fun (w':World) (c:Chg (fun j=>(svV x.hv).ownBlock=some j) W w')=>g.nd.a.row.chg (oH snC) c fun k hk e=>g.nd.a.wG x hxm k e hk;have hb2:=fun (w':World) (c:Chg (fun j=>(svV x.hv).ownBlock=some j) W w')=>v2.chg c fun e=>hel.pR v2 rfl e rfl;have hbb:=fun (w':World) (c:Chg (fun j=>(svV x.hv).ownBlock=some j) W w')=>g.b.chg c fun e=>hel.pR g.b rfl e rfl;refine aX rfl (by kernel_rfl) (fun w'=>Chg (fun j=>(svV x.hv).ownBlock=some j) W w') (Chg.drew _ _) ?_;intro w1 m1;refine aa0 (ax (u:=pT bb) rfl (fun w' c=>(hb2 w' c).cell (o:=0) rfl) (af ?_));refine tJ ?_;refine aa0 (ax (u:=.slice (some ⟨ng,0,none⟩) N.length nc) rfl (fun w' c=>(hbb w' c).cell (o:=0) rfl) (af ?_));(repeat' (refine aa0 (aa3 (af ?_))));refine aa0 (ax (u:=pT bb) rfl (fun w' c=>(hb2 w' c).cell (o:=0) rfl) (af ?_));refine tJ ?_;refine aa0 (ax (u:=.slice (some ⟨ng,0,none⟩) N.length nc) rfl (fun w' c=>(hbb w' c).cell (o:=0) rfl) (af ?_));(repeat' (refine aa0 (aa3 (af ?_))));refine aa0 (aa8 (af ?_));(repeat' (refine aa0 (aa6 (af ?_))));refine aa0 (ax (u:=svV x.hv) rfl (fun w' c=>by have:=((hrow w' c).at rfl rfl hx).get 3 rfl;simpa using this) (af ?_));(repeat' (refine aa0 (aa3 (af ?_))));refine aH rfl (bF (R:=Wk.one viN) (Pe:=NoB) (y:=d) qQ rfl rfl rfl rfl (by omega) (by omega) fun v3 w3 o3 n3 s3 e3=>?_);have m3:=New.trans m1 n3;refine ak ⟨rfl,m3.any,?_⟩;refine aH rfl (bI (R:=Wk.one viN) qQ (hel.new (oJ _) m3) (o3.rd qQ.mo) (fun z cs hz=>hz) rfl rfl (by omega) (by simp only [maxLen,apm];omega) (by simp only [apm];omega) fun u' w4 o4 c4 lie _=>?_);have c04:Chg (fun j=>(svV x.hv).ownBlock=some j) W w4:=Chg.trans m3.any c4 i3;refine ak ⟨rfl,c04,?_⟩;refine aa0 (aa8 (af ?_));(repeat' (refine aa0 (aa6 (af ?_))));obtain ⟨ua,uc,rfl,_,_⟩:=o4.form;have hz3:=m3.size;have hz4:=c04.size;refine Wt.last rfl (eF (f:=snC) (sz:=6) (p:=x) (q:={x with hv:=(ua,(x.hl++ [d]).length,uc),hl:=x.hl++ [d]}) (j:=i) (o:=3) (cap:=nc) (u:=.slice ua (x.hl++ [d]).length uc) (fun _=>rfl) (show (3:Nat)<6 by omega) rfl hx rfl (hrow w4 c04) rfl (by show Value.pointer (some ⟨ng,0+(i:Int).toNat*6+3,none⟩)=_;rw [acL,ao3]) rfl fun w5 o5 c5=>?_);refine ak ?_;have hz5:=c5.size;have g5:=g.Za hx hd (v':=(ua,(x.hl++ [d]).length,uc)) (o4.mono (pq _) (fun b _ e=>by rcases e with e|e;exact e;exact hP b (by have e:w3.heap.size<=b:=e;omega)) i3) c04 (by rcases lie with l1|l1;exact .inl l1;exact .inr fun k hk=>by have:=l1 k hk;omega) o5 c5;have S5:SmN N (N.set i {x with hv:=(ua,(x.hl++ [d]).length,uc),hl:=x.hl++ [d]}):=SmN.set hx rfl rfl rfl rfl;have v25:=(hb2 w4 c04).chg c5 fun e=>(hrow w4 c04).pR (hb2 w4 c04) rfl e rfl;have c05:Chg Pb W w5:=Chg.trans (c04.mono fun k _ e=>(hel.lt e).1) c5 fun k _ e=>(g.nd.a.row.lt e).1;have akE:=(I.lens d).2;have hlen:(N.set i {x with hv:=(ua,(x.hl++ [d]).length,uc),hl:=x.hl++ [d]}).length=N.length:=aqY;obtain ⟨y,hy⟩:=pz (N.set i {x with hv:=(ua,(x.hl++ [d]).length,uc),hl:=x.hl++ [d]}) (k:=d) (by rw [hlen];exact hd);have hyo:ovN N d=y.ol:=by
  rw [<-(uS hy).2.2.2];unfold ovN;rw [yQ _ hx];by_cases q2:d=i
  ·subst q2;rw [if_pos rfl];have:=hxg.2.2.2;unfold ovN at this;rw [this]
  ·rw [if_neg q2]
 rw [hyo] at akE;have I':=fun v2=>I.step (v1:=(ua,(x.hl++ [d]).length,uc)) (v2:=v2) hx hy;clear c04 m3 m1 n3 c4 o3 o4 o5 c5 hrow hb2 hbb hel lie;generalize N.set i {x with hv:=(ua,(x.hl++ [d]).length,uc),hl:=x.hl++ [d]}=N1 at*;have hym:=apD hy;have hel:=g5.nd.b.el y hym;have hrow:=fun (w':World) (c:Chg (fun j=>(svV y.ov).ownBlock=some j) w5 w')=>g5.nd.a.row.chg (oH snC) c fun k hk e=>g5.nd.b.wG y hym k e hk;have hb2:=fun (w':World) (c:Chg (fun j=>(svV y.ov).ownBlock=some j) w5 w')=>v25.chg c fun e=>hel.pR v25 rfl e rfl;have hbb:=fun (w':World) (c:Chg (fun j=>(svV y.ov).ownBlock=some j) w5 w')=>g5.b.chg c fun e=>hel.pR g5.b rfl e rfl;refine qq6 ?_;refine aX rfl (by kernel_rfl) (fun w'=>Chg (fun j=>(svV y.ov).ownBlock=some j) w5 w') (Chg.drew _ _) ?_;intro w6 m6;refine aa0 (ax (u:=pT bb) rfl (fun w' c=>(hb2 w' c).cell (o:=0) rfl) (af ?_));refine tJ ?_;refine aa0 (ax (u:=.slice (some ⟨ng,0,none⟩) N.length nc) rfl (fun w' c=>(hbb w' c).cell (o:=0) rfl) (af ?_));(repeat' (refine aa0 (aa3 (af ?_))));refine aa0 (ax (u:=pT bb) rfl (fun w' c=>(hb2 w' c).cell (o:=0) rfl) (af ?_));refine tJ ?_;refine aa0 (ax (u:=.slice (some ⟨ng,0,none⟩) N.length nc) rfl (fun w' c=>(hbb w' c).cell (o:=0) rfl) (af ?_));(repeat' (refine aa0 (aa3 (af ?_))));refine aa0 (aa8 (af ?_));(repeat' (refine aa0 (aa6 (af ?_))));refine aa0 (ax (u:=svV y.ov) rfl (fun w' c=>by have:=((hrow w' c).at rfl rfl hy).get 4 rfl;simpa using this) (af ?_));(repeat' (refine aa0 (aa3 (af ?_))));refine aH rfl (bF (R:=Wk.one viN) (Pe:=NoB) (y:=i) qQ rfl rfl rfl rfl (by omega) (by omega) fun v7 w7 o7 n7 s7 e7=>?_);have m7:=New.trans m6 n7;refine ak ⟨rfl,m7.any,?_⟩;refine aH rfl (bI (R:=Wk.one viN) qQ (hel.new (oJ _) m7) (o7.rd qQ.mo) (fun z cs hz=>hz) rfl rfl (by omega) (by simp only [maxLen,apm];omega) (by simp only [apm];omega) fun u' w8 o8 c8 lie _=>?_);have c58:Chg (fun j=>(svV y.ov).ownBlock=some j) w5 w8:=Chg.trans m7.any c8 i3;refine ak ⟨rfl,c58,?_⟩;refine aa0 (aa8 (af ?_));(repeat' (refine aa0 (aa6 (af ?_))));obtain ⟨ta,tc,rfl,_,_⟩:=o8.form;have hz7:=m7.size;have hz8:=c58.size;refine Wt.last rfl (eF (f:=snC) (sz:=6) (p:=y) (q:={y with ov:=(ta,(y.ol++ [i]).length,tc),ol:=y.ol++ [i]}) (j:=d) (o:=4) (cap:=nc) (u:=.slice ta (y.ol++ [i]).length tc) (fun _=>rfl) (show (4:Nat)<6 by omega) rfl hy rfl (hrow w8 c58) (by rw [hlen]) (by show Value.pointer (some ⟨ng,0+(d:Int).toNat*6+4,none⟩)=_;rw [acL,ao3]) rfl fun w9 o9 c9=>?_);refine ak ?_;have g9:=g5.afP hy (by rw [hlen];exact hi) (v':=(ta,(y.ol++ [i]).length,tc)) (o8.mono (pq _) (fun b _ e=>by rcases e with e|e;exact e;exact hP b (by have e:w7.heap.size<=b:=e;omega)) i3) c58 (by rcases lie with l1|l1;exact .inl l1;exact .inr fun k hk=>by have:=l1 k hk;omega) o9 c9;have S9:=S5.trans (SmN.set (y:={y with ov:=(ta,(y.ol++ [i]).length,tc),ol:=y.ol++ [i]}) hy rfl rfl rfl rfl);have v29:=(hb2 w8 c58).chg c9 fun e=>(hrow w8 c58).pR (hb2 w8 c58) rfl e rfl;have c09:Chg Pb W w9:=Chg.trans (Chg.trans c05 c58 fun k _ e=>(hel.lt e).1) c9 fun k _ e=>(g.nd.a.row.lt e).1;exact dh rfl ⟨_,rfl,_,S9,I' _,g9,v29,c09⟩
end
section
variable {P:Program} {n:Nat} {ds:List Deferred} {C:World->Prop} {K:Fr->Prop} {F:Fr} {ops rest:List Oper} {d:Nat} {ty t t':TypeId} {pos:String} {aft:Array Edge} {x y:Operand} {k:IntKind} {a b:Int}
theorem Wk.Wq.eqD (hx:ev n F x=.int k a) (hy:ev n F y=.int k b) (c:Wq P n ds C K ops rest (upd F d (.bool (decide (a=b))))):Wq P n ds C K ops (⟨some d,.binOp .eql t x y t',ty,pos,aft,none⟩::rest) F:=
 gY hx hy (fun h=>by rw [decide_eq_true h] at c;exact c) (fun h=>by rw [decide_eq_false h] at c;exact c)
end
noncomputable def n0L (G:Giv) (k:Nat):List Sn:=(abS k).map fun i=>⟨pX G.tree i,rU G i,wV G.tree i,(none,0,0),[],(none,0,0),[],false⟩
theorem zG (G:Giv) (k:Nat):(n0L G k).length=k:=by unfold n0L;rw [aqt,arE]
theorem F6 {G:Giv} {k i:Nat} (h:i<k):(n0L G k)[i]? =some ⟨pX G.tree i,rU G i,wV G.tree i,(none,0,0),[],(none,0,0),[],false⟩:=by unfold n0L;rw [apF,aq3 h];rfl
theorem adv (G:Giv) (k:Nat):LkI (n0L G k) []:=by
 have key: ∀i,((n0L G k).getD i default).hl=[]/\((n0L G k).getD i default).ol=[]:=fun i=>by
  rw [apJ];by_cases h:i<k
  ·rw [F6 h];exact ⟨rfl,rfl⟩
  ·rw [aoS (by rw [zG];omega)];exact ⟨rfl,rfl⟩
 exact ⟨fun i=>(key i).1,fun i=>(key i).2⟩
theorem adw (G:Giv) (k i:Nat):aF (n0L G k) i=false:=by
 unfold aF;rw [apJ];by_cases h:i<k
 ·rw [F6 h];rfl
 ·rw [aoS (by rw [zG];omega)];rfl
theorem ZP (G:Giv) (i:Nat):bdN (n0L G G.tree.length) i=rU G i:=by
 by_cases h:i<G.tree.length
 ·exact (uS (F6 (G:=G) h)).1
 ·unfold bdN rU;rw [apJ,aoS (by rw [zG];omega),decide_eq_false h];rfl
theorem Df {b:Nat->Bool} {p p':Nat->Nm} {L:Nat->Int}: ∀(l:List Nat) (a:Option Nat),(∀i∈l,p i=p' i)->(∀j,a=some j->p j=p' j)->uZ b p L a l=uZ b p' L a l
 | [],a,_,_=>rfl
 |i::r,a,h,ha=>by
  have e:(b i=true/\L i=0/\ ∀j,a=some j->p i<p j)=(b i=true/\L i=0/\ ∀j,a=some j->p' i<p' j):=by
   apply propext;constructor
   ·rintro ⟨h1,h2,h3⟩;exact ⟨h1,h2,fun j hj=>by rw [<-h i arK, <-ha j hj];exact h3 j hj⟩
   ·rintro ⟨h1,h2,h3⟩;exact ⟨h1,h2,fun j hj=>by rw [h i arK,ha j hj];exact h3 j hj⟩
  rw [uZ,uZ];by_cases hc:b i=true/\L i=0/\ ∀j,a=some j->p i<p j
  ·rw [if_pos hc,if_pos (e▸hc)];exact Df r _ (fun i hi=>h i (aqd _ hi)) fun j hj=>by cases hj;exact h i arK
  ·rw [if_neg hc,if_neg (fun q=>hc (e▸q))];exact Df r _ (fun i hi=>h i (aqd _ hi)) ha
theorem IA {n:Nat} {b:Nat->Bool} {p p':Nat->Nm} {o:Nat->List Nat} (h: ∀i,i<n->p i=p' i): ∀(f:Nat) (L:Nat->Int),yN n b p o f L=yN n b p' o f L
 |0,_=>rfl
 |f+1,L=>by
  have e:Ar n b p L=Ar n b p' L:=Df _ _ (fun i hi=>h i (List.mem_range.1 hi)) fun j hj=>by cases hj
  rw [yN,yN,e];cases Ar n b p' L with
  |none=>rfl
  |some k=>dsimp only;rw [IA h f]
noncomputable def lk1 (G:Giv) (q:Nat):List (Nat×Nat):=((abS q).filterMap fun i=>if 0<i then some (i,par G.tree i) else none).filter fun p=>rU G p.1
noncomputable def lkE (G:Giv) (e:Ed):Option (Nat×Nat):=if e.soft=false/\(rowOf (pY G) (wE G).2 e.src).2.1≠none then e.dst.map fun d=>(e.src,d) else none
noncomputable def lk2 (G:Giv) (q:Nat):List (Nat×Nat):=lk1 G G.tree.length++(((pK G.tree).take q).filterMap (lkE G)).filter fun p=>rU G p.1
noncomputable def lk3 (G:Giv) (q:Nat):List (Nat×Nat):=lk2 G (pK G.tree).length++(((sZ G).1.take q).map fun e=>(e.src,e.dst.getD 0)).filter fun p=>rU G p.1
theorem Rn (G:Giv) (q:Nat):lk1 G (q+1)=lk1 G q++(if 0<q then [(q,par G.tree q)] else []).filter fun p=>rU G p.1:=by
 unfold lk1;rw [arz,asc,arF];congr 1;by_cases h:0<q
 ·simp [h]
 ·simp [h]
theorem ZQ (G:Giv):lk2 G 0=lk1 G G.tree.length:=by unfold lk2;simp
theorem ZR {G:Giv} {q:Nat} {e:Ed} (h:(pK G.tree)[q]? =some e):lk2 G (q+1)=lk2 G q++(lkE G e).toList.filter fun p=>rU G p.1:=by
 unfold lk2;have h1:[e].filterMap (lkE G)=(lkE G e).toList:=by cases hk:lkE G e<;>simp [hk]
 rw [take_snoc h,asc,arF,adI,h1]
theorem ZT (G:Giv):lk3 G 0=lk2 G (pK G.tree).length:=by unfold lk3;simp
theorem ZU {G:Giv} {q:Nat} {e:Ed} (h:(sZ G).1[q]? =some e):lk3 G (q+1)=lk3 G q++ [(e.src,e.dst.getD 0)].filter fun p=>rU G p.1:=by
 unfold lk3;rw [take_snoc h,aqn,arF,adI]<;>rfl
theorem Ro (G:Giv):lk3 G (sZ G).1.length=CZ G:=by
 unfold lk3 lk2 lk1 CZ Vy;rw [apZ,apZ,arF,arF];rfl
theorem EM: ∀(l:List Ed) (W:Nat->List Nat),(uP W l).1.length<=l.length
 | [],W=>aat _
 |x::r,W=>by
  unfold uP;split
  ·have h1:=EM r W;dsimp only;rw [aph];omega
  ·dsimp only;rw [aph,aph];exact Nat.succ_le_succ (EM r _)
theorem Rq (G:Giv):(sZ G).1.length<=(pK G.tree).length:=by
 refine aru (EM _ _) ?_;rw [List.length_mergeSort];exact arD _ _
theorem VH (G:Giv) (q:Nat):(lk1 G q).length<=q:=by
 unfold lk1;refine aru (arD _ _) (aru (arV _ _) ?_);rw [arE];exact aat _
theorem VI (G:Giv) (q:Nat):(lk2 G q).length<=G.tree.length+(pK G.tree).length:=by
 unfold lk2;rw [adL];have h1:=VH G G.tree.length;have h2:((((pK G.tree).take q).filterMap (lkE G)).filter fun p=>rU G p.1).length<=((pK G.tree).take q).length:=aru (arD _ _) (arV _ _);have h4:((pK G.tree).take q).length<=(pK G.tree).length:=by rw [apb];exact Nat.min_le_right _ _
 omega
theorem VJ (G:Giv) (q:Nat):(lk3 G q).length<=G.tree.length+2*(pK G.tree).length:=by
 unfold lk3;rw [adL];have h1:=VI G (pK G.tree).length;have h2:=arD (fun p:Nat×Nat=>rU G p.1) (((sZ G).1.take q).map fun e=>(e.src,e.dst.getD 0));rw [aqt] at h2;have h4:((sZ G).1.take q).length<=(sZ G).1.length:=by rw [apb];omega
 have h5:=Rq G;omega
theorem UD {G:Giv} {N:List Sn} (S:SmN (n0L G G.tree.length) N) {L:List (Nat×Nat)} {i d:Nat}:(if bdN N i=true then L++ [(i,d)] else L)=L++ [(i,d)].filter fun p=>rU G p.1:=by
 rw [(S.2 i).1,ZP];cases h:rU G i<;>simp [h]
theorem adx {G:Giv} {N:List Sn} (S:SmN (n0L G G.tree.length) N) (I:LkI N (CZ G)):BdG G N/\(∀i,aF N i=false)/\(∀j k,(ovN N j).count k=(hgN N k).count j)/\FV N.length (bdN N) (ptN N) (hgN N) (ovN N)=tN G:=by
 have hlen:N.length=G.tree.length:=by rw [S.1,zG]
 have hd: ∀ {i x},N[i]? =some x->N.getD i default=x:=fun h=>by rw [apJ,h];rfl
 have hil: ∀ {i x},N[i]? =some x->i<G.tree.length:=fun h=>by have:=(List.getElem?_eq_some_iff.1 h).1;omega
 have hp: ∀i,i<G.tree.length->ptN N i=pX G.tree i:=fun i hi=>(S.2 i).2.1.trans (uS (F6 hi)).2.1;have hh:hgN N=uw G:=funext I.h;have ho:ovN N=xF G:=funext I.o;have hb:bdN N=rU G:=funext fun i=>(S.2 i).1.trans (ZP G i);refine ⟨⟨hlen,fun i x hx=>?_,fun i x hx=>?_,fun i x hx=>?_,fun i x hx=>?_,fun i x hx=>?_⟩,fun i=>(S.2 i).2.2.2.trans (adw _ _ _),fun j k=>?_,?_⟩
 ·rw [<-(uS hx).2.1];exact hp i (hil hx)
 ·rw [<-(uS hx).1,hb]
 ·have h1:=(S.2 i).2.2.1;rw [hd hx] at h1;rw [h1,apJ,F6 (hil hx)];rfl
 ·rw [<-(uS hx).2.2.1,hh]
 ·rw [<-(uS hx).2.2.2,ho]
 ·rw [ho,hh];exact EH G j k
 ·unfold tN FV;rw [hlen,hb,hh,ho];exact IA hp _ _
section
variable {Pb:Nat->Prop} {bb:Nat} {N:List Sn} {down:Bool} {nv:Value} {W W':World}
theorem BdM.ZC (g:BdM Pb bb N [] [] down nv (.slice none 0 0) (.slice none 0 0) W) {x:Sn} {w1:World} {v':Value} (h1:x.hv=(none,0,0)) (h2:x.ov=(none,0,0)) (h3:x.hl=[]) (h4:x.ol=[]) (hr:oP (flat snC) 94 6 Pb NoB w1 v' (N++ [x])) (c:Chg (fun k=>nv.ownBlock=some k) W w1)
 (lie:v'.ownBlock=nv.ownBlock∨ ∀k,v'.ownBlock=some k->W.heap.size<=k) (b':Bk W' bb 85 [v',.slice none 0 0,.slice none 0 0,.bool down]) (c2:Chg (fun k=>k=bb) w1 W') (hl:N.length<512):BdM Pb bb (N++ [x]) [] [] down v' (.slice none 0 0) (.slice none 0 0) W':=by
 have b1:=g.b.chg c fun e=>g.nd.a.row.pR g.b rfl e rfl;have nd:=g.nd.ZC (b:=x) (by rw [h1]) (by rw [h2]) h3 h4 hr c lie;refine ⟨b',⟨nd.a.DW (P:=prog) b1 rfl rfl c2,nd.b.DW (P:=prog) b1 rfl rfl c2,nd.x⟩,aN,aN,fun y hy=>⟨fun k _ e=>(by cases e),fun k _ e=>(by cases e),fun k _ e=>(by cases e),fun k _ e=>(by cases e)⟩,fun k _ e=>(by cases e),fun y hy=>?_,by rw [adL,apm];omega,g.lo⟩;rw [adL,apm];rcases List.mem_append.1 hy with hy|hy
 ·have:=g.win y hy;exact ⟨fun k hk=>by have:=this.1 k hk;omega,fun k hk=>by have:=this.2 k hk;omega⟩
 ·rw [List.mem_singleton.1 hy,h3,h4];exact ⟨(fun k hk=>by cases hk),(fun k hk=>by cases hk)⟩
theorem BdM.abt (g:BdM Pb bb N [] [] down nv (.slice none 0 0) (.slice none 0 0) W) {w1:World} {ov:Value} {ord:List Nat} (n:New W w1) (od:oP (Wk.one viN) 3 1 (fun b=>W.heap.size<=b) NoB w1 ov ord) (hP: ∀b,W.heap.size<=b->Pb b) (b':Bk W' bb 85 [nv,ov,.slice none 0 0,.bool down]) (c2:Chg (fun k=>k=bb) w1 W'):BdM Pb bb N ord [] down nv ov (.slice none 0 0) W':=by
 have b1:=g.b.chg n id;refine ⟨b',⟨(g.nd.a.new n).DW (P:=prog) b1 rfl rfl c2,(g.nd.b.new n).DW (P:=prog) b1 rfl rfl c2,g.nd.x⟩,(od.chg (oJ _) c2 fun k hk e=>od.pR b1 rfl hk e).mono (pq _) (fun b _ e=>hP b e) i3,aN,fun y hy=>⟨fun k e1 e2=>?_,fun k e1 e2=>?_,fun k _ e=>(by cases e),fun k _ e=>(by cases e)⟩,fun k _ e=>(by cases e),g.win,g.nl,g.lo⟩
 ·have h1:=(od.lt e2).1;have h2:=((g.nd.a.el y hy).lt e1).2;have h1:W.heap.size<=k:=h1;omega
 ·have h1:=(od.lt e2).1;have h2:=((g.nd.b.el y hy).lt e1).2;have h1:W.heap.size<=k:=h1;omega
end
theorem CY.frm {g:Giv} {lo:Nat} {r:Value} {w':World} (h:CY g lo r w'): ∃p1 l1 q1 p2 l2 q2 p3 l3 q3 p4 l4 q4,r=.tuple #[.agg #[.slice p1 l1 q1,.slice p2 l2 q2,.slice p3 l3 q3,.slice p4 l4 q4],vi (qM g)]/\
 (qM g=0->RdR (fun b=>lo<=b) w' (Ir g) (wE g).1 (sZ g).1 (sZ g).2 (.slice p1 l1 q1) (.slice p2 l2 q2) (.slice p3 l3 q3) (.slice p4 l4 q4))/\(qM g=0->l1=g.tree.length/\l3=(sZ g).1.length):=by
 unfold CY at h;by_cases he:qM g=0
 ·rw [if_pos he] at h;obtain ⟨a,b,c,d,rfl,hR⟩:=h;obtain ⟨⟨p1,q1,rfl⟩,⟨p2,q2,rfl⟩,⟨p3,q3,rfl⟩,⟨p4,q4,rfl⟩⟩:=hR.form;exact ⟨p1,_,q1,p2,_,q2,p3,_,q3,p4,_,q4,by rw [he],fun _=>hR,fun _=>⟨by unfold Ir rowsOf;rw [aqt,arE],rfl⟩⟩
 ·rw [if_neg he] at h;exact ⟨none,0,0,none,0,0,none,0,0,none,0,0,h,fun e=>absurd e he,fun e=>absurd e he⟩
theorem afQ {p1 p2 p3 p4:Option Addr} {l1 q1 l2 q2 l3 q3 l4 q4:Nat}: ∀x∈([.slice p1 l1 q1,.slice p2 l2 q2,.slice p3 l3 q3,.slice p4 l4 q4]:List Value),x.oneCell'=true:=by
 intro x hx;simp at hx;rcases hx with rfl|rfl|rfl|rfl<;>rfl
theorem XD (o:Option (List UInt8)): ∃s e,aaG o=.tuple #[vs s,vi e]/\decide (e=0)=o.isSome:=by
 cases o with
 |none=>exact ⟨[],6,rfl,rfl⟩
 |some x=>exact ⟨x,0,rfl,rfl⟩
def Ov (G:Giv) (lo:Nat) (v:Value) (w':World):Prop:=
 if qM G=0 then ∃bb nv ov N,v=.tuple #[pT bb,vi 0]/\BdG G N/\(∀i,aF N i=false)/\BdM (fun b=>lo<=b) bb N (tN G) [] false nv ov (.slice none 0 0) w'
 else v=.tuple #[.pointer none,vi (qM G)]
section
variable {w:World} {G:Giv} {tv cv fv gv:Value} {Pg:Nat->Prop}
theorem XE (r:RdG Pg w G tv cv fv gv) (sh:Ul G):
 Calls prog 8 #[.agg #[tv,cv,fv,gv]] w (Ret fun v w'=>Ov G w.heap.size v w'/\New w w'):=by
 obtain ⟨ta,tc,rfl,_,_⟩:=r.t.form;obtain ⟨ca,cc,rfl,_,_⟩:=r.c.form;obtain ⟨fa,fc,rfl,_,_⟩:=r.f.form;obtain ⟨ga,gc,rfl,_,_⟩:=r.g.form;unfold Ov;refine xB func8 rfl ntmps8 rfl ?_;refine Az ?_;refine Wl.box rfl fun w1 b1 n1 s1=>?_;replace b1:Bk w1 w.heap.size 28 [.slice ta G.tree.length tc,.slice ca G.cards.length cc,.slice fa G.fails.length fc,.slice ga G.gone.length gc]:=b1;refine AA ?_;refine bD b1 rfl rfl ?_;refine au (Xr (r.keep n1.keep rG) sh) rfl ?_;rintro _ w2 ⟨hr,n2⟩;obtain ⟨p1,l1,q1,p2,l2,q2,p3,l3,q3,p4,l4,q4,rfl,hR,afR⟩:=hr.frm;refine DF ?_;refine Wl.alloc fun w3 b3 n3 s3=>?_;refine aK (new:=[.slice p1 l1 q1,.slice p2 l2 q2,.slice p3 l3 q3,.slice p4 l4 q4]) b3 rfl rfl rfl rfl zl4 afQ fun w4 b4 c4 s4=>?_;replace b4:Bk w4 w2.heap.size 34 [.slice p1 l1 q1,.slice p2 l2 q2,.slice p3 l3 q3,.slice p4 l4 q4]:=b4;have n24:New w2 w4:=(Chg.trans n3.any c4 i3).tN
 clear b3 n3 c4;have n04:=New.trans n1 (New.trans n2 n24);have b14:=b1.chg (New.trans n2 n24) id;by_cases he:qM G=0
 rotate_left
 ·have fin: ∀w',New w w'->(if qM G=0 then ∃bb nv ov N,Value.tuple #[.pointer none,vi (qM G)]=.tuple #[pT bb,vi 0]/\BdG G N/\(∀i,aF N i=false)/\BdM (fun b=>w.heap.size<=b) bb N (tN G) [] false nv ov (.slice none 0 0) w' else Value.tuple #[.pointer none,vi (qM G)]=.tuple #[.pointer none,vi (qM G)])/\New w w':=fun w' n=>by rw [if_neg he];exact ⟨rfl,n⟩
  generalize qM G=e0 at*;(repeat' (first|refine aa1 ?_|refine aa7 ?_|refine ak ?_|refine dV ?_|refine gQ rfl ?_|refine dJ ?_|refine gU ?_|refine eU ?_|refine gX ?_|(refine aa4 (fun _=>?_) (fun _=>?_)<;>(first|(exfalso;omega)|skip))));exact dL (rO rfl (qy rfl) (qy rfl)) ⟨_,rfl,fin _ n04⟩
 have hok:=(zq.1 he).1;have hR4:=(hR he).new n24;obtain ⟨rfl,rfl⟩:=afR he;rw [he];clear hR afR;have hpl:=wU G.tree;have htl:=qo hok;(repeat' (first|refine DF ?_|(refine aa4 (fun _=>?_) (fun _=>?_)<;>(first|(exfalso;omega)|skip))));refine bJ (ps:=[]) (parts:=[]) rfl rfl (by simp [Value.cells]) ?_;refine Wl.box rfl fun w5 b5 n5 s5=>?_;replace b5:Bk w5 w4.heap.size 85 [.slice none 0 0,.slice none 0 0,.slice none 0 0,.bool false]:=b5;refine Wl.alloc fun w6 b6 n6 s6=>?_;refine aJ (u:=pT w4.heap.size) b6 rfl (show (0:Nat)<1 by omega) rfl rfl fun w7 b7 c7=>?_;replace b7:Bk w7 w5.heap.size 38 [pT w4.heap.size]:=b7;have n57:New w5 w7:=(Chg.trans n6.any c7 i3).tN
 have g0:BdM (fun b=>w4.heap.size<=b/\b<w5.heap.size) w4.heap.size [] [] [] false (.slice none 0 0) (.slice none 0 0) (.slice none 0 0) w7:= ⟨b5.chg n57 id,L2s.nil,aN,aN,(fun x hx=>by cases hx),(fun k _ e=>by cases e),(fun x hx=>by cases hx),aoZ _,⟨aat _,by have:=b5.lt;omega⟩⟩;have n07:=New.trans n04 (New.trans n5 n57);have b17:=b14.chg (New.trans n5 n57) id;have b47:=b4.chg (New.trans n5 n57) id;have hR7:=(hR4.mono (Pb':=fun b=>b<w4.heap.size) fun b hb _=>hb).new (New.trans n5 n57);have aj6:=n04.size;have hz5:=n5.size;have acX:=n57.size;have adn:=b14.lt;have abr:=b4.lt;have ae2:=b6.lt;clear b1 b4 b5 b6 c7 n1 n2 n24 n5 n6 n57 n04 b14 hR4;generalize aoz:w2.heap.size=b4' at*;generalize aoA:w5.heap.size=b6' at*;generalize aoB:w4.heap.size=bb at*;refine AA ?_;refine ah (u:=.slice ta G.tree.length tc) rfl (b17.cell (o:=0) rfl) ?_;refine au (GR (r.t.keep pU n07.keep) hok) rfl ?_;rintro _ w8 ⟨⟨bq,sv,rfl,hbq,hq⟩,n8⟩;have hz8:=n8.size;have aeY:=hq.1.lt;have ae8:=b7.lt;have n08:=New.trans n07 n8;have b18:=b17.chg n8 id;have b48:=b47.chg n8 id;have b78:=b7.chg n8 id;have hR8:=hR7.new n8;have g8:=(g0.new n8).mono (Pb':=fun b=>bb<=b/\b≠w8.heap.size/\b≠w8.heap.size+1) fun b hb e=>⟨e.1,by omega,by omega⟩;have aoC:=n08.size;clear b17 b47 b7 hR7 g0 n07;let I:Nat->World->Prop:=fun k V=>New w V/\w8.heap.size+2<=V.heap.size/\SqW (fun b=>w7.heap.size<=b/\b<w8.heap.size) bq sv (qx G.tree) V/\Bk V w.heap.size 28 [.slice ta G.tree.length tc,.slice ca G.cards.length cc,.slice fa G.fails.length fc,.slice ga G.gone.length gc]/\ Bk V b4' 34 [.slice p1 G.tree.length q1,.slice p2 l2 q2,.slice p3 (sZ G).1.length q3,.slice p4 l4 q4]/\Bk V b6' 38 [pT bb]/\RdR (fun b=>b<bb) V (Ir G) (wE G).1 (sZ G).1 (sZ G).2 (.slice p1 G.tree.length q1) (.slice p2 l2 q2) (.slice p3 (sZ G).1.length q3) (.slice p4 l4 q4)/\ ∃nv,BdM (fun b=>bb<=b/\b≠w8.heap.size/\b≠w8.heap.size+1) bb (n0L G k) [] [] false nv (.slice none 0 0) (.slice none 0 0) V/\ ∀j,nv.ownBlock=some j->w8.heap.size<=j;refine Az ?_;refine Wd.frame [(1,pT w.heap.size),(4,pT b4'),(6,pT b6'),(32,.func (.func 46) #[] #[pT bq])] ⟨rfl,rfl,rfl,rfl,trivial⟩ fun G0=>?_;simp only [ql];refine iC (gf:=46) (lb:= #[pT bq]) rfl (fun args _=>rE inferInstance args) (iter_walk (Pb:=fun b=>w7.heap.size<=b/\b<w8.heap.size) (bs:=bq) (v:=sv) (l:=qx G.tree)) (fun k=>rfl) I (fun _ _=>False) ?_ ?_ ?_ ?_ ?_ ?_ ?_ ?_ ?_
 ·exact fun k V h=>h.2.2.1
 ·rintro k V V' ⟨h1,h2,h3,h4,h5,h6,h7,nv,h8,h9⟩ n;exact ⟨h1.trans n,aru h2 n.size,h3.new n,h4.chg n id,h5.chg n id,h6.chg n id,h7.new n,nv,h8.new n,h9⟩
 ·rintro k V r1 r2 ⟨h1,h2,h3,h4,h5,h6,h7,nv,h8,h9⟩ hL;have nL:NoC V (w8.heap.size+1):=.loop hL;exact ⟨h1.put _ (by omega),by simpa using h2,h3.put _ nL (by omega),h4.put _ nL,h5.put _ nL,h6.put _ nL,h7.chg (Chg.putObj V _ _) (fun j hj e=>by have hj:j<bb:=hj;omega),nv,h8.chg (Chg.putObj V _ _) (fun j hj e=>hj.2.2 e),h9⟩
 ·exact fun _ _ _ _ h=>h.elim
 ·intro r1;have n:=iD (w:=w8) (.deferred (some [])) (.loop r1);exact ⟨n08.trans n,by simp,hq.new n,b18.chg n id,b48.chg n id,b78.chg n id,hR8.new n,.slice none 0 0,g8.new n,fun j e=>by cases e⟩
 ·rintro k V r1 hk ⟨h1,h2,h3,h4,h5,h6,h7,nv,h8,h9⟩ hL hDf;have hkt:k<G.tree.length:=by omega
  have hgk:(qx G.tree).getD k []=pX G.tree k:=by rw [apJ,uo hkt];rfl
  show Wr _ _ _ _ _ (upd (upd _ 33 (vs ((qx G.tree).getD k []))) 34 (vi k)) V;rw [hgk];(repeat' (first|refine aa7 ?_|refine ak ?_|refine bQ ?_|refine di ?_|refine bP rfl (by repeat' (first|exact Qfn.out (by rintro _ ⟨⟨_,e⟩,_⟩;cases e)|exact Qrd.out|exact Qas.out|refine Qsr.out ?_|refine oZ.out ?_|refine Qsc.out ?_|refine qH.out ?_)) ?_));refine ⟨aB _ _,fun r'=>?_⟩;have nL:NoC V (w8.heap.size+1):=.loop hL;have hLt:=nL.lt;have q1':New w (V.putObj (w8.heap.size+1) (.loop r')):=h1.put _ (by omega);have q2':w8.heap.size+2<=(V.putObj (w8.heap.size+1) (.loop r')).heap.size:=by simpa using h2
  have q3':=h3.put (.loop r') nL (by omega);have q4':=h4.put (.loop r') nL;have q5':=h5.put (.loop r') nL;have q6':=h6.put (.loop r') nL;have q7':=h7.chg (Chg.putObj V (w8.heap.size+1) (.loop r')) (fun j hj e=>by have hj:j<bb:=hj;omega);have qg:=h8.chg (Chg.putObj V (w8.heap.size+1) (.loop r')) (fun j hj e=>hj.2.2 e);have qL:NoC (V.putObj (w8.heap.size+1) (.loop r')) (w8.heap.size+1):=.loop (World.putObj_heap_same hLt);have qD:NoC (V.putObj (w8.heap.size+1) (.loop r')) w8.heap.size:=.mark ((World.putObj_heap_other (by omega)).trans hDf);generalize V.putObj (w8.heap.size+1) (.loop r')=V3 at*;clear h1 h2 h3 h4 h5 h6 h7 h8 hL hDf nL hLt;have afh:=qL.lt;have hlen:=zG G k;obtain ⟨na,nc,rfl,_,_⟩:=qg.nd.a.row.form;(repeat' (first|refine di ?_|refine bP rfl Wk.xE.out ?_|refine Wr.block ?_|refine aa5 ?_));refine ah (u:=.slice ta G.tree.length tc) rfl (q4'.cell (o:=0) rfl) ?_;(repeat' (refine aa1 ?_));refine au (JB (i:=k) (nm:=FW) (r.t.keep pU q1'.keep) hok hkt) rfl ?_;rintro _ V4 ⟨rfl,n4⟩;obtain ⟨sx,ex,hve,hwk⟩:=XD (uO G.tree k FW);rw [hve];have akF:wV G.tree k=decide (ex=0):=by unfold wV;exact hwk.symm
  have hrk:(Ir G)[k]? =some (rowOf (pY G) (wE G).2 k):=by unfold Ir rowsOf;rw [apF,aq3 hkt];rfl
  have hbk:rU G k=decide (((rowOf (pY G) (wE G).2 k).1:Int)=0):=by
   unfold rU;rw [decide_eq_true hkt,aqf];by_cases h0:(rowOf (pY G) (wE G).2 k).1=0
   ·rw [h0];rfl
   ·rw [decide_eq_false (by omega)];simpa using h0
  have g4:=qg.new n4;have q14:=New.trans q1' n4;have q44:=q4'.chg n4 id;have q54:=q5'.chg n4 id;have q64:=q6'.chg n4 id;have q74:=q7'.new n4;have hz4:=n4.size;obtain ⟨NV,hNV⟩: ∃NV:Value,NV=.slice na (n0L G k).length nc:=⟨_,rfl⟩;rw [<-hNV] at g4 h9;have hnb: ∀ {b:Nat} {T:TypeId} {cs:List Value},Bk V4 b T cs->aoX 94 T=false-> ∀V',Chg (fun j=>NV.ownBlock=some j) V4 V'->Bk V' b T cs:=fun hb hT V' c=>hb.chg c fun e=>g4.nd.a.row.pR hb hT e rfl;(repeat' (first|refine aa1 ?_|refine aa7 ?_|refine ak ?_|refine dX rfl rfl ?_|refine bQ ?_));refine iE rfl xE.out rfl (by kernel_rfl) (fun V'=>Chg (fun j=>NV.ownBlock=some j) V4 V') (Chg.drew _ _) ?_;intro V5 m5;refine aa0 (ax (u:=pT bb) rfl (fun V' c=>(hnb q64 rfl V' c).cell (o:=0) rfl) (af ?_));refine aa0 (ax (u:=pT bb) rfl (fun V' c=>(hnb q64 rfl V' c).cell (o:=0) rfl) (af ?_));refine tJ ?_;refine aa0 (ax (u:=NV) rfl (fun V' c=>(hnb g4.b rfl V' c).cell (o:=0) rfl) (af ?_));(repeat' (first|refine aa0 (aa3 (af ?_))|refine aa0 (aa6 (af ?_))));refine aa0 (ax (u:=.slice p1 G.tree.length q1) rfl (fun V' c=>(hnb q54 rfl V' c).cell (o:=0) rfl) (af ?_));(repeat' (refine aa0 (aa3 (af ?_))));refine aa0 (aY (w:=V4) (q74.rows.rd (oU _)) (fun V' c=>c.keep fun b _ hb e=>by have:=h9 _ e;have hb:=hb.elim id fun q=>q.elim;have hb:b<bb:=hb;omega) rfl rfl (by omega) hrk fun b o cs hl hRR hat=>af ?_);obtain rfl:cs=rwC _:=hRR;(repeat' (refine aa0 (aa6 (af ?_))));refine aa0 (ax (u:=.int .u8 (rowOf (pY G) (wE G).2 k).1) rfl (fun V' c=>(hat V' c).get 0 rfl) (af ?_));clear hat;refine aa0 (Wq.eqD rfl rfl (af ?_));rw [<-hbk];(repeat' (refine aa0 (aa3 (af ?_))));refine aa0 (Wq.eqD rfl rfl (af ?_));rw [<-akF];refine aH rfl (bJ (ps:=[(0,.tmp 47),(1,.tmp 54),(2,.tmp 56)]) (parts:=[(0,vs (pX G.tree k)),(1,.bool (rU G k)),(2,.bool (wV G.tree k))]) rfl rfl (by simp [Value.cells]) ?_);refine ak ⟨rfl,m5.any,?_⟩;refine aH rfl (bF (R:=flat snC) (Pe:=NoB) (y:=⟨pX G.tree k,rU G k,wV G.tree k,(none,0,0),[],(none,0,0),[],false⟩) ZE rfl rfl rfl rfl (by omega) (by omega) fun v6 V6 o6 n6 s6 e6=>?_);have m6:=New.trans m5 n6;refine ak ⟨rfl,m6.any,?_⟩;refine aH rfl (bI (R:=flat snC) ZE (g4.nd.a.row.new (oH _) m6) (o6.rd (oU _)) (fun z cs hz=>hz) rfl rfl (by omega) (by simp only [maxLen,apm];omega) (by simp only [apm];omega) fun u' V7 o7 c7 lie _=>?_);have c47:Chg (fun j=>NV.ownBlock=some j) V4 V7:=Chg.trans m6.any c7 i3;refine ak ⟨rfl,c47,?_⟩;refine tJ ?_;refine Wt.last rfl (aJ (u:=u') (hnb g4.b rfl V7 c47) rfl (show (0:Nat)<4 by omega) rfl (by obtain ⟨_,_,rfl,_⟩:=o7.form;rfl) fun V8 b8 c8=>?_);refine ak ?_;have hz6:=m6.size;have hz7:=c47.size;have hz8:=c8.size;have NZ:u'.ownBlock=NV.ownBlock∨ ∀j,u'.ownBlock=some j->V4.heap.size<=j:=lie.imp id fun h j hj=>by have:=h j hj;omega
  have hsn:n0L G (k+1)=n0L G k++ [⟨pX G.tree k,rU G k,wV G.tree k,(none,0,0),[],(none,0,0),[],false⟩]:=by unfold n0L;rw [arz,aqn];rfl
  have gN:=g4.ZC (x:=⟨pX G.tree k,rU G k,wV G.tree k,(none,0,0),[],(none,0,0),[],false⟩) rfl rfl rfl rfl (o7.mono (oU _) (fun b _ e=>by rcases e with e|e;exact e;exact ⟨by omega,by omega,by omega⟩) i3) c47 NZ b8 c8 (by rw [hlen];omega);rw [<-hsn] at gN;have hown: ∀j,u'.ownBlock=some j->w8.heap.size<=j:=fun j e=>by
   rcases NZ with l|l
   ·exact h9 j (l▸e)
   ·have:=l j e;omega
  have e48:Chg (fun j=>j=bb∨NV.ownBlock=some j) V4 V8:=Chg.trans (c47.mono fun _ _ e=>.inr e) c8 fun _ _ e=>.inl e;have qL4:NoC V4 (w8.heap.size+1):=by obtain ⟨o,h1,h2⟩:=qL;exact ⟨o,(n4.block _ (Array.getElem?_eq_some_iff.1 h1).1 id).trans h1,h2⟩
  have qD4:NoC V4 w8.heap.size:=by obtain ⟨o,h1,h2⟩:=qD;exact ⟨o,(n4.block _ (Array.getElem?_eq_some_iff.1 h1).1 id).trans h1,h2⟩
  have aoD:=qD.lt;(repeat' (refine dM ?_));refine ⟨(e48.block _ qL4.lt ?_).trans (n4.block _ qL.lt id),(e48.block _ qD4.lt ?_).trans (n4.block _ qD.lt id),Chg.trans q14 e48 fun j hj e=>?_,by omega,(q3'.new n4).chg e48 ?_ ?_,q44.chg e48 ?_,q54.chg e48 ?_,q64.chg e48 ?_,q74.chg e48 fun j hj e=>?_,u',gN,hown⟩
  ·rintro (e|e)
   ·omega
   ·exact g4.nd.a.row.nl qL4 e rfl
  ·rintro (e|e)
   ·omega
   ·exact g4.nd.a.row.nl qD4 e rfl
  ·rcases e with e|e
   ·omega
   ·have:=h9 j e;omega
  ·rintro (e|e)
   ·omega
   ·have:=h9 _ e;omega
  ·rintro j hj (e|e)
   ·omega
   ·have:=h9 _ e;omega
  ·rintro (e|e)
   ·omega
   ·have:=h9 _ e;omega
  ·rintro (e|e)
   ·omega
   ·have:=h9 _ e;omega
  ·rintro (e|e)
   ·omega
   ·have:=h9 _ e;omega
  ·have hj:j<bb:=hj;rcases e with e|e
   ·omega
   ·have:=h9 _ e;omega
 ·rintro V ⟨h1,h2,h3,h4,h5,h6,h7,nv,g,hnv⟩ hDf;clear h3 g8 b18 b48 b78 hR8 hq I;rw [hpl] at g;have hel:=vT hok G.tree.length (aat _);replace hel:(pK G.tree).length<=10240*G.tree.length:=hel;have hul:=Rq G;have S0:SmN (n0L G G.tree.length) (n0L G G.tree.length):=⟨rfl,fun k=>⟨rfl,rfl,rfl,rfl⟩⟩;have I0:LkI (n0L G G.tree.length) (lk1 G 0):=adv G _;have hDl:=(Array.getElem?_eq_some_iff.1 hDf).1;generalize hD0:w8.heap.size=D at*;have ady: ∀ {V':World},V.heap.size<=V'.heap.size-> ∀b,V'.heap.size<=b->bb<=b/\b≠D/\b≠D+1:=fun hV b hb=>⟨by omega,by omega,by omega⟩;have hn4: ∀ {V':World},Chg (fun b=>bb<=b/\b≠D/\b≠D+1) V V'->New w V':=fun c=>(Chg.trans (M:=fun b=>bb<=b) h1.any c fun k _ e=>e.1).tN
  (repeat' (first|refine dJ ?_|refine fM ?_));refine gy ?_;refine qq0 ?_;refine dw (f1:=[]) (c1:=[pT b6']) rfl rfl ?_;refine qq2 ?_;refine ah (u:=.slice ta G.tree.length tc) rfl (h4.cell (o:=0) rfl) ?_;refine qq6 ?_;refine aC (σ:=Nat) (fun q=>[(1,pT w.heap.size),(4,pT b4'),(6,pT b6'),(11,.func (.func 25) #[] #[pT b6']),(64,.slice ta G.tree.length tc),(65,vi G.tree.length),(66,vi q)]) (fun q V'=>q<=G.tree.length/\Bk V' b6' 38 [pT bb]/\Chg (fun b=>bb<=b/\b≠D/\b≠D+1) V V'/\ ∃N nv,SmN (n0L G G.tree.length) N/\LkI N (lk1 G q)/\BdM (fun b=>bb<=b/\b≠D/\b≠D+1) bb N [] [] false nv (.slice none 0 0) (.slice none 0 0) V') (fun q=>G.tree.length-q) 0 (sl rfl) ⟨aoZ _,h6,aB _ _,_,nv,S0,I0,g⟩ ?_;clear g hnv h6 I0 S0;rintro q F1 V1 ⟨hq,b61,c1,N,nv,S,Lk,g⟩;simp only [ql];have hz1:=c1.size;(repeat' (first|refine qq2 ?_|refine aa2 (fun _=>?_) (fun _=>?_)))
  ·have hqt:q<G.tree.length:=by omega
   have hN:N.length=G.tree.length:=by rw [S.1,zG]
   have hl1:=VH G q;refine aO (r.t.keep pU (hn4 c1).keep) rfl rfl (by omega) (IJ hqt) fun b o cs hl hRR hat=>?_;obtain ⟨pv,rfl,hpv⟩:=hRR;obtain ⟨pa,pc,rfl,_,_⟩:=hpv.form;refine aS hat rfl rfl ?_;clear hat;refine Wl.alloc fun V2 b2 n2 s2=>?_;(repeat' (refine aa7 ?_));refine aK (new:=[vi (ndA G.tree q).parent,vs (ndA G.tree q).name,.slice pa (ndA G.tree q).qj.length pc]) b2 rfl rfl rfl rfl zl3 (by intro c hc;simp at hc;rcases hc with rfl|rfl|rfl<;>rfl) fun V3 b3 c3 s3=>?_;have n13:New V1 V3:=(Chg.trans n2.any c3 i3).tN
   have adb:=n13.size;(repeat' (first|refine qq4 ?_|refine aW rfl rfl (fun _=>?_) (fun _=>?_)))
   ·have hpar:=vM hok (i:=q) (by omega) hqt;refine ah (u:=vi (par G.tree q)) rfl (by rw [<-hpar.2];exact b3.cell (o:=0) rfl) ?_;refine bU (dst:=some 77) rfl (EL (i:=q) (d:=par G.tree q) (g.new n13) (ady (by omega)) (b61.chg n13 id) (by omega) (by omega) Lk (by omega)) rfl ?_;rintro u V4 ⟨N',S',Lk',g',b64,c4⟩;simp only [xH];rw [UD S,show [(q,par G.tree q)]=if 0<q then [(q,par G.tree q)] else [] from (if_pos (by omega)).symm, <-Rn] at Lk';refine qq4 ?_;exact aA (q+1) (sl rfl) ⟨by omega,b64,Chg.trans (Chg.trans c1 n13.any i3) c4 i3,N',_,S.trans S',Lk',g'⟩ (by omega)
   ·refine aA (q+1) (sl rfl) ⟨by omega,b61.chg n13 id,Chg.trans c1 n13.any i3,N,_,S,?_,g.new n13⟩ (by omega);rw [Rn,if_neg (by omega)];simpa using Lk
  obtain rfl:q=G.tree.length:=by omega
  rw [<-ZQ] at Lk;have h41:=h4.chg c1 fun e=>by omega
  have h51:=h5.chg c1 fun e=>by omega
  have h71:=h7.chg c1 fun k hk e=>by have hk:k<bb:=hk;omega
  refine ah (u:=.slice ta G.tree.length tc) rfl (h41.cell (o:=0) rfl) ?_;refine au (Kq (r.t.keep pU (hn4 c1).keep) hok) rfl ?_;rintro _ V2 ⟨⟨eq,rfl,hE⟩,n2⟩;obtain ⟨ea,ec,rfl,_,_⟩:=hE.form;have hz2:=n2.size;have hE2:=hE.mono (Pb':=fun b=>V1.heap.size<=b/\b<V2.heap.size) rH fun b hb e=>⟨e,hb⟩;have g2:=(g.mono (Pb':=fun b=>(bb<=b/\b≠D/\b≠D+1)/\(b<V1.heap.size∨V2.heap.size<=b)) fun b hb e=>⟨e,.inl hb⟩).new n2;have c2:Chg (fun b=>bb<=b/\b≠D/\b≠D+1) V V2:=Chg.trans c1 n2.any i3;have b62:=b61.chg n2 id;have h52:=h51.chg n2 id;have h72:=h71.new n2;clear g b61 hE h41 h51 h71 h4 h5 h7;refine qq4 ?_;refine aC (σ:=Nat) (fun q=>[(4,pT b4'),(6,pT b6'),(11,.func (.func 25) #[] #[pT b6']),(85,.slice ea (pK G.tree).length ec),(86,vi (pK G.tree).length),(87,vi q)]) (fun q V'=>q<=(pK G.tree).length/\Bk V' b6' 38 [pT bb]/\Chg (fun b=>(bb<=b/\b≠D/\b≠D+1)/\(b<V1.heap.size∨V2.heap.size<=b)) V2 V'/\ ∃N nv,SmN (n0L G G.tree.length) N/\LkI N (lk2 G q)/\BdM (fun b=>(bb<=b/\b≠D/\b≠D+1)/\(b<V1.heap.size∨V2.heap.size<=b)) bb N [] [] false nv (.slice none 0 0) (.slice none 0 0) V') (fun q=>(pK G.tree).length-q) 0 (sl rfl) ⟨aoZ _,b62,aB _ _,_,nv,S,Lk,g2⟩ ?_;clear g2 b62 S Lk;rintro q F2 V3 ⟨hq,b63,c3,N,nv,S,Lk,g⟩;simp only [ql];have hz3:=c3.size;have h53:=h52.chg c3 fun e=>by omega
  have h73:=h72.chg c3 fun k hk e=>by have hk:k<bb:=hk;omega
  have hN:N.length=G.tree.length:=by rw [S.1,zG]
  have hl2:=VI G q;(repeat' (first|refine qq2 ?_|refine aa2 (fun _=>?_) (fun _=>?_)))
  ·obtain ⟨e,hee⟩:=pz (pK G.tree) (k:=q) (by omega);have hem:=uU e (apD hee);have hls:=ZR hee;have hrk:(Ir G)[e.src]? =some (rowOf (pY G) (wE G).2 e.src):=by unfold Ir rowsOf;rw [apF,aq3 hem.1];rfl
   refine aO (hE2.keep tZ (c3.keep fun b _ hb e=>by omega)) rfl rfl (by omega) hee fun b o cs hl hRR hat=>?_;obtain ⟨pv,rfl,hpv⟩:=hRR;obtain ⟨pa,pc,rfl,_,_⟩:=hpv.form;refine aS hat rfl rfl ?_;clear hat;refine Wl.alloc fun V4 b4 n4 s4=>?_;refine aK (new:=edC e (.slice pa e.args.length pc)) b4 rfl rfl rfl rfl zl6 P9 fun V5 b5 c5 s5=>?_;replace b5:Bk V5 V3.heap.size 100 (edC e (.slice pa e.args.length pc)):=b5;have n35:New V3 V5:=(Chg.trans n4.any c5 i3).tN
   have aeT:=n35.size;clear b4 n4 c5;have g5:=g.new n35;have b65:=b63.chg n35 id;have h55:=h53.chg n35 id;have h75:=h73.new n35;have next: ∀V',New V5 V'->lkE G e=none->q+1<=(pK G.tree).length/\Bk V' b6' 38 [pT bb]/\Chg (fun b=>(bb<=b/\b≠D/\b≠D+1)/\(b<V1.heap.size∨V2.heap.size<=b)) V2 V'/\ ∃N nv,SmN (n0L G G.tree.length) N/\LkI N (lk2 G (q+1))/\BdM (fun b=>(bb<=b/\b≠D/\b≠D+1)/\(b<V1.heap.size∨V2.heap.size<=b)) bb N [] [] false nv (.slice none 0 0) (.slice none 0 0) V':=fun V' n h=>by refine ⟨by omega,b65.chg n id,Chg.trans (Chg.trans c3 n35.any i3) n.any i3,N,nv,S,?_,g5.new n⟩;rw [hls,h];simpa using Lk
   refine qq2 ?_;refine ah (u:=.bool e.soft) rfl (b5.cell (o:=3) rfl) ?_;cases hsf:e.soft with
   |true=>refine qq4 ?_;exact aA (q+1) (sl rfl) (next V5 (aB _ _) (by unfold lkE;exact if_neg fun h=>by rw [hsf] at h;cases h.1)) (by omega)
   |false=>
    refine qq5 ?_;refine ah (u:=vi (qC e.dst)) rfl (b5.cell (o:=1) rfl) ?_;cases hds:e.dst with
    |none=>rw [show qC none=(-1:Int) from rfl];(repeat' (first|refine qq4 ?_|(refine aV rfl rfl (fun _=>?_) (fun _=>?_)<;>(first|(exfalso;omega)|skip))));exact aA (q+1) (sl rfl) (next V5 (aB _ _) (by unfold lkE;rw [hds];split<;>rfl)) (by omega)
    |some d=>
     have hdl:=hem.2 d hds;rw [show qC (some d)=(d:Int) from rfl];(repeat' (first|refine qq5 ?_|(refine aV rfl rfl (fun _=>?_) (fun _=>?_)<;>(first|(exfalso;omega)|skip))));refine ah (u:=.slice p1 G.tree.length q1) rfl (h55.cell (o:=0) rfl) ?_;refine qq5 ?_;refine ah (u:=vi e.src) rfl (b5.cell (o:=0) rfl) ?_;(repeat' (refine aQ rfl rfl ?_));refine aO (h75.rows.rd (oU _)) rfl rfl (by omega) hrk fun b o cs hl hRR hat=>?_;obtain rfl:cs=rwC _:=hRR;refine qq5 ?_;refine ah (u:=vi (qC (rowOf (pY G) (wE G).2 e.src).2.1)) rfl (hat.get 1 rfl) ?_;clear hat;cases hcd:(rowOf (pY G) (wE G).2 e.src).2.1 with
     |none=>rw [show qC none=(-1:Int) from rfl];(repeat' (first|refine qq4 ?_|(refine aV rfl rfl (fun _=>?_) (fun _=>?_)<;>(first|(exfalso;omega)|skip))));exact aA (q+1) (sl rfl) (next V5 (aB _ _) (by unfold lkE;exact if_neg fun h=>h.2 hcd)) (by omega)
     |some cj=>
      have hlk:lkE G e=some (e.src,d):=by unfold lkE;rw [if_pos ⟨hsf,by rw [hcd];simp⟩,hds];rfl
      rw [show qC (some cj)=(cj:Int) from rfl];(repeat' (first|refine qq5 ?_|(refine aV rfl rfl (fun _=>?_) (fun _=>?_)<;>(first|(exfalso;omega)|skip))));refine ah (u:=vi e.src) rfl (b5.cell (o:=0) rfl) ?_;(repeat' (refine aa5 ?_));refine ah (u:=vi d) rfl (b5.cell (o:=1) (by show some (vi (qC e.dst))=_;rw [hds];rfl)) ?_;refine bU (dst:=some 114) rfl (EL (i:=e.src) (d:=d) g5 (fun b hb=>⟨⟨by omega,by omega,by omega⟩,.inr (by omega)⟩) b65 (by omega) (by omega) Lk (by omega)) rfl ?_;rintro u V6 ⟨N',S',Lk',g',b66,c6⟩;simp only [xH];rw [UD S] at Lk';rw [hlk] at hls;replace Lk':LkI N' (lk2 G (q+1)):=by rw [hls];exact Lk'
      refine qq4 ?_;exact aA (q+1) (sl rfl) ⟨by omega,b66,Chg.trans (Chg.trans c3 n35.any i3) c6 i3,N',_,S.trans S',Lk',g'⟩ (by omega)
  obtain rfl:q=(pK G.tree).length:=by omega
  rw [<-ZT] at Lk;replace g:=g.mono (Pb':=fun b=>bb<=b/\b≠D/\b≠D+1) fun b _ e=>e.1;have c03:Chg (fun b=>bb<=b/\b≠D/\b≠D+1) V V3:=Chg.trans c2 c3 fun _ _ e=>e.1;clear h52 h72 hE2 c2 c3 c1;refine ah (u:=.slice p3 (sZ G).1.length q3) rfl (h53.cell (o:=2) rfl) ?_;refine qq6 ?_;refine aC (σ:=Nat) (fun q=>[(6,pT b6'),(11,.func (.func 25) #[] #[pT b6']),(117,.slice p3 (sZ G).1.length q3),(118,vi (sZ G).1.length),(119,vi q)]) (fun q V'=>q<=(sZ G).1.length/\Bk V' b6' 38 [pT bb]/\Chg (fun b=>bb<=b/\b≠D/\b≠D+1) V3 V'/\ ∃N nv,SmN (n0L G G.tree.length) N/\LkI N (lk3 G q)/\BdM (fun b=>bb<=b/\b≠D/\b≠D+1) bb N [] [] false nv (.slice none 0 0) (.slice none 0 0) V') (fun q=>(sZ G).1.length-q) 0 (sl rfl) ⟨aoZ _,b63,aB _ _,N,nv,S,Lk,g⟩ ?_;clear g b63 S Lk hN;rintro q F3 V4 ⟨hq,b64,c4,N,nv,S,Lk,g⟩;simp only [ql];have hz4:=c4.size;have h74:=h73.chg c4 fun k hk e=>by have hk:k<bb:=hk;omega
  have hN:N.length=G.tree.length:=by rw [S.1,zG]
  have hl3:=VJ G q;(repeat' (first|refine qq2 ?_|refine aa2 (fun _=>?_) (fun _=>?_)))
  ·obtain ⟨e,hee⟩:=pz (sZ G).1 (k:=q) (by omega);obtain ⟨d,hds,hdl,aoE,_,_⟩:=Vz (apD hee);have hem:=uU e (QZ (apD hee)).1;have hls:=ZU hee;refine aO h74.used rfl rfl (by omega) hee fun b o cs hl hRR hat=>?_;obtain ⟨pv,rfl,hpv⟩:=hRR;obtain ⟨pa,pc,rfl,_,_⟩:=hpv.form;refine aS hat rfl rfl ?_;clear hat;refine Wl.alloc fun V5 b5 n5 s5=>?_;refine aK (new:=edC e (.slice pa e.args.length pc)) b5 rfl rfl rfl rfl zl6 P9 fun V6 b6 c6 s6=>?_;replace b6:Bk V6 V4.heap.size 100 (edC e (.slice pa e.args.length pc)):=b6;have n46:New V4 V6:=(Chg.trans n5.any c6 i3).tN
   have ajD:=n46.size;clear b5 n5 c6;refine qq2 ?_;refine ah (u:=vi e.src) rfl (b6.cell (o:=0) rfl) ?_;(repeat' (refine aa5 ?_));refine ah (u:=vi d) rfl (b6.cell (o:=1) (by show some (vi (qC e.dst))=_;rw [hds];rfl)) ?_;refine bU (dst:=some 128) rfl (EL (i:=e.src) (d:=d) (g.new n46) (ady (by omega)) (b64.chg n46 id) (by omega) (by omega) Lk (by omega)) rfl ?_;rintro u V7 ⟨N',S',Lk',g',b67,c7⟩;simp only [xH];rw [UD S] at Lk';rw [hds] at hls;replace Lk':LkI N' (lk3 G (q+1)):=by rw [hls];exact Lk'
   refine qq4 ?_;exact aA (q+1) (sl rfl) ⟨by omega,b67,Chg.trans (Chg.trans c4 n46.any i3) c7 i3,N',_,S.trans S',Lk',g'⟩ (by omega)
  obtain rfl:q=(sZ G).1.length:=by omega
  rw [Ro] at Lk;obtain ⟨hG,hA,hc,ho⟩:=adx S Lk;have c04:Chg (fun b=>bb<=b/\b≠D/\b≠D+1) V V4:=Chg.trans c03 c4 i3;have hb4: ∀V',New V4 V'->Bk V' b6' 38 [pT bb]:=fun V' n=>b64.chg n id;refine aX rfl (by kernel_rfl) (fun V'=>New V4 V') (Chg.drew _ _) ?_;intro V5 m5;refine aa0 (ax (u:=pT bb) rfl (fun V' c=>(hb4 V' c).cell (o:=0) rfl) (af ?_));refine aa0 (ax (u:=pT bb) rfl (fun V' c=>(hb4 V' c).cell (o:=0) rfl) (af ?_));refine aH rfl (au (Rh (g.new m5) hc) rfl ?_);rintro ov V6 ⟨oo,n6⟩;rw [ho] at oo;have m6:=New.trans m5 n6;refine ak ⟨rfl,m6,?_⟩;refine tJ ?_;refine Wt.last rfl (aJ (u:=ov) (g.b.chg m6 id) rfl (show (1:Nat)<4 by omega) rfl (by obtain ⟨_,_,rfl,_⟩:=oo.form;rfl) fun V7 b7 c7=>?_);refine ak ?_;have hz6:=m6.size;have hz5:=m5.size;have gF:=(g.new m5).abt n6 oo (ady (by omega)) b7 c7;have hbP:=g.lo;have b67:=(b64.chg m6 id).chg c7 fun e=>by omega
  have c07:Chg (fun b=>bb<=b/\b≠D/\b≠D+1) V V7:=Chg.trans (Chg.trans c04 m6.any i3) c7 fun k _ e=>by rw [e];exact hbP
  have hD7:=(c07.block _ hDl fun e=>e.2.1 rfl).trans hDf;have n07:=hn4 c07;refine qq2 ?_;refine ah (u:=pT bb) rfl (b67.cell (o:=0) rfl) ?_;refine qq6 ?_;refine Qdn.e ?_;refine gB (by simp) hD7 ?_;refine dL (rO rfl (qy rfl) (qy rfl)) ⟨_,rfl,?_,n07.put _ (by omega)⟩;rw [if_pos trivial];exact ⟨bb,nv,ov,N,rfl,hG,hA,(gF.chg (Chg.putObj V7 _ _) (fun j hj e=>hj.2.1 e)).mono fun b _ e=>by have:=e.1;show w.heap.size<=b;omega⟩
 ·exact fun _ h=>h.elim
 ·exact fun _ _ h=>h.elim
end
theorem XF {g:Giv} {i:Nat} (h: ¬i<g.tree.length):uw g i=[]/\xF g i=[]∨uw g i=[]:=by
 right;unfold uw CZ;rw [List.filter_filter,List.map_eq_nil_iff,List.filter_eq_nil_iff];intro p _ hp;simp only [ao0,decide_eq_true_eq] at hp;have h2:=hp.2;rw [hp.1] at h2;unfold rU at h2;rw [decide_eq_false h] at h2;cases h2
theorem ZV (g:Giv):(CZ g).length<=g.tree.length+2*(pK g.tree).length:=by rw [<-Ro];exact VJ g _
theorem ZW {g:Giv} (hok:pM g.tree=true) (i:Nat):(uw g i).length<=1000000000/\(xF g i).length<=1000000000:=by
 have h1:=ZV g;have h2:(pK g.tree).length<=10240*g.tree.length:=vT hok g.tree.length (aat _);have h3:=qo hok;unfold uw xF;rw [aqt,aqt];have h4:=arD (fun p:Nat×Nat=>decide (p.1=i)) (CZ g);have h5:=arD (fun p:Nat×Nat=>decide (p.2=i)) (CZ g);omega
theorem F7 {g:Giv} (hok:pM g.tree=true):(tN g).length<=512:=by
 obtain ⟨h1,h2,_⟩:=Bz hok;have:=KI h1 fun k hk=>(h2 k hk).1;have:=qo hok;omega
theorem rJ.nd {g:Giv}: ∀ {l:List Nat} {A:As},rJ g A (upS l)->l.Nodup/\ ∀i∈l,A i=false/\rU g i=true
 | [],A,_=>⟨ash,fun i hi=>by cases hi⟩
 |i::r,A,h=>by
  obtain ⟨h1,h2,_,h4⟩:=h;obtain ⟨h5,h6⟩:=rJ.nd (l:=r) h4;have hi:A i=false:=by simpa using h1
  refine ⟨List.nodup_cons.2 ⟨fun e=>?_,h5⟩,fun k hk=>?_⟩
  ·have:=(h6 i e).1;rw [ug] at this;cases this
  ·rcases List.mem_cons.1 hk with rfl|hk
   ·exact ⟨hi,h2⟩
   ·obtain ⟨q1,q2⟩:=h6 k hk;by_cases e:k=i
    ·rw [e,ug] at q1;cases q1
    ·rw [uG e] at q1;exact ⟨q1,q2⟩
theorem VK {g:Giv} {i:Nat} (h:rU g i=true):i<g.tree.length:=by
 unfold rU at h;rw [ao0,decide_eq_true_eq] at h;exact h.1
theorem BdI.sl {g:Giv} {B:Bd} (h:BdI g B) (hok:pM g.tree=true):(∀i∈B.pV,i<g.tree.length)/\B.pV.length<=512:=by
 cases hd:B.down with
 |false=>rw [h.u hd];exact ⟨fun i hi=>(by cases hi),aoZ _⟩
 |true=>obtain ⟨A,_,h2,_⟩:=h.d hd;obtain ⟨h3,h4⟩:=rJ.nd h2;refine ⟨fun i hi=>VK (h4 i hi).2,?_⟩;have:=KI h3 fun i hi=>VK (h4 i hi).2;have:=qo hok;omega
section
variable {g:Giv} {N:List Sn}
theorem BdG.at (G:BdG g N) {i:Nat} (hi:i<g.tree.length):(N.getD i default).path=pX g.tree i/\(N.getD i default).bound=rU g i/\(N.getD i default).yP=wV g.tree i/\(N.getD i default).hl=uw g i/\(N.getD i default).ol=xF g i:=by
 obtain ⟨x,hx⟩:=pz N (k:=i) (by rw [G.len];exact hi);have e:N.getD i default=x:=by rw [apJ,hx];rfl
 rw [e];exact ⟨G.path i x hx,G.bound i x hx,G.yP i x hx,G.hangs i x hx,G.over i x hx⟩
theorem BdG.hg (G:BdG g N):hgN N=uw g:=by
 funext i;by_cases hi:i<g.tree.length
 ·exact (G.at hi).2.2.2.1
 ·unfold hgN;rw [apJ,aoS (by rw [G.len];omega)];rcases XF hi with h|h
  ·exact h.1.symm
  ·exact h.symm
theorem BdG.wok (G:BdG g N) (l:List Wkr) (k:Nat):sQ N l k=qC (BA g l k):=by
 have hf: ∀q:Nm,idx (fun s:Sn=>s.path == q) N=qC (atM g.tree q):=fun q=>by
  have hm:N.map (·.path)=(abS g.tree.length).map (pX g.tree):=by
   apply ao6;intro k;rw [apF,apF];by_cases hk:k<g.tree.length
   ·obtain ⟨x,hx⟩:=pz N (k:=k) (by rw [G.len];exact hk);rw [hx,aq3 hk];exact congrArg some (G.path k x hx)
   ·rw [aoS (by rw [G.len];omega),aoS (by rw [arE];omega)]<;>rfl
  have h1:N.findIdx? (fun s:Sn=>s.path == q)=(N.map (·.path)).findIdx? (· == q):=by rw [asr];rfl
  have h2:((abS g.tree.length).map (pX g.tree)).findIdx? (· == q)=(abS g.tree.length).findIdx? fun i=>pX g.tree i == q:=by rw [asr];rfl
  have h3:(abS g.tree.length).findIdx? (fun i=>pX g.tree i == q)=atM g.tree q:=by
   unfold atM;cases hfi:(abS g.tree.length).findIdx? fun i=>pX g.tree i == q with
   |none=>rw [List.findIdx?_eq_none_iff] at hfi;symm;rw [asA];intro x hx;rw [hfi x hx];decide
   |some j=>rw [List.findIdx?_eq_some_iff_getElem] at hfi;obtain ⟨hj,hp,hlt⟩:=hfi;symm;rw [List.find?_eq_some_iff_getElem];rw [asB] at hp;refine ⟨hp,j,hj,asB _,fun i hi=>?_⟩;have:=hlt i hi;simpa using this
  unfold idx;rw [h1,hm,h2,h3];cases atM g.tree q<;>rfl
 induction l with
 |nil=>rfl
 |cons x r ih=>
  unfold sQ BA;rw [hf,ih];cases ha:atM g.tree x.2 with
  |none=>rw [if_neg (fun h=>absurd h.2.1 (by decide))]
  |some i=>
   have hi:i<g.tree.length:=by unfold atM at ha;exact List.mem_range.1 (List.mem_of_find?_eq_some ha)
   obtain ⟨_,h2,h3,_⟩:=G.at hi;dsimp only;rw [show (qC (some i)).toNat=i from rfl,h2,h3];by_cases hc:x.1=(k:Int)/\rU g i=true/\wV g.tree i=true
   ·rw [if_pos ⟨hc.1,(by show (0:Int)<=(i:Int);omega),hc.2⟩,if_pos hc]
   ·rw [if_neg (fun h=>hc ⟨h.1,h.2.2⟩),if_neg hc]
theorem BdG.stp (G:BdG g N) (refuse:List Nm) (wakes:List Wkr) (m:Nat) {o:Option Nat} (ho: ∀i,o=some i->i<g.tree.length):Iz N refuse wakes m o=vC g refuse wakes m o:=by
 cases hw:BA g wakes m with
 |some i=>
  have e:sJ N refuse wakes m (qC o)=((i:Int),true):=by unfold sJ;rw [G.wok,hw];exact if_pos (by show (0:Int)<=(i:Int);omega)
  unfold Iz vC;rw [e,hw,if_pos (by show (0:Int)<=(i:Int);omega)];rfl
 |none=>
  cases o with
  |none=>
   have e:sJ N refuse wakes m (qC none)=(-1,false):=by unfold sJ;rw [G.wok,hw,if_neg (show ¬(0:Int)<=qC none by decide),if_neg (fun h=>absurd h.1 (by decide))];rfl
   unfold Iz vC;rw [e,hw,if_neg (by decide)]
  |some i=>
   have hp:ptN N (qC (some i)).toNat=pX g.tree i:=(G.at (ho i rfl)).1;by_cases hc:refuse.contains (pX g.tree i)=true
   ·have e:sJ N refuse wakes m (qC (some i))=((i:Int),false):=by unfold sJ;rw [G.wok,hw,if_neg (show ¬(0:Int)<=qC none by decide),hp,if_pos ⟨(by show (0:Int)<=(i:Int);omega),hc⟩];rfl
    unfold Iz vC;rw [e,hw,if_pos (by show (0:Int)<=(i:Int);omega)];dsimp only;rw [if_pos hc];rfl
   ·have e:sJ N refuse wakes m (qC (some i))=(-1,false):=by unfold sJ;rw [G.wok,hw,if_neg (show ¬(0:Int)<=qC none by decide),hp,if_neg (fun h=>hc h.2)];rfl
    unfold Iz vC;rw [e,hw,if_neg (by decide)];dsimp only;rw [if_neg hc]
theorem IB {s1 s2:Nat->Option Nat->Option (Nat×Bool)} (h0: ∀m,s1 m none=s2 m none): ∀(r:List Nat) (A:As) (sl:List Nat),(∀i∈r, ∀m,s1 m (some i)=s2 m (some i))->qG s1 r A sl=qG s2 r A sl
 | [],A,sl,_=>by rw [qG,qG,h0]
 |i::r,A,sl,h=>by
  have ih:=fun A sl=>IB h0 r A sl fun k hk=>h k (aqd _ hk);rw [qG,qG,h i arK,ih];split
  ·rfl
  ·cases s2 sl.length (some i) with
   |some x=>rfl
   |none=>exact ih _ _
theorem KO {I1 I2:Nat->Bool}: ∀(r:List Nat) (A:As),(∀k∈r,I1 k=I2 k)->vz I1 r A=vz I2 r A
 | [],A,_=>rfl
 |k::r,A,h=>by have ih:=fun A=>KO (I1:=I1) (I2:=I2) r A fun j hj=>h j (aqd _ hj);rw [vz,vz,h k arK,ih,ih]
theorem BdG.may (G:BdG g N) (A:As) (down:Bool) (sl:List Nat) (i:Int) (v:Bool):xZ (Go.Proofs.YtfbnfhhmiiahnaaGreatDoor.snA N A) down i v=FX g ⟨A,sl,down⟩ i v:=by
 unfold xZ FX;rw [tu,G.len];by_cases h1:i<0∨(g.tree.length:Int)<=i
 ·rw [if_pos (h1.imp id .inl),if_pos (h1.imp id .inl)]
 ·rw [not_or] at h1;have hi:i.toNat<g.tree.length:=by omega
  have hb:((Go.Proofs.YtfbnfhhmiiahnaaGreatDoor.snA N A).getD i.toNat default).bound=rU g i.toNat:=((Go.Proofs.YtfbnfhhmiiahnaaGreatDoor.FZ N A i.toNat).1).trans (G.at hi).2.1;rw [hb,Om (by rw [G.len];exact hi)]
end
structure BdH (g:Giv) (B:Bd) (Pb:Nat->Prop) (bb:Nat) (W:World):Prop where
 m: ∃N nv ov sv,BdG g N/\BdM Pb bb (snA N B.a) (tN g) B.pV B.down nv ov sv W
 i:BdI g B
section
variable {g:Giv} {B:Bd} {Pb Pb':Nat->Prop} {bb:Nat} {W W':World}
theorem BdH.new (h:BdH g B Pb bb W) (n:New W W'):BdH g B Pb bb W':=by
 obtain ⟨N,nv,ov,sv,h1,h2⟩:=h.m;exact ⟨⟨N,nv,ov,sv,h1,h2.new n⟩,h.i⟩
theorem BdH.chg {M:Nat->Prop} (h:BdH g B Pb bb W) (c:Chg M W W') (hd: ∀k,Pb k-> ¬M k):BdH g B Pb bb W':=by
 obtain ⟨N,nv,ov,sv,h1,h2⟩:=h.m;exact ⟨⟨N,nv,ov,sv,h1,h2.chg c hd⟩,h.i⟩
theorem BdH.mono (h:BdH g B Pb bb W) (hP: ∀b,b<W.heap.size->Pb b->Pb' b):BdH g B Pb' bb W:=by
 obtain ⟨N,nv,ov,sv,h1,h2⟩:=h.m;exact ⟨⟨N,nv,ov,sv,h1,h2.mono hP⟩,h.i⟩
theorem BdM.ZX {N:List Sn} {ord pV:List Nat} {down:Bool} {nv ov sv:Value} (h:BdM Pb bb N ord pV down nv ov sv W) {w':World} (c:Chg (fun k=>nv.ownBlock=some k∨k=bb) W w'):Chg Pb W w':=
 c.mono fun k _ e=>by
  rcases e with e|e
  ·exact (h.nd.a.row.lt e).1
  ·rw [e];exact h.lo
abbrev akG (d k:Bool) (by0:Int) (v:Value):Value:=.agg (oC d k by0 v).toArray
theorem F8 (hok:pM g.tree=true) {Pr Pw:Nat->Prop} {rv wv:Value} {refuse:List Nm} {wakes:List Wkr} (h:BdH g B Pb bb W) (hP: ∀b,W.heap.size<=b->Pb b) (hr:RdS (Wk.one vs) 1 Pr W rv refuse) (hrP: ∀b,Pr b-> ¬Pb b) (hw:RdS (flat wkC) 2 Pw W wv wakes) (hwP: ∀b,Pw b-> ¬Pb b):
 Calls prog 16 #[pT bb,rv,wv] W (Ret fun r w'=> ∃v,r=.tuple #[akG (tq g B refuse wakes).1.1 (tq g B refuse wakes).1.2.1 (tq g B refuse wakes).1.2.2.1 v,vi (tq g B refuse wakes).2.2]/\oP (flat stC) 64 2 (fun b=>W.heap.size<=b) NoB w' v (tq g B refuse wakes).1.2.2.2/\BdH g (tq g B refuse wakes).2.1 Pb bb w'/\Chg Pb W w'):=by
 obtain ⟨N,nv,ov,sv,hG,hM⟩:=h.m;have hO:=Bz hok;have hsafe:=aby hok h.i refuse wakes;refine (Oq hM hP (fun k hk=>by rw [hG.len];exact (hO.2.1 k hk).1) (F7 hok) hr hrP hw hwP).mono ?_;rintro _ w' ⟨r,rfl,hp⟩;refine ⟨r,rfl,?_⟩;have hany:(∃x∈wakes,x.1<0)↔wakes.any early=true:=by
  rw [List.any_eq_true];constructor
  ·rintro ⟨x,h1,h2⟩;exact ⟨x,h1,by unfold early;exact decide_eq_true h2⟩
  ·rintro ⟨x,h1,h2⟩;exact ⟨x,h1,by unfold early at h2;exact of_decide_eq_true h2⟩
 have afS:qG (Iz N refuse wakes) (tN g).reverse B.a []=qG (vC g refuse wakes) (tN g).reverse B.a []:= IB (fun m=>hG.stp refuse wakes m fun i e=>by cases e) _ _ _ fun i hi m=>hG.stp refuse wakes m fun j e=>by cases e;exact (hO.2.1 i (List.mem_reverse.1 hi)).1
 rcases hp with ⟨hd,rfl,n⟩|⟨hd,hno,rfl,n⟩|⟨hd,hno,l,o,v,hgo,hp⟩
 ·have e:tq g B refuse wakes=((false,false,0,[]),B,5):=by unfold tq;rw [if_pos hd]
  rw [e];exact ⟨_,rfl,aN,h.new n,n.any⟩
 ·have e:tq g B refuse wakes=((false,false,0,[]),B,1):=by unfold tq;rw [if_neg (by rw [hd];decide),if_pos (by rw [hany];exact hno)]
  rw [e];exact ⟨_,rfl,aN,h.new n,n.any⟩
 ·rw [afS] at hgo;cases o with
  |some x=>
   have e:tq g B refuse wakes=((false,x.2,(x.1:Int),upS l++dnS l),B,0):=by unfold tq;rw [if_neg (by rw [hd];decide),if_neg (by rw [hany];exact hno),hgo]
   rw [e] at hsafe ⊢;obtain ⟨rfl,h1,h2,h3⟩:=hp;refine ⟨v,rfl,h1,⟨⟨N,nv,ov,sv,hG,?_⟩,h.i⟩,hM.ZX (h3.mono fun _ _ e=>.inl e)⟩;have h4:B.a=rP B.a (upS l++dnS l):=hsafe.2.2;rw [<-h4] at h2;rw [hd];exact h2
  |none=>
   have e:tq g B refuse wakes=((true,false, -1,upS l),⟨rP B.a (upS l),l,true⟩,0):=by unfold tq;rw [if_neg (by rw [hd];decide),if_neg (by rw [hany];exact hno),hgo]
   rw [e] at hsafe ⊢;obtain ⟨slv,rfl,h1,h2,h3⟩:=hp;exact ⟨v,rfl,h1,⟨⟨N,nv,ov,slv,hG,h2⟩,hsafe.2.1⟩,hM.ZX h3⟩
theorem Ja (hok:pM g.tree=true) (h:BdH g B Pb bb W):
 Calls prog 14 #[pT bb] W (Ret fun r w'=> ∃v,r=.tuple #[v,vi (BB B).2.2]/\oP (flat stC) 64 2 (fun b=>W.heap.size<=b) NoB w' v (BB B).1/\BdH g (BB B).2.1 Pb bb w'/\Chg Pb W w'):=by
 obtain ⟨N,nv,ov,sv,hG,hM⟩:=h.m;obtain ⟨hs1,hs2⟩:=h.i.sl hok;have hsafe:=adf h.i;refine (Rj hM (fun i hi=>by rw [hG.len];exact hs1 i hi) hs2).mono ?_;rintro _ w' ⟨r,rfl,hp⟩;refine ⟨r,rfl,?_⟩;rcases hp with ⟨hd,rfl,n⟩|⟨hd,v,rfl,h1,h2,h3⟩
 ·have e:BB B=([],B,5):=by unfold BB;rw [if_neg (by rw [hd];decide)]
  rw [e];exact ⟨_,rfl,aN,h.new n,n.any⟩
 ·have e:BB B=(dnS B.pV,⟨rP B.a (dnS B.pV),[],false⟩,0):=by unfold BB;rw [if_pos hd]
  rw [e] at hsafe ⊢;exact ⟨v,rfl,h1,⟨⟨N,nv,ov,_,hG,h2⟩,hsafe.2.1⟩,hM.ZX h3⟩
theorem adz (hok:pM g.tree=true) {i:Int} (h:BdH g B Pb bb W):
 Calls prog 20 #[pT bb,vi i] W (Ret fun r w'=> ∃v,r=.tuple #[v,vi (FY g B i).2.2]/\oP (flat stC) 64 2 (fun b=>W.heap.size<=b) NoB w' v (FY g B i).1/\BdH g (FY g B i).2.1 Pb bb w'/\Chg Pb W w'):=by
 obtain ⟨N,nv,ov,sv,hG,hM⟩:=h.m;have hsafe:=adg h.i i;refine (Us hM).mono ?_;rintro _ w' ⟨r,rfl,hp⟩;refine ⟨r,rfl,?_⟩;have hmay:=hG.may B.a B.down B.pV i true;have hmay:xZ (snA N B.a) B.down i true=FX g B i true:=hmay;unfold Oi at hp;rw [hmay] at hp;rcases hp with ⟨hm,rfl,n⟩|⟨hm,hall,rfl,n⟩|⟨hm,hall,v,rfl,h1,h2,h3⟩
 ·have e:FY g B i=([],B,FX g B i true):=by unfold FY;rw [if_pos hm]
  rw [e];exact ⟨_,rfl,aN,h.new n,n.any⟩
 all_goals
  obtain ⟨k,rfl,hk,hb,hd,ha⟩:=Oh hm;have hkN:k<N.length:=by rw [hG.len];exact hk
  rw [ao3,Ri hkN] at hall;have hol:({N.getD k default with asleep:=B.a k}:Sn).ol=xF g k:=(hG.at hk).2.2.2.2;rw [hol] at hall;have afT:(xF g k).all (aF (snA N B.a))=(xF g k).all fun j=>B.a j:=by
   have hin: ∀j∈xF g k,j<N.length:=fun j hj=>by
    have hw:=(hM.win _ (apD (x8 hkN))).2 j (by rw [hol];exact hj)
    rwa [tu] at hw
   rw [asC,aqS,aqS];exact ⟨fun q j hj=>(Om (A:=B.a) (hin j hj)).symm.trans (q j hj),fun q j hj=>(Om (A:=B.a) (hin j hj)).trans (q j hj)⟩
  rw [afT] at hall
 ·have e:FY g B (k:Int)=([],B,240):=by unfold FY;rw [if_neg (by rw [hm];decide),if_pos (by rw [ao3];exact hall)]
  rw [e];exact ⟨_,rfl,aN,h.new n,n.any⟩
 ·have e:FY g B (k:Int)=([(k,true)],⟨ve B.a k true,B.pV,B.down⟩,0):=by unfold FY;rw [if_neg (by rw [hm];decide),if_neg (by rw [ao3,hall];decide),ao3]
  rw [e] at hsafe ⊢;rw [ao3] at h1 h2;rw [Ri hkN,VE hkN] at h2;exact ⟨v,rfl,h1,⟨⟨N,nv,ov,sv,hG,h2⟩,hsafe.2.1⟩,hM.ZX (h3.mono fun _ _ e=>.inl e)⟩
open Classical in
theorem afU (hok:pM g.tree=true) {i:Int} (h:BdH g B Pb bb W):
 Calls prog 21 #[pT bb,vi i] W (Ret fun r w'=> ∃v,r=.tuple #[v,vi (wkM g B i).2.2]/\oP (flat stC) 64 2 (fun b=>W.heap.size<=b) NoB w' v (wkM g B i).1/\BdH g (wkM g B i).2.1 Pb bb w'/\Chg Pb W w'):=by
 obtain ⟨N,nv,ov,sv,hG,hM⟩:=h.m;have hsafe:=afv hok h.i i;have hO:=Bz hok;refine (XC hM (fun i=>by rw [hG.hg];exact (ZW hok i).1) (fun k hk=>by rw [hG.len];exact (hO.2.1 k hk).1) (F7 hok)).mono ?_;rintro _ w' ⟨r,rfl,hp⟩;refine ⟨r,rfl,?_⟩;have hmay:xZ (snA N B.a) B.down i false=FX g B i false:=hG.may B.a B.down B.pV i false;unfold UC at hp;rw [hmay] at hp;rcases hp with ⟨hm,rfl,n⟩|⟨hm,In,v,hIn,rfl,h1,h2,h3⟩
 ·have e:wkM g B i=([],B,FX g B i false):=by unfold wkM;rw [if_pos hm]
  rw [e];exact ⟨_,rfl,aN,h.new n,n.any⟩
 ·have hro:vz In (tN g) B.a=vz (inM g i.toNat) (tN g) B.a:=KO _ _ fun k hk=>by have hkl:=(hO.2.1 k hk).1;have h4:=hIn k (by rw [hG.len];exact hkl);rw [hG.hg] at h4;rw [asC,h4];unfold inM;rw [decide_eq_true_eq]
  have e:wkM g B i=(vz (inM g i.toNat) (tN g) B.a,⟨rP B.a (vz (inM g i.toNat) (tN g) B.a),B.pV,B.down⟩,0):=by unfold wkM;rw [if_neg (by rw [hm];decide)]
  rw [e] at hsafe ⊢;rw [hro] at h1 h2;exact ⟨v,rfl,h1,⟨⟨N,nv,ov,sv,hG,h2⟩,hsafe.2.1⟩,hM.ZX (h3.mono fun _ _ e=>.inl e)⟩
theorem Ox {k:Nat} (h:BdH g B Pb bb W) (hk:k<g.tree.length):Calls prog 13 #[pT bb,vi k] W (Ret fun r w'=>r=.bool (B.a k)/\New W w'):=by
 obtain ⟨N,nv,ov,sv,hG,hM⟩:=h.m;refine (Q8 (i:=(k:Int)) hM).mono ?_;rintro _ w' ⟨r,rfl,rfl,n⟩;refine ⟨_,rfl,?_,n⟩;rw [tu,hG.len,decide_eq_true ⟨by omega,by omega⟩,aqf,ao3,Om (by rw [hG.len];exact hk)]
end
section
variable {w:World} {G:Giv} {tv cv fv gv:Value} {Pg:Nat->Prop}
theorem afV (r:RdG Pg w G tv cv fv gv) (sh:Ul G):
 Calls prog 8 #[.agg #[tv,cv,fv,gv]] w (Ret fun v w'=>(if qM G=0 then ∃bb,v=.tuple #[pT bb,vi 0]/\BdH G bd0 (fun b=>w.heap.size<=b) bb w' else v=.tuple #[.pointer none,vi (qM G)])/\New w w'):=by
 refine (XE r sh).mono ?_;rintro _ w' ⟨v,rfl,hp,n⟩;refine ⟨v,rfl,?_,n⟩;unfold Ov at hp;split at hp
 ·rename_i he
  rw [if_pos he];obtain ⟨bb,nv,ov,N,rfl,h1,h2,h3⟩:=hp;have e:snA N bd0.a=N:=by rw [show bd0.a=aF N from funext fun i=>(h2 i).symm];exact ZF N
  exact ⟨bb,rfl,⟨N,nv,ov,_,h1,by rw [e];exact h3⟩,ade G⟩
 ·rename_i he
  rw [if_neg he];exact hp
end
structure SzG (g:Giv):Prop where
 t:g.tree.length<=2000000
 p: ∀x∈g.tree,x.qj.length<=2000000
 c:g.cards.length<=2000000
 k: ∀c∈g.cards,c.compat.length<=2000000
 f:g.fails.length<=2000000
 g:g.gone.length<=2000000
abbrev noV (p:Nd×SV):List Value:=[vi p.1.parent,vs p.1.name,svV p.2]
abbrev cdV (p:Cd×SV):List Value:=cdC p.1 (svV p.2)
theorem akH (p:Nd×SV): ∀c∈noV p,c.oneCell'=true:=by
 intro c hc;simp at hc;rcases hc with rfl|rfl|rfl<;>rfl
theorem afW (p:Cd×SV): ∀c∈cdV p,c.oneCell'=true:=by
 intro c hc;simp [cdC] at hc;rcases hc with rfl|rfl|rfl|rfl|rfl|rfl|rfl<;>rfl
theorem VL:rF (flat noV) 3:=rC _ (fun _=>rfl) akH
theorem VN:rF (flat cdV) 7:=rC _ (fun _=>rfl) afW
theorem Jb {α β:Type} {R:Rel α} {R':Rel β} {sz:Nat} {Pb:Nat->Prop} {w:World} {v:Value} {xs:List α} (f:α->β) (h:RdS R sz Pb w v xs) (hf: ∀x∈xs, ∀cs,R Pb w x cs->R' Pb w (f x) cs):RdS R' sz Pb w v (xs.map f):=by
 rcases h with ⟨rfl,rfl⟩|⟨a,cap,rfl,rfl,hc⟩|⟨b,off,cap,cur,e,fr,rfl,hb,hh,h1,h2,h3,h4⟩
 ·exact .inl ⟨rfl,rfl⟩
 ·exact .inr (.inl ⟨a,cap,rfl,rfl,hc⟩)
 ·refine .inr<| .inr ⟨b,off,cap,cur,e,fr,by rw [aqt],hb,hh,by rw [aqt];exact h1,h2,by rw [aqt];exact h3,fun i y hy=>?_⟩
  rw [apF] at hy;obtain ⟨x,hx,rfl⟩:=Option.map_eq_some_iff.1 hy;exact hf x (apD hx) _ (h4 i x hx)
theorem akI (a b:Option Addr) (i j k l:Nat): ∀x∈([.slice none 0 0,.slice none 0 0,.slice a i j,.slice b k l]:List Value),x.oneCell'=true:=by
 intro x hx;simp at hx;rcases hx with rfl|rfl|rfl<;>rfl
def Rt (g:Giv) (b1:Nat) (fv gv:Value) (lo:Nat) (i:Nat) (v:Value) (w:World):Prop:=match i with
 |0=> ∃q,v=.slice (some ⟨q,0,none⟩) 0 0/\lo<=q/\w.heap[q]? =some (.cells #[] 9 (0,0))
 |1=>v=.pointer (some ⟨b1,2,none⟩)
 |2=>v=fv
 |3=>oP (Wk.one vs) 9 1 (fun b=>lo<=b) NoB w v g.fails
 |4=> ∃q,v=.slice (some ⟨q,0,none⟩) 0 0/\lo<=q/\w.heap[q]? =some (.cells #[] 9 (0,0))
 |5=>v=.pointer (some ⟨b1,3,none⟩)
 |6=>v=gv
 |7=>oP (Wk.one vs) 9 1 (fun b=>lo<=b) NoB w v g.gone
 |8=> ∃xv yv,v=.agg #[.slice none 0 0,.slice none 0 0,xv,yv]/\oP (Wk.one vs) 9 1 (fun b=>lo<=b) NoB w xv g.fails/\oP (Wk.one vs) 9 1 (fun b=>lo<=b) NoB w yv g.gone
 |9=> ∃b,v=pT b/\lo<=b/\Bk w b 28 IX
 |_=>True
theorem ZY {g:Giv} {b1:Nat} {fv gv:Value} {lo:Nat}: ∀i v w w',New w w'->Rt g b1 fv gv lo i v w->Rt g b1 fv gv lo i v w':=by
 intro i v w w' c h;unfold Rt at h ⊢;split at h<;>try exact h
 ·obtain ⟨q,e,h1,h2⟩:=h;exact ⟨q,e,h1,(c.block q (Array.getElem?_eq_some_iff.1 h2).1 id).trans h2⟩
 ·exact h.new (oJ _) c
 ·obtain ⟨q,e,h1,h2⟩:=h;exact ⟨q,e,h1,(c.block q (Array.getElem?_eq_some_iff.1 h2).1 id).trans h2⟩
 ·exact h.new (oJ _) c
 ·obtain ⟨xv,yv,e,h1,h2⟩:=h;exact ⟨xv,yv,e,h1.new (oJ _) c,h2.new (oJ _) c⟩
 ·obtain ⟨b,e,h1,h2⟩:=h;exact ⟨b,e,h1,h2.chg c id⟩
section
variable {Pg:Nat->Prop} {w:World} {g:Giv} {tv cv fv gv:Value}
abbrev abE (lo:Nat) (W:World) (p:Nd×SV):Prop:=oP rPr 70 2 (fun b=>lo<=b) NoB W (svV p.2) p.1.qj
abbrev abG (lo:Nat) (W:World) (p:Cd×SV):Prop:=oP (Wk.one vs) 9 1 (fun b=>lo<=b) NoB W (svV p.2) p.1.compat
theorem Wk.Wc.afX {P:Program} {n:Nat} {ds:List Deferred} {Q:Po} {F:Fr} {w:World} {c:Code} (M:Fr->World->Prop) (h:Wc P n ds (fun e F w=>e=.normal/\M F w) c F w) (k: ∀F w,M F w->Q .normal F w):Wc P n ds Q c F w:=by
 unfold Wc at*;refine wp_mono h ?_;rintro e a' w' ⟨F',rfl,rfl,hM⟩;exact ⟨F',rfl,k F' w' hM⟩
theorem Z4 (r:RdG Pg w g tv cv fv gv) (z:SzG g):
 Calls prog 6 #[.agg #[tv,cv,fv,gv]] w (Ret fun v w'=>(∃a b c d,v=.agg #[a,b,c,d]/\RdG (fun b=>w.heap.size<=b) w' g a b c d)/\New w w'):=by
 obtain ⟨ta,tc,rfl,_,_⟩:=r.t.form;obtain ⟨ca,cc,rfl,_,_⟩:=r.c.form;obtain ⟨fa,fc,hfv,_,_⟩:=r.f.form;obtain ⟨ga,gc,hgv,_,_⟩:=r.g.form;have zt:=z.t;have zc:=z.c;have zf:=z.f;have zg:=z.g;refine oI func6 rfl ntmps6 rfl ?_;refine qq0 ?_;refine Wl.box rfl fun w1 b1 n1 s1=>?_;replace b1:Bk w1 w.heap.size 26 [.slice ta g.tree.length tc,.slice ca g.cards.length cc,fv,gv]:=b1;refine Wl.alloc fun w2 b2 n2 s2=>?_;replace b2:Bk w2 w1.heap.size 28 IX:=b2;have b12:=b1.chg n2 id;have n02:=New.trans n1 n2;refine qq1 ?_;refine Wc.afX (fun F w'=> ∃(xv yv:Value) (gb:Nat),agrees F [(1,pT w.heap.size),(2,pT w1.heap.size),(3,pT gb)]/\Bk w' gb 28 [.slice none 0 0,.slice none 0 0,xv,yv]/\w2.heap.size<=gb/\oP (Wk.one vs) 9 1 (fun b=>w2.heap.size<=b) NoB w' xv g.fails/\oP (Wk.one vs) 9 1 (fun b=>w2.heap.size<=b) NoB w' yv g.gone/\New w2 w') ?_ ?_
 ·refine kS (Rt g w.heap.size fv gv w2.heap.size) rfl (by kernel_rfl) (by kernel_rfl) (by kernel_rfl) ZY
   ⟨(fun F w' hn hd hf=>iV fun w3 hg n3=>ak (dA n3 ⟨_,rfl,hn.size,hg⟩)),
    (fun F w' hn hd hf=>by refine jE (hf 1 rfl) rfl ?_;exact ak (dA (aB _ _) rfl)),
    (fun F w' hn hd hf=>ah (u:=fv) (hd 1 (by kernel_rfl)) ((b12.chg hn id).cell (o:=2) rfl) (ak (dA (aB _ _) rfl))),
    (fun F w' hn hd hf=>by obtain ⟨q,e,h1,h2⟩:Rt g w.heap.size fv gv w2.heap.size 0 (F 8) w':=hd 0 (by kernel_rfl);exact iK (R:=Wk.one vs) (Pe:=NoB) qU h2 (r.f.keep (pF _) (New.trans n02 hn).keep) (fun y cs hy=>hy) e (hd 2 (by kernel_rfl)) (by omega) (by simp only [maxLen];omega) (by omega) fun v3 w3 o3 n3=>ak (dA n3 (o3.mono (pq _) (fun b _ e=>e.elim (fun e=>e▸h1) fun e=>aru hn.size e) i3))),
    (fun F w' hn hd hf=>iV fun w3 hg n3=>ak (dA n3 ⟨_,rfl,hn.size,hg⟩)),
    (fun F w' hn hd hf=>by refine jE (hf 1 rfl) rfl ?_;exact ak (dA (aB _ _) rfl)),
    (fun F w' hn hd hf=>ah (u:=gv) (hd 5 (by kernel_rfl)) ((b12.chg hn id).cell (o:=3) rfl) (ak (dA (aB _ _) rfl))),
    (fun F w' hn hd hf=>by obtain ⟨q,e,h1,h2⟩:Rt g w.heap.size fv gv w2.heap.size 4 (F 12) w':=hd 4 (by kernel_rfl);exact iK (R:=Wk.one vs) (Pe:=NoB) qU h2 (r.g.keep (pF _) (New.trans n02 hn).keep) (fun y cs hy=>hy) e (hd 6 (by kernel_rfl)) (by omega) (by simp only [maxLen];omega) (by omega) fun v3 w3 o3 n3=>ak (dA n3 (o3.mono (pq _) (fun b _ e=>e.elim (fun e=>e▸h1) fun e=>aru hn.size e) i3))),
    (fun F w' hn hd hf=>by have h3:oP (Wk.one vs) 9 1 (fun b=>w2.heap.size<=b) NoB w' (F 11) g.fails:=hd 3 (by kernel_rfl);have h7:oP (Wk.one vs) 9 1 (fun b=>w2.heap.size<=b) NoB w' (F 15) g.gone:=hd 7 (by kernel_rfl);obtain ⟨a3,c3,e3,_,_⟩:=h3.form;obtain ⟨a7,c7,e7,_,_⟩:=h7.form;rw [e3] at h3;rw [e7] at h7;refine bJ (ps:=[(2,.tmp 11),(3,.tmp 15)]) (parts:=[(2,.slice a3 g.fails.length c3),(3,.slice a7 g.gone.length c7)]) rfl ?_ (by simp [Value.cells]) (ak (dA (aB _ _) ⟨_,_,rfl,h3,h7⟩));show [(2,F 11),(3,F 15)]=_;rw [e3,e7]),
    (fun F w' hn hd hf=>by refine Wl.alloc fun w3 b3 n3 s3=>?_;exact ak (dA n3 ⟨_,rfl,hn.size,b3⟩)),
    trivial⟩ ?_
  intro F w3 zz n3 hzz hd hf;obtain ⟨xv,yv,e8,h3,h7⟩:Rt g w.heap.size fv gv w2.heap.size 8 (F 16) w3:=hd 8 (by decide);obtain ⟨gb,e9,h9,b9⟩:Rt g w.heap.size fv gv w2.heap.size 9 (F 3) w3:=hd 9 (by decide);have hF1:F 1=pT w.heap.size:=hf 1 (by decide);have hF2:F 2=pT w1.heap.size:=hf 2 (by decide);obtain ⟨a3,c3,rfl,_,_⟩:=h3.form;obtain ⟨a7,c7,rfl,_,_⟩:=h7.form;cases hzz;refine aK (new:=[.slice none 0 0,.slice none 0 0,.slice a3 g.fails.length c3,.slice a7 g.gone.length c7]) b9 e9 e8 rfl rfl zl4 (akI _ _ _ _ _ _) fun w4 b4 c4 s4=>?_;refine ak ⟨rfl,rfl,_,_,gb,⟨hF1,hF2,e9,trivial⟩,b4,h9,h3.chg (oJ _) c4 fun k hk e=>h3.pR b9 rfl hk e,h7.chg (oJ _) c4 fun k hk e=>h7.pR b9 rfl hk e,(Chg.trans (M:=fun k=>k=gb) n3.any c4 fun k _ e=>e).tN⟩
 rintro F w3 ⟨xv,yv,gb,hF,b3,hgb,of,og,n3⟩;refine aT ?_;refine Wc.frame _ hF fun G1=>?_;simp only [ql];clear hF;have hz1:=n1.size;have hz2:=n2.size;have hz3:=n3.size;have adn:=b12.lt;have Zg:=b2.lt;have b13:=b12.chg n3 id;have b23:=b2.chg n3 id;have n03:=New.trans n02 n3;have aoF:=b3.lt;clear b1 b12 b2 n1 n2 n02 n3;generalize aoG:w1.heap.size=rb at*;refine qq2 ?_;refine aC (σ:=Nat×Value×List (Nd×SV)) (fun q=>[(1,pT w.heap.size),(2,pT rb),(3,pT gb),(4,vi q.1)]) (fun q W=>q.1<=g.tree.length/\Bk W gb 28 [q.2.1,.slice none 0 0,xv,yv]/\q.2.2.map (·.1)=g.tree.take q.1/\oP (flat noV) 73 3 (fun b=>w3.heap.size<=b) NoB W q.2.1 q.2.2/\(∀p∈q.2.2,abE w3.heap.size W p)/\Chg (fun k=>k=gb) w3 W) (fun q=>g.tree.length-q.1) (0,.slice none 0 0,[]) (sl rfl) ⟨aoZ _,b3,rfl,aN,by simp,aB _ _⟩ ?_;rintro ⟨i,xt,L⟩ G2 W ⟨hi,b3W,hL,oL,hP,cW⟩;dsimp only at hi b3W hL oL hP cW;have hLl:L.length=i:=by have:=congrArg aq0 hL;rw [aqt,apb] at this;omega
 simp only [ql];have b1W:=b13.chg cW fun e=>by omega
 have nW:New w W:=(Chg.trans (M:=fun k=>w.heap.size<=k) n03.any cW fun k _ e=>by omega).tN
 have hzW:=cW.size;have hown: ∀k,xt.ownBlock=some k->w3.heap.size<=k:=fun k e=>(oL.lt e).1;refine qq4 ?_;refine ah (u:=.slice ta g.tree.length tc) rfl (b1W.cell (o:=0) rfl) ?_;(repeat' (first|refine qq2 ?_|refine aa2 (fun _=>?_) (fun _=>?_)))
 ·obtain ⟨x,hx⟩:=pz g.tree (k:=i) (by omega);have hpz:=z.p x (apD hx);refine ah (u:=.slice ta g.tree.length tc) rfl (b1W.cell (o:=0) rfl) ?_;(repeat' (refine aa1 ?_));refine aO (r.t.keep pU nW.keep) rfl rfl (by omega) hx fun b o cs hl hR hat=>?_;obtain ⟨xv',rfl,hpr⟩:=hR;obtain ⟨xa,xc,rfl,abg,Y4⟩:=hpr.form;refine aS hat rfl rfl ?_;clear hat;refine Wl.alloc fun w5 b5 n5 s5=>?_;refine aK (new:=[vi x.parent,vs x.name,.slice xa x.qj.length xc]) b5 rfl rfl rfl rfl zl3 (by intro c hc;simp at hc;rcases hc with rfl|rfl|rfl<;>rfl) fun w4 b4 c4 s4=>?_;replace b4:Bk w4 W.heap.size 73 [vi x.parent,vs x.name,.slice xa x.qj.length xc]:=b4;have n14:New W w4:=(Chg.trans n5.any c4 i3).tN
  have hz4:=n14.size;have abr:=b4.lt;clear b5 n5 c4;refine qq2 ?_;refine iJ (R:=rPr) (Pe:=NoB) fun v6 w6 o6 n6=>?_;have hz6:=n6.size;(repeat' (refine aa5 ?_));refine ah (u:=.slice xa x.qj.length xc) rfl ((b4.chg n6 id).cell (o:=2) rfl) ?_;refine bI Js o6 (hpr.keep (pI pC) (New.trans n14 n6).keep) (fun y cs hy=>hy) rfl rfl (by omega) (by simp only [maxLen,apK];omega) (by simp only [apK];omega) fun v7 w7 o7 c7 adA _=>?_;rw [aoQ] at o7;have h6: ∀k,v6.ownBlock=some k->w4.heap.size<=k:=fun k hk=>(o6.lt hk).1;have n47:New w4 w7:=(Chg.trans n6.any c7 fun k _ e=>e).toNew fun k hk e=>by have:=h6 k e;omega
  have b47:=b4.chg n47 id;have o7':=o7.mono (Pb':=fun b=>w4.heap.size<=b) (oU pC) (fun b _ e=>by rcases e with e|e;exact e;show w4.heap.size<=b;omega) i3;obtain ⟨da,dc,rfl,_,_⟩:=o7'.form;(repeat' (refine aa5 ?_));refine aJ (u:=.slice da x.qj.length dc) b47 rfl (show (2:Nat)<3 by omega) rfl rfl fun w8 b8 c8=>?_;replace b8:Bk w8 W.heap.size 73 [vi x.parent,vs x.name,.slice da x.qj.length dc]:=b8;have o8:=o7'.chg (oH pC) c8 fun k hk e=>o7'.pR b47 rfl hk e;have n48:New W w8:=(Chg.trans (New.trans n14 n47).any c8 fun k _ e=>e).tN
  have hz8:=n48.size;have b38:=b3W.chg n48 id;have oL8:=oL.new (oH _) n48;clear o6 o7 c7 c8 b4 b47 n14 n6 n47 adA o7';refine qq2 ?_;refine ah (u:=xt) rfl (b38.cell (o:=0) rfl) ?_;refine bD b8 rfl rfl ?_;refine bZ (R:=flat noV) (y:=(x,(da,x.qj.length,dc))) VL oL8 rfl rfl rfl rfl rfl (by omega) (by omega) (by simp only [maxLen];omega) (by omega) rfl rfl fun v11 w11 p11 o11 c11 lie=>?_;obtain ⟨ra,rc,rfl,_,_⟩:=o11.form;have Oa:=b38.chg c11 fun e=>oL8.pR b38 rfl e rfl;have z11:=c11.size;(repeat' (refine aa5 ?_));refine aJ (u:=.slice ra (L++ [(x,(da,x.qj.length,dc))]).length rc) Oa rfl (show (0:Nat)<4 by omega) rfl rfl fun w12 b12 c12=>?_;have Z5:=o11.mono (Pb':=fun b=>w3.heap.size<=b) (oU _) (fun b _ e=>by rcases e with e|e;exact e;show w3.heap.size<=b;omega) i3;have mv: ∀p:Nd×SV,abE w3.heap.size w8 p->abE w3.heap.size w12 p:=fun p h=>(h.chg (oH pC) c11 fun k hk e=>h.tK oL8 rfl k hk e).chg (oH pC) c12 fun k hk e=>(h.chg (oH pC) c11 fun k hk e=>h.tK oL8 rfl k hk e).pR Oa rfl hk e;refine qq4 ?_;refine aA (i+1,_,L++ [(x,(da,x.qj.length,dc))]) (sl rfl) ⟨by dsimp only;omega,b12,?_,Z5.chg (oH _) c12 fun k hk e=>Z5.pR Oa rfl hk e,fun p hp=>?_,Chg.trans (Chg.trans (Chg.trans cW n48.any i3) c11 fun k hk e=>by have:=hown k e;omega) c12 i3⟩ (by dsimp only;omega)
  ·rw [aqn,hL,take_snoc hx];rfl
  ·rcases List.mem_append.1 hp with hp|hp
   ·exact mv p ((hP p hp).new (oH pC) n48)
   ·rw [List.mem_singleton.1 hp];exact mv _ (o8.mono (oU pC) (fun b _ e=>by have e:w4.heap.size<=b:=e;show w3.heap.size<=b;omega) i3)
 ·obtain rfl:i=g.tree.length:=by omega
  rw [apZ] at hL;obtain ⟨qa,qc,rfl,_,_⟩:=oL.form;have ofW:=of.chg (oJ _) cW fun k hk e=>of.pR b3 rfl hk e;have ogW:=og.chg (oJ _) cW fun k hk e=>og.pR b3 rfl hk e;have b2W:=b23.chg cW fun e=>by omega
  obtain ⟨Wt,hWt⟩: ∃Wt,Wt=W:=⟨_,rfl⟩;clear b3 of og b13 b23 hi;refine aC (σ:=Nat×Value×List (Cd×SV)) (fun q=>[(1,pT w.heap.size),(2,pT rb),(3,pT gb),(6,vi q.1)]) (fun q W'=>q.1<=g.cards.length/\Bk W' gb 28 [.slice qa L.length qc,q.2.1,xv,yv]/\q.2.2.map (·.1)=g.cards.take q.1/\oP (flat cdV) 79 7 (fun b=>W.heap.size<=b) NoB W' q.2.1 q.2.2/\(∀p∈q.2.2,abG W.heap.size W' p)/\Chg (fun k=>k=gb) W W') (fun q=>g.cards.length-q.1) (0,.slice none 0 0,[]) (sl rfl) ⟨aoZ _,b3W,rfl,aN,by simp,aB _ _⟩ ?_;rintro ⟨i,xt,K⟩ G3 V ⟨hi,b3V,hK,oK,hPK,cV⟩;dsimp only at hi b3V hK oK hPK cV;have hKl:K.length=i:=by have:=congrArg aq0 hK;rw [aqt,apb] at this;omega
  simp only [ql];have b1V:=b1W.chg cV fun e=>by omega
  have nV:New w V:=(Chg.trans (M:=fun k=>w.heap.size<=k) nW.any cV fun k _ e=>by omega).tN
  have hzV:=cV.size;have afY: ∀k,xt.ownBlock=some k->W.heap.size<=k:=fun k e=>(oK.lt e).1;refine qq4 ?_;refine ah (u:=.slice ca g.cards.length cc) rfl (b1V.cell (o:=1) rfl) ?_;(repeat' (first|refine qq2 ?_|refine aa2 (fun _=>?_) (fun _=>?_)))
  ·obtain ⟨x,hx⟩:=pz g.cards (k:=i) (by omega);have hpz:=z.k x (apD hx);refine ah (u:=.slice ca g.cards.length cc) rfl (b1V.cell (o:=1) rfl) ?_;(repeat' (refine aa1 ?_));refine aO (r.c.keep rG nV.keep) rfl rfl (by omega) hx fun b o cs hl hR hat=>?_;obtain ⟨xv',rfl,hpr⟩:=hR;obtain ⟨xa,xc,rfl,abg,Y4⟩:=hpr.form;refine aS hat rfl rfl ?_;clear hat;refine Wl.alloc fun w5 b5 n5 s5=>?_;refine aK (new:=cdC x (.slice xa x.compat.length xc)) b5 rfl rfl rfl rfl zl7 (afW (x,(xa,x.compat.length,xc))) fun w4 b4 c4 s4=>?_;replace b4:Bk w4 V.heap.size 79 (cdC x (.slice xa x.compat.length xc)):=b4;have n14:New V w4:=(Chg.trans n5.any c4 i3).tN
   have hz4:=n14.size;have abr:=b4.lt;clear b5 n5 c4;refine qq2 ?_;refine iJ (R:=Wk.one vs) (Pe:=NoB) fun v6 w6 o6 n6=>?_;have hz6:=n6.size;(repeat' (refine aa5 ?_));refine ah (u:=.slice xa x.compat.length xc) rfl ((b4.chg n6 id).cell (o:=3) rfl) ?_;refine bI qU o6 (hpr.keep (pF _) (New.trans n14 n6).keep) (fun y cs hy=>hy) rfl rfl (by omega) (by simp only [maxLen,apK];omega) (by simp only [apK];omega) fun v7 w7 o7 c7 adA _=>?_;rw [aoQ] at o7;have h6: ∀k,v6.ownBlock=some k->w4.heap.size<=k:=fun k hk=>(o6.lt hk).1;have n47:New w4 w7:=(Chg.trans n6.any c7 fun k _ e=>e).toNew fun k hk e=>by have:=h6 k e;omega
   have b47:=b4.chg n47 id;have o7':=o7.mono (Pb':=fun b=>w4.heap.size<=b) (pq _) (fun b _ e=>by rcases e with e|e;exact e;show w4.heap.size<=b;omega) i3;obtain ⟨da,dc,rfl,_,_⟩:=o7'.form;(repeat' (refine aa5 ?_));refine aJ (u:=.slice da x.compat.length dc) b47 rfl (show (3:Nat)<7 by omega) rfl rfl fun w8 b8 c8=>?_;replace b8:Bk w8 V.heap.size 79 (cdC x (.slice da x.compat.length dc)):=b8;have o8:=o7'.chg (oJ _) c8 fun k hk e=>o7'.pR b47 rfl hk e;have n48:New V w8:=(Chg.trans (New.trans n14 n47).any c8 fun k _ e=>e).tN
   have hz8:=n48.size;have b38:=b3V.chg n48 id;have oK8:=oK.new (oH _) n48;clear o6 o7 c7 c8 b4 b47 n14 n6 n47 adA o7';refine qq2 ?_;refine ah (u:=xt) rfl (b38.cell (o:=1) rfl) ?_;refine bD b8 rfl rfl ?_;refine bZ (R:=flat cdV) (y:=(x,(da,x.compat.length,dc))) VN oK8 rfl rfl rfl rfl rfl (by omega) (by omega) (by simp only [maxLen];omega) (by omega) rfl rfl fun v11 w11 p11 o11 c11 lie=>?_;obtain ⟨ra,rc,rfl,_,_⟩:=o11.form;have Oa:=b38.chg c11 fun e=>oK8.pR b38 rfl e rfl;have z11:=c11.size;(repeat' (refine aa5 ?_));refine aJ (u:=.slice ra (K++ [(x,(da,x.compat.length,dc))]).length rc) Oa rfl (show (1:Nat)<4 by omega) rfl rfl fun w12 b12 c12=>?_;have Z5:=o11.mono (Pb':=fun b=>W.heap.size<=b) (oU _) (fun b _ e=>by rcases e with e|e;exact e;show W.heap.size<=b;omega) i3;have mv: ∀p:Cd×SV,abG W.heap.size w8 p->abG W.heap.size w12 p:=fun p h=>(h.chg (oJ _) c11 fun k hk e=>h.tK oK8 rfl k hk e).chg (oJ _) c12 fun k hk e=>(h.chg (oJ _) c11 fun k hk e=>h.tK oK8 rfl k hk e).pR Oa rfl hk e;refine qq4 ?_;refine aA (i+1,_,K++ [(x,(da,x.compat.length,dc))]) (sl rfl) ⟨by dsimp only;omega,b12,?_,Z5.chg (oH _) c12 fun k hk e=>Z5.pR Oa rfl hk e,fun p hp=>?_,Chg.trans (Chg.trans (Chg.trans cV n48.any i3) c11 fun k hk e=>by have:=afY k e;omega) c12 i3⟩ (by dsimp only;omega)
   ·rw [aqn,hK,take_snoc hx];rfl
   ·rcases List.mem_append.1 hp with hp|hp
    ·exact mv p ((hPK p hp).new (oJ _) n48)
    ·rw [List.mem_singleton.1 hp];exact mv _ (o8.mono (pq _) (fun b _ e=>by have e:w4.heap.size<=b:=e;show W.heap.size<=b;omega) i3)
  ·obtain rfl:i=g.cards.length:=by omega
   rw [apZ] at hK;obtain ⟨ka,kc,rfl,_,_⟩:=oK.form;obtain ⟨fa',fc',rfl,_,_⟩:=ofW.form;obtain ⟨ga',gc',rfl,_,_⟩:=ogW.form;refine bD b3V rfl rfl ?_;refine aK (new:=[.slice qa L.length qc,.slice ka K.length kc,.slice fa' g.fails.length fc',.slice ga' g.gone.length gc']) (b2W.chg cV fun e=>by omega) rfl rfl rfl rfl zl4 afQ fun V2 b2 c2 s2=>?_;have low: ∀k,k=gb∨k=rb->True:=fun _ _=>trivial;have ofV:=(ofW.chg (oJ _) cV fun k hk e=>ofW.pR b3W rfl hk e);have ogV:=(ogW.chg (oJ _) cV fun k hk e=>ogW.pR b3W rfl hk e);have b2V:=b2W.chg cV fun e=>by omega
   have ofF:=ofV.chg (oJ _) c2 fun k hk e=>ofV.pR b2V rfl hk e;have ogF:=ogV.chg (oJ _) c2 fun k hk e=>ogV.pR b2V rfl hk e;have oLV:=oL.chg (oH _) cV fun k hk e=>oL.pR b3W rfl hk e;have oLF:=oLV.chg (oH _) c2 fun k hk e=>oLV.pR b2V rfl hk e;have oKF:=oK.chg (oH _) c2 fun k hk e=>oK.pR b2V rfl hk e;have hPF: ∀p∈L,abE w3.heap.size V2 p:=fun p hp=>by have h1:=(hP p hp).chg (oH pC) cV fun k hk e=>(hP p hp).pR b3W rfl hk e;exact h1.chg (oH pC) c2 fun k hk e=>h1.pR b2V rfl hk e
   have hKF: ∀p∈K,abG W.heap.size V2 p:=fun p hp=>(hPK p hp).chg (oJ _) c2 fun k hk e=>(hPK p hp).pR b2V rfl hk e;have nF:New w V2:=(Chg.trans (M:=fun k=>k=rb) nV.any c2 fun k _ e=>e).tN
   refine qq1 ?_;refine eY (yG rfl (rY rfl rfl b2 rfl)) ⟨_,rfl,⟨_,_,_,_,rfl,?_,?_,?_,?_⟩,nF⟩
   ·have h1:=(oLF.rd (oU noV)).mono (Pb':=fun b=>w.heap.size<=b) (oU noV) fun b _ e=>by have e:w3.heap.size<=b:=e.elim id fun e=>e.elim;show w.heap.size<=b;omega
    have h2:=Jb (R':=rNd) (fun p:Nd×SV=>p.1) h1 fun x hx cs hcs=>⟨svV x.2,hcs,((hPF x hx).rd (oU pC)).mono (oU pC) fun b _ e=>by have e:w3.heap.size<=b:=e.elim id fun e=>e.elim;show w.heap.size<=b;omega⟩
    rwa [hL] at h2
   ·have h1:=(oKF.rd (oU cdV)).mono (Pb':=fun b=>w.heap.size<=b) (oU cdV) fun b _ e=>by have e:W.heap.size<=b:=e.elim id fun e=>e.elim;show w.heap.size<=b;omega
    have h2:=Jb (R':=rCd) (fun p:Cd×SV=>p.1) h1 fun x hx cs hcs=>⟨svV x.2,hcs,((hKF x hx).rd (pq _)).mono (pq _) fun b _ e=>by have e:W.heap.size<=b:=e.elim id fun e=>e.elim;show w.heap.size<=b;omega⟩
    rwa [hK] at h2
   ·exact (ofF.rd (pq _)).mono (pq _) fun b _ e=>by have e:w2.heap.size<=b:=e.elim id fun e=>e.elim;show w.heap.size<=b;omega
   ·exact (ogF.rd (pq _)).mono (pq _) fun b _ e=>by have e:w2.heap.size<=b:=e.elim id fun e=>e.elim;show w.heap.size<=b;omega
end
end Go.Proofs.YtfbnfhhmiiahnaaGreatDoor
namespace Go.Proofs.YtfbnfhhmiiahnaaGreatDoor
open Go Wk
def XG:Nm:=[111,115,99]
def cell1:List UInt8:=[0,0,0,1]
def awC:List Cd:=[⟨[107],[102],1,[[107]],0,[], -1⟩]
def awE:Ed:=⟨2,some 1,1,false,0,[]⟩
theorem adB:vG awC=true:=by decide+kernel
theorem KP {t:List Nd}: ∀(l:List Nat),(∀n∈l,ofM t n=some [])->vg t [] l=([],[])
 | [],_=>by rw [vg]
 |n::r,h=>by rw [vg,h n arK];exact KP r fun m hm=>h m (aqd _ hm)
theorem Oy {cs:List Cd} {t:List Nd} (h: ∀n,n<t.length->ofM t n=some []):rX cs t=([],[]):=by
 unfold rX;refine KP _ fun n hn=>h n ?_;unfold E9 at hn;rw [List.mem_mergeSort,List.mem_filter,List.mem_range] at hn;exact hn.1
theorem Z7 {t:List Nd} {i:Nat} (h:aaF t i=some []):ofM t i=some []:=by
 unfold ofM;rw [h];simp [sF]
theorem Rch.less {W:Nat->List Nat} (h: ∀i k,k∈W i->k<i) {a b:Nat} (r:Rch W a b):b<a:=by
 induction r with
 |one h1=>exact h _ _ h1
 |more _ h1 ih=>exact Nat.lt_trans (h _ _ h1) ih
theorem F9 {W:Nat->List Nat} {order:List Nat} (h: ∀i, ¬Rch W i i): ∀(l seen:List Nat),ul W order seen l=[]
 | [],seen=>by rw [ul]
 |i::r,seen=>by rw [ul,if_pos (.inr (h i))];exact F9 h r seen
theorem Ru {t:List Nd} (h: ∀i k,k∈qB t i->k<i):uD t=[]:=F9 (fun i r=>Nat.lt_irrefl _ (Rch.less h r)) _ _
theorem Rx {g:Giv} {i:Nat} (ho:onM g.tree i=true) (hc:su g.tree i=true->sD g.cards g.tree i≠none) (hd:(rX g.cards g.tree).2=[]) (he: ∀e∈pK g.tree,e.dst≠none) (hr:uD g.tree=[]) (hg:wC g i=none):firstM g i=(0, -1):=by
 unfold firstM;dsimp only;rw [if_neg (by rw [ho];decide),if_neg (fun e=>hc e.1 e.2),hd,hr];have h1:(if su g.tree i=true then Ku [] i else none)=none:=by split<;>rfl
 have h2:(if su g.tree i=true then Kv [] i else none)=none:=by split<;>rfl
 rw [h1,h2,hg];dsimp only;rw [if_neg];rintro ⟨_,e,h3,_,_,h4⟩;exact he e h3 h4
theorem UE {g:Giv} (h:g.gone=[]) (i:Nat):wC g i=none:=by
 unfold wC;rw [asA,h];intro k _ e;simp at e
def awN:Nat->Bn:=fun i=>match i with
 |0=>⟨[47],false,0,0,none, -1,[]⟩
 |1=>⟨47::XG,true,1,0,some 0, -1,[0]⟩
 |2=>⟨[47,97],true,1,0,some 0, -1,[0,1]⟩
 |_=>default
theorem abH:qJ awN 3=[0,2,1]:=by
 have:(abS 3).filter (fun i=>decide ((awN i).reason=0))=[0,1,2]:=by decide+kernel
 unfold qJ;rw [this];have h12:(!decide (sH (fun i=>(awN i).level) (fun i=>(awN i).path) 2 1<0))=false:=by decide+kernel
 have h01:(!decide (sH (fun i=>(awN i).level) (fun i=>(awN i).path) 1 0<0))=true:=by decide+kernel
 have h02:(!decide (sH (fun i=>(awN i).level) (fun i=>(awN i).path) 2 0<0))=true:=by decide+kernel
 simp [List.mergeSort,List.MergeSort.Internal.splitInTwo,List.merge,List.splitAt,List.splitAt.go] at*;simp [*]
section
variable {N:Nat->Bn} {fl fl':Nm->Bool} (h: ∀i,((N i).device&&fl (N i).path)=((N i).device&&fl' (N i).path))
include h
theorem Z8 (S:St) (i:Nat):sS N fl S i=sS N fl' S i:=by unfold sS;rw [h]
theorem EN: ∀(l:List Nat) (S:St),qi N fl l S=qi N fl' l S
 | [],S=>by rw [qi,qi]
 |i::r,S=>by
  rw [uV,uV,Z8 h,EN r S];cases sS N fl' S i with
  |none=>rfl
  |some S'=>dsimp only;rw [EN r S']
theorem MS (order:List Nat): ∀(f:Nat) (S:St),doneGo N fl order f S=doneGo N fl' order f S
 |0,S=>by rw [doneGo,doneGo]
 |f+1,S=>by rw [CV,CV,EN h,MS order f]
end
def awS:List Nd:=[⟨-1,[],[]⟩,⟨0,XG,[⟨qV,[107,0]⟩,⟨wu,cell1⟩]⟩,⟨0,[97],[⟨qV,[107,0]⟩,⟨[99,108,111,99,107,115],cell1⟩,⟨FW,[]⟩]⟩]
abbrev awG:Giv:=⟨awS,awC,[],[]⟩
theorem G9:pM awS=true:=by decide+kernel
theorem DC:pK awS=[awE]:=by decide+kernel
theorem Z9:rX awC awS=([],[]):=by
 refine Oy fun n hn=>Z7 ?_;have:n=0∨n=1∨n=2:=by have:awS.length=3:=rfl;omega
 rcases this with rfl|rfl|rfl<;>decide+kernel
theorem abI:uD awS=[]:=by
 refine Ru fun i k hk=>?_;unfold qB at hk;rw [DC] at hk;rcases List.mem_append.1 hk with hk|hk
 ·split at hk
  ·rename_i h0
   rw [List.mem_singleton.1 hk];by_cases hi:i<awS.length
   ·exact (vM G9 (by omega) hi).1
   ·have:par awS i=0:=by unfold par ndA;rw [apJ,aoS (by omega)];rfl
    omega
  ·cases hk
 ·obtain ⟨e,he,h⟩:=List.mem_filterMap.1 hk;rw [List.mem_singleton.1 he] at h;split at h
  ·rename_i hc
   cases h;rw [<-hc.1];decide
  ·cases h
theorem UF:pY awG=awN:=by
 funext i;have hl:awS.length=3:=rfl;have hf: ∀i,onM awS i=true->(su awS i=true->sD awC awS i≠none)->firstM awG i=(0, -1):=fun i h1 h2=>
  Rx h1 h2 (by rw [Z9]) (fun e he=>by rw [DC] at he;rw [List.mem_singleton.1 he];decide) abI (UE rfl i)
 match i with
 |0=>
  rw [Ak (by show 0<3;omega)];unfold Aj;rw [hf 0 (by decide+kernel) (by decide+kernel)];have h1:su awS 0=false:=by decide+kernel
  have h2:pX awS 0=[47]:=by decide+kernel
  have h3:CU awS 0=[]:=by unfold CU;rw [DC];decide+kernel
  dsimp only;rw [h1,h2,h3];rfl
 |1=>
  rw [Ak (by show 1<3;omega)];unfold Aj;rw [hf 1 (by decide+kernel) (by decide+kernel)];have h1:su awS 1=true:=by decide+kernel
  have h2:pX awS 1=47::XG:=by decide+kernel
  have h3:CU awS 1=[]:=by unfold CU;rw [DC];decide+kernel
  have h4:sD awC awS 1=some 0:=by decide+kernel
  have h5:par awS 1=0:=by decide+kernel
  dsimp only;rw [h1,h2,h3,h4,h5];rfl
 |2=>
  rw [Ak (by show 2<3;omega)];unfold Aj;rw [hf 2 (by decide+kernel) (by decide+kernel)];have h1:su awS 2=true:=by decide+kernel
  have h2:pX awS 2=[47,97]:=by decide+kernel
  have h3:CU awS 2=[1]:=by unfold CU;rw [DC];decide+kernel
  have h4:sD awC awS 2=some 0:=by decide+kernel
  have h5:par awS 2=0:=by decide+kernel
  dsimp only;rw [h1,h2,h3,h4,h5];rfl
 |n+3=>rw [Zi (by show ¬n+3<3;omega)];rfl
theorem aac:(rowOf awN (wE awG).2 0).1=0/\(rowOf awN (wE awG).2 1).1=0/\(rowOf awN (wE awG).2 2).1=0/\(rowOf awN (wE awG).2 2).2.1=some 0:=by
 show (rowOf awN (wL (pY awG) _ 3).2 0).1=0/\(rowOf awN (wL (pY awG) _ 3).2 1).1=0/\(rowOf awN (wL (pY awG) _ 3).2 2).1=0/\(rowOf awN (wL (pY awG) _ 3).2 2).2.1=some 0;rw [UF];unfold wL;rw [MS (fl':=fun _=>false),abH]
 ·decide+kernel
 ·intro i
  match i with
  |0=>rfl
  |1=>rfl
  |2=>rfl
  |n+3=>rfl
theorem aad:rU awG 0=true/\rU awG 1=true/\rU awG 2=true:=by
 obtain ⟨h0,h1,h2,_⟩:=aac;unfold rU;rw [UF,h0,h1,h2];exact ⟨rfl,rfl,rfl⟩
theorem adC:0∈uw awG 1/\1∈uw awG 2:=by
 obtain ⟨_,b1,b2⟩:=aad;obtain ⟨_,_,_,hc⟩:=aac;have hl:awG.tree.length=3:=rfl;rw [Q5 (by rw [hl];omega),Q5 (by rw [hl];omega),if_pos b1,if_pos b2];refine ⟨?_,?_⟩
 ·rw [ars,ars];exact .inl (.inl (by decide+kernel))
 ·rw [ars,ars];refine .inl (.inr ?_);rw [List.mem_filterMap];refine ⟨awE,by show awE∈pK awS;rw [DC];exact List.mem_singleton.2 rfl,?_⟩;rw [UF,if_pos ⟨rfl,rfl,by show (rowOf awN (wE awG).2 2).2.1≠none;rw [hc];simp⟩];rfl
theorem ace:tN awG=[0,1,2]:=by
 obtain ⟨b0,b1,b2⟩:=aad;obtain ⟨h01,h12⟩:=adC;have hl:awG.tree.length=3:=rfl;obtain ⟨o1,o2,o3,o4⟩:=Bz (g:=awG) G9;obtain ⟨T2,X2,e2⟩:=ap4 (o3 2 (by rw [hl];omega) b2);obtain ⟨T1,Y,e1⟩:=ap4 (o4 T2 2 X2 e2 1 h12);have e3:tN awG=T1++1::(Y++2::X2):=by rw [e2,e1];simp
 obtain ⟨T0,Z,e0⟩:=ap4 (o4 T1 1 _ e3 0 h01);have hle:(tN awG).length<=3:=by
  have h3: ∀(m:List Nat) (l:List Nat),l.Nodup->(∀k∈l,k∈m)->l.length<=m.length:=by
   intro m;induction m with
   |nil=>
    intro l _ h;cases l with
    |nil=>exact aat _
    |cons a r=>exact absurd (h a arK) (by simp)
   |cons a r ih=>
    intro l hl h;have:=ih (l.erase a) (hl.erase a) fun k hk=>by
     rcases List.mem_cons.1 (h k (asu hk)) with e|e
     ·subst e;exact absurd hk (by rw [hl.mem_erase_iff];exact fun q=>q.1 rfl)
     ·exact e
    have h4:l.length<=(l.erase a).length+1:=by rw [asv];split<;>omega
    rw [aph];omega
  have:=h3 (abS 3) _ o1 fun k hk=>List.mem_range.2 (o2 k hk).1
  rwa [arE] at this
 rw [e3,e0] at hle ⊢;simp only [adL,aph] at hle;have z0:=aoP (show T0.length=0 by omega);have z1:=aoP (show Z.length=0 by omega);have z2:=aoP (show Y.length=0 by omega);have z3:=aoP (show X2.length=0 by omega);rw [z0,z1,z2,z3];rfl
theorem abJ:tq awG bd0 [] [(1,[47,97])]=((false,true,2,upS [2]++dnS [2]),bd0,0):=by
 obtain ⟨_,_,b2⟩:=aad;have ha:atM awG.tree [47,97]=some 2:=by decide+kernel
 have hw:wV awG.tree 2=true:=by decide+kernel
 have s0:vC awG [] [(1,[47,97])] 0 (some 2)=none:=by unfold vC BA;rw [ha];dsimp only;rw [if_neg (fun h=>absurd h.1 (by decide))];rfl
 have s1:vC awG [] [(1,[47,97])] 1 (some 1)=some (2,true):=by unfold vC BA;rw [ha];dsimp only;rw [if_pos ⟨rfl,b2,hw⟩]
 have hgo:qG (vC awG [] [(1,[47,97])]) (tN awG).reverse bd0.a []=([2],some (2,true)):=by rw [ace];show qG _ [2,1,0] (fun _=>false) []=_;rw [qG,if_neg (by decide)];show (match vC awG [] [(1,[47,97])] 0 (some 2) with|some x=>([],some x)|none=>_)=_;rw [s0];dsimp only;rw [qG,if_neg (by decide)];show (match vC awG [] [(1,[47,97])] 1 (some 1) with|some x=>([]++ [2],some x)|none=>_)=_;rw [s1];rfl
 unfold tq;rw [if_neg (by decide),if_neg (by
  rintro (h|h|⟨x,h,h2⟩)
  ·exact absurd h (by decide)
  ·exact absurd h (by decide)
  ·rw [List.mem_singleton.1 h] at h2;exact absurd h2 (by decide)),hgo]
 rfl
theorem abK:tq awG bd0 [] []=((true,false, -1,upS [2,1,0]),⟨rP bd0.a (upS [2,1,0]),[2,1,0],true⟩,0):=by
 have s0: ∀m o,vC awG [] [] m o=none:=fun m o=>by unfold vC BA;cases o<;>rfl
 have hgo:qG (vC awG [] []) (tN awG).reverse bd0.a []=([2,1,0],none):=by rw [ace];show qG _ [2,1,0] (fun _=>false) []=_;rw [qG,if_neg (by decide),s0];dsimp only;rw [qG,if_neg (by decide),s0];dsimp only;rw [qG,if_neg (by decide),s0];dsimp only;rw [qG,s0];rfl
 unfold tq;rw [if_neg (by decide),if_neg (by
  rintro (h|h|⟨x,h,h2⟩)
  ·exact absurd h (by decide)
  ·exact absurd h (by decide)
  ·cases h),hgo]
theorem asRes:BB ⟨rP bd0.a (upS [2,1,0]),[2,1,0],true⟩=(dnS [2,1,0],⟨rP (rP bd0.a (upS [2,1,0])) (dnS [2,1,0]),[],false⟩,0):=by
 unfold BB;rw [if_pos rfl]
end Go.Proofs.YtfbnfhhmiiahnaaGreatDoor
namespace Go.Proofs.YtfbnfhhmiiahnaaGreatDoor
open Go Wk
open Go.RowKit (Below)
attribute [local irreducible] Go.Calls
theorem aae {p q:Stp} {w:World}:(Op.equalIn 10000 64 (.agg (stC p).toArray) (.agg (stC q).toArray)).run prog w=.ok (decide (p=q)) w:=by
 rw [run_equalIn_struct w 9999 _ _ _ (by kernel_rfl) (by kernel_rfl),FD (l:=[(true,3,0),(true,4,1)]) (by kernel_rfl)];rw [FH (by kernel_rfl) rfl rfl (run_equalIn_int w 9998 _ .i64 .i64 _ _ underlying3),FH (by kernel_rfl) rfl rfl (run_equalIn_bool' w 9998 _ _ _ underlying4),Il];obtain ⟨a,b⟩:=p;obtain ⟨c,d⟩:=q;simp only [beq_iff_eq,Prod.mk.injEq];by_cases h1:(a:Int)=c
 ·have h1':a=c:=by omega
  by_cases h2:b=d
  ·simp [h1',h2]
  ·simp [h1',h2]
 ·have h1': ¬a=c:=by omega
  simp [h1',h1]
section
variable {n:Nat} {ds:List Deferred} {Q:Po} {F:Fr} {w:World} {ops rest:List Oper} {d:Nat} {ty t':TypeId} {pos:String} {aft:Array Edge}
theorem kZ {x y:Operand} {p q:Stp} (hx:ev n F x=.agg (stC p).toArray) (hy:ev n F y=.agg (stC q).toArray) (c:Wl prog n ds Q ops rest (upd F d (.bool (decide (p=q)))) w):
 Wl prog n ds Q ops (⟨some d,.binOp .eql 64 x y t',ty,pos,aft,none⟩::rest) F w:=by
 refine Wl.val ?_ c;have hg:(eqGuard .eql 64 x y (.agg (stC p).toArray) (.agg (stC q).toArray)).run prog w=.ok () w:=by unfold eqGuard;split<;>simp
 have hb:(binOp .eql 64 (.agg (stC p).toArray) (.agg (stC q).toArray)).run prog w=.ok (.bool (decide (p=q))) w:=by rw [run_eql_struct,aae];rfl
 simp only [execOp,hx,hy,Sem.run_bind,hg,Result.andThen_ok,hb,Sem.run_pure]
end
theorem BdH.exc {α:Type} {R:Rel α} {e:TypeId} {sz:Nat} {Qb Qe:Nat->Prop} {u:Value} {xs:List α} {g:Giv} {B:Bd} {Pb:Nat->Prop} {bb:Nat} {W:World} (h:BdH g B Pb bb W) (o:oP R e sz Qb Qe W u xs) (n1:aoX e 85=false) (n2:aoX 94 e=false) (n3:aoX 3 e=false):BdH g B (fun b=>Pb b/\u.ownBlock≠some b) bb W:=by
 obtain ⟨N,nv,ov,sv,h1,h2⟩:=h.m;have rr: ∀ {β:Type} {R':Rel β} {e':TypeId} {sz':Nat} {Qe':Nat->Prop} {v:Value} {ys:List β},oP R' e' sz' Pb Qe' W v ys->aoX e' e=false->oP R' e' sz' (fun b=>Pb b/\u.ownBlock≠some b) Qe' W v ys:=fun o' ne=>o'.yX fun b hb hp=>⟨hp,o'.tK o ne b hb⟩;exact ⟨⟨N,nv,ov,sv,h1,h2.b,⟨⟨rr h2.nd.a.row n2,fun x hx=>rr (h2.nd.a.el x hx) n3,h2.nd.a.wG,h2.nd.a.sep⟩,⟨rr h2.nd.b.row n2,fun x hx=>rr (h2.nd.b.el x hx) n3,h2.nd.b.wG,h2.nd.b.sep⟩,h2.nd.x⟩,rr h2.od n3,rr h2.sl n3,h2.so,h2.os,h2.win,h2.nl,h2.lo,fun q=>o.pR h2.b n1 q rfl⟩,h.i⟩
theorem BD {w:World}:Calls prog 9 #[] w (Ret fun r w'=>r=.bool true/\New w w'):=by
 refine oI func9 rfl ntmps9 rfl ?_;refine qq1 ?_;refine bJ (ps:=[(0,.const (vi (-1)))]) (parts:=[(0,vi (-1))]) rfl rfl (by simp [Value.cells]) ?_;refine bJ (ps:=[(0,.const (vs qV)),(1,.const (vs [107,0]))]) (parts:=[(0,vs qV),(1,vs [107,0])]) rfl rfl (by simp [Value.cells]) ?_;(repeat' (refine aa1 ?_));refine bJ (ps:=[(0,.const (vs wu)),(1,.tmp 14)]) (parts:=[(0,vs wu),(1,vs cell1)]) rfl rfl (by simp [Value.cells]) ?_;refine jh (R:=rPr) (N:=2) (ps:=[(0,.tmp 13),(1,.tmp 15)]) (xs:=[(qV,[107,0]),(wu,cell1)]) (us:=[.agg (pC (qV,[107,0])).toArray,.agg (pC (wu,cell1)).toArray]) (Pe:=NoB) Js rfl rfl ⟨rfl,rfl,rfl,rfl,trivial⟩ (by simp) (by simp) fun v1 w1 o1 n1 s1 ob1=>?_;obtain ⟨a1,c1,rfl,_,_⟩:=o1.form;refine bJ (ps:=[(1,.const (vs XG)),(2,.tmp 16)]) (parts:=[(1,vs XG),(2,.slice a1 2 c1)]) rfl rfl (by simp [Value.cells]) ?_;refine bJ (ps:=[(0,.const (vs qV)),(1,.const (vs [107,0]))]) (parts:=[(0,vs qV),(1,vs [107,0])]) rfl rfl (by simp [Value.cells]) ?_;(repeat' (refine aa1 ?_));refine bJ (ps:=[(0,.const (vs [99,108,111,99,107,115])),(1,.tmp 19)]) (parts:=[(0,vs [99,108,111,99,107,115]),(1,vs cell1)]) rfl rfl (by simp [Value.cells]) ?_;refine bJ (ps:=[(0,.const (vs FW))]) (parts:=[(0,vs FW)]) rfl rfl (by simp [Value.cells]) ?_;refine jh (R:=rPr) (N:=3) (ps:=[(0,.tmp 18),(1,.tmp 20),(2,.tmp 21)]) (xs:=[(qV,[107,0]),([99,108,111,99,107,115],cell1),(FW,[])]) (us:=[.agg (pC (qV,[107,0])).toArray,.agg (pC ([99,108,111,99,107,115],cell1)).toArray,.agg (pC (FW,[])).toArray]) (Pe:=NoB) Js rfl rfl ⟨rfl,rfl,rfl,rfl,rfl,rfl,trivial⟩ (by simp) (by simp) fun v2 w2 o2 n2 s2 ob2=>?_;obtain ⟨a2,c2,rfl,_,_⟩:=o2.form;refine bJ (ps:=[(1,.const (vs [97])),(2,.tmp 22)]) (parts:=[(1,vs [97]),(2,.slice a2 3 c2)]) rfl rfl (by simp [Value.cells]) ?_;let LT:List (Nd×SV):=[(⟨-1,[],[]⟩,(none,0,0)),(⟨0,XG,[(qV,[107,0]),(wu,cell1)]⟩,(a1,2,c1)),(⟨0,[97],[(qV,[107,0]),([99,108,111,99,107,115],cell1),(FW,[])]⟩,(a2,3,c2))];refine jh (R:=flat noV) (N:=3) (ps:=[(0,.tmp 12),(1,.tmp 17),(2,.tmp 23)]) (xs:=LT) (us:=LT.map fun p=>.agg (noV p).toArray) (Pe:=NoB) VL rfl rfl ⟨rfl,rfl,rfl,rfl,rfl,rfl,trivial⟩ (by simp [LT]) (by simp [LT]) fun v3 w3 o3 n3 s3 ob3=>?_;obtain ⟨a3,c3,rfl,_,_⟩:=o3.form;have hT:RdS rNd 3 (fun _=>True) w3 (.slice a3 3 c3) awS:=by
  have h1:=(o3.rd (oU noV)).mono (Pb':=fun _=>True) (oU noV) fun _ _ _=>trivial;refine Jb (R':=rNd) (fun p:Nd×SV=>p.1) h1 fun x hx cs hcs=>⟨svV x.2,hcs,?_⟩;have n13:=New.trans n2 n3;simp only [LT,asD,asE,or_false] at hx;rcases hx with rfl|rfl|rfl
  ·exact eu
  ·exact ((o1.new (oH pC) n13).rd (oU pC)).mono (oU pC) fun _ _ _=>trivial
  ·exact ((o2.new (oH pC) n3).rd (oU pC)).mono (oU pC) fun _ _ _=>trivial
 refine qq1 ?_;refine bF (R:=Wk.one vs) (Pe:=NoB) (y:=[107]) qU rfl rfl rfl rfl (by omega) (by omega) fun v4 w4 o4 n4 s4 e4=>?_;obtain ⟨a4,c4,rfl,_,_⟩:=o4.form;refine bJ (ps:=[(0,.const (vs [107])),(1,.const (vs [102])),(2,.const (.int .u8 1)),(3,.tmp 25),(6,.const (.int .i16 (-1)))]) (parts:=[(0,vs [107]),(1,vs [102]),(2,.int .u8 1),(3,.slice a4 1 c4),(6,.int .i16 (-1))]) rfl rfl (by simp [Value.cells]) ?_;refine bF (R:=flat cdV) (Pe:=NoB) (y:=(⟨[107],[102],1,[[107]],0,[], -1⟩,(a4,1,c4))) VN rfl rfl rfl rfl (by omega) (by omega) fun v5 w5 o5 n5 s5 e5=>?_;obtain ⟨a5,c5,rfl,_,_⟩:=o5.form;have hC:RdS rCd 7 (fun _=>True) w5 (.slice a5 1 c5) awC:=by have h1:=(o5.rd (oU cdV)).mono (Pb':=fun _=>True) (oU cdV) fun _ _ _=>trivial;refine Jb (R':=rCd) (fun p:Cd×SV=>p.1) h1 fun x hx cs hcs=>⟨svV x.2,hcs,?_⟩;simp only [asD,asE,or_false] at hx;subst hx;exact ((o4.new (oJ _) n5).rd qU.mo).mono (pq _) fun _ _ _=>trivial
 have n35:=New.trans n4 n5;have n05:=New.trans n1 (New.trans n2 (New.trans n3 n35));have r5:RdG (fun _=>True) w5 awG (.slice a3 3 c3) (.slice a5 1 c5) (.slice none 0 0) (.slice none 0 0):=⟨hT.keep pU n35.keep,hC,eu,eu⟩;clear o1 o2 o3 o4 o5 hT hC n1 n2 n3 n4 n5 n35;refine qq2 ?_;refine bJ (ps:=[(0,.tmp 29),(1,.tmp 30)]) (parts:=[(0,.slice a3 3 c3),(1,.slice a5 1 c5)]) rfl rfl (by simp [Value.cells]) ?_;refine au (afV r5 ⟨(fun x hx=>by cases hx),(fun x hx=>by cases hx)⟩) rfl ?_;rintro _ w6 ⟨hr,n6⟩;rw [if_pos (zq.2 ⟨G9,adB,aoZ _,aoZ _⟩)] at hr;obtain ⟨bb,rfl,hB⟩:=hr;have hz6:=n6.size;refine qq5 ?_;refine bJ (ps:=[(0,.const (vi 1)),(1,.const (vs [47,97]))]) (parts:=[(0,vi 1),(1,vs [47,97])]) rfl rfl (by simp [Value.cells]) ?_;refine bF (R:=flat wkC) (Pe:=NoB) (y:=((1:Int),[47,97])) Oj rfl rfl rfl rfl (by omega) (by omega) fun v7 w7 o7 n7 s7 e7=>?_;have hz7:=n7.size;have hB7:=(hB.mono (Pb':=fun b=>w5.heap.size<=b/\(b<w6.heap.size∨w7.heap.size<=b)) fun b hb e=>⟨e,.inl hb⟩).new n7;refine au (F8 (Pr:=NoB) (Pw:=fun b=>w6.heap.size<=b/\b<w7.heap.size) (refuse:=[]) G9 hB7 (fun b hb=>⟨by omega,.inr hb⟩) eu (fun b e=>e.elim) ((o7.rd (oU _)).mono (oU _) fun b hb e=>⟨e.elim id fun e=>e.elim,hb⟩) (fun b e q=>by have:=e.1;have:=e.2;omega)) rfl ?_;rintro _ w8 ⟨xv,rfl,ox,hB8,c8⟩;rw [abJ] at ox hB8 ⊢;dsimp only at ox hB8 ⊢;have c58:New w5 w8:=(Chg.trans (M:=fun b=>w5.heap.size<=b) (New.trans n6 n7).any c8 fun k _ e=>e.1).tN
 have hz8:=c8.size;obtain ⟨xa,xc,rfl,_,_⟩:=ox.form;refine qq5 ?_;refine Wl.alloc fun w9 b9 n9 s9=>?_;refine aK (new:=oC false true 2 (.slice xa 2 xc)) b9 rfl rfl rfl rfl zl4 oC1 fun w10 b10 c10 s10=>?_;replace b10:Bk w10 w8.heap.size 59 (oC false true 2 (.slice xa 2 xc)):=b10;have Ll:New w8 w10:=(Chg.trans n9.any c10 i3).tN
 clear b9 n9 c10 o7;have YO:=Ll.size;have afg:=b10.lt;have XH:=(hB8.mono (Pb':=fun b=>w5.heap.size<=b/\(b<w8.heap.size∨w10.heap.size<=b)) fun b hb e=>⟨e.1,.inl hb⟩).new Ll;refine qq2 ?_;refine au (F8 (Pr:=NoB) (Pw:=NoB) (refuse:=[]) (wakes:=[]) G9 XH (fun b hb=>⟨by omega,.inr hb⟩) eu (fun b e=>e.elim) eu (fun b e=>e.elim)) rfl ?_;rintro _ w11 ⟨yv,rfl,oy,abL,c11⟩;rw [abK] at oy abL ⊢;dsimp only at oy abL ⊢;have Tn:=c11.size;have akJ:=b10.chg c11 fun e=>by have:=e.2;omega
 have akK:New w5 w11:=(Chg.trans (M:=fun b=>w5.heap.size<=b) (New.trans c58 Ll).any c11 fun k _ e=>e.1).tN
 obtain ⟨ya,yc,rfl,_,_⟩:=oy.form;refine qq5 ?_;refine Wl.alloc fun w12 b12 n12 s12=>?_;refine aK (new:=oC true false (-1) (.slice ya 3 yc)) b12 rfl rfl rfl rfl zl4 oC1 fun w13 b13 c13 s13=>?_;replace b13:Bk w13 w11.heap.size 59 (oC true false (-1) (.slice ya 3 yc)):=b13;have Ry:New w11 w13:=(Chg.trans n12.any c13 i3).tN
 clear b12 n12 c13;have adb:=Ry.size;have anp:=b13.lt;have afZ:=oy.new (oH _) Ry;have akL:=akJ.chg Ry id;have af0:=((abL.exc oy rfl rfl rfl).mono (Pb':=fun b=>((w5.heap.size<=b/\(b<w8.heap.size∨w10.heap.size<=b))/\(Value.slice ya 3 yc).ownBlock≠some b)/\(b<w11.heap.size∨w13.heap.size<=b)) fun b hb e=>⟨e,.inl hb⟩).new Ry;clear abL XH hB8 hB7 hB oy;refine qq2 ?_;refine au (Ja G9 af0) rfl ?_;rintro _ w14 ⟨zv,rfl,oz,akM,c14⟩;rw [asRes] at oz ⊢;dsimp only at oz ⊢;have adD:=akL.chg c14 fun e=>by have:=e.1.1.2;omega
 have VO:=b13.chg c14 fun e=>by have:=e.2;omega
 have akN:=afZ.chg (oH _) c14 fun j hj e=>e.1.2 hj;have akO:New w5 w14:=(Chg.trans (M:=fun b=>w5.heap.size<=b) (New.trans akK Ry).any c14 fun k _ e=>e.1.1.1).tN
 obtain ⟨za,zc,rfl,_,_⟩:=oz.form;have hy0:(upS [2,1,0])[0]? =some (2,true):=rfl;have hz2:(dnS [2,1,0])[2]? =some (2,false):=rfl;have ry:=akN.rd (oU _);have rz:=oz.rd (oU _);have hly:(upS [2,1,0]).length=3:=rfl;have hlz:(dnS [2,1,0]).length=3:=rfl;have hrz: ∀k,k∈ [(0:Nat)]->True:=fun _ _=>trivial;clear af0 akM afZ c14 c11 c8 oz hrz;rw [hlz] at rz ⊢;rw [hly] at ry;(repeat' (first|refine qq5 ?_|(refine bH rfl rfl (fun _=>?_) (fun _=>?_)<;>(first|(exfalso;omega)|skip))));refine ah (u:=.bool true) rfl (adD.cell (o:=1) rfl) ?_;refine qq5 ?_;refine ah (u:=vi 2) rfl (adD.cell (o:=2) rfl) ?_;(repeat' (first|refine qq5 ?_|(refine bH rfl rfl (fun _=>?_) (fun _=>?_)<;>(first|(exfalso;omega)|skip))));refine ah (u:=.slice xa 2 xc) rfl (adD.cell (o:=3) rfl) ?_;(repeat' (first|refine qq5 ?_|(refine bH rfl rfl (fun _=>?_) (fun _=>?_)<;>(first|(exfalso;omega)|skip))));refine ah (u:=.bool true) rfl (VO.cell (o:=0) rfl) ?_;refine qq5 ?_;refine ah (u:=vi (-1)) rfl (VO.cell (o:=2) rfl) ?_;(repeat' (first|refine qq5 ?_|(refine bH rfl rfl (fun _=>?_) (fun _=>?_)<;>(first|(exfalso;omega)|skip))));refine ah (u:=.slice ya 3 yc) rfl (VO.cell (o:=3) rfl) ?_;(repeat' (first|refine qq5 ?_|(refine bH rfl rfl (fun _=>?_) (fun _=>?_)<;>(first|(exfalso;omega)|skip))));refine ah (u:=.slice ya 3 yc) rfl (VO.cell (o:=3) rfl) ?_;(try refine aQ rfl rfl ?_);refine aO ry rfl rfl (by omega) hy0 fun b o cs hl hR hat=>?_;obtain rfl:cs=stC _:=hR;(try refine aQ rfl rfl ?_);refine aS hat rfl rfl ?_;clear hat;(try refine aQ rfl rfl ?_);refine bJ (ps:=[(0,.const (vi 2)),(1,.const (.bool true))]) (parts:=[(0,vi 2),(1,.bool true)]) rfl rfl (by simp [Value.cells]) ?_;(try refine aQ rfl rfl ?_);refine kZ (p:=(2,true)) (q:=(2,true)) rfl rfl ?_;rw [decide_eq_true rfl];(repeat' (first|refine qq5 ?_|(refine bH rfl rfl (fun _=>?_) (fun _=>?_)<;>(first|(exfalso;omega)|skip))));refine aO rz rfl rfl (by omega) hz2 fun b o cs hl hR hat=>?_;obtain rfl:cs=stC _:=hR;(try refine aQ rfl rfl ?_);refine aS hat rfl rfl ?_;clear hat;(try refine aQ rfl rfl ?_);refine bJ (ps:=[(0,.const (vi 2))]) (parts:=[(0,vi 2)]) rfl rfl (by simp [Value.cells]) ?_;(try refine aQ rfl rfl ?_);refine kZ (p:=(2,false)) (q:=(2,false)) rfl rfl ?_;rw [decide_eq_true rfl];refine qq6 ?_;exact ay rfl rfl ⟨_,rfl,rfl,New.trans n05 akO⟩
end Go.Proofs.YtfbnfhhmiiahnaaGreatDoor
