/-
  Texts of this claim, one behind the other: Lez, BG, C6, S8, Sz, Rf, Rg, Rn, Rs, Rh, D3, Ds, Ru, D4, D5, D6, D7, D8, S9, SA, SB, B8, BM.
-/
import Derived.Test.YtfbnfhhmiiahnaaGreatDoorVc
import Derived.RangeFuncFrom
import Derived.RangeFuncLeaves
import Derived.CallsIn
import Derived.TacticsIn
import Derived.RangeFuncSeq
import Derived.RangeFuncNested
import Derived.OrdersIn
set_option linter.all false
set_option maxHeartbeats 16000000
set_option maxRecDepth 8000
open List renaming range → abM,replicate → apT,mem_of_getElem? → apA,getElem?_map → apC,length_singleton → apj,getElem?_range → aq0,length_append → adE,take_length → apW,getElem?_eq_getElem → adD,append_nil → aqG,length → aqX,mem_cons_of_mem → aqa,mem_range → aoS,length_take → ao8,map → aru,map_congr_left → ap8,mem_filter → aoT,range_succ → arv,map_set → arx,getElem?_cons_succ → aq1,getElem?_cons_zero → aq2,length_replicate → arz,length_filter_le → arA,length_range → arB,filter_append → arC,drop_length → aqf,getElem?_set → apl,count_cons → arE,ext_getElem? → ao3,getElem?_eq_none → aoP,filter_sublist → ao5,replicate_eq_nil_iff → arF,length_cons → ape,getElem?_replicate → arG,mem_cons_self → arH,cons_append → aeA,eq_nil_iff_forall_not_mem → ap0,pairwise_lt_range → apn,size_toArray → ao1,mem_mergeSort → arI,length_mergeSort → aq9,length_nil → apH,mem_or_eq_of_mem_set → arJ,flatMap_append → ari,length_set → aqV,mem_append_left → apX,nil_append → aoN,eq_nil_of_length_eq_zero → aoM,map_id → ap9,replicate_succ → arK,set_append_right → ao2,map_append → aqk,replicate_zero → arL,getElem?_take → aao,map_map → ap7,drop_drop → apJ,lt_trans → aqL,mergeSort_perm → arM,foldl_cons → aqh,getD_eq_getElem?_getD → apG,count_set → arQ,map_replicate → arR,append_assoc → acM,length_filterMap_le → arS,length_map → aqp,countP_eq_length_filter → arU,countP_cons → arV,countP → arW
open Array renaming getElem?_eq_getElem → aaQ,getD_eq_getD_getElem? → ab6,replicate → aoY,getElem?_replicate → ao7,getElem?_setIfInBounds_ne → ars,getElem?_eq_none → arw,getElem?_toList → aqZ,size_setIfInBounds → arP
open Nat renaming zero_le → aoW,le_trans → arp,lt_or_ge → arq,le_refl → aam,zero_add → acF,strongRecOn → aqg,beq → aoU,ne_of_beq_eq_false → ao6,sub_self → aq4,le_of_ble_eq_true → arN
open Bool renaming and_eq_true → aoX,or_eq_true → ap3,false_or → ap4
open Int renaming toNat_natCast → ao0,lt_irrefl → arT
open Option renaming map_some → adC,bind_some → arO
open Decidable renaming byContradiction → arD
open Go.Proofs.Tryz
namespace Go.Proofs.YtfbnfhhmiiahnaaGreatDoor.Wk
open Go Go.RowKit
section
variable {P:Program} {ops:Array Oper} {C:World->Prop} {Q:Exit->Act->World->Prop}
def okV (ops:Array Oper):Bool:=
 Region.noSelect ops&&(abM ops.size).all (fun j=>(abM j).all fun i=>Jg ops i j)&&
 (abM ops.size).all (fun j=>match ops[j]? with|some o=>o.after.all fun e=> !Region.binds .any e||decide (e.on<j)|none=>true)
theorem WZ {j:Nat} {post:List Nat} (hjn:j<ops.size) (hpost:j+1=ops.size->post=[]) (hQ: ∀e a w,e≠ .normal-> ¬Q e a w) (hQC: ∀a w,Q .normal a w->C w): ∀(pre:List Nat) (a:Act) (w:World),(∀i∈pre,Free ops i j)->C w->TS P ops C Q (pre++j::post) a w->
 wpOp P ops QF j (fun a' w'=>C w'/\TS P ops C Q (pre++post) a' w') a w:=by
 intro pre a w hf hC h;obtain ⟨oj,hj⟩: ∃oj,ops[j]? =some oj:=⟨ops[j],aaQ hjn⟩;cases hq:isQ ops j with
 |true=>
  obtain ⟨v,hy,ht⟩:=Ce hj hq pre a w hf hC h;have hrj:readB oj.op=true:=by unfold isQ at hq;rw [hj] at hq;exact hq
  exact gY hj hy hrj hC ⟨hC,ht⟩
 |false=>
  induction pre generalizing a with
  |nil=>
   rw [aoN,TS,if_neg (by rw [hq];simp)] at h;by_cases hp:j+1=ops.size
   ·rw [if_pos hp] at h;rw [aoN,hpost hp];exact Cb hQ (fun a' w' h'=>⟨hQC _ _ h',h'⟩) h
   ·rw [if_neg hp] at h;exact h
  |cons i pre ih=>
   obtain ⟨⟨oi,oj',hi,hj',h1,h2,s1,s2⟩,hone,_⟩:=hf i (by simp);rw [hj] at hj';cases hj';have hqi:isQ ops i=true:=by rcases hone with h|h;exact h;rw [hq] at h;cases h
   rw [aeA,TS,if_pos hqi] at h;obtain ⟨o,vi,ho,hy,ht⟩:=h;rw [hi] at ho;cases ho;have:=ih _ (fun k hk=>hf k (by simp [hk])) ht;refine wpOp_mono (fun a' w' h'=>?_) (wpOp_put hj h1 s1 s2 hy this);obtain ⟨hy',hC',ht'⟩:=h';refine ⟨hC',?_⟩;rw [aeA,TS,if_pos hqi];exact ⟨oi,vi,hi,hy',ht'⟩
theorem NJ {Q2:Exit->Act->World->Prop} (hQ: ∀e a w,e≠ .normal-> ¬Q e a w) (hQC: ∀a w,Q .normal a w->C w) (hQ2: ∀a w,Q .normal a w->Q2 .normal a w) (hok:okV ops=true): ∀(fuel:Nat) (listed:Array Bool) (a:Act) (w:World),listed.size=ops.size->(left ops listed).length=fuel->zU ops listed->(fuel≠0->C w)->TS P ops C Q (left ops listed) a w->wpAny P .any ops Q2 fuel listed a w:=by
 simp only [okV,aoX] at hok;obtain ⟨⟨hns,Jh⟩,hdown⟩:=hok;have hsel:=Region.noSelect_spec hns;have rdy: ∀listed:Array Bool,listed.size=ops.size-> ∀i,i∈Region.ready .any ops listed->i∈left ops listed:=by intro listed hs i hi;obtain ⟨h0,o,ho,_⟩:=mem_ready.1 hi;unfold left;rw [aoT,aoS];exact ⟨(Array.getElem?_eq_some_iff.1 ho).1,by simp [h0]⟩
 intro fuel;induction fuel with
 |zero=>intro listed a w hs hl hcl hC h;have hnil:left ops listed=[]:=aoM hl;rw [hnil] at h;refine ⟨?_,hQ2 _ _ h⟩;rw [ap0];intro i hi;have:=rdy listed hs i hi;rw [hnil] at this;cases this
 |succ fuel ih=>
  intro listed a w hs hl hcl hC h;replace hC:=hC (by simp);refine ⟨fun h0=>?_,fun j hj=>?_⟩
  ·exfalso;cases hL:left ops listed with
   |nil=>rw [hL] at hl;cases hl
   |cons i l=>
    have hmem:i∈left ops listed:=by rw [hL];simp
    have hmem':=hmem;unfold left at hmem;rw [aoT,aoS] at hmem;have hall: ∀k,k<i->listed.getD k false=true:=by
     intro k hk;have hks:k<ops.size:=by omega
     cases hb:listed.getD k true with
     |true=>simpa [ab6,hs,hks] using hb
     |false=>
      have hkm:k∈left ops listed:=by unfold left;rw [aoT,aoS];exact ⟨hks,by simp [hb]⟩
      have hsort:(left ops listed).Pairwise (· < ·):=List.Pairwise.sublist ao5 apn;rw [hL] at hkm hsort;rcases List.mem_cons.1 hkm with e|e
      ·omega
      ·have:=(List.pairwise_cons.1 hsort).1 k e;omega
    have:i∈Region.ready .any ops listed:=by refine mem_ready.2 ⟨by simpa using hmem.2,ops[i],aaQ hmem.1,fun e he hb=>?_⟩;have h3:=List.all_eq_true.1 hdown i (List.mem_range.2 hmem.1);rw [aaQ hmem.1] at h3;have h4:=Array.all_eq_true'.1 h3 e he;rw [hb] at h4;exact hall e.on (by simpa using h4)
    rw [h0] at this;cases this
  ·obtain ⟨pre,post,hL⟩:=List.append_of_mem (rdy listed hs j hj);rw [hL] at h;obtain ⟨_,oj,hoj,_⟩:=mem_ready.1 hj;have hjs:j<ops.size:=(Array.getElem?_eq_some_iff.1 hoj).1;have hnd:(left ops listed).Nodup:=List.Nodup.sublist ao5 List.nodup_range;have hsort:(left ops listed).Pairwise (· < ·):=List.Pairwise.sublist ao5 apn;have D8: ∀i∈left ops listed,i<ops.size/\listed.getD i true=false:=fun i hi=>by unfold left at hi;rw [aoT,aoS] at hi;exact ⟨hi.1,by simpa using hi.2⟩
   have wX: ∀k,k∈ahead ops ops.size [j]->k=j∨listed.getD k false=true:=wS hcl hj _ _ (by simp);have hfree: ∀i∈pre,Free ops i j:=by
    intro i hi;have him:i∈left ops listed:=by rw [hL];simp [hi]
    obtain ⟨his,hun⟩:=D8 i him;have hij:i<j:=by rw [hL] at hsort;exact (List.pairwise_append.1 hsort).2.2 i hi j (by simp)
    have h3:=List.all_eq_true.1 (List.all_eq_true.1 Jh j (List.mem_range.2 hjs)) i (List.mem_range.2 hij);unfold Jg at h3;simp only [ap3,aoX,aaQ his,aaQ hjs] at h3;rcases h3 with h3|⟨h3,h4,h5⟩
    ·exfalso;rcases wX i (by simpa using h3) with e|e
     ·omega
     ·simp [ab6,hs,his] at hun e;rw [hun] at e;cases e
    ·exact ⟨⟨_,_,aaQ his,aaQ hjs,h4,h5,fun cs b=>hsel i _ cs b (aaQ his),fun cs b=>hsel j _ cs b (aaQ hjs)⟩,h3,by omega⟩
   have hpo:j+1=ops.size->post=[]:=by
    intro hje;cases post with
    |nil=>rfl
    |cons k post=>
     have hkm:k∈left ops listed:=by rw [hL];simp
     have h1:=(D8 k hkm).1;rw [hL] at hsort;have h2:=(List.pairwise_append.1 hsort).2.1;have:=(List.pairwise_cons.1 h2).1 k (by simp);omega
   have hset:left ops (listed.setIfInBounds j true)=pre++post:=by rw [EX hs hjs];exact A7 hnd hL
   have hlen:(pre++post).length=fuel:=by have:=hl;rw [hL] at this;simp at this ⊢;omega
   have hcl':=hcl.set hj;exact yC (fun a' w' h'=>ih _ a' w' (by simpa using hs) (by rw [hset];exact hlen) hcl' (fun _=>h'.1) (by rw [hset];exact h'.2)) (WZ hjs hpo hQ hQC pre a w hfree hC h)
end
section
variable {P:Program} {n:Nat} {ds:List Deferred} {Q:Po} {F:Fr} {ops:List Oper} {C:World->Prop} {w:World}
theorem nU {rid:Nat} (hm:P.follows .mixedOrders=true) (hB:okV ops.toArray=true) (C:World->Prop) (hC:C w.drew) (h: ∀w',New w w'->Wt P n ds C (fun e F w=>e=.normal/\C w/\Q .normal F w) ops ops F w'):Wc P n ds Q (.region rid ops.toArray true) F w:=by
 unfold Wc;refine wp_region_any hm ?_;have hleft:left ops.toArray (aoY ops.toArray.size false)=(abM ops.length).map (0+ ·):=by unfold left;rw [show ((fun x=>0+x):Nat->Nat)=id from funext fun x=>acF x,ap9];simp only [ao1];refine List.filter_eq_self.2 fun k hk=>?_;have:=List.mem_range.1 hk;simp [ab6,ao7,this]
 have h0:zU ops.toArray (aoY ops.toArray.size false):=by intro j o hj;exfalso;simp only [ab6,ao7] at hj;split at hj<;>simp at hj
 refine NJ (C:=C) (Q:=QA n ds (fun e F w=>e=.normal/\C w/\Q .normal F w)) (by rintro e a w he ⟨F,_,h,_⟩;exact he h) (by rintro a w ⟨F,_,_,hC,_⟩;exact hC) (by rintro a w ⟨F,e,_,_,hq⟩;exact ⟨F,e,hq⟩) hB _ _ _ _ (by simp) (by rw [hleft];simp) h0 (fun _=>hC) ?_;rw [hleft];exact Cf ops 0 F w.drew (fun j=>by rw [acF]) (h _ (Chg.drew _ _))
end
end Go.Proofs.YtfbnfhhmiiahnaaGreatDoor.Wk
namespace Go.Proofs.YtfbnfhhmiiahnaaGreatDoor
open Go Wk
open Go.RowKit (Below)
attribute [local irreducible] Go.Calls
theorem Es: ∀(l:List Nd) (i:Nat) (dp pt:List Int) (sn:List Kid),(xQ i dp pt sn l).2.isSome=true->
 (∀j x,l[j]? =some x->i+j≠0->(x.parent,x.name)∉sn)/\(∀j k x y,j<k->l[j]? =some x->l[k]? =some y->i+j≠0->(x.parent,x.name)≠(y.parent,y.name))
 | [],_,_,_,_,_=>⟨fun j x h=>by simp at h,fun j k x y _ h=>by simp at h⟩
 |z::r,i,dp,pt,sn,h=>by
  rw [xQ] at h;split at h
  ·cases h
  ·split at h
   ·rename_i h0
    subst h0;split at h
    ·cases h
    ·obtain ⟨a,b⟩:=Es r 1 _ _ _ h;refine ⟨fun j x hx hj=>?_,fun j k x y hjk hx hy hj=>?_⟩
     ·cases j with
      |zero=>exact absurd rfl hj
      |succ j=>exact a j x (by simpa using hx) (by omega)
     ·cases j with
      |zero=>exact absurd rfl hj
      |succ j=>cases k with
       |zero=>omega
       |succ k=>exact b j k x y (by omega) (by simpa using hx) (by simpa using hy) (by omega)
   ·rename_i h0
    split at h
    ·cases h
    ·split at h
     ·cases h
     ·rename_i h3
      have hz:(z.parent,z.name)∉sn:=fun e=>h3 (.inr (.inr (.inr (List.contains_iff_mem.2 e))));obtain ⟨a,b⟩:=Es r (i+1) _ _ _ h;refine ⟨fun j x hx hj=>?_,fun j k x y hjk hx hy hj=>?_⟩
      ·cases j with
       |zero=>simp at hx;subst hx;exact hz
       |succ j=>exact fun e=>a j x (by simpa using hx) (by omega) (by simp [e])
      ·cases k with
       |zero=>omega
       |succ k=>cases j with
        |zero=>simp at hx;subst hx;exact fun e=>a k y (by simpa using hy) (by omega) (by simp [<-e])
        |succ j=>exact b j k x y (by omega) (by simpa using hx) (by simpa using hy) (by omega)
theorem aaR {t:List Nd} (ht:pJ t=true) {i j:Nat} {x y:Nd} (hx:t[i]? =some x) (hy:t[j]? =some y) (hi:i≠0) (hj:j≠0) (h1:x.parent=y.parent) (h2:x.name=y.name):i=j:=by
 have h:=ht;unfold pJ at h;rw [aoX] at h;have hd:=(Es t 0 [] [] [] h.1).2;rcases Nat.lt_trichotomy i j with hlt|he|hlt
 ·exact absurd (by rw [h1,h2]) (hd i j x y hlt hx hy (by omega))
 ·exact he
 ·exact absurd (by rw [h1,h2]) (hd j i y x hlt hy hx (by omega))
theorem Xa {t:List Nd} (ht:pJ t=true): ∀(a b:Nat),a<t.length->b<t.length->zX t a=zX t b->a=b:=by
 intro a;induction a using aqg with
 |ind a ih=>
  intro b ha hb h;obtain ⟨x,hx⟩:=oZ t ha;obtain ⟨y,hy⟩:=oZ t hb;by_cases a0:a=0
  ·by_cases b0:b=0
   ·omega
   ·rw [uM ht hy b0,a0,yE] at h;simp at h
  ·by_cases b0:b=0
   ·rw [uM ht hx a0,b0,yE] at h;simp at h
   ·rw [uM ht hx a0,uM ht hy b0] at h;obtain ⟨h1,h2⟩:=List.append_inj' h rfl;have ka:=(rU ht hx).kid a0;have kb:=(rU ht hy).kid b0;have hp:=ih x.parent.toNat (by omega) y.parent.toNat (by omega) (by omega) h1;exact aaR ht hx hy a0 b0 (by omega) (by simpa using h2)
theorem GN {t:List Nd} (ht:pJ t=true) {a b:Nat} (ha:a<t.length) (hb:b<t.length) (h:pV t a=pV t b):a=b:=
 Xa ht a b ha hb (Wh (fun n hn=>(Bf ht a n hn).1) (fun n hn=>(Bf ht b n hn).1) h)
def rkF (cs:List Cd) (t:List Nd) (i:Nat):Bool:=onM t i&&(sD cs t i).isSome
theorem Xb {Pb Pt:Nat->Prop} {w:World} {v u:Value} {cs:List Cd} {t:List Nd} (h:RdS rCd 7 Pb w v cs) (ht:RdS rNd 3 Pt w u t) (hc:vM cs=true) (hok:pJ t=true):
 Calls prog 119 #[v,u] w (Ret fun r w'=>(∃q,r=.tuple #[q,vi 0]/\oJ (Wk.one viN) 3 1 (fun b=>w.heap.size<=b) NoB w' q (E9 cs t))/\New w w'):=by
 obtain ⟨a,cap,rfl,hc1,hc2⟩:=h.form;obtain ⟨a2,cap2,rfl,hd1,hd2⟩:=ht.form;have hlen:=qm hok;have htp:=tC hok;have hcl:=O8 hc;replace h:=h.mono (Pb':=fun k=>k<w.heap.size) SN fun k hk _=>hk;replace ht:=ht.mono (Pb':=fun k=>k<w.heap.size) A8 fun k hk _=>hk;refine oG func119 rfl ntmps119 rfl ?_;refine qq0 ?_;refine Wl.box rfl (fun w1 b1 n1 s1=>?_);replace b1:Bk w1 w.heap.size 23 [.slice a cs.length cap]:=b1;refine qq0 ?_;refine ah (u:=.slice a cs.length cap) rfl (b1.cell (o:=0) rfl) ?_;(repeat' (refine aa2 ?_));refine au (PW (h.keep qM n1.keep) (ht.keep pM n1.keep) hc hok) rfl ?_;rintro _ w2 ⟨⟨q,rfl,oa⟩,n2⟩;have b2:=b1.chg n2 id;have n02:=New.trans n1 n2;obtain ⟨qa,qc,rfl,_,_⟩:=oa.form;refine qq3 ?_;refine Wl.alloc fun w3 b3 n3 s3=>?_;replace b3:Bk w3 w2.heap.size 154 [.slice none 0 0]:=b3;refine aO (u:=.slice qa (allM cs t).length qc) b3 rfl (show (0:Nat)<1 by omega) rfl rfl fun w4 b4 c4=>?_;replace b4:Bk w4 w2.heap.size 154 [.slice qa (allM cs t).length qc]:=b4;have hz2:=n02.size;have n24:New w2 w4:=(Chg.trans n3.any c4 i3).tN
 have n04:=New.trans n02 n24;have b24:=b2.chg n24 id;have oa4:=oa.new (oh zQ) n24;(repeat' (first|refine qq0 ?_|(refine aa6 (fun _=>?_) (fun _=>?_)<;>(first|(exfalso;omega)|skip))));refine eU (f:=vs) (y0:=([]:Nm)) (Pe:=NoB) rfl rfl rfl (by omega) (by omega) (by omega) fun vp w5 op n5=>?_;rw [ao0] at op;obtain ⟨gp,gc,hvp,hgp,hgl,_⟩:=op.blk (by intro e;rw [arF] at e;omega);rw [arz] at hvp;subst hvp;refine Wl.alloc fun w6 b6 n6 s6=>?_;replace b6:Bk w6 w5.heap.size 24 [.slice none 0 0]:=b6;refine aO (u:=.slice (some ⟨gp,0,none⟩) t.length gc) b6 rfl (show (0:Nat)<1 by omega) rfl rfl fun w7 b7 c7=>?_;replace b7:Bk w7 w5.heap.size 24 [.slice (some ⟨gp,0,none⟩) t.length gc]:=b7;have hz4:=n04.size;have hz5:=n5.size;have n57:New w5 w7:=(Chg.trans n6.any c7 i3).tN
 have n47:=New.trans n5 n57;have n07:=New.trans n04 n47;have op7:=op.new (oH _) n57;have b27:=b24.chg n47 id;have b47:=b4.chg n47 id;have oa7:=oa4.new (oh zQ) n47;have hb4:=b4.lt;have hb2:=b2.lt;have hz1:=n2.size;have acR: ∀k,(Value.slice qa (allM cs t).length qc).ownBlock=some k->k<w2.heap.size:=fun k hk=>(oa.lt hk).2;refine qq0 ?_;refine aC (σ:=Nat×Value) (fun s=>[(1,.slice a2 t.length cap2),(2,.pointer (some ⟨w.heap.size,0,none⟩)),(6,.pointer (some ⟨w2.heap.size,0,none⟩)),(8,s.2),(9,.pointer (some ⟨w5.heap.size,0,none⟩)),(26,vi t.length),(27,vi s.1)]) (fun s W=>s.1<=t.length/\oJ (Wk.one viN) 3 1 (fun b=>w7.heap.size<=b) NoB W s.2 ((abM s.1).filter (rkF cs t))/\oJ (Wk.one vs) 9 1 (fun b=>w4.heap.size<=b) NoB W (.slice (some ⟨gp,0,none⟩) t.length gc) ((abM s.1).map (pV t)++apT (t.length-s.1) [])/\Chg (fun k=>k=gp) w7 W) (fun s=>t.length-s.1) (0,.slice none 0 0) (sl rfl) ⟨aoW _,aN,by simpa using op7,aB _ _⟩ ?_;rintro ⟨i,l⟩ G W ⟨hi,own,opW,cW⟩;dsimp only at hi own opW cW;simp only [qi];have nW:New w W:=(Chg.trans n07.any cW i3).tN
 have bcW:=b27.chg cW (by omega);have baW:=b47.chg cW (by omega);have bpW:=b7.chg cW (by omega);have oaW:=oa7.chg (oh zQ) cW fun k hk e=>by have:=acR k hk;omega
 have hzW:=nW.size;have hz7:=cW.size;have acS:=n57.size;obtain ⟨la,lc,rfl,_,_⟩:=own.form;have hfl:((abM i).filter (rkF cs t)).length<=i:=by
  have:=arA (rkF cs t) (abM i)
  rwa [arB] at this
 (repeat' (first|refine qq1 ?_|refine aa1 (fun _=>?_) (fun _=>?_)))
 ·have hil:i<t.length:=by omega
  refine nU rfl (by kernel_rfl) (fun w'=>Chg (fun k=>k=gp) W w') (Chg.drew _ _) ?_;intro w8 n8;refine aa0 (ax (u:=.slice (some ⟨gp,0,none⟩) t.length gc) rfl (fun w' hw=>(bpW.chg hw (by omega)).cell (o:=0) rfl) (af ?_));(repeat' (refine aa0 (aa3 (af ?_))));refine aG rfl (au (LJ (i:=i) ((ht.keep pM nW.keep).mono A8 (fun _ _ e=>e) |>.keep pM n8.keep) hok hil) rfl ?_);rintro _ w9 ⟨rfl,n9⟩;have n89:=New.trans n8 n9;refine ak ⟨rfl,n89.any,?_⟩;(repeat' (first|refine aa0 (aa3 (af ?_))|refine aa0 (iV rfl rfl (af ?_))));refine aa0 (aa8 (af ?_));have hpl:((abM i).map (pV t)++apT (t.length-i) ([]:Nm)).length=t.length:=by simp;omega
  refine Wt.last rfl (dI (q:=pV t i) (j:=i) (cap:=gc) (opW.new (oH _) n89) (by rw [hpl]) (by omega) (by show Value.pointer (some ⟨gp,0+(i:Int).toNat*1,none⟩)=_;simp) rfl rfl rfl fun w10 o10 c10=>?_);have hset:((abM i).map (pV t)++apT (t.length-i) ([]:Nm)).set i (pV t i)=(abM (i+1)).map (pV t)++apT (t.length-(i+1)) []:=by rw [show t.length-i=(t.length-(i+1))+1 by omega,arK,ao2 _ _ (by simp),arv,aqk];simp
  rw [hset] at o10;have DJ:Chg (fun k=>k=gp) W w10:=Chg.trans n89.any c10 fun k _ e=>(by cases e;rfl);refine ak ⟨rfl,DJ,?_⟩;have aeJ:=own.chg (oH _) DJ fun k hk e=>by have:=(own.lt hk).1;omega
  have ajF:New w w10:=(Chg.trans nW.any DJ i3).tN
  have KT:Chg (fun k=>k=gp) w7 w10:=Chg.trans cW DJ i3;have ajG:=baW.chg DJ (by omega);have ajH:=oaW.chg (oh zQ) DJ fun k hk e=>by have:=acR k hk;omega
  refine qq0 ?_;refine au (Fb (i:=i) (ht.keep pM ajF.keep) hok hil) rfl ?_;rintro _ w11 ⟨rfl,n11⟩;have NK:Chg (fun k=>k=gp) w7 w11:=Chg.trans KT n11.any i3;have Qu:=aeJ.new (oH _) n11;have o11:=o10.new (oH _) n11;have ajI:=ajG.chg n11 id;have ajJ:=ajH.new (oh zQ) n11;have hstep:(abM (i+1)).filter (rkF cs t)=(abM i).filter (rkF cs t)++if rkF cs t i=true then [i] else []:=by rw [arv,arC];congr 1;cases hr:rkF cs t i<;>simp [hr]
  have hget:(allM cs t)[i]? =some (yG cs (uh t i)):=by unfold allM;rw [apC,aq0 hil];rfl
  cases hon:onM t i
  ·have hrf:rkF cs t i=false:=by unfold rkF;rw [hon];rfl
   rw [hrf,if_neg (by decide),aqG] at hstep;refine qq0 ?_;exact aA (i+1,_) (sl rfl) ⟨by dsimp only;omega,by rw [hstep];exact Qu,o11,NK⟩ (by dsimp only;omega)
  ·refine qq3 ?_;refine ah (u:=.slice qa (allM cs t).length qc) rfl (ajI.cell (o:=0) rfl) ?_;refine qq2 ?_;refine aJ (ajJ.rd Fj.mo) rfl rfl (by omega) hget fun bb off cs' hcl' hR hat=>?_;obtain rfl:cs'=zQ (yG cs (uh t i)):=hR;cases hf:yG cs (uh t i) with
   |none=>
    rw [hf] at hat;have hrf:rkF cs t i=false:=by unfold rkF sD;rw [hf,Option.map_none,Option.isSome_none,Bool.and_false]
    rw [hrf,if_neg (by decide),aqG] at hstep;refine qq2 ?_;refine ah (u:=vi (-1)) rfl (hat.get 0 rfl) ?_;(repeat' (first|refine qq0 ?_|(refine aT rfl rfl (fun _=>?_) (fun _=>?_)<;>(first|(exfalso;omega)|skip))));exact aA (i+1,_) (sl rfl) ⟨by dsimp only;omega,by rw [hstep];exact Qu,o11,NK⟩ (by dsimp only;omega)
   |some m=>
    rw [hf] at hat;have hrf:rkF cs t i=true:=by unfold rkF sD;rw [hf,hon];rfl
    rw [hrf,if_pos rfl] at hstep;refine qq2 ?_;refine ah (u:=vi m.1) rfl (hat.get 0 rfl) ?_;(repeat' (first|refine qq2 ?_|(refine aT rfl rfl (fun _=>?_) (fun _=>?_)<;>(first|(exfalso;omega)|skip))));refine bY (R:=Wk.one viN) (y:=i) qE Qu rfl rfl rfl rfl rfl (by omega) (by omega) (by simp only [maxLen];omega) (by omega) rfl rfl fun v' w12 p o12 c12 lie=>?_;have Qv:=NK.size;have ajK:Chg (fun k=>k=gp) w7 w12:=by
     refine (Chg.trans (M:=fun k=>k=gp∨w7.heap.size<=k) (NK.mono fun _ _ e=>.inl e) c12 fun k _ e=>.inr (Qu.lt e).1).mono fun k hk e=>?_;rcases e with e|e
     ·exact e
     ·omega
    have ajL:=o11.chg (oH _) c12 fun k hk e=>by
     have h1:w7.heap.size<=k:=(Qu.lt e).1;have h2:gp=k:=by injection hk
     omega
    rw [<-hstep] at o12;refine qq0 ?_;exact aA (i+1,v') (sl rfl) ⟨by dsimp only;omega,o12.mono qE.mo (fun b _ hb=>by rcases hb with hb|hb<;>omega) i3,ajL,ajK⟩ (by dsimp only;omega)
 ·obtain rfl:i=t.length:=by omega
  rw [aq4,arL,aqG] at opW;refine dn (f1:=[]) (c1:=[.pointer (some ⟨w.heap.size,0,none⟩),.pointer (some ⟨w2.heap.size,0,none⟩),.pointer (some ⟨w5.heap.size,0,none⟩)]) rfl rfl ?_;have hmem: ∀x∈(abM t.length).filter (rkF cs t),x<t.length/\ ∃k,sD cs t x=some k:=fun x hx=>by obtain ⟨h1,h2⟩:=List.mem_filter.1 hx;unfold rkF at h2;rw [aoX,Option.isSome_iff_exists] at h2;exact ⟨by simpa using h1,h2.2⟩
  refine au (Eh (g:=144) (cb:= #[.pointer (some ⟨w.heap.size,0,none⟩),.pointer (some ⟨w2.heap.size,0,none⟩),.pointer (some ⟨w5.heap.size,0,none⟩)]) (lv:=Gq cs t) (pt:=pV t) own (fun x hx y hy e=>GN hok (hmem x hx).1 (hmem y hy).1 e) (by omega) fun w' hw x hx y hy=>?_) rfl ?_
  ·obtain ⟨hxl,kx,hkx⟩:=hmem x hx;obtain ⟨hyl,ky,hky⟩:=hmem y hy;have hne: ∀k,k<w7.heap.size-> ¬(Value.slice la ((abM t.length).filter (rkF cs t)).length lc).ownBlock=some k:=fun k hk e=>by have:=(own.lt e).1;omega
   have nWw:Chg (fun k=>w7.heap.size<=k) W w':=hw.mono fun k _ e=>(own.lt e).1;refine (Td (Pc:=fun k=>k<w.heap.size) (Pp:=fun b=>w4.heap.size<=b∨NoB b) (cs:=cs) (t:=t) (ka:=kx) (kb:=ky) (bcW.chg nWw (show ¬w7.heap.size<=w.heap.size by omega)) (baW.chg nWw (show ¬w7.heap.size<=w2.heap.size by omega)) (bpW.chg nWw (show ¬w7.heap.size<=w5.heap.size by have:=b7.lt;omega)) ((h.keep qM nW.keep).keep qM (nWw.keep fun k hk _ e=>by have h1:w7.heap.size<=k:=e;omega)) ((oaW.chg (oh zQ) nWw fun k hk e=>by have:=acR k hk;have h1:w7.heap.size<=k:=e;omega).rd Fj.mo) ?_ hxl hyl hkx hky hcl hlen).mono ?_
   ·have o9:=opW.chg (oH _) nWw fun k hk e=>by
     have h1:w7.heap.size<=k:=e;have h2:gp=k:=by injection hk
     omega
    exact o9.rd qW.mo
   ·rintro _ w'' ⟨_,rfl,rfl,hg⟩;exact ⟨rfl,hg⟩
  rintro _ w11 ⟨o11,c11⟩;have n11:New w w11:=Chg.trans nW c11 fun k hk e=>by have:=(own.lt e).1;omega
  refine qq0 ?_;exact aH rfl rfl rfl ⟨_,rfl,⟨_,rfl,o11.mono qE.mo (fun b _ hb=>by omega) i3⟩,n11⟩
abbrev uZ (x:Eg):List Value:=vi x.1::qC x.2
theorem Ai:rJ (flat uZ) 4:=rF _ (fun _=>rfl) fun x c hc=>by simp [qC] at hc;rcases hc with rfl|rfl|rfl|rfl<;>rfl
abbrev BR (x:Rfs):List Value:=[vi x.node,.int .u8 x.claim.kind,w64 x.claim.from_,w64 x.claim.upto,vi x.by_]
theorem zo:rJ (flat BR) 5:=rF _ (fun _=>rfl) fun x c hc=>by simp at hc;rcases hc with rfl|rfl|rfl|rfl|rfl<;>rfl
theorem NM {w:World} {n y:Int} {k a b:Int}:(Instr.build 205 #[(0,vi n),(1,.agg #[.int .u8 k,.int .u64 a,.int .u64 b]),(2,vi y)]).run prog w=.ok (.agg #[vi n,.int .u8 k,.int .u64 a,.int .u64 b,vi y]) w:=by
 kernel_rfl
theorem KU {w:World} {n:Int}:(Instr.build 205 #[(0,vi n),(2,vi (-1))]).run prog w=.ok (.agg #[vi n,.int .u8 0,.int .u64 0,.int .u64 0,vi (-1)]) w:=by
 kernel_rfl
theorem NP {w:World} {n:Int} {k a b:Int}:(Instr.build 275 #[(0,vi n),(1,.agg #[.int .u8 k,.int .u64 a,.int .u64 b])]).run prog w=.ok (.agg #[vi n,.int .u8 k,.int .u64 a,.int .u64 b]) w:=by
 kernel_rfl
theorem GR {Pb:Nat->Prop} {w:World} {v:Value} {l:List Eg} {p:Eg->Bool} {g:FuncId} {cap:Array Value} [hc:oI prog g] (h:RdS (flat uZ) 4 Pb w v l)
 (hf: ∀y w',y∈l->New w w'->Calls prog g ([Value.agg (uZ y).toArray]++cap.toList).toArray w' (Ret fun r w''=>r=.bool (p y)/\New w' w'')):
 Calls prog 147 #[v,.func (.func g) #[] cap] w (Ret fun r w'=>r=vi (idx p l)/\New w w'):=by
 obtain ⟨a,cp,rfl,hc1,hc2⟩:=h.form;simp only [maxLen] at hc2;refine oG func147 rfl ntmps147 rfl ?_;refine qq0 ?_;refine aC (σ:=Nat) (fun i=>[(0,.slice a l.length cp),(1,.func (.func g) #[] cap),(7,vi l.length),(8,vi i)]) (fun i w'=>i<=l.length/\(∀x∈l.take i,p x=false)/\New w w') (fun i=>l.length-i) 0 (sl rfl) ⟨aoW _,by simp,aB _ _⟩ ?_;rintro i G w1 ⟨hi,hall,n1⟩;simp only [qi];(repeat' (first|refine qq1 ?_|refine aa1 (fun _=>?_) (fun _=>?_)))
 ·obtain ⟨y,hy⟩:=oZ l (k:=i) (by omega);refine dG h n1.keep rfl rfl (by omega) hy fun b o cs hl hR hat=>?_;obtain rfl:cs=uZ y:=hR;refine aQ hat rfl rfl ?_;refine bU (dst:=some 16) rfl (hf y w1 (apA hy) n1) rfl ?_;rintro _ w2 ⟨rfl,n2⟩;simp only [xJ];cases hp:p y with
  |true=>refine qq3 ?_;refine ay rfl rfl ⟨_,rfl,?_,New.trans n1 n2⟩;rw [Fe hy hall hp];rfl
  |false=>refine qq0 ?_;exact aA (i+1) (sl rfl) ⟨by omega,CG hy hall hp,New.trans n1 n2⟩ (by omega)
 ·have e:i=l.length:=by omega
  subst e;rw [apW] at hall;refine ay rfl rfl ⟨_,rfl,?_,n1⟩;rw [Ae hall];rfl
theorem TA {w:World} {b:Nat} {c:Clm} {o:Eg} (h:Bk w b 203 (qC c)):
 Calls prog 148 #[.agg (uZ o).toArray,.pointer (some ⟨b,0,none⟩)] w (Ret fun r w'=>r=.bool (Jr o.2 c)/\New w w'):=by
 refine oG func148 rfl ntmps148 rfl ?_;refine qq0 ?_;refine Wl.box rfl fun w1 b1 n1 s1=>?_;replace b1:Bk w1 w.heap.size 275 (uZ o):=b1;replace h:=h.chg n1 id;refine qq0 ?_;refine aQ (cs:=qC o.2) (o:=0+1) (fun i u hu=>b1.cell (o:=0+1+i) (by rw [show 0+1+i=i+1 by omega];exact hu)) rfl rfl ?_;refine aZ h rfl rfl ?_;refine au (WN (a:=o.2) (b:=c)) rfl ?_;rintro _ w2 ⟨rfl,n2⟩;refine qq3 ?_;exact ay rfl rfl ⟨_,rfl,rfl,New.trans n1 n2⟩
theorem NQ {w:World}:Calls prog 145 #[.slice none 0 0] w (Ret fun r w'=>r=.slice none 0 0/\w=w'):=by
 refine oG func145 rfl ntmps145 rfl ?_;refine qq0 ?_;refine iZ rfl rfl ?_;refine qq0 ?_;exact ay rfl rfl ⟨_,rfl,rfl,rfl⟩
theorem YQ {out:List Eg} {l:List Clm} {k:Nat} {c:Clm} (h:l[k]? =some c):Nj out (l.drop k)=match out.find? fun o=>Jr o.2 c with
 |some o=>some (c,o.1)
 |none=>Nj out (l.drop (k+1)):=by rw [drop_cons h,Nj];rfl
theorem aaS {α:Type} {p:α->Bool} {l:List α} (h:l.find? p=none):idx p l= -1:=by
 refine Ae fun x hx=>?_;have:=List.find?_eq_none.1 h x hx;simpa using this
theorem YR {α:Type} {p:α->Bool} {l:List α} {y:α} (h:l.find? p=some y): ∃i:Nat,idx p l=(i:Int)/\l[i]? =some y:=by
 have hf:=yI (p:=p) l;unfold idx;cases hi:l.findIdx? p with
 |none=>rw [hi] at hf;dsimp only at hf;rw [hf] at h;cases h
 |some i=>rw [hi] at hf;obtain ⟨z,h1,h2⟩:=hf;rw [h] at h2;cases h2;exact ⟨i,rfl,h1⟩
theorem aaT {t:List Nd} {i:Nat} {l:List Clm} (h:ofM t i=some l):l.length<=64:=by
 unfold ofM at h;split at h
 ·cases h
 ·dsimp only at h;split at h
  ·rename_i hc;cases h;exact hc
  ·cases h
def YS (w w':World) (r:Value) (q:List Eg×List Rfs):Prop:= ∃v u,r=.tuple #[v,u]/\oJ (flat uZ) 275 4 (fun b=>w.heap.size<=b) NoB w' v q.1/\oJ (flat BR) 205 5 (fun b=>w.heap.size<=b) NoB w' u q.2
theorem TB {t:List Nd} {out:List Eg} {ns:List Nat} {k n:Nat} (h:ns[k]? =some n):vF t out (ns.drop k)=match ofM t n with
 |none=>let q:=vF t out (ns.drop (k+1));(q.1,⟨n,⟨0,0,0⟩, -1⟩::q.2)
 |some l=>match Nj out l with
  |some (c,b)=>let q:=vF t out (ns.drop (k+1));(q.1,⟨n,c,b⟩::q.2)
  |none=>vF t (out++l.map fun c=>(n,c)) (ns.drop (k+1)):=by rw [drop_cons h,vF];rfl
theorem Xc {Pb Pn:Nat->Prop} {w:World} {v vn:Value} {l:List Nd} {ns:List Nat} (h:RdS rNd 3 Pb w v l) (hok:pJ l=true) (hn:RdS (Wk.one viN) 1 Pn w vn ns) (hns: ∀n∈ns,n<l.length) (hnl:ns.length<=512):
 Calls prog 120 #[v,.slice none 0 0,vn] w (Ret fun r w'=>YS w w' r (vF l [] ns)/\New w w'):=by
 obtain ⟨a,cap,rfl,hc1,hc2⟩:=h.form;obtain ⟨na,nc,rfl,hd1,hd2⟩:=hn.form;have hlen:=qm hok;refine oG func120 rfl ntmps120 rfl ?_;refine qq0 ?_;refine au NQ rfl ?_;rintro _ _ ⟨rfl,rfl⟩;refine qq0 ?_;refine aC (σ:=Nat×(Value×List Eg)×(Value×List Rfs)) (fun q=>[(0,.slice a l.length cap),(8,q.2.1.1),(9,q.2.2.1),(22,.slice na ns.length nc),(23,vi ns.length),(24,vi q.1)]) (fun q W=>q.1<=ns.length/\q.2.1.2.length<=64*q.1/\q.2.2.2.length<=q.1/\vF l [] ns=((vF l q.2.1.2 (ns.drop q.1)).1,q.2.2.2++(vF l q.2.1.2 (ns.drop q.1)).2)/\oJ (flat uZ) 275 4 (fun b=>w.heap.size<=b) NoB W q.2.1.1 q.2.1.2/\oJ (flat BR) 205 5 (fun b=>w.heap.size<=b) NoB W q.2.2.1 q.2.2.2/\Sep q.2.1.1 q.2.2.1/\New w W) (fun q=>ns.length-q.1) (0,(.slice none 0 0,[]),(.slice none 0 0,[])) (sl rfl) ⟨aoW _,by simp,by simp,by simp,aN,aN,(fun k e=>by cases e),aB _ _⟩ ?_;rintro ⟨k,⟨vo,out⟩,⟨vr,rf⟩⟩ G W ⟨hk,hol,hrl,hG,own,En,sep,nW⟩;dsimp only at hk hol hrl hG own En sep nW;simp only [qi];obtain ⟨oa,oc,rfl,_,_⟩:=own.form;obtain ⟨ra,rc,rfl,_,_⟩:=En.form;have hzW:=nW.size;(repeat' (first|refine qq1 ?_|refine aa1 (fun _=>?_) (fun _=>?_)))
 ·obtain ⟨n,hx⟩:=oZ ns (k:=k) (by omega);have ajM:=hns n (apA hx);refine bC (hn.keep (pF _) nW.keep) rfl rfl (by omega) hx fun b o hcell=>?_;refine ah (u:=vi n) rfl hcell ?_;refine qq0 ?_;refine au (aaM (i:=n) (h.keep pM nW.keep) hok ajM) rfl ?_;rintro _ w1 ⟨⟨vl,e,rfl,hof⟩,n1⟩;have n01:=New.trans nW n1;have BQ:=own.new (oh uZ) n1;have abT:=En.new (oh BR) n1;rw [TB hx] at hG;cases hom:ofM l n with
  |none=>rw [hom] at hof hG;dsimp only at hof hG;(repeat' (first|refine qq0 ?_|(refine aa6 (fun _=>?_) (fun _=>?_)<;>(first|(exfalso;omega)|skip))));refine eu (ps:=[(0,.tmp 37),(2,.const (vi (-1)))]) (parts:=[(0,vi n),(2,vi (-1))]) rfl KU ?_;refine bY (R:=flat BR) (y:=⟨n,⟨0,0,0⟩, -1⟩) zo abT rfl rfl rfl rfl rfl (by omega) (by omega) (by simp only [maxLen];omega) (by omega) rfl rfl fun v2 w2 p tH c2 lie=>?_;have hz1:=n1.size;refine qq5 ?_;refine aA (k+1,(.slice oa out.length oc,out),(v2,rf++ [⟨n,⟨0,0,0⟩, -1⟩])) (sl rfl) ⟨by dsimp only;omega,by dsimp only;omega,by simp;omega,?_,BQ.AZ (oh uZ) c2 sep,tH.mono zo.mo (fun b _ e=>by rcases e with e|e;exact e;omega) i3,Cc BQ sep lie,Chg.trans n01 c2 fun b hb e=>by have:=(En.lt e).1;omega⟩ (by dsimp only;omega);dsimp only;rw [hG];simp
  |some cl=>
   rw [hom] at hof hG;obtain ⟨rfl,aaU⟩:=hof;dsimp only at hG;have hcl:=aaT hom;obtain ⟨ca,cc,rfl,_,_⟩:=aaU.form;have hz1:=n1.size;(repeat' (first|refine qq0 ?_|(refine aa6 (fun _=>?_) (fun _=>?_)<;>(first|(exfalso;omega)|skip))));refine aC (σ:=Nat) (fun j=>[(0,.slice a l.length cap),(8,.slice oa out.length oc),(9,.slice ra rf.length rc),(11,vi n),(12,.slice ca cl.length cc),(14,vi (-1)),(22,.slice na ns.length nc),(23,vi ns.length),(24,vi k),(41,.slice ca cl.length cc),(42,vi cl.length),(43,vi j)]) (fun j W'=>j<=cl.length/\Nj out cl=Nj out (cl.drop j)/\New w1 W') (fun j=>cl.length-j) 0 (sl rfl) ⟨aoW _,by simp,aB _ _⟩ ?_;rintro j G2 W2 ⟨hj,hH,n2⟩;simp only [qi];have tH:=BQ.new (oh uZ) n2;have abU:=abT.new (oh BR) n2;have YT:=aaU.new (oh qC) n2;have n02:=New.trans n01 n2;have hz2:=n2.size;(repeat' (first|refine qq1 ?_|refine aa1 (fun _=>?_) (fun _=>?_)|(refine aT rfl rfl (fun _=>?_) (fun _=>?_)<;>(first|(exfalso;omega)|skip))))
   ·obtain ⟨c,hc⟩:=oZ cl (k:=j) (by omega);refine aJ (YT.rd vO.mo) rfl rfl (by omega) hc fun b o cs hl hR hat=>?_;obtain rfl:cs=qC c:=hR;refine aQ hat rfl rfl ?_;clear hat;refine Wl.alloc fun w3 b3 n3 s3=>?_;(repeat' (refine aa7 ?_));refine aK (new:=qC c) b3 rfl rfl rfl rfl zl3 (YF c) fun w4 b4 c4 s4=>?_;replace b4:Bk w4 W2.heap.size 203 (qC c):=b4;have n24:New W2 w4:=(Chg.trans n3.any c4 i3).tN
    refine qq0 ?_;refine dn (f1:=[]) (c1:=[.pointer (some ⟨W2.heap.size,0,none⟩)]) rfl rfl ?_;refine au (GR (p:=fun o=>Jr o.2 c) (g:=148) (cap:= #[.pointer (some ⟨W2.heap.size,0,none⟩)]) ((tH.new (oh uZ) n24).rd Ai.mo) (fun y w' _ hw=>TA (b4.chg hw id))) rfl ?_;rintro _ w5 ⟨rfl,n5⟩;have n25:=New.trans n24 n5;rw [YQ hc] at hH;cases hfd:out.find? fun o=>Jr o.2 c with
    |none=>rw [hfd] at hH;rw [aaS hfd];(repeat' (first|refine qq0 ?_|(refine aT rfl rfl (fun _=>?_) (fun _=>?_)<;>(first|(exfalso;omega)|skip))));exact aA (j+1) (sl rfl) ⟨by omega,hH,New.trans n2 n25⟩ (by omega)
    |some y=>
     rw [hfd] at hH;obtain ⟨m,e1,e2⟩:=YR hfd;rw [e1];dsimp only at hH;rw [hH] at hG;dsimp only at hG;have KQ:=tH.new (oh uZ) n25;have aeK:=abU.new (oh BR) n25;have abV:=YT.new (oh qC) n25;have n05:=New.trans n02 n25;have hml:=(List.getElem?_eq_some_iff.1 e2).1;have hz5:=n25.size;(repeat' (first|refine qq5 ?_|(refine aT rfl rfl (fun _=>?_) (fun _=>?_)<;>(first|(exfalso;omega)|skip))));refine aV rfl (by kernel_rfl) (fun w'=>Chg (fun b=>(Value.slice ra rf.length rc).ownBlock=some b) w5 w') (Chg.drew _ _) ?_;intro w6 n6;have hkc: ∀w',Chg (fun b=>(Value.slice ra rf.length rc).ownBlock=some b) w5 w'->oJ (flat qC) 203 3 (fun b=>W.heap.size<=b) NoB w' (.slice ca cl.length cc) cl:=fun w' hw=>abV.chg (oh qC) hw fun b hb e=>by have h1:=(aaU.lt hb).1;have h2:=(En.lt e).2;omega
     have hko: ∀w',Chg (fun b=>(Value.slice ra rf.length rc).ownBlock=some b) w5 w'->oJ (flat uZ) 275 4 (fun b=>w.heap.size<=b) NoB w' (.slice oa out.length oc) out:=fun w' hw=>KQ.AZ (oh uZ) hw sep;(repeat' (refine aa0 (aa3 (af ?_))));refine aa0 (bD (w:=w5) (abV.rd vO.mo) (fun w' hw=>hw.keep fun b hb h1 e=>?_) rfl rfl (by omega) hc fun b o cs hl hR hat=>af ?_)
     ·rcases h1 with h1|h1
      ·have h2:=(En.lt e).2;omega
      ·exact h1
     obtain rfl:cs=qC c:=hR;refine aa0 (bI hat rfl rfl (af ?_));clear hat;(repeat' (refine aa0 (aa3 (af ?_))));refine aa0 (bD (w:=w5) ((KQ.zV (Pb':=fun b=>(Value.slice oa out.length oc).ownBlock=some b) fun b hb _=>hb).rd Ai.mo) (fun w' hw=>hw.keep fun b hb h1 e=>?_) rfl rfl (by omega) e2 fun b o cs hl hR hat=>af ?_)
     ·rcases h1 with h1|h1
      ·exact sep b h1 e
      ·exact h1
     obtain rfl:cs=uZ y:=hR;(repeat' (refine aa0 (aa4 (af ?_))));refine aa0 (ax (u:=vi y.1) rfl (fun w' hw=>(hat w' hw).get 0 rfl) (af ?_));clear hat;refine aG rfl (eu (ps:=[(0,.tmp 58),(1,.tmp 62),(2,.tmp 67)]) (parts:=[(0,vi n),(1,.agg (qC c).toArray),(2,vi y.1)]) rfl NM (ak ⟨rfl,n6.any,?_⟩));refine aG rfl (bG (R:=flat BR) (y:=⟨n,c,y.1⟩) (Pe:=NoB) zo rfl rfl rfl rfl (by omega) (by omega) fun vt w7 ot n7 s7 P7=>?_);have n67:=New.trans n6 n7;refine ak ⟨rfl,n67.any,?_⟩;refine aG rfl (bH zo (aeK.new (oh BR) n67) (ot.rd zo.mo) (fun y cs hy=>hy) rfl rfl (by omega) (by simp only [maxLen,apj];omega) (by simp only [apj];omega) fun v8 w8 o8 c8 lie _=>?_);have c58:=Chg.trans n67.any c8 i3;refine ak ⟨rfl,c58,?_⟩;(repeat' (first|refine bJ ?_|refine aa0 (dR (by conv=>{lhs;whnf}) (af ?_))));refine qq5 ?_;have hz7:=n67.size;refine aA (k+1,(.slice oa out.length oc,out),(v8,rf++ [⟨n,c,y.1⟩])) (sl rfl) ⟨by dsimp only;omega,by dsimp only;omega,by simp;omega,?_,hko w8 c58,o8.mono zo.mo (fun b _ e=>by rcases e with e|e;exact e;omega) i3,Cc (KQ.new (oh uZ) n67) sep lie,Chg.trans n05 c58 fun b hb e=>by have:=(En.lt e).1;omega⟩ (by dsimp only;omega);dsimp only;rw [hG];simp
   ·obtain rfl:j=cl.length:=by omega
    rw [aqf] at hH;have hH:Nj out cl=none:=hH;rw [hH] at hG;dsimp only at hG;have abW: ∀b,(Value.slice ca cl.length cc).ownBlock=some b->W.heap.size<=b/\b<w1.heap.size:=fun b hb=>aaU.lt hb;have BP:oJ (flat uZ) 275 4 (fun b=>w.heap.size<=b/\(Value.slice ca cl.length cc).ownBlock≠some b/\(Value.slice ra rf.length rc).ownBlock≠some b) NoB W2 (.slice oa out.length oc) out:=tH.zV fun b hb e=>⟨e,fun e2=>by have:=(abW b e2).1;have:=(own.lt hb).2;omega,sep b hb⟩;have aeL:oJ (flat qC) 203 3 (fun b=>(Value.slice ca cl.length cc).ownBlock=some b) NoB W2 (.slice ca cl.length cc) cl:=YT.zV fun b hb _=>hb;refine aC (σ:=Nat×Value×List Eg) (fun q=>[(0,.slice a l.length cap),(8,q.2.1),(9,.slice ra rf.length rc),(11,vi n),(22,.slice na ns.length nc),(23,vi ns.length),(24,vi k),(71,.slice ca cl.length cc),(72,vi cl.length),(73,vi q.1)]) (fun q W'=>q.1<=cl.length/\q.2.2=out++(cl.take q.1).map (fun c=>(n,c))/\oJ (flat uZ) 275 4 (fun b=>w.heap.size<=b/\(Value.slice ca cl.length cc).ownBlock≠some b/\(Value.slice ra rf.length rc).ownBlock≠some b) NoB W' q.2.1 q.2.2/\oJ (flat qC) 203 3 (fun b=>(Value.slice ca cl.length cc).ownBlock=some b) NoB W' (.slice ca cl.length cc) cl/\oJ (flat BR) 205 5 (fun b=>w.heap.size<=b) NoB W' (.slice ra rf.length rc) rf/\New w W'/\w1.heap.size<=W'.heap.size) (fun q=>cl.length-q.1) (0,.slice oa out.length oc,out) (sl rfl) ⟨aoW _,by simp,BP,aeL,abU,n02,hz2⟩ ?_;rintro ⟨j,vo3,YU⟩ G3 W3 ⟨hj,ho3,x9,oc3,or3,n3,hz3⟩;dsimp only at hj ho3 x9 oc3 or3 n3 hz3;simp only [qi];obtain ⟨pa,pc,rfl,_,_⟩:=x9.form;(repeat' (first|refine qq5 ?_|refine aa1 (fun _=>?_) (fun _=>?_)))
    ·obtain ⟨c,hc⟩:=oZ cl (k:=j) (by omega);have ajN:YU.length=out.length+j:=by rw [ho3];simp;omega
     refine aJ (oc3.rd vO.mo) rfl rfl (by omega) hc fun b o cs hl hR hat=>?_;obtain rfl:cs=qC c:=hR;refine aQ hat rfl rfl ?_;clear hat;refine Wl.alloc fun w4 b4 n4 s4=>?_;refine aK (new:=qC c) b4 rfl rfl rfl rfl zl3 (YF c) fun w5 b5 c5 s5=>?_;replace b5:Bk w5 W3.heap.size 203 (qC c):=b5;have n35:New W3 w5:=(Chg.trans n4.any c5 i3).tN
     refine qq0 ?_;refine aZ b5 rfl rfl ?_;refine eu (ps:=[(0,.tmp 78),(1,.tmp 79)]) (parts:=[(0,vi n),(1,.agg (qC c).toArray)]) rfl NP ?_;refine bY (R:=flat uZ) (y:=(n,c)) Ai (x9.new (oh uZ) n35) rfl rfl rfl rfl rfl (by omega) (by omega) (by simp only [maxLen];omega) (by omega) rfl rfl fun v6 w6 p WX c6 lie=>?_;refine qq0 ?_;have aeM:=n35.size;have hz6:=c6.size;refine aA (j+1,v6,YU++ [(n,c)]) (sl rfl) ⟨by dsimp only;omega,?_,WX.mono Ai.mo (fun b _ e=>?_) i3,(oc3.new (oh qC) n35).chg (oh qC) c6 fun b hb e=>(x9.lt e).1.2.1 hb,(or3.new (oh BR) n35).chg (oh BR) c6 fun b hb e=>(x9.lt e).1.2.2 hb,Chg.trans (New.trans n3 n35) c6 fun b hb e=>by have:=(x9.lt e).1.1;omega,by omega⟩ (by dsimp only;omega)
     ·dsimp only;rw [ho3,take_snoc hc];simp
     ·rcases e with e|e
      ·exact e
      ·have:=n3.size;exact ⟨by omega,fun e2=>by have:=(abW b e2).2;omega,fun e2=>by have:=(En.lt e2).2;omega⟩
    ·obtain rfl:j=cl.length:=by omega
     rw [apW] at ho3;have ajN:YU.length=out.length+cl.length:=by rw [ho3];simp
     refine aA (k+1,(.slice pa YU.length pc,YU),(.slice ra rf.length rc,rf)) (sl rfl) ⟨by dsimp only;omega,by dsimp only;omega,by dsimp only;omega,?_,x9.mono Ai.mo (fun b _ e=>e.1) i3,or3,fun b hb=>(x9.lt hb).1.2.2,n3⟩ (by dsimp only;omega);dsimp only;rw [hG,ho3]
 ·obtain rfl:k=ns.length:=by omega
  rw [aqf] at hG;simp only [vF,aqG] at hG;rw [hG];exact aH rfl rfl rfl ⟨_,rfl,⟨_,_,rfl,own,En⟩,nW⟩
def aaV (w w':World) (r:Value) (q:List Eg×List Rfs):Prop:= ∃v u,r=.tuple #[v,u,vi 0]/\oJ (flat uZ) 275 4 (fun b=>w.heap.size<=b) NoB w' v q.1/\oJ (flat BR) 205 5 (fun b=>w.heap.size<=b) NoB w' u q.2
theorem Qw {cs:List Cd} {t:List Nd}: ∀n∈E9 cs t,n<t.length:=by
 intro n hn;unfold E9 at hn;rw [arI,aoT,aoS] at hn;exact hn.1
theorem LZ (cs:List Cd) (t:List Nd):(E9 cs t).length<=t.length:=by
 unfold E9;rw [aq9];have:=arA (fun i=>onM t i&&(sD cs t i).isSome) (abM t.length)
 rwa [arB] at this
theorem Qy {Pb Pt:Nat->Prop} {w:World} {v u:Value} {cs:List Cd} {t:List Nd} (h:RdS rCd 7 Pb w v cs) (ht:RdS rNd 3 Pt w u t) (hc:vM cs=true) (hok:pJ t=true):
 Calls prog 88 #[v,u] w (Ret fun r w'=>aaV w w' r (rV cs t)/\New w w'):=by
 have hlen:=qm hok;refine oG func88 rfl ntmps88 rfl ?_;refine qq0 ?_;refine au (Xb h ht hc hok) rfl ?_;rintro _ w1 ⟨⟨q,rfl,own⟩,n1⟩;(repeat' (first|refine qq0 ?_|(refine aa6 (fun _=>?_) (fun _=>?_)<;>(first|(exfalso;omega)|skip))));refine au (Xc (ht.keep pM n1.keep) hok (own.rd (oU _)) Qw (by have:=LZ cs t;omega)) rfl ?_;rintro _ w2 ⟨⟨va,vb,rfl,o1,o2⟩,n2⟩;refine qq0 ?_;have hz:=n1.size;exact cZ rfl rfl rfl rfl ⟨_,rfl,⟨_,_,rfl,o1.mono Ai.mo (fun b _ e=>by omega) i3,o2.mono zo.mo (fun b _ e=>by omega) i3⟩,New.trans n1 n2⟩
end Go.Proofs.YtfbnfhhmiiahnaaGreatDoor
namespace Go.Proofs.YtfbnfhhmiiahnaaGreatDoor
open Go Wk Sy
open Go.RowKit (Below)
attribute [local irreducible] Go.Calls
theorem Xd {α:Type} (p:α->Bool) (l:List α):(idx p l= -1/\ ∀x∈l,p x=false)∨ ∃i y,idx p l=(i:Nat)/\l[i]? =some y/\p y=true/\ ∀x∈l.take i,p x=false:=by
 unfold idx;cases hx:l.findIdx? p with
 |none=>exact .inl ⟨rfl,List.findIdx?_eq_none_iff.1 hx⟩
 |some i=>
  obtain ⟨hlt,hp,hb⟩:=List.findIdx?_eq_some_iff_getElem.1 hx;refine .inr ⟨i,l[i],rfl,adD hlt,hp,fun x hx=>?_⟩;obtain ⟨j,hj⟩:=List.mem_iff_getElem?.1 hx;rw [aao] at hj;split at hj
  ·rename_i hji
   have h2:=hb j hji;obtain ⟨h3,rfl⟩:=List.getElem?_eq_some_iff.1 hj;simpa using h2
  ·cases hj
theorem aeN {Pb:Nat->Prop} {w:World} {v:Value} {es:List Ed} (h:RdS rEd 6 Pb w v es): ∃D:List SE,D.map (·.1.1)=es/\D.map (·.2)=abM es.length/\RdS (flat seC) 6 Pb w v D/\ ∀x∈D,RdS (Wk.one Bh) 1 Pb w (svV x.1.2) x.1.1.args:=by
 rcases h with ⟨rfl,rfl⟩|⟨a,cap,rfl,rfl,hc⟩|⟨b,off,cap,cur,e,fr,rfl,hb,hh,h1,h2,h3,h4⟩
 ·exact ⟨[],rfl,rfl,.inl ⟨rfl,rfl⟩,by simp⟩
 ·exact ⟨[],rfl,rfl,.inr (.inl ⟨a,cap,rfl,rfl,hc⟩),by simp⟩
 ·have hx: ∀i:Nat, ∃s:SV, ∀x,es[i]? =some x->(cur.toList.drop (off+i*6)).take 6=edC x (svV s)/\RdS (Wk.one Bh) 1 Pb w (svV s) x.args:=fun i=>by
   cases hi:es[i]? with
   |none=>exact ⟨(none,0,0),fun x e=>by cases e⟩
   |some x=>obtain ⟨u,hu,hr⟩:=h4 i x hi;obtain ⟨a,c,rfl,_,_⟩:=hr.form;exact ⟨(a,x.args.length,c),fun y e=>by cases e;exact ⟨hu,hr⟩⟩
  obtain ⟨s,hs⟩:=Classical.axiomOfChoice hx;refine ⟨es.zipIdx.map fun p=>((p.1,s p.2),p.2),?_,?_,.inr (.inr ⟨b,off,cap,cur,e,fr,by simp,hb,hh,by simpa using h1,h2,by simpa using h3,?_⟩),?_⟩
  ·rw [ap7];exact List.zipIdx_map_fst 0 es
  ·rw [ap7];show es.zipIdx.map (fun p=>p.2)=_;rw [List.zipIdx_map_snd,List.range_eq_range']
  ·intro i x hx';rw [apC,List.getElem?_zipIdx] at hx';cases hi:es[i]? with
   |none=>rw [hi] at hx';cases hx'
   |some y=>rw [hi] at hx';simp only [adC,acF] at hx';cases hx';exact (hs i y hi).1
  ·intro x hx';obtain ⟨⟨y,i⟩,hm,rfl⟩:=List.mem_map.1 hx';rw [List.mem_zipIdx_iff_getElem?] at hm;exact (hs i y hm).2
theorem abX {Pb Pe:Nat->Prop} {w:World} {v:Value} {D:List SE} (h:RdS (flat seC) 6 Pb w v D) (hP: ∀b,Pb b->Pe b) (ha: ∀x∈D,RdS (Wk.one Bh) 1 Pe w (svV x.1.2) x.1.1.args):RdS rEd 6 Pe w v (D.map (·.1.1)):=by
 rcases h with ⟨rfl,rfl⟩|⟨a,cap,rfl,rfl,hc⟩|⟨b,off,cap,cur,e,fr,rfl,hb,hh,h1,h2,h3,h4⟩
 ·exact .inl ⟨rfl,rfl⟩
 ·exact .inr (.inl ⟨a,cap,rfl,rfl,hc⟩)
 ·refine .inr (.inr ⟨b,off,cap,cur,e,fr,by simp,hP b hb,hh,by simpa using h1,h2,by simpa using h3,fun i x hx=>?_⟩);rw [apC] at hx;obtain ⟨y,hy,rfl⟩:=Option.map_eq_some_iff.1 hx;exact ⟨_,h4 i y hy,ha y (apA hy)⟩
theorem Qz {Pb:Nat->Prop} {w:World} {v:Value} {l:List SE} (h:RdS (flat seC) 6 Pb w v l) (hl:l.length<=20000000):
 Calls prog 71 #[v] w (Ret fun r w'=>sQ (fun b=>w.heap.size<=b) w' r l/\New w w'):=by
 obtain ⟨a,cap,rfl,hc1,hc2⟩:=h.form;refine oG func71 rfl ntmps71 rfl ?_;refine qq0 ?_;refine iZ rfl rfl ?_;cases a with
 |none=>
  have e:l=[]:=by
   rcases h with ⟨_,rfl⟩|⟨_,_,e,_⟩|⟨_,_,_,_,_,_,e,_⟩
   ·rfl
   ·cases e
   ·cases e
  subst e;refine qq0 ?_;exact ay rfl rfl ⟨_,rfl,aN,aB _ _⟩
 |some a=>refine qq0 ?_;refine iG (R:=flat seC) (Pe:=NoB) fun v1 w1 o1 n1=>?_;(repeat' (refine aa2 ?_));refine bH Tt o1 (h.keep (pG seC) n1.keep) (fun y cs hy=>hy) rfl rfl (by omega) (by simp only [maxLen,apH];omega) (by simp only [apH];omega) fun v2 w2 o2 c2 lie _=>?_;refine qq3 ?_;refine ay rfl rfl ⟨_,rfl,?_,Chg.trans n1 c2 fun k hk e=>by have:=(o1.lt e).1;omega⟩;have hs:=n1.size;exact o2.mono (oN seC) (fun b _ hb=>by rcases hb with hb|hb;exact hb;omega) i3
theorem II {Pb:Nat->Prop} {w:World} {v:Value} {l:List SE} {p:SE->Bool} {g:FuncId} {cap:Array Value} [hc:oI prog g] (h:RdS (flat seC) 6 Pb w v l)
 (hf: ∀y w',y∈l->New w w'->Calls prog g ([Value.agg (seC y).toArray]++cap.toList).toArray w' (Ret fun r w''=>r=.bool (p y)/\New w' w'')):
 Calls prog 97 #[v,.func (.func g) #[] cap] w (Ret fun r w'=>r=vi (idx p l)/\New w w'):=by
 obtain ⟨a,cp,rfl,hc1,hc2⟩:=h.form;simp only [maxLen] at hc2;refine oG func97 rfl ntmps97 rfl ?_;refine qq0 ?_;refine aC (σ:=Nat) (fun i=>[(0,.slice a l.length cp),(1,.func (.func g) #[] cap),(7,vi l.length),(8,vi i)]) (fun i w'=>i<=l.length/\(∀x∈l.take i,p x=false)/\New w w') (fun i=>l.length-i) 0 (sl rfl) ⟨aoW _,by simp,aB _ _⟩ ?_;rintro i G w1 ⟨hi,hall,n1⟩;simp only [qi];(repeat' (first|refine qq1 ?_|refine aa1 (fun _=>?_) (fun _=>?_)))
 ·obtain ⟨y,hy⟩:=oZ l (k:=i) (by omega);refine dG h n1.keep rfl rfl (by omega) hy fun b o cs hl hR hat=>?_;obtain rfl:cs=seC y:=hR;refine aQ hat rfl rfl ?_;refine bU (dst:=some 16) rfl (hf y w1 (apA hy) n1) rfl ?_;rintro _ w2 ⟨rfl,n2⟩;simp only [xJ];cases hp:p y with
  |true=>refine qq3 ?_;refine ay rfl rfl ⟨_,rfl,?_,New.trans n1 n2⟩;rw [Fe hy hall hp];rfl
  |false=>refine qq0 ?_;exact aA (i+1) (sl rfl) ⟨by omega,CG hy hall hp,New.trans n1 n2⟩ (by omega)
 ·have e:i=l.length:=by omega
  subst e;rw [apW] at hall;refine ay rfl rfl ⟨_,rfl,?_,n1⟩;rw [Ae hall];rfl
theorem GU {Pb:Nat->Prop} {w:World} {v:Value} {l:List SE} {p:SE->Bool} {fg:FuncId} {fc:Array Value} [hc:oI prog fg] (h:sQ Pb w v l)
 (hf: ∀y w',y∈l->Chg (fun b=>v.ownBlock=some b) w w'->Calls prog fg ([Value.agg (seC y).toArray]++fc.toList).toArray w' (Ret fun r w''=>r=.bool (p y)/\New w' w'')):
 Calls prog 70 #[v,.func (.func fg) #[] fc] w (Ret fun r w'=>sQ Pb w' r (l.filter fun y=> !p y)/\(∀b,r.ownBlock=some b->v.ownBlock=some b)/\Chg (fun b=>v.ownBlock=some b) w w'):=by
 refine oG func70 rfl ntmps70 rfl ?_;refine qq0 ?_;refine au (II (h.rd (oN seC)) (fun y w' hy hn=>hf y w' hy hn.any)) rfl ?_;rintro _ w1 ⟨rfl,n1⟩;rcases Xd p l with ⟨e,hno⟩|⟨i,y0,e,hi0,hpy,hbef⟩
 ·rw [e];(repeat' (first|refine qq0 ?_|(refine bK rfl rfl (fun _=>?_) (fun _=>?_)<;>(first|(exfalso;omega)|skip))));refine ay rfl rfl ⟨_,rfl,?_,fun b hb=>hb,n1.any⟩;rw [List.filter_eq_self.2 (fun y hy=>by simp [hno y hy])];exact h.new (oh seC) n1
 ·rw [e];have hil:i<l.length:=(List.getElem?_eq_some_iff.1 hi0).1;obtain ⟨g,cap,rfl,hgb,hgl,hob⟩:=h.blk (by intro e;rw [e] at hil;simp at hil);obtain ⟨_,_,hfm,hcap,hmax⟩:=h.form;cases hfm;simp only [maxLen] at hmax;(repeat' (first|refine qq0 ?_|(refine bK rfl rfl (fun _=>?_) (fun _=>?_)<;>(first|(exfalso;omega)|skip))));refine aC (σ:=Nat×Nat×List SE) (fun s=>[(0,.slice (some ⟨g,0,none⟩) l.length cap),(1,.func (.func fg) #[] fc),(5,vi s.1),(6,vi s.2.1)]) (fun s w'=>s.1<s.2.1/\s.2.1<=l.length/\s.2.2.length=l.length/\s.2.2.take s.1=(l.take s.2.1).filter (fun y=> !p y)/\s.2.2.drop s.2.1=l.drop s.2.1/\sQ Pb w' (.slice (some ⟨g,0,none⟩) l.length cap) s.2.2/\Chg (fun b=>(Value.slice (some (⟨g,0,none⟩:Addr)) l.length cap).ownBlock=some b) w w') (fun s=>l.length-s.2.1) (i,i+1,l) (sl rfl) ⟨by simp,by simp only;omega,rfl,?_,rfl,h.new (oh seC) n1,n1.any⟩ ?_
  ·simp only;rw [take_snoc hi0,arC,List.filter_eq_self.2 (fun y hy=>by simp [hbef y hy])];simp [hpy]
  rintro ⟨i,j,xs⟩ G w2 ⟨hij,hj,hxl,htk,hdr,ox,c2⟩;dsimp only at hij hj hxl htk hdr ox c2;simp only [qi];(repeat' (first|refine qq1 ?_|refine aa1 (fun _=>?_) (fun _=>?_)))
  ·obtain ⟨y,hy⟩:=oZ l (k:=j) (by omega);have hxy:xs[j]? =some y:=by have:=congrArg (fun q=>q[0]?) hdr;simpa [hy] using this
   have hox:sQ Pb w2 (.slice (some ⟨g,0,none⟩) l.length cap) xs:=ox;have hrd:=ox.rd (oN seC);refine aJ hrd rfl rfl (by omega) hxy fun b o cs hl hR hat=>?_;obtain rfl:cs=seC y:=hR;refine aQ hat rfl rfl ?_;refine Wl.alloc fun w3 b3 n3 s3=>?_;refine aK (new:=seC y) b3 rfl rfl rfl rfl zl6 (IC y) fun w4 b4 c4 s4=>?_;replace b4:Bk w4 w2.heap.size 100 (seC y):=b4;have hs2:=c2.size;have n24:New w2 w4:=Chg.trans n3 c4 fun k hk e=>by omega
   have ox4:=ox.new (oh seC) n24;have c24:=Chg.trans c2 (n24.any (M:=fun b=>(Value.slice (some (⟨g,0,none⟩:Addr)) l.length cap).ownBlock=some b)) i3;refine qq0 ?_;refine aZ b4 rfl rfl ?_;refine bU (dst:=some 28) rfl (hf y w4 (apA hy) c24) rfl ?_;rintro _ w5 ⟨rfl,n5⟩;simp only [xJ];have b5:=b4.chg n5 id;have ox5:=ox4.new (oh seC) n5;have c5:=Chg.trans c24 (n5.any (M:=fun b=>(Value.slice (some (⟨g,0,none⟩:Addr)) l.length cap).ownBlock=some b)) i3;cases hp:p y with
   |true=>
    refine qq0 ?_;refine aA (i,j+1,xs) (sl rfl) ⟨by dsimp only;omega,by dsimp only;omega,hxl,?_,?_,ox5,c5⟩ (by dsimp only;omega)
    ·dsimp only;rw [htk,take_snoc hy,arC];simp [hp]
    ·dsimp only;have:=congrArg (List.drop 1) hdr;simpa [apJ] using this
   |false=>
    refine qq3 ?_;refine aZ b5 rfl rfl ?_;refine di rfl rfl (by omega) (by omega) ?_;refine fE (f:=seC) (q:=y) (j:=i) (sz:=6) (cap:=cap) (fun _=>rfl) IC ox5 (by rw [hxl]) (by omega) (by show Value.pointer (some ⟨g,0+(i:Int).toNat*6,none⟩)=_;simp) rfl rfl fun w6 o6 c6=>?_;refine qq0 ?_;refine aA (i+1,j+1,xs.set i y) (sl rfl) ⟨by dsimp only;omega,by dsimp only;omega,by simpa using hxl,?_,?_,o6,Chg.trans c5 c6 i3⟩ (by dsimp only;omega)
    ·dsimp only;have hget:(xs.set i y)[i]? =some y:=by rw [apl,if_pos rfl,if_pos (by omega)]
     rw [take_snoc hget,List.take_set_of_le (aam i),htk,take_snoc hy,arC];simp [hp]
    ·dsimp only;rw [List.drop_set_of_lt (by omega)];have:=congrArg (List.drop 1) hdr;simpa [apJ] using this
  ·have e:j=l.length:=by omega
   subst e;rw [apW] at htk;refine jW (f:=seC) (i:=i) (cap:=cap) (by simp [Value.cells];exact ⟨rfl,rfl,rfl,rfl,rfl⟩) ox (by rw [hxl]) rfl rfl (by omega) rfl fun u w3 o3 c3=>?_;refine qq0 ?_;refine jX rfl rfl (by omega) ?_;refine qq3 ?_;refine ay rfl rfl ⟨_,rfl,?_,fun b hb=>hb,Chg.trans c2 c3 i3⟩;rw [<-htk];exact o3
end Go.Proofs.YtfbnfhhmiiahnaaGreatDoor
namespace Go.Proofs.YtfbnfhhmiiahnaaGreatDoor
open Go Wk Sy
section
theorem JW {α:Type} {a b:α}: ∀ {S:List α},S.Nodup->[a,b].Sublist S->[b,a].Sublist S->False
 | [],_,h,_=>by cases h
 |x::r,hn,h1,h2=>by
  have hx:=(List.nodup_cons.1 hn).1;have hr:=(List.nodup_cons.1 hn).2;cases h1 with
  |cons _ h1=>
   cases h2 with
   |cons _ h2=>exact JW hr h1 h2
   |cons_cons _ h2=>exact hx (h1.subset (by simp))
  |cons_cons _ h1=>
   cases h2 with
   |cons _ h2=>exact hx (h2.subset (by simp))
   |cons_cons _ h2=>exact hx (h1.subset (by simp))
theorem Vr: ∀ {D:List SE},(D.Pairwise fun x y=>x.2<y.2)-> ∀ {x y},x∈D->y∈D->x.2<y.2->[x,y].Sublist D
 | [],_,x,y,h,_,_=>by cases h
 |d::r,hp,x,y,hx,hy,hlt=>by
  obtain ⟨h1,h2⟩:=List.pairwise_cons.1 hp;rcases List.mem_cons.1 hx with ex|hx
  ·rcases List.mem_cons.1 hy with ey|hy
   ·rw [ex,ey] at hlt;omega
   ·rw [ex];exact List.Sublist.cons_cons _ (List.singleton_sublist.2 hy)
  ·rcases List.mem_cons.1 hy with ey|hy
   ·have:=h1 x hx;rw [ey] at hlt;omega
   ·exact List.Sublist.cons _ (Vr h2 hx hy hlt)
variable {key:SE->Nm}
abbrev leE (key:SE->Nm) (x y:SE):Bool:= !cpE key y x
theorem YV: ∀x y z:SE,leE key x y=true->leE key y z=true->leE key x z=true:=by
 intro x y z h1 h2;unfold leE cpE at*;simp only [Bool.not_eq_true',decide_eq_false_iff_not] at*;intro h;by_cases e:key z<key y
 ·exact h2 e
 ·by_cases e2:key y=key z
  ·rw [e2] at h1;exact h1 h
  ·exact h1 (aqL (Gu e (fun e3=>e2 e3.symm)) h)
theorem Vs: ∀x y:SE,(leE key x y||leE key y x)=true:=by
 intro x y;unfold leE cpE;by_cases e:key y<key x
 ·have: ¬key x<key y:=fun h=>List.lt_irrefl _ (aqL e h);simp [this]
 ·simp [e]
theorem TD {D0:List SE} (hix:D0.Pairwise fun x y=>x.2<y.2):Srt (ltE key) (D0.mergeSort (leE key)):=by
 have hp:=arM D0 (leE key);have hs:=List.pairwise_mergeSort (le:=leE key) YV Vs D0;have hd:D0.Nodup:=hix.imp fun h e=>by rw [e] at h;omega
 have hn:(D0.mergeSort (leE key)).Nodup:=hp.nodup_iff.2 hd;have hi:((D0.mergeSort (leE key)).map (·.2)).Nodup:=(hp.map _).nodup_iff.2 (List.pairwise_map.2 (hix.imp fun h e=>by omega));refine List.pairwise_iff_forall_sublist.2 fun {a b} hab=>?_;have hle:=List.pairwise_iff_forall_sublist.1 hs hab;have hkn: ¬key b<key a:=by unfold leE cpE at hle;simpa using hle
 have ha:=hp.mem_iff.1 (hab.subset (by simp:a∈ [a,b]));have hb:=hp.mem_iff.1 (hab.subset (by simp:b∈ [a,b]));by_cases hlt:key a<key b
 ·exact .inl hlt
 have hke:key a=key b:=arD fun e=>hlt (Gu hkn fun e2=>e e2.symm);refine .inr ⟨hke,?_⟩;have hne:a.2≠b.2:=by have:=hi.sublist (hab.map (·.2));simp at this;exact this
 by_cases h2:a.2<b.2
 ·exact h2
 ·have hba:=Vr hix hb ha (by omega);have:=List.pair_sublist_mergeSort (le:=leE key) YV Vs (by unfold leE cpE;simp [hlt]) hba;exact (JW hn hab this).elim
theorem TF {D0 E:List SE} (pt:Nat->Nm) (hix:D0.Pairwise fun x y=>x.2<y.2) (hp:E.Perm D0) (hs:Srt (ltE fun x=>pt x.1.1.src) E):E.map (·.1.1)=(D0.map (·.1.1)).mergeSort fun x y=> !decide (pt y.src<pt x.src):=by
 have h:=aan (acP fun x=>pt x.1.1.src) (hp.trans (arM D0 (leE fun x=>pt x.1.1.src)).symm) hs (TD hix);rw [h];exact List.map_mergeSort (fun a _ b _=>rfl)
end
end Go.Proofs.YtfbnfhhmiiahnaaGreatDoor
namespace Go.Proofs.YtfbnfhhmiiahnaaGreatDoor.Wk
open Go Go.RowKit
abbrev FR:Option Nat->Fence
 |none=>Fence.wide
 |some r=>Fence.wide.inRound r
def Et (l:List Oper):Bool:=l.all fun o=>match o.op with| .defer _=>false|_=>true
section
variable {P:Program} {r:Option Nat}
theorem L6 {o:Oper} {a:Act} {next next':Act->World->Prop} {Q:Exit->Act->World->Prop} {res:Result Next} (hn: ∀a w,next a w->next' a w) (h:o.upon P a next Q res):o.uponIn (FR r) 0 P a next' Q res:=by
 cases r<;>cases res with
 |ok v w=>
  cases v with
  |value v=>exact hn _ _ h
  |skip=>exact hn _ _ h
  |defer d=>exact hn _ _ h
  |enter f args=>
   refine ⟨fun _=>by simp [FR,Fence.wide] at*,?_⟩;refine CallsIn.mono (show CallsIn Fence.wide 0 P f args w _ from (callsIn_wide (n:=0)).2 h) ?_;intro e w' he;cases e with
   |returned v=>exact hn _ _ he
   |panicked c=>exact he
   |outgrown=>exact he
  |row row args=>refine ⟨fun _=>by simp [FR,Fence.wide] at*,?_⟩;intro c cs _;obtain ⟨v,w',hr,hs⟩:=h c cs;exact ⟨v,w',hn _ _ hr,stepsIn_wide.2 hs⟩
  |_=>exact h.elim
 |halt e w=>cases e<;>exact h
theorem Dw {ops:Array Oper} {Q:Exit->Act->World->Prop} (hout: ¬LetsOut Q): ∀(l:List Oper),Et l=true-> ∀a w,wpList P ops Q l a w->wpListIn (FR r) 0 P ops Q l a w
 | [],_,_,_,h=>h
 |o::l,hl,a,w,h=>by
  unfold Et at hl;rw [List.all_cons,aoX] at hl;have ih:=Dw (ops:=ops) hout l hl.2;have ho: ∀c,o.op≠ .defer c:=fun c e=>by have:=hl.1;rw [e] at this;cases this
  unfold wpList at h;unfold wpListIn;have YW: ∀f,(FR r).fn f:=by cases r<;>exact fun _=>trivial
  split
  ·rename_i hw
   rw [if_pos hw] at h;rcases h with h|⟨_,h⟩
   ·refine ⟨fun f _=>YW f,?_⟩;rw [Oper.semAt_eq _ _ _ ho];exact L6 ih h
   ·exact absurd h hout
  ·rename_i hw
   rw [if_neg hw] at h;exact ⟨fun f _=>YW f,ih _ _ h⟩
end
def Wr (P:Program) (n:Nat) (r:Option Nat) (Q:Po) (c:Code) (F:Fr) (w:World):Prop:=c.wpIn (FR r) 0 P (QA n [] Q) (act n [] F) w
def Qsr (P:Program) (n:Nat) (r:Option Nat) (b:Code) (Q:Po):Po
 | .normal,F,w=>Wr P n r Q b F w
 |e,F,w=>Q e F w
section
variable {P:Program} {n:Nat} {r:Option Nat} {Q:Po} {F:Fr} {w:World}
theorem dm {a b:Code} (h:Wr P n r (Qsr P n r b Q) a F w):Wr P n r Q (.seq a b) F w:=by
 refine wpIn_seq (wpIn_mono h ?_);rintro e a' w' ⟨F',rfl,hq⟩;cases e<;>first|exact hq|exact ⟨F',rfl,hq⟩
theorem bQ {id:Nat} {l:List Oper} (hl:Et l=true) (hQ: ∀F w, ¬Q .outgrown F w) (h:Wl P n [] Q l l F w):Wr P n r Q (.region id l.toArray false) F w:=by
 unfold Wl at h;exact wpIn_region_lit (Dw (fun hx=>by obtain ⟨a,w,F',_,hq⟩:=hx;exact hQ F' w hq) l hl _ _ h)
theorem Wr.block {id:Nat} {c:Code} (h:Wr P n r (qJ id Q) c F w):Wr P n r Q (.block id c) F w:=by
 refine wpIn_block (wpIn_mono h ?_);rintro e a' w' ⟨F',rfl,hq⟩;unfold qJ at hq;cases e with
 |exit j=>
  simp only at hq;simp only [Exit.inBlock];split<;>rename_i hj
  ·rw [if_pos hj] at hq;exact ⟨F',rfl,hq⟩
  ·rw [if_neg hj] at hq;exact ⟨F',rfl,hq⟩
 |_=>exact ⟨F',rfl,hq⟩
theorem Wr.skip (h:Q .normal F w):Wr P n r Q .skip F w:=wpIn_skip ⟨F,rfl,h⟩
theorem iL {id:Nat} (h:Q (.exit id) F w):Wr P n r Q (.exit id) F w:=wpIn_exit ⟨F,rfl,h⟩
theorem jF (h:Q .ret F w):Wr P n r Q .ret F w:=wpIn_ret ⟨F,rfl,h⟩
theorem eF {c:Operand} {x y:Code} (hc:ev n F c=.bool true) (h:Wr P n r Q x F w):Wr P n r Q (.cond c x y) F w:=wpIn_cond_true (xe.trans hc) h
theorem eG {c:Operand} {x y:Code} (hc:ev n F c=.bool false) (h:Wr P n r Q y F w):Wr P n r Q (.cond c x y) F w:=wpIn_cond_false (xe.trans hc) h
theorem bT {b:Code} (h:Wr P n r Q b F w):Qsr P n r b Q .normal F w:=h
theorem iM {b:Code} {id:Nat} (h:Q (.exit id) F w):Qsr P n r b Q (.exit id) F w:=h
theorem jG {b:Code} (h:Q .ret F w):Qsr P n r b Q .ret F w:=h
theorem Qsr.out {b:Code} (h: ∀F w, ¬Q .outgrown F w): ∀F w, ¬Qsr P n r b Q .outgrown F w:=h
theorem qJ.out {id:Nat} (h: ∀F w, ¬Q .outgrown F w): ∀F w, ¬qJ id Q .outgrown F w:=by unfold qJ;exact h
end
section
variable {P:Program} {n:Nat} {r:Option Nat} {ops:Array Oper} {Q:Exit->Act->World->Prop}
structure Qap (F:Fence) (P:Program) (ops:Array Oper) (Q Q1:Exit->Act->World->Prop) (l2:List Oper):Prop where
 nm: ∀a w,Q1 .normal a w->wpListIn F 0 P ops Q l2 a w
 pn: ∀c a w,Q1 (.panic c) a w->Q (.panic c) a w
 out:LetsOut Q1->LetsOut Q
theorem TI {F:Fence} {o:Oper} {l2:List Oper} {Q1:Exit->Act->World->Prop} (q:Qap F P ops Q Q1 l2) {a:Act} {K K':Act->World->Prop} (hK: ∀a w,K a w->K' a w) {res:Result Next} (h:o.uponIn F 0 P a K Q1 res):o.uponIn F 0 P a K' Q res:=by
 cases res with
 |ok v w=>
  cases v with
  |value v=>exact hK _ _ h
  |skip=>exact hK _ _ h
  |defer d=>exact hK _ _ h
  |enter f args=>
   refine ⟨h.1,h.2.mono fun e w' he=>?_⟩;cases e with
   |returned v=>exact hK _ _ he
   |panicked c=>exact q.pn _ _ _ he
   |outgrown=>exact q.out he
  |row row args=>exact ⟨h.1,h.2.mono fun v w' he=>hK _ _ he⟩
  |round l f tmps asg bd=>
   refine ⟨h.1,h.2.mono fun e w' he=>?_⟩;cases e with
   |returned v=>exact hK _ _ he
   |panicked c=>exact q.pn _ _ _ he
   |outgrown=>exact q.out he
  |_=>exact h.elim
 |halt e w=>
  cases e with
  |panic v=>exact q.pn _ _ _ h
  |_=>exact h
theorem Eu {F:Fence} {l2:List Oper} {Q1:Exit->Act->World->Prop} (q:Qap F P ops Q Q1 l2): ∀(l1:List Oper) (a:Act) (w:World),wpListIn F 0 P ops Q1 l1 a w->wpListIn F 0 P ops Q (l1++l2) a w
 | [],_,_,h=>q.nm _ _ h
 |o::l1,a,w,h=>by
  rw [aeA];unfold wpListIn at h ⊢;split
  ·rename_i hw
   rw [if_pos hw] at h;exact ⟨h.1,TI q (fun a w=>Eu q l1 a w) h.2⟩
  ·rename_i hw
   rw [if_neg hw] at h;exact ⟨h.1,Eu q l1 _ _ h.2⟩
end
theorem Qfn.out {P:Program} {n:Nat} {fn:Func} {R:Ending->World->Prop} (h: ∀w, ¬R .outgrown w): ∀F w, ¬Qfn P n fn R .outgrown F w:=by unfold Qfn;exact fun _ w=>h w
attribute [irreducible] Wr Qsr
abbrev Pd:=Exit->List Deferred->Fr->World->Prop
def QD (n:Nat) (Q:Pd):Exit->Act->World->Prop:=fun e a w=> ∃ds F,a=act n ds F/\Q e ds F w
def Wd (P:Program) (n:Nat) (Q:Pd) (c:Code) (ds:List Deferred) (F:Fr) (w:World):Prop:=c.wp P (QD n Q) (act n ds F) w
def Qds (P:Program) (n:Nat) (b:Code) (Q:Pd):Pd
 | .normal,ds,F,w=>Wd P n Q b ds F w
 |e,ds,F,w=>Q e ds F w
def Qdb (id:Nat) (Q:Pd):Pd
 | .exit j,ds,F,w=>if j=id then Q .normal ds F w else Q (.exit j) ds F w
 |e,ds,F,w=>Q e ds F w
def Qdn (Q:Pd) (ds:List Deferred):Po:=fun e F w=>Q e ds F w
section
variable {P:Program} {n:Nat} {ds:List Deferred} {Q:Pd} {F:Fr} {w:World}
theorem iw {c:Code} (h:Wc P n ds (Qdn Q ds) c F w):Wd P n Q c ds F w:=by
 unfold Wc at h;refine wp_mono h ?_;rintro e a w ⟨F',rfl,hq⟩;exact ⟨ds,F',rfl,hq⟩
theorem dU {a b:Code} (h:Wd P n (Qds P n b Q) a ds F w):Wd P n Q (.seq a b) ds F w:=by
 refine wp_seq (wp_mono h ?_);rintro e a' w' ⟨ds',F',rfl,hq⟩;cases e<;>first|exact hq|exact ⟨ds',F',rfl,hq⟩
theorem Wd.block {id:Nat} {c:Code} (h:Wd P n (Qdb id Q) c ds F w):Wd P n Q (.block id c) ds F w:=by
 refine wp_block (wp_mono h ?_);rintro e a' w' ⟨ds',F',rfl,hq⟩;unfold Qdb at hq;cases e with
 |exit j=>
  simp only at hq;simp only [Exit.inBlock];split<;>rename_i hj
  ·rw [if_pos hj] at hq;exact ⟨ds',F',rfl,hq⟩
  ·rw [if_neg hj] at hq;exact ⟨ds',F',rfl,hq⟩
 |_=>exact ⟨ds',F',rfl,hq⟩
theorem eP {id:Nat} {l:List Oper} (h:Wl P n ds (Qdn Q ds) l l F w):Wd P n Q (.region id l.toArray false) ds F w:=iw (aY h)
theorem Wd.skip (h:Q .normal ds F w):Wd P n Q .skip ds F w:=wp_skip ⟨ds,F,rfl,h⟩
theorem gQ (h:Q .ret ds F w):Wd P n Q .ret ds F w:=wp_ret ⟨ds,F,rfl,h⟩
theorem Qdn.e {e:Exit} (h:Q e ds F w):Qdn Q ds e F w:=h
theorem dK {b:Code} (h:Wd P n Q b ds F w):Qds P n b Q .normal ds F w:=h
theorem gK {b:Code} (h:Q .ret ds F w):Qds P n b Q .ret ds F w:=h
theorem fK {id:Nat} (h:Q .normal ds F w):Qdb id Q .normal ds F w:=h
theorem Qdb.ret {id:Nat} (h:Q .ret ds F w):Qdb id Q .ret ds F w:=h
theorem Qdb.hit {id:Nat} (h:Q .normal ds F w):Qdb id Q (.exit id) ds F w:=by simp only [Qdb,if_pos];exact h
theorem gI {c:Operand} {x y:Code} (hc:ev n F c=.bool true) (h:Wd P n Q x ds F w):Wd P n Q (.cond c x y) ds F w:=wp_cond_true (xe.trans hc) h
theorem iQ {c:Operand} {x y:Code} (hc:ev n F c=.bool false) (h:Wd P n Q y ds F w):Wd P n Q (.cond c x y) ds F w:=wp_cond_false (xe.trans hc) h
def Lv (P:Program) (n:Nat) (fn:Func) (R:Ending->World->Prop) (ds:List Deferred) (F:Fr) (u:FrameMode) (w:World):Prop:=LeavesInM Fence.wide 0 P fn (arr n F) R ds u w
def Qdf (P:Program) (n:Nat) (fn:Func) (R:Ending->World->Prop):Pd
 | .normal,ds,F,w| .ret,ds,F,w=>Lv P n fn R ds F .returning w
 | .panic chain,ds,F,w=>Lv P n fn R ds F (.panicking chain) w
 | .outgrown,_,_,w=>R .outgrown w
 |_,_,_,_=>False
theorem xC {f:FuncId} {fn:Func} {c:Code} {l:List Value} {R:Ending->World->Prop} (hf:P.funcs[f]? =some fn) (hb:fn.body=some c) (hn:fn.ntmps=n)
 (hl:Nat.ble l.length n=true) (h:Wd P n (Qdf P n fn R) c [] (I5 l) w):Calls P f l.toArray w R:=by
 refine (callsIn_wide (n:=0)).1 (callsIn_of_wp_marks (F:=Fence.wide) hf hb trivial (wpIn_wide.2 ?_) rfl);rw [hn,DX l n (arN hl)];refine wp_mono h ?_;rintro e a w ⟨ds,F,rfl,hq⟩;cases e<;>exact hq
theorem gu {fn:Func} {R:Ending->World->Prop} {D:Nat} {u:FrameMode} (hu:u≠ .run) (hD:w.heap[D]? =some (.deferred (some []))) (h:Lv P n fn R ds F u (w.putObj D (.deferred none))):
 Lv P n fn R ({target:=.collected D,args:= #[]}::ds) F u w:=⟨hu,.inl ⟨D,_,rfl,run_takeDeferred hD,h⟩⟩
theorem dN {fn:Func} {R:Ending->World->Prop} {v:Value} (h:(results fn (arr n F)).run P w=.ok v w) (k:R (.returned v) w):Lv P n fn R [] F .returning w:=⟨_,h,k⟩
end
def Qrd (L D:Nat) (W0:World) (I:World->Prop) (Ix:Code->World->Prop):Po
 | .normal,_,W=>W.heap[L]? =W0.heap[L]? /\W.heap[D]? =W0.heap[D]? /\I W
 | .ret,_,W=>W.heap[L]? =W0.heap[L]? /\W.heap[D]? =W0.heap[D]? /\Ix .ret W
 | .exit id,_,W=>W.heap[L]? =W0.heap[L]? /\W.heap[D]? =W0.heap[D]? /\Ix (.exit id) W
 |_,_,_=>False
def Qas (K:Fr->World->Prop):Po
 | .normal,F,W=>K F W
 |_,_,_=>False
theorem Qrd.out {L D:Nat} {W0:World} {I:World->Prop} {Ix:Code->World->Prop}: ∀F w, ¬Qrd L D W0 I Ix .outgrown F w:=fun _ _ h=>h
theorem Qas.out {K:Fr->World->Prop}: ∀F w, ¬Qas K .outgrown F w:=fun _ _ h=>h
section
variable {P:Program} {n:Nat} {r:Option Nat} {Q:Po} {F:Fr} {w:World}
theorem jH {σ:Type} (S:σ->List (Nat×Value)) (I:σ->World->Prop) (μ:σ->Nat) (s0:σ) {c:Code}
 (hF:agrees F (S s0)) (h0:I s0 w) (step: ∀s G w,I s w->Wr P n r (oP S I μ s Q) c (qi G (S s)) w):Wr P n r Q (.loop c) F w:=by
 unfold Wr at*;let J:Act->World->Nat->Prop:=fun a w m=> ∃s F,a=act n [] F/\agrees F (S s)/\I s w/\μ s=m;refine wpIn_loop (fun a w=> ∃m,J a w m) (fun a w=>least (J a w)) ⟨_,s0,F,rfl,hF,h0,rfl⟩ ?_;intro a w hJ;obtain ⟨⟨s,F,ha,h1,h2,h3⟩,_⟩:=AO hJ;subst ha;have:=step s F w h2;rw [qf h1] at this;refine wpIn_mono this ?_;rintro e a' w' ⟨F',rfl,hq⟩;unfold oP at hq;cases e with
 |normal=>obtain ⟨s',h1',h2',h3'⟩:=hq;have hJ':J (act n [] F') w' (μ s'):=⟨s',F',rfl,h1',h2',rfl⟩;refine ⟨⟨_,hJ'⟩,?_⟩;have:=(AO ⟨_,hJ'⟩).2 _ hJ';omega
 |_=>exact ⟨F',rfl,hq⟩
theorem oP.out {σ:Type} {S:σ->List (Nat×Value)} {I:σ->World->Prop} {μ:σ->Nat} {s:σ} (h: ∀F w, ¬Q .outgrown F w): ∀F w, ¬oP S I μ s Q .outgrown F w:=by unfold oP;exact h
end
attribute [irreducible] Wd Qds Qdb Lv
def aaW (F:Fr) (ps:Array Nat) (xs:Array Value):Fr:=(ps.toList.zip xs.toList).foldl (fun F p=>upd F p.1 p.2) F
theorem YX {n:Nat} (ps:Array Nat) (xs:Array Value) (F:Fr):((ps.zip xs).foldl (fun tmps (t,a)=>tmps.setIfInBounds t a) (arr n F))=arr n (aaW F ps xs):=by
 rw [<-Array.foldl_toList,Array.toList_zip];unfold aaW;generalize ps.toList.zip xs.toList=l;induction l generalizing F with
 |nil=>rfl
 |cons p l ih=>rw [aqh,aqh, <-ih];congr 1;simp [UN]
def Vt (P:Program) (gf:FuncId) (lb:Array Value) (N:Nat) (x:Nat->Array Value) (Rd:World->Prop):Prop:=
 ∀(l:Nat) (J:Nat->World->Prop) (Jx:World->Prop) (W:World),(∀k W,J k W->Rd W)->(∀k W W',J k W->New W W'->J k W')->
  (∀k W,k<N->J k W->YieldAt Fence.wide 0 P l (x k) W fun e W'=>(e=.returned (.bool true)/\J (k+1) W')∨(e=.returned (.bool false)/\Jx W'))->
  J 0 W->CallsIn Fence.wide 0 P gf (#[.func (.yield l) #[] #[]]++lb) W fun e W'=>(∃v,e=.returned v)/\(J N W'∨Jx W')
section
variable {P:Program} {n:Nat} {ds:List Deferred} {Q:Pd} {F:Fr} {w:World}
theorem iy {g:Operand} {ps:Array Nat} {assign body:Code} {gf:Nat} {lb:Array Value} {N:Nat} {x:Nat->Array Value} {Rd:World->Prop}
 (hg:ev n F g=.func (.func gf) #[] lb) (eg: ∀args w,(callFunc gf args).run P w=.ok (.enter gf args) w) (it:Vt P gf lb N x Rd) (hsz: ∀k,(x k).size=ps.size)
 (I:Nat->World->Prop) (Ix:Code->World->Prop)
 (hRd: ∀k W,I k W->Rd W)
 (sN: ∀k W W',I k W->New W W'->I k W')
 (sI: ∀k W r r',I k W->W.heap[w.heap.size+1]? =some (.loop r)->I k (W.putObj (w.heap.size+1) (.loop r')))
 (sX: ∀c W r r',Ix c W->W.heap[w.heap.size+1]? =some (.loop r)->Ix c (W.putObj (w.heap.size+1) (.loop r')))
 (h0: ∀r,I 0 ((w.alloc (.deferred (some []))).alloc (.loop r)))
 (acT: ∀k W r,k<N->I k W->W.heap[w.heap.size+1]? =some (.loop r)->W.heap[w.heap.size]? =some (.deferred (some []))->
   Wr P n (some (w.heap.size+1)) (Qas fun F' W'=>New W W'/\ ∀r',Wr P n (some (w.heap.size+1)) (Qrd (w.heap.size+1) w.heap.size (W'.putObj (w.heap.size+1) (.loop r')) (I (k+1)) Ix) body F' (W'.putObj (w.heap.size+1) (.loop r'))) assign (aaW F ps (x k)) W)
 (hdone: ∀W,I N W->W.heap[w.heap.size]? =some (.deferred (some []))->Q .normal ({target:=.collected w.heap.size,args:= #[]}::ds) F W)
 (hret: ∀W,Ix .ret W->W.heap[w.heap.size]? =some (.deferred (some []))->Q .ret ({target:=.collected w.heap.size,args:= #[]}::ds) F W)
 (aeO: ∀id W,Ix (.exit id) W->W.heap[w.heap.size]? =some (.deferred (some []))->Q (.exit id) ({target:=.collected w.heap.size,args:= #[]}::ds) F W):
 Wd P n Q (.rangeFunc g ps assign body) ds F w:=by
 unfold Wd;refine (wpIn_wide (n:=0)).1 (wpIn_rangeFunc ?_);intro fn _;obtain ⟨rec,hrec⟩: ∃rec:LoopState->Option Code->Loop,rec=fun st pe=>{state:=st,pending:=pe,fn,tmps:=arr n F,params:=ps,assign,body,defers:=w.heap.size}:=⟨_,rfl⟩;obtain ⟨W1,hW1⟩: ∃W1,(w.alloc (.deferred (some []))).alloc (.loop (rec .ready none))=W1:=⟨_,rfl⟩;have hL1:W1.heap[w.heap.size+1]? =some (.loop (rec .ready none)):=by rw [<-hW1];have:=World.alloc_heap_new (w.alloc (.deferred (some []))) (.loop (rec .ready none));rwa [World.size_alloc] at this
 have hK1:W1.heap[w.heap.size]? =some (.deferred (some [])):=by rw [<-hW1];exact (Below.heap_alloc _ _ _ (by simp)).trans (World.alloc_heap_new w _)
 have hI1:I 0 W1:=by rw [<-hW1];exact h0 _
 refine ⟨w.heap.size+1,[{target:=.collected w.heap.size,args:= #[]}],W1,{target:=.fn (.func gf) lb,args:= #[.func (.yield (w.heap.size+1)) #[] #[]]},W1,gf, #[.func (.yield (w.heap.size+1)) #[] #[]]++lb,W1,?_,?_,?_,?_,fun h=>by simp [Fence.wide] at h,?_⟩
 ·rw [<-hW1,hrec];exact run_enterLoop_outer _ _ _ _ _
 ·simp only [resolve,xe,hg];simp [go_sem]
 ·exact fun _ _=>trivial
 ·simp [invoke,go_sem,eg]
 ·refine (it (w.heap.size+1) (fun k W=>I k W/\W.heap[w.heap.size+1]? =some (.loop (rec .ready none))/\W.heap[w.heap.size]? =some (.deferred (some []))) (fun W=> ∃c,(c=.ret∨ ∃id,c=.exit id)/\Ix c W/\W.heap[w.heap.size+1]? =some (.loop (rec .done (some c)))/\W.heap[w.heap.size]? =some (.deferred (some []))) W1 (fun k W h=>hRd k W h.1) (fun k W W' h n=>⟨sN k W W' h.1 n,(n.block _ (Array.getElem?_eq_some_iff.1 h.2.1).1 id).trans h.2.1,(n.block _ (Array.getElem?_eq_some_iff.1 h.2.2).1 id).trans h.2.2⟩) ?_ ⟨hI1,hL1,hK1⟩).mono ?_
  ·
   rintro k W hk ⟨hi,hl,hd⟩;have hlt:w.heap.size+1<W.heap.size:=(Array.getElem?_eq_some_iff.1 hl).1;have hy:=run_yield (P:=P) (args:=(x k)) hl (by rw [hrec];exact hsz k);rw [hrec] at hy;have hz:((ps.zip (x k)).foldl (fun tmps (t,a)=>tmps.setIfInBounds t a) (arr n F))=arr n (aaW F ps (x k)):=by exact YX ps (x k) F
   refine ⟨fn,_,assign,body,hy,roundIn_of_wpIn (F:=Fence.wide) (n:=0) trivial ?_⟩;dsimp only;rw [hz];have hA:=acT k W _ hk hi hl hd;unfold Wr at hA;refine wpIn_mono hA ?_;rintro e a w1 ⟨F',rfl,hq⟩;cases e with
   |normal=>
    obtain ⟨hn,hq⟩:=hq;have hl':=(hn.block _ hlt id).trans hl;have hd':=(hn.block _ (Nat.lt_of_succ_lt hlt) id).trans hd;have hlt':w.heap.size+1<w1.heap.size:=(Array.getElem?_eq_some_iff.1 hl').1;refine ⟨_,run_beginRound hl' (by rw [hrec]),?_⟩;have hl2:(w1.putObj (w.heap.size+1) (.loop {rec .ready none with state:=.busy})).heap[w.heap.size+1]? =some (.loop {rec .ready none with state:=.busy}):=World.putObj_heap_same hlt';have hd2:(w1.putObj (w.heap.size+1) (.loop {rec .ready none with state:=.busy})).heap[w.heap.size]? =some (.deferred (some [])):=(World.putObj_heap_other (by omega)).trans hd';have hB:=hq {rec .ready none with state:=.busy};unfold Wr at hB;refine wpIn_mono hB ?_
    have fin: ∀(jump:Option Code) (W3:World),W3.heap[w.heap.size+1]? =some (.loop {rec .ready none with state:=.busy})->W3.heap[w.heap.size]? =some (.deferred (some []))->
     (Instr.endRound (w.heap.size+1) jump).run P W3=.ok (.bool jump.isNone) (W3.putObj (w.heap.size+1) (.loop (rec (if jump.isNone then .ready else .done) jump)))/\
     (W3.putObj (w.heap.size+1) (.loop (rec (if jump.isNone then .ready else .done) jump))).heap[w.heap.size+1]? =some (.loop (rec (if jump.isNone then .ready else .done) jump))/\
     (W3.putObj (w.heap.size+1) (.loop (rec (if jump.isNone then .ready else .done) jump))).heap[w.heap.size]? =some (.deferred (some [])):=fun jump W3 h3 h4=>by
     have:=run_endRound (P:=P) jump h3;rw [hrec] at this ⊢;exact ⟨this,World.putObj_heap_same (Array.getElem?_eq_some_iff.1 h3).1,(World.putObj_heap_other (by omega)).trans h4⟩
    rintro e a3 W3 ⟨F3,rfl,hq3⟩;cases e with
    |normal=>obtain ⟨h3,h4,h5⟩:=hq3;obtain ⟨hr,hl4,hk4⟩:=fin none W3 (h3.trans hl2) (h4.trans hd2);exact ⟨_,_,hr,.inl ⟨rfl,sI _ _ _ _ h5 (h3.trans hl2),hl4,hk4⟩⟩
    |ret=>obtain ⟨h3,h4,h5⟩:=hq3;obtain ⟨hr,hl4,hk4⟩:=fin (some .ret) W3 (h3.trans hl2) (h4.trans hd2);exact ⟨_,_,hr,.inr ⟨rfl,.ret,.inl rfl,sX _ _ _ _ h5 (h3.trans hl2),hl4,hk4⟩⟩
    |exit id=>obtain ⟨h3,h4,h5⟩:=hq3;obtain ⟨hr,hl4,hk4⟩:=fin (some (.exit id)) W3 (h3.trans hl2) (h4.trans hd2);exact ⟨_,_,hr,.inr ⟨rfl,.exit id,.inr ⟨id,rfl⟩,sX _ _ _ _ h5 (h3.trans hl2),hl4,hk4⟩⟩
    |goto t=>exact hq3.elim
    |panic ch=>exact hq3.elim
    |outgrown=>exact hq3.elim
   |exit id=>exact hq.elim
   |goto t=>exact hq.elim
   |ret=>exact hq.elim
   |panic ch=>exact hq.elim
   |outgrown=>exact hq.elim
  ·
   rintro e W2 ⟨⟨v,rfl⟩,(⟨hi,hl,hk⟩|⟨c,hc,hi,hl,hk⟩)⟩
   ·refine ⟨none,_,by have:=run_endLoop (P:=P) hl (by rw [hrec];simp);rw [hrec] at this;exact this,?_⟩;exact ⟨_,_,rfl,hdone _ (sI _ _ _ _ hi hl) ((World.putObj_heap_other (by omega)).trans hk)⟩
   ·refine ⟨some c,_,by have:=run_endLoop (P:=P) hl (by rw [hrec];simp);rw [hrec] at this;exact this,?_⟩;rcases hc with rfl|⟨id,rfl⟩
    ·exact wpIn_ret ⟨_,_,rfl,hret _ (sX _ _ _ _ hi hl) ((World.putObj_heap_other (by omega)).trans hk)⟩
    ·exact wpIn_exit ⟨_,_,rfl,aeO _ _ (sX _ _ _ _ hi hl) ((World.putObj_heap_other (by omega)).trans hk)⟩
end
theorem jI {P:Program} {n:Nat} {r:Option Nat} {Q:Po} {F:Fr} {w:World} {id:Nat} {l1 l2 l:List Oper} {d:Nat} {g x x2:Operand} {ts:Array TypeId} {ty:TypeId} {pos:String} {aft:Array Edge}
 (hl:l=l1++⟨some d,.call {callee:=.value g,args:= #[x,x2],argTypes:=ts},ty,pos,aft,none⟩::l2) (h1:Et l1=true) (h2:Et l2=true) (hQ: ∀F w, ¬Q .outgrown F w)
 (h:Wl P n [] (fun e F' w'=>e=.normal/\ ∃L v v2,ev n F' g=.func (.yield L) #[] #[]/\ev n F' x=v/\ev n F' x2=v2/\YieldAt Fence.wide 0 P L #[v,v2] w' fun e w''=> ∃u,e=.returned u/\Wl P n [] Q l l2 (upd F' d u) w'') l l1 F w):
 Wr P n r Q (.region id l.toArray false) F w:=by
 unfold Wr;unfold Wl at h;refine wpIn_region_lit ?_;have hout: ¬LetsOut (QA n [] Q):=fun hx=>by obtain ⟨a,w,F',_,hq⟩:=hx;exact hQ F' w hq
 have key: ∀a w,wpListIn (FR r) 0 P l.toArray (QA n [] Q) (l1++⟨some d,.call {callee:=.value g,args:= #[x,x2],argTypes:=ts},ty,pos,aft,none⟩::l2) a w->wpListIn (FR r) 0 P l.toArray (QA n [] Q) l a w:=by intro a w h';rw [<-hl] at h';exact h'
 refine key _ _ (Eu ⟨?_,?_,?_⟩ l1 _ _ (Dw (fun hx=>?_) l1 h1 _ _ h))
 rotate_left
 ·rintro c a w ⟨F',_,hq,_⟩;cases hq
 ·rintro ⟨a,w,F',_,hq,_⟩;cases hq
 ·obtain ⟨a,w,F',_,hq,_⟩:=hx;cases hq
 ·rintro a w' ⟨F',rfl,_,L,v,v2,hg,hx,hx2,fn,tmps,asg,bd,hy,hR⟩;show wpListIn (FR r) 0 P l.toArray (QA n [] Q) (_::l2) _ w';unfold wpListIn;split
  rotate_left
  ·rename_i hw;exact absurd rfl hw
  refine ⟨fun f _=>by cases r<;>trivial,?_⟩;have e:(execOp (ev n F') ⟨some d,.call {callee:=.value g,args:= #[x,x2],argTypes:=ts},ty,pos,aft,none⟩).run P w'=.ok (.round L fn tmps asg bd) w':=by simp only [execOp,resolve,hg,Deferred.ofValue,Sem.run_bind,Sem.run_pure,Result.andThen_ok,invoke];simpa [hx,hx2] using hy
  rw [Oper.semAt_eq _ _ _ (fun c h=>by cases h),yu,e,Oper.uponIn_round];refine ⟨fun h=>by cases r<;>simp [FR,Fence.wide] at h,RoundIn.mono (show RoundIn (FR r) (0-1) P L fn tmps asg bd w' _ by cases r<;>exact hR) ?_⟩;rintro _ w'' ⟨u,rfl,hw⟩;show wpListIn (FR r) 0 P l.toArray (QA n [] Q) l2 _ w'';rw [yV];exact Dw hout l2 h2 _ _ hw
def NoC (w:World) (L:Nat):Prop:= ∃o,w.heap[L]? =some o/\o.isCells=false
theorem NoC.loop {w:World} {L:Nat} {r:Loop} (h:w.heap[L]? =some (.loop r)):NoC w L:=⟨_,h,rfl⟩
theorem NoC.mark {w:World} {D:Nat} {l:Option (List Deferred)} (h:w.heap[D]? =some (.deferred l)):NoC w D:=⟨_,h,rfl⟩
theorem NoC.lt {w:World} {L:Nat} (h:NoC w L):L<w.heap.size:=by obtain ⟨o,h,_⟩:=h;exact (Array.getElem?_eq_some_iff.1 h).1
theorem Bk.nl {w:World} {b L:Nat} {T:TypeId} {cs:List Value} (h:Bk w b T cs) (hL:NoC w L):b≠L:=by
 rintro rfl;obtain ⟨o,h1,h2⟩:=hL;have:=h1.symm.trans h;cases this;cases h2
theorem oJ.nl {α:Type} {R:Rel α} {e:TypeId} {sz:Nat} {Pb Pe:Nat->Prop} {w:World} {v:Value} {xs:List α} {L:Nat} (h:oJ R e sz Pb Pe w v xs) (hL:NoC w L) {k:Nat} (hk:v.ownBlock=some k):k≠L:=by
 obtain ⟨cs,⟨_,h⟩,_⟩:=h;rcases h with ⟨rfl,_⟩|⟨g,cap,cur,rfl,_,hg,_⟩
 ·cases hk
 ·rintro rfl;have:g=k:=by simpa [Value.ownBlock] using hk
  subst this;obtain ⟨o,h1,h2⟩:=hL;have:=h1.symm.trans hg;cases this;cases h2
theorem Chg.putObj (w:World) (L:Nat) (o:Obj):Chg (fun k=>k=L) w (w.putObj L o):=
 ⟨rfl,rfl,rfl,by simp,fun k _ hk=>World.putObj_heap_other hk⟩
theorem Bk.put {w:World} {b L:Nat} {T:TypeId} {cs:List Value} (o:Obj) (h:Bk w b T cs) (hL:NoC w L):Bk (w.putObj L o) b T cs:=h.chg (Chg.putObj w L o) (h.nl hL)
theorem oJ.put {α:Type} {R:Rel α} {e:TypeId} {sz:Nat} {Pb Pe:Nat->Prop} {w:World} {v:Value} {xs:List α} {L:Nat} (o:Obj) (hR:Plain R) (h:oJ R e sz Pb Pe w v xs) (hL:NoC w L):oJ R e sz Pb Pe (w.putObj L o) v xs:=
 h.chg hR (Chg.putObj w L o) fun _ hk=>h.nl hL hk
theorem Chg.put {M:Nat->Prop} {w0 w:World} {L:Nat} (o:Obj) (h:Chg M w0 w) (hL:w0.heap.size<=L):Chg M w0 (w.putObj L o):=
 Chg.trans h (Chg.putObj w L o) fun k hk e=>by omega
theorem Keep.put {Pb:Nat->Prop} {w:World} {L:Nat} (o:Obj) (h: ¬Pb L):Keep Pb w (w.putObj L o):=fun b hb _=>World.putObj_heap_other fun e=>h (e▸hb)
theorem sO.put {P:Program} {k:TypeId} {w:World} {b L:Nat} {l:List (Value×Value)} (o:Obj) (h:sO P k w b l) (hL:L≠b):sO P k (w.putObj L o) b l:=h.chg (Chg.putObj w L o) fun e=>hL e.symm
theorem iC {w:World} (r:Obj) (r':Obj):New w ((w.alloc r).alloc r'):=Chg.trans (Chg.alloc _ _ _) (Chg.alloc _ _ _) i3
end Go.Proofs.YtfbnfhhmiiahnaaGreatDoor.Wk
namespace Go.Proofs.YtfbnfhhmiiahnaaGreatDoor
open Go Wk
open Go.RowKit (Below)
attribute [local irreducible] Go.Calls
theorem jJ {P:Program} {n:Nat} {w:World} {f:FuncId} {fn:Func} {c:Code} {l:List Value} {R:Ending->World->Prop} (hf:P.funcs[f]? =some fn) (hb:fn.body=some c) (hn:fn.ntmps=n)
 (hl:Nat.ble l.length n=true) (h:Wr P n none (Qfn P n fn R) c (I5 l) w):CallsIn Fence.wide 0 P f l.toArray w R:=by
 refine callsIn_of_wp hf hb trivial ?_ rfl;rw [hn,DX l n (arN hl)];unfold Wr at h;refine wpIn_mono h ?_;rintro e a w ⟨F,rfl,hq⟩;unfold Qfn at hq;cases e<;>first|exact ⟨rfl,hq⟩|exact hq
theorem Wk.YieldAt.mono {P:Program} {l:Nat} {args:Array Value} {W:World} {R R':Ending->World->Prop} (h:YieldAt Fence.wide 0 P l args W R) (hR: ∀e w,R e w->R' e w):YieldAt Fence.wide 0 P l args W R':=by
 obtain ⟨fn,tmps,asg,bd,h1,h2⟩:=h;exact ⟨fn,tmps,asg,bd,h1,h2.mono hR⟩
abbrev pT (b:Nat):Value:=.pointer (some ⟨b,0,none⟩)
def qw (t:List Nd):List Nm:=(abM t.length).map (pV t)
theorem wV (t:List Nd):(qw t).length=t.length:=by simp [qw]
theorem uo {t:List Nd} {k:Nat} (hk:k<t.length):(qw t)[k]? =some (pV t k):=by
 unfold qw;rw [apC,aq0 hk];rfl
def SqW (Pb:Nat->Prop) (bs:Nat) (v:Value) (l:List Nm) (W:World):Prop:=Bk W bs 24 [v]/\RdS (Wk.one vs) 1 Pb W v l
theorem SqW.new {Pb:Nat->Prop} {bs:Nat} {v:Value} {l:List Nm} {W W':World} (h:SqW Pb bs v l W) (n:New W W'):SqW Pb bs v l W':=⟨h.1.chg n id,h.2.keep (pF _) n.keep⟩
theorem SqW.put {Pb:Nat->Prop} {bs L:Nat} {v:Value} {l:List Nm} {W:World} (o:Obj) (h:SqW Pb bs v l W) (hL:NoC W L) (hP: ¬Pb L):SqW Pb bs v l (W.putObj L o):=⟨h.1.put o hL,h.2.keep (pF _) (Keep.put o hP)⟩
theorem SqW.chg {Pb M:Nat->Prop} {bs:Nat} {v:Value} {l:List Nm} {W W':World} (h:SqW Pb bs v l W) (c:Chg M W W') (hb: ¬M bs) (hP: ∀k,Pb k-> ¬M k):SqW Pb bs v l W':=⟨h.1.chg c hb,h.2.keep (pF _) (c.keep fun k _ hk=>hP k hk)⟩
theorem iter_walk {Pb:Nat->Prop} {bs:Nat} {v:Value} {l:List Nm}:Vt prog 46 #[pT bs] l.length (fun k=> #[vs (l.getD k []),vi k]) (SqW Pb bs v l):=by
 intro L J Jx W hRd hN hY h0;obtain ⟨hb,hr⟩:=hRd _ _ h0;obtain ⟨a,cp,rfl,hc1,hc2⟩:=hr.form;simp only [maxLen] at hc2;show CallsIn Fence.wide 0 prog _ ([.func (.yield L) #[] #[],pT bs]:List Value).toArray W _;refine jJ func46 rfl ntmps46 rfl ?_;(repeat' (first|refine dm ?_|refine bQ rfl (by repeat' (first|exact Qfn.out (by rintro _ ⟨⟨_,e⟩,_⟩;cases e)|exact Qrd.out|exact Qas.out|refine Qsr.out ?_|refine oP.out ?_|refine Qsc.out ?_|refine qJ.out ?_)) ?_));refine ah rfl (hb.cell (o:=0) rfl) ?_;(repeat' (first|refine aa2 ?_|refine ak ?_|refine bZ rfl ?_|refine bT ?_|refine Wr.block ?_));refine jH (σ:=Nat) (fun k=>[(0,.func (.yield L) #[] #[]),(5,.slice a l.length cp),(6,vi l.length),(7,vi k)]) (fun k W'=>k<=l.length/\J k W') (fun k=>l.length-k) 0 (sl rfl) ⟨aoW _,h0⟩ ?_;rintro k G W1 ⟨hk,hJ⟩;obtain ⟨hb1,hr1⟩:=hRd _ _ hJ;simp only [qi];(repeat' (first|refine aa2 ?_|refine ak ?_|refine bT ?_|refine dm ?_|refine bQ rfl (by repeat' (first|exact Qfn.out (by rintro _ ⟨⟨_,e⟩,_⟩;cases e)|exact Qrd.out|exact Qas.out|refine Qsr.out ?_|refine oP.out ?_|refine Qsc.out ?_|refine qJ.out ?_)) ?_|refine Wr.block ?_|refine Wr.skip ?_|refine iL ?_|refine iM ?_|refine dS ?_|refine dW ?_|refine eF rfl ?_|refine eG rfl ?_|refine aa1 (fun _=>?_) (fun _=>?_)))
 ·obtain ⟨y,hy⟩:=oZ l (k:=k) (by omega);refine bC hr1 rfl rfl (by omega) hy fun bb o hcell=>?_;refine ah (u:=vs y) rfl hcell ?_;(repeat' (first|refine aa7 ?_|refine ak ?_|refine bT ?_|refine dm ?_));refine jI (l1:=[_,_,_]) (l2:=[_]) rfl rfl rfl (by repeat' (first|exact Qfn.out (by rintro _ ⟨⟨_,e⟩,_⟩;cases e)|exact Qrd.out|exact Qas.out|refine Qsr.out ?_|refine oP.out ?_|refine Qsc.out ?_|refine qJ.out ?_)) ?_;(repeat' (first|refine aa2 ?_|refine ak ?_));refine ⟨rfl,L,vs y,vi k,rfl,rfl,rfl,?_⟩;have hg:l.getD k []=y:=by rw [apG,hy];rfl
  have hy2:=hY k W1 (by omega) hJ;dsimp only at hy2;rw [hg] at hy2;refine Wk.YieldAt.mono hy2 ?_;rintro e W4 (⟨rfl,hJ4⟩|⟨rfl,hJ4⟩)
  ·refine ⟨_,rfl,?_⟩;(repeat' (first|refine aa2 ?_|refine ak ?_|refine dB rfl ?_|refine bT ?_|refine bQ rfl (by repeat' (first|exact Qfn.out (by rintro _ ⟨⟨_,e⟩,_⟩;cases e)|exact Qrd.out|exact Qas.out|refine Qsr.out ?_|refine oP.out ?_|refine Qsc.out ?_|refine qJ.out ?_)) ?_|refine Wr.skip ?_|refine dO ?_|refine eG rfl ?_|refine Wl.add rfl rfl (by omega) (by omega) ?_));exact aA (k+1) (sl rfl) ⟨by omega,hJ4⟩ (by omega)
  ·refine ⟨_,rfl,?_⟩;(repeat' (first|refine ak ?_|refine dB rfl ?_|refine bT ?_|refine jF ?_|refine jG ?_|refine gB ?_|refine gG ?_|refine eF rfl ?_));exact fC rfl ⟨⟨_,rfl⟩,.inr hJ4⟩
 ·have e:k=l.length:=by omega
  subst e;exact dh rfl ⟨⟨_,rfl⟩,.inl hJ⟩
theorem GX {Pb:Nat->Prop} {w:World} {v:Value} {l:List Nd} (h:RdS rNd 3 Pb w v l) (hok:pJ l=true):
 Calls prog 23 #[v] w (Ret fun r w'=>(∃bs sv,r=.func (.func 46) #[] #[pT bs]/\w.heap.size<=bs/\SqW (fun b=>w.heap.size<=b/\b<w'.heap.size) bs sv (qw l) w')/\New w w'):=by
 obtain ⟨a,cap,rfl,hc1,hc2⟩:=h.form;have hlen:=qm hok;replace h:=h.mono (Pb':=fun k=>k<w.heap.size) A8 fun k hk _=>hk;refine oG func23 rfl ntmps23 rfl ?_;refine qq0 ?_;refine Wl.alloc fun w1 b1 n1 s1=>?_;replace b1:Bk w1 w.heap.size 24 [.slice none 0 0]:=b1;refine qq0 ?_;refine au (wU (h.keep pM n1.keep)) rfl ?_;rintro _ w2 ⟨rfl,n2⟩;unfold HY;rw [if_pos hok];have n02:=New.trans n1 n2;have b2:=b1.chg n2 id;have hz2:=n2.size;have hpl:=wV l;(repeat' (first|refine qq0 ?_|(refine bK rfl rfl (fun _=>?_) (fun _=>?_)<;>(first|(exfalso;omega)|skip))));refine aC (σ:=Nat×Value) (fun q=>[(0,.slice a l.length cap),(3,pT w.heap.size),(14,.slice a l.length cap),(15,vi l.length),(16,vi q.1)]) (fun q W=>q.1<=l.length/\Bk W w.heap.size 24 [q.2]/\oJ (Wk.one vs) 9 1 (fun b=>w.heap.size<b) NoB W q.2 ((qw l).take q.1)/\New w W) (fun q=>l.length-q.1) (0,.slice none 0 0) (sl rfl) ⟨aoW _,b2,aN,n02⟩ ?_;rintro ⟨i,u⟩ G W ⟨hi,bW,own,nW⟩;dsimp only at hi bW own nW;simp only [qi];have hzW:=nW.size;have hbl:=bW.lt;obtain ⟨ua,uc,rfl,_,_⟩:=own.form;(repeat' (first|refine qq1 ?_|refine aa1 (fun _=>?_) (fun _=>?_)))
 ·have hx:=uo (t:=l) (k:=i) (by omega);have hlt:((qw l).take i).length<=512:=by simp only [ao8];omega
  have hne: ∀k,(Value.slice ua ((qw l).take i).length uc).ownBlock=some k->w.heap.size<k:=fun k hk=>(own.lt hk).1;refine aV rfl (by kernel_rfl) (fun w'=>Chg (fun k=>(Value.slice ua ((qw l).take i).length uc).ownBlock=some k) W w') (Chg.drew _ _) ?_;intro w3 n3;refine aa0 (ax (u:=.slice ua ((qw l).take i).length uc) rfl (fun w' hw=>(bW.chg hw fun e=>by have:=hne _ e;omega).cell (o:=0) rfl) (af ?_));(repeat' (refine aa0 (aa3 (af ?_))));refine aG rfl (au (LH (i:=i) ((h.keep pM nW.keep).keep pM n3.keep) hok (by omega)) rfl ?_);rintro _ w4 ⟨rfl,n4⟩;replace n4:=New.trans n3 n4;refine ak ⟨rfl,n4.any,?_⟩;refine aG rfl (bG (R:=Wk.one vs) (y:=pV l i) (Pe:=NoB) qW rfl rfl rfl rfl (by omega) (by omega) fun vt w5 ot n5 s5 P7=>?_);have n45:=New.trans n4 n5;refine ak ⟨rfl,n45.any,?_⟩;refine aG rfl (bH qW (own.new (oH _) n45) (ot.rd qW.mo) (fun y cs hy=>hy) rfl rfl (by omega) (by simp only [maxLen,apj];omega) (by simp only [apj];omega) fun v6 w6 o6 c6 lie _=>?_);have c36:Chg (fun k=>(Value.slice ua ((qw l).take i).length uc).ownBlock=some k) W w6:=Chg.trans n45.any c6 i3;refine ak ⟨rfl,c36,?_⟩;have b6:=bW.chg c36 fun e=>by have:=hne _ e;omega
  refine Wt.last rfl (aO (u:=v6) b6 rfl (show (0:Nat)<1 by omega) rfl (by obtain ⟨_,_,rfl,_⟩:=o6.form;rfl) fun w7 b7 c7=>?_);refine ak ?_;have hz5:=n45.size;have hs6: ∀k,v6.ownBlock=some k->w.heap.size<k:=fun k hk=>by
   rcases (o6.lt hk).1 with e|e
   ·exact e
   ·omega
  refine qq0 ?_;refine aA (i+1,v6) (sl rfl) ⟨by dsimp only;omega,b7,?_,Chg.trans (Chg.trans (M:=fun k=>w.heap.size<=k) nW.any c36 fun k _ e=>by have:=hne k e;omega) c7 (fun k _ e=>by omega) |>.tN⟩ (by dsimp only;omega);rw [take_snoc hx];exact (o6.chg (oH _) c7 fun k hk e=>by have:=hs6 k hk;omega).mono qW.mo (fun b _ e=>by rcases e with e|e;exact e;omega) i3
 ·obtain rfl:i=l.length:=by omega
  have e:(qw l).take l.length=qw l:=List.take_of_length_le (by omega);rw [e] at own bW;refine dn (f1:=[]) (c1:=[pT w.heap.size]) rfl rfl ?_;refine qq3 ?_;exact ay rfl rfl ⟨_,rfl,⟨w.heap.size,.slice ua (qw l).length uc,rfl,aam _,bW,(own.rd qW.mo).mono qW.mo fun b hb e=>by rcases e with e|e;(exact ⟨by omega,hb⟩);exact e.elim⟩,nW⟩
end Go.Proofs.YtfbnfhhmiiahnaaGreatDoor
namespace Go.Proofs.YtfbnfhhmiiahnaaGreatDoor.Wk
open Go Go.RowKit
section
variable {P:Program} {n:Nat} {ds:List Deferred} {Q:Po} {F0:Fr} {w0:World} {ops:List Oper}
structure TJ (ops:List Oper) (N:Nat) (Φ:Nat->Value->World->Prop) (F0:Fr) (wb:World) (listed:Array Bool) (F:Fr) (w:World):Prop where
 size:listed.size=ops.length
 last:listed[N]? =some false
 new:New wb w
 done: ∀i:Nat,listed[i]? =some true->Φ i (F (wJ ops i)) w
 rest: ∀s:Nat,(∀i:Nat,listed[i]? =some true->wJ ops i≠s)->F s=F0 s
 acU: ∀(i:Nat) (o:Oper),listed[i]? =some true->ops[i]? =some o-> ∀e∈o.after,Region.binds .any e=true->listed[e.on]? =some true
def NR (ops:List Oper):Bool:=match ops[ops.length-1]? with
 |some z=>(abM (ops.length-1)).all (fun i=>z.after.any fun e=>e.on == i&&Region.binds .any e)&&z.after.all fun e=>e.on<ops.length-1
 |none=>false
def Vu (ops:List Oper) (i s:Nat):Bool:=(ops.take (ops.length-1)).all fun o:Oper=>o.dst != some s||o.after.any fun e:Edge=>e.on == i&&Region.binds .any e
theorem L8: ∀ {l:List Bool} {i j:Nat},i≠j->l[i]? =some false->l[j]? =some false->2<=l.count false
 | [],i,j,_,h,_=>by simp at h
 |b::r,0,0,h,_,_=>absurd rfl h
 |b::r,0,j+1,_,h1,h2=>by simp at h1 h2;subst h1;have:0<r.count false:=List.count_pos_iff.2 (apA h2);rw [arE];simp only [BEq.rfl,if_true];omega
 |b::r,i+1,0,_,h1,h2=>by simp at h1 h2;subst h2;have:0<r.count false:=List.count_pos_iff.2 (apA h1);rw [arE];simp only [BEq.rfl,if_true];omega
 |b::r,i+1,j+1,h,h1,h2=>by have:=L8 (l:=r) (i:=i) (j:=j) (by omega) (by simpa using h1) (by simpa using h2);rw [arE];omega
theorem nX {id:Nat} (Φ:Nat->Value->World->Prop) (hm:P.follows .mixedOrders=true) (h1:X6 (ops.take (ops.length-1))=true) (h2:abN (ops.take (ops.length-1))=true) (h3:NR ops=true)
 (hst: ∀i v w w',New w w'->Φ i v w->Φ i v w')
 (step: ∀(i:Nat) (o:Oper),i<ops.length-1->ops[i]? =some o-> ∀F w,New w0 w->(∀j,(o.after.any fun e=>e.on == j&&Region.binds .any e)=true->Φ j (F (wJ ops j)) w)->(∀s,Vu ops i s=true->F s=F0 s)->
   Wl P n ds (vZ Φ w (wJ ops i) i F) ops [o] F w)
 (fin: ∀F w z,New w0 w->ops[ops.length-1]? =some z->(∀i,i<ops.length-1->Φ i (F (wJ ops i)) w)->(∀s,(∀i,i<ops.length-1->wJ ops i≠s)->F s=F0 s)->Wl P n ds (fun e F' w'=>e=.normal/\Q .normal F' w') ops [z] F w):
 Wc P n ds Q (.region id ops.toArray true) F0 w0:=by
 obtain ⟨N,hN⟩: ∃N,ops.length-1=N:=⟨_,rfl⟩;obtain ⟨z,hz⟩: ∃z,ops[N]? =some z:=by
  unfold NR at h3;rw [hN] at h3;cases h:ops[N]? with
  |none=>rw [h] at h3;cases h3
  |some z=>exact ⟨z,rfl⟩
 have hNl:N<ops.length:=(List.getElem?_eq_some_iff.1 hz).1;rw [hN] at h1 h2 step fin;have hzB:(∀i,i<N->(z.after.any fun e=>e.on == i&&Region.binds .any e)=true)/\ ∀e∈z.after,e.on<N:=by unfold NR at h3;rw [hN,hz] at h3;simp only [aoX] at h3;refine ⟨fun i hi=>List.all_eq_true.1 h3.1 i (List.mem_range.2 hi),fun e he=>?_⟩;have:=Array.all_eq_true'.1 h3.2 e he;simpa using this
 have htk: ∀i,i<N->(ops.take N)[i]? =ops[i]? :=fun i hi=>by rw [aao,if_pos hi]
 have htl:(ops.take N).length=N:=by rw [ao8];omega
 have hdst: ∀i o,i<N->ops[i]? =some o->o.dst=some (wJ ops i)/\ ∀e∈o.after,e.on<i:=by
  intro i o hi ho;have:=List.all_eq_true.1 h1 i (List.mem_range.2 (by omega));simp only [htk i hi,ho,aoX] at this;refine ⟨?_,fun e he=>?_⟩
  ·simp only [wJ,ho,arO];cases hd:o.dst with
   |none=>rw [hd] at this;simp at this
   |some d=>rfl
  ·have h:=Array.all_eq_true'.1 this.2 e he;simpa using h
 have hne: ∀i j,i<N->j<N->i≠j->wJ ops i≠wJ ops j:=by intro i j hi hj hij he;have:=List.all_eq_true.1 (List.all_eq_true.1 h2 i (List.mem_range.2 (by omega))) j (List.mem_range.2 (by omega));simp only [ap3,beq_iff_eq,hij,false_or,bne_iff_ne,ne_eq,htk i hi,htk j hj] at this;apply this;have ei:=(hdst i _ hi (adD (by omega))).1;have ej:=(hdst j _ hj (adD (by omega))).1;rw [adD (by omega),adD (by omega)];simp only [arO,ei,ej,he]
 unfold Wc;refine wp_region_any hm ?_;have noQ: ∀ {Q':Po},(∀e F w,Q' e F w->e=.normal)-> ∀e a w',e≠ .normal-> ¬QA n ds Q' e a w':=by rintro Q' hQ e a w' he ⟨F',_,h⟩;exact he (hQ _ _ _ h)
 have hmono: ∀ {Q':Po} {i:Nat} {o:Oper} {F:Fr} {w:World} {K K':Act->World->Prop},(∀e F w,Q' e F w->e=.normal)->ops.toArray[i]? =some o->(∀a w,K a w->K' a w)->wpOp P ops.toArray (QA n ds Q') i K (act n ds F) w->wpOp P ops.toArray (QA n ds Q) i K' (act n ds F) w:=by
  intro Q' i o F w K K' hQ ho hK hh;have noQ:=noQ hQ;unfold wpOp at hh ⊢;simp only [ho] at hh ⊢;split
  ·rename_i hw
   rw [if_pos hw] at hh;rcases hh with hh|⟨_,a₀,w₀,hq⟩
   ·refine .inl ?_;unfold Oper.wp at*;generalize (execOp (act n ds F).eval o).run P w=r at*;cases r with
    |ok nx w'=>
     cases nx<;>simp only [Oper.upon] at hh ⊢ <;>
      first
       |exact hK _ _ hh
       |exact Calls.mono hh (fun e w'' he=>by cases e<;>first|exact hK _ _ he|exact absurd he (noQ _ _ _ (by simp))|(obtain ⟨a₀,w₀,hq⟩:=he;exact absurd hq (noQ _ _ _ (by simp))))
       |exact Rows.mono hh (fun _ _ he=>hK _ _ he)
    |halt x w'=>cases x<;>simp only [Oper.upon] at hh ⊢ <;>exact absurd hh (noQ _ _ _ (by simp))
   ·exact absurd hq (noQ _ _ _ (by simp))
  ·rename_i hw
   rw [if_neg hw] at hh;exact hK _ _ hh
 have key: ∀fuel (listed:Array Bool) F w,TJ ops N Φ F0 w0 listed F w->unl listed=fuel+1->wpAny P .any ops.toArray (QA n ds Q) (fuel+1) listed (act n ds F) w:=by
  intro fuel;have Vw: ∀(listed:Array Bool) F w,TJ ops N Φ F0 w0 listed F w->Region.ready .any ops.toArray listed≠ []:=by
   intro listed F w hI hr;have hall: ∀i,i<N->listed[i]? =some true:=by
    intro i;induction i using aqg with
    |ind i ih=>
     intro hi;have his:i<listed.size:=by rw [hI.size];omega
     cases hb:listed[i] with
     |true=>rw [aaQ his,hb]
     |false=>
      exfalso;have:i∈Region.ready .any ops.toArray listed:=by
       refine mem_ready.2 ⟨?_,ops[i]'(by omega),by simp,fun e he _=>?_⟩
       ·simp [ab6,aaQ his,hb]
       ·have:=(hdst i _ hi (adD (by omega))).2 e he;simp [ab6,ih e.on this (by omega)]
      rw [hr] at this;cases this
   have:N∈Region.ready .any ops.toArray listed:=by
    refine mem_ready.2 ⟨?_,z,by simpa using hz,fun e he _=>?_⟩
    ·simp [ab6,hI.last]
    ·simp [ab6,hall e.on (hzB.2 e he)]
   rw [hr] at this;cases this
  induction fuel with
  |zero=>
   intro listed F w hI hu;refine ⟨fun hr=>absurd hr (Vw listed F w hI),fun i hi=>?_⟩;obtain ⟨h0,o,ho,TK⟩:=mem_ready.1 hi;have ho':ops[i]? =some o:=by simpa using ho
   have hil:i<ops.length:=(List.getElem?_eq_some_iff.1 ho').1;have his:i<listed.size:=by rw [hI.size];exact hil
   have hli:listed[i]=false:=by simpa [ab6,aaQ his] using h0
   have hlt: ∀e∈o.after,Region.binds .any e=true->listed[e.on]? =some true:=by
    intro e he hb;have h:=TK e he hb;rcases arq e.on listed.size with h'|h'
    ·simp [ab6,aaQ h'] at h;rw [aaQ h',h]
    ·simp [ab6,arw h'] at h
   have hlN: ∀k,listed[k]? =some true->k<N:=fun k hk=>by
    have hkl:k<ops.length:=by
     rcases arq k ops.length with h|h
     ·exact h
     ·rw [arw (by rw [hI.size];exact h)] at hk;cases hk
    rcases arq k N with h|h
    ·exact h
    ·obtain rfl:k=N:=by omega
     rw [hI.last] at hk;cases hk
   rcases arq i N with hiN|hiN
   ·have hs:=step i o hiN ho' F w hI.new (fun j hj=>by obtain ⟨e,he,hb⟩:=Array.any_eq_true'.1 hj;simp only [aoX,beq_iff_eq] at hb;exact hI.done j (hb.1▸hlt e he hb.2)) (fun s hs=>hI.rest s fun k hk he=>by have hkN:=hlN k hk;have hok:=adD (l:=ops) (i:=k) (by omega);have hmem:ops[k]'(by omega)∈ops.take N:=List.mem_iff_getElem?.2 ⟨k,by rw [htk k hkN];exact hok⟩;unfold Vu at hs;rw [hN] at hs;have h3:=List.all_eq_true.1 hs _ hmem;rw [(hdst k _ hkN hok).1,he] at h3;simp only [bne_self_eq_false,ap4] at h3;obtain ⟨e,hee,hb⟩:=Array.any_eq_true'.1 h3;simp only [aoX,beq_iff_eq] at hb;have:=hI.acU k _ hk hok e hee hb.2;rw [hb.1,aaQ his,hli] at this;cases this);have hwp:wpOp P ops.toArray (QA n ds (vZ Φ w (wJ ops i) i F)) i (fun a w'=>QA n ds (vZ Φ w (wJ ops i) i F) .normal a w') (act n ds F) w:=by have hs2:=hs;unfold Wl wpList at hs2;unfold wpOp;simp only [ho];exact hs2
    refine hmono (fun _ _ _ h=>h.1) ho ?_ hwp;rintro a w' ⟨F',rfl,_,v,rfl,hn,hΦ⟩;exfalso;have h2:2<=listed.toList.count false:=by
     have e1:listed.toList[i]? =some false:=by rw [aqZ,aaQ his,hli]
     have e2:listed.toList[N]? =some false:=by rw [aqZ];exact hI.last
     exact L8 (by omega) e1 e2
    unfold unl at hu;omega
   ·obtain rfl:i=N:=by omega
    rw [hz] at ho';cases ho';have hall: ∀k,k<i->listed[k]? =some true:=fun k hk=>by obtain ⟨e,he,hb⟩:=Array.any_eq_true'.1 (hzB.1 k hk);simp only [aoX,beq_iff_eq] at hb;exact hb.1▸hlt e he hb.2
    have hs:=fin F w z hI.new hz (fun k hk=>hI.done k (hall k hk)) (fun s hs=>hI.rest s fun k hk=>hs k (hlN k hk));have hwp:wpOp P ops.toArray (QA n ds (fun e F' w'=>e=.normal/\Q .normal F' w')) i (fun a w'=>QA n ds (fun e F' w'=>e=.normal/\Q .normal F' w') .normal a w') (act n ds F) w:=by have hs2:=hs;unfold Wl wpList at hs2;unfold wpOp;simp only [ho];exact hs2
    refine hmono (fun _ _ _ h=>h.1) ho ?_ hwp;rintro a w' ⟨F',rfl,_,hQ⟩;have hdone: ∀k,k<(listed.setIfInBounds i true).size->(listed.setIfInBounds i true)[k]? =some true:=fun k hk=>by
     rw [arP,hI.size] at hk;by_cases hki:k=i
     ·subst hki;simp [his]
     ·rw [ars (Ne.symm hki)];exact hall k (by omega)
    have hr:Region.ready .any ops.toArray (listed.setIfInBounds i true)=[]:=by
     rw [ap0];intro k hk;have h0:=(mem_ready.1 hk).1;rcases arq k (listed.setIfInBounds i true).size with h|h
     ·have:=hdone k h;simp [ab6,this] at h0
     ·simp [ab6,arw h] at h0
    exact ⟨hr,F',rfl,hQ⟩
  |succ fuel ih=>
   intro listed F w hI hu;refine ⟨fun hr=>absurd hr (Vw listed F w hI),fun i hi=>?_⟩;obtain ⟨h0,o,ho,TK⟩:=mem_ready.1 hi;have ho':ops[i]? =some o:=by simpa using ho
   have hil:i<ops.length:=(List.getElem?_eq_some_iff.1 ho').1;have his:i<listed.size:=by rw [hI.size];exact hil
   have hli:listed[i]=false:=by simpa [ab6,aaQ his] using h0
   have hlt: ∀e∈o.after,Region.binds .any e=true->listed[e.on]? =some true:=by
    intro e he hb;have h:=TK e he hb;rcases arq e.on listed.size with h'|h'
    ·simp [ab6,aaQ h'] at h;rw [aaQ h',h]
    ·simp [ab6,arw h'] at h
   have hlN: ∀k,listed[k]? =some true->k<N:=fun k hk=>by
    have hkl:k<ops.length:=by
     rcases arq k ops.length with h|h
     ·exact h
     ·rw [arw (by rw [hI.size];exact h)] at hk;cases hk
    rcases arq k N with h|h
    ·exact h
    ·obtain rfl:k=N:=by omega
     rw [hI.last] at hk;cases hk
   rcases arq i N with hiN|hiN
   ·have hs:=step i o hiN ho' F w hI.new (fun j hj=>by obtain ⟨e,he,hb⟩:=Array.any_eq_true'.1 hj;simp only [aoX,beq_iff_eq] at hb;exact hI.done j (hb.1▸hlt e he hb.2)) (fun s hs=>hI.rest s fun k hk he=>by have hkN:=hlN k hk;have hok:=adD (l:=ops) (i:=k) (by omega);have hmem:ops[k]'(by omega)∈ops.take N:=List.mem_iff_getElem?.2 ⟨k,by rw [htk k hkN];exact hok⟩;unfold Vu at hs;rw [hN] at hs;have h3:=List.all_eq_true.1 hs _ hmem;rw [(hdst k _ hkN hok).1,he] at h3;simp only [bne_self_eq_false,ap4] at h3;obtain ⟨e,hee,hb⟩:=Array.any_eq_true'.1 h3;simp only [aoX,beq_iff_eq] at hb;have:=hI.acU k _ hk hok e hee hb.2;rw [hb.1,aaQ his,hli] at this;cases this);have hwp:wpOp P ops.toArray (QA n ds (vZ Φ w (wJ ops i) i F)) i (fun a w'=>QA n ds (vZ Φ w (wJ ops i) i F) .normal a w') (act n ds F) w:=by have hs2:=hs;unfold Wl wpList at hs2;unfold wpOp;simp only [ho];exact hs2
    refine hmono (fun _ _ _ h=>h.1) ho ?_ hwp;rintro a w' ⟨F',rfl,_,v,rfl,hn,hΦ⟩;refine ih _ _ _ ⟨by simpa using hI.size,by rw [ars (by omega)];exact hI.last,New.trans hI.new hn,fun j hj=>?_,fun s hs=>?_,fun j oj hj hoj e he hb=>?_⟩ ?_
    ·by_cases hji:j=i
     ·subst hji;rw [BU,if_pos rfl];exact hΦ
     ·rw [ars (Ne.symm hji)] at hj;rw [BU,if_neg (hne j i (hlN j hj) hiN hji)];exact hst _ _ _ _ hn (hI.done j hj)
    ·have:=hs i (by simp [his]);rw [BU,if_neg (Ne.symm this)];exact hI.rest s fun j hj=>hs j (by
      by_cases hji:j=i
      ·subst hji;simp [his]
      ·rw [ars (Ne.symm hji)];exact hj)
    ·by_cases hei:e.on=i
     ·rw [hei];simp [his]
     ·rw [ars (Ne.symm hei)];by_cases hji:j=i
      ·subst hji;rw [ho'] at hoj;cases hoj;exact hlt e he hb
      ·rw [ars (Ne.symm hji)] at hj;exact hI.acU j oj hj hoj e he hb
    ·unfold unl at hu ⊢;rw [Array.toList_setIfInBounds,arQ (by simpa using his)];simp [hli,hu]
   ·obtain rfl:i=N:=by omega
    rw [hz] at ho';cases ho';have hall: ∀k,k<i->listed[k]? =some true:=fun k hk=>by obtain ⟨e,he,hb⟩:=Array.any_eq_true'.1 (hzB.1 k hk);simp only [aoX,beq_iff_eq] at hb;exact hb.1▸hlt e he hb.2
    have hs:=fin F w z hI.new hz (fun k hk=>hI.done k (hall k hk)) (fun s hs=>hI.rest s fun k hk=>hs k (hlN k hk));have hwp:wpOp P ops.toArray (QA n ds (fun e F' w'=>e=.normal/\Q .normal F' w')) i (fun a w'=>QA n ds (fun e F' w'=>e=.normal/\Q .normal F' w') .normal a w') (act n ds F) w:=by have hs2:=hs;unfold Wl wpList at hs2;unfold wpOp;simp only [ho];exact hs2
    refine hmono (fun _ _ _ h=>h.1) ho ?_ hwp;rintro a w' ⟨F',rfl,_,hQ⟩;have hdone: ∀k,k<(listed.setIfInBounds i true).size->(listed.setIfInBounds i true)[k]? =some true:=fun k hk=>by
     rw [arP,hI.size] at hk;by_cases hki:k=i
     ·subst hki;simp [his]
     ·rw [ars (Ne.symm hki)];exact hall k (by omega)
    have hr:Region.ready .any ops.toArray (listed.setIfInBounds i true)=[]:=by
     rw [ap0];intro k hk;have h0:=(mem_ready.1 hk).1;rcases arq k (listed.setIfInBounds i true).size with h|h
     ·have:=hdone k h;simp [ab6,this] at h0
     ·simp [ab6,arw h] at h0
    exact ⟨fun _=>⟨F',rfl,hQ⟩,fun k hk=>by rw [hr] at hk;cases hk⟩
 have hI0:TJ ops N Φ F0 w0 (aoY ops.length false) F0 w0.drew:= ⟨by simp,by rw [ao7,if_pos hNl],Chg.drew _ _,fun i hi=>(by rw [ao7] at hi;split at hi<;>cases hi),fun s _=>rfl,fun i o hi=>(by rw [ao7] at hi;split at hi<;>cases hi)⟩;have:=key (ops.length-1) _ _ _ hI0 (by simp [unl];omega);have e1:ops.toArray.size=ops.length-1+1:=by simp;omega
 have e2:aoY ops.toArray.size false=aoY ops.length false:=by simp
 rw [e2,e1];exact this
def abY (P:Program) (n:Nat) (ds:List Deferred) (Φ:Nat->Value->World->Prop) (ops:List Oper) (F0:Fr) (w0:World) (i:Nat) (o:Oper):Prop:=
 ∀F w,New w0 w->(∀j,(o.after.any fun e=>e.on == j&&Region.binds .any e)=true->Φ j (F (wJ ops j)) w)->(∀s,Vu ops i s=true->F s=F0 s)->
    Wl P n ds (vZ Φ w (wJ ops i) i F) ops [o] F w
def JY (P:Program) (n:Nat) (ds:List Deferred) (Φ:Nat->Value->World->Prop) (ops:List Oper) (F0:Fr) (w0:World):Nat->List Oper->Prop
 |_,[]=>True
 |_,[_]=>True
 |i,o::o2::r=>abY P n ds Φ ops F0 w0 i o/\JY P n ds Φ ops F0 w0 (i+1) (o2::r)
theorem JY.get {Φ:Nat->Value->World->Prop}: ∀ {l:List Oper} {k:Nat},JY P n ds Φ ops F0 w0 k l-> ∀(i:Nat) (o:Oper),i<l.length-1->l[i]? =some o->abY P n ds Φ ops F0 w0 (k+i) o
 | [],_,_,i,o,_,h=>by simp at h
 | [_],_,_,i,o,hi,_=>by simp at hi
 |o'::o2::r,k,hs,0,o,_,h=>by simp at h;subst h;exact hs.1
 |o'::o2::r,k,hs,i+1,o,hi,h=>by have:=JY.get hs.2 i o (by simp only [ape] at hi ⊢;omega) (by simpa using h);rw [Nat.add_right_comm] at this;exact this
theorem kL {id:Nat} (Φ:Nat->Value->World->Prop) (hm:P.follows .mixedOrders=true) (h1:X6 (ops.take (ops.length-1))=true) (h2:abN (ops.take (ops.length-1))=true) (h3:NR ops=true)
 (hst: ∀i v w w',New w w'->Φ i v w->Φ i v w') (step:JY P n ds Φ ops F0 w0 0 ops)
 (fin: ∀F w z,New w0 w->ops[ops.length-1]? =some z->(∀i,i<ops.length-1->Φ i (F (wJ ops i)) w)->(∀s,(∀i,i<ops.length-1->wJ ops i≠s)->F s=F0 s)->Wl P n ds (fun e F' w'=>e=.normal/\Q .normal F' w') ops [z] F w):
 Wc P n ds Q (.region id ops.toArray true) F0 w0:=
 nX Φ hm h1 h2 h3 hst (fun i o hi ho=>by have:=step.get i o hi ho;rwa [acF] at this) fin
end
section
variable {P:Program} {r:Option Nat} {md:Region.Mode} {ops:Array Oper} {Q:Exit->Act->World->Prop}
theorem aaX (hout: ¬LetsOut Q) (hpl: ∀(i:Nat) (o:Oper),ops[i]? =some o-> ∀c,o.op≠ .defer c) {i:Nat} {K K':Act->World->Prop} (hK: ∀a w,K a w->K' a w) {a:Act} {w:World} (h:wpOp P ops Q i K a w):wpOpIn (FR r) 0 P ops Q i K' a w:=by
 have YW: ∀f,(FR r).fn f:=by cases r<;>exact fun _=>trivial
 unfold wpOp at h;unfold wpOpIn;split
 ·rename_i ho
  rw [ho] at h;exact hK _ _ h
 ·rename_i o ho
  simp only [ho] at h;split
  ·rename_i hw
   rw [if_pos hw] at h;rcases h with h|⟨_,h⟩
   ·refine ⟨fun f _=>YW f,?_⟩;rw [Oper.semAt_eq _ _ _ (hpl i o ho)];exact L6 hK h
   ·exact absurd h hout
  ·rename_i hw
   rw [if_neg hw] at h;exact ⟨fun f _=>YW f,hK _ _ h⟩
theorem QC (hout: ¬LetsOut Q) (hpl: ∀(i:Nat) (o:Oper),ops[i]? =some o-> ∀c,o.op≠ .defer c): ∀(fuel:Nat) (listed:Array Bool) (a:Act) (w:World),wpAny P md ops Q fuel listed a w->wpAnyIn (FR r) 0 P md ops Q fuel listed a w
 |0,_,_,_,h=>h
 |fuel+1,_,_,_,h=>⟨h.1,fun i hi=>aaX hout hpl (fun a w h'=>QC hout hpl fuel _ a w h') (h.2 i hi)⟩
end
section
variable {P:Program} {n:Nat} {r:Option Nat} {ops:List Oper} {Q:Po} {F:Fr} {w:World}
theorem iD {rid:Nat} (hpl:Et ops=true) (hQ: ∀F w, ¬Q .outgrown F w) (hm:P.follows .mixedOrders=true) (hB:okT ops.toArray=true) (C:World->Prop) (hC:C w.drew) (h: ∀w',New w w'->Wt P n [] C Q ops ops F w'):Wr P n r Q (.region rid ops.toArray true) F w:=by
 unfold Wr;refine wpIn_region_any hm (QC (fun hx=>by obtain ⟨a,w,F',_,hq⟩:=hx;exact hQ F' w hq) (fun i o ho c e=>?_) _ _ _ _ ?_)
 ·unfold Et at hpl;have:=List.all_eq_true.1 hpl o (apA (by simpa using ho));rw [e] at this;cases this
 have hleft:left ops.toArray (aoY ops.toArray.size false)=(abM ops.length).map (0+ ·):=by unfold left;rw [show ((fun x=>0+x):Nat->Nat)=id from funext fun x=>acF x,ap9];simp only [ao1];refine List.filter_eq_self.2 fun k hk=>?_;have:=List.mem_range.1 hk;simp [ab6,ao7,this]
 have h0:zU ops.toArray (aoY ops.toArray.size false):=by intro j o hj;exfalso;simp only [ab6,ao7] at hj;split at hj<;>simp at hj
 refine Hy (C:=C) hB _ _ _ _ (by simp) (by rw [hleft];simp) h0 (fun _=>hC) ?_;rw [hleft];exact Cf ops 0 F w.drew (fun j=>by rw [acF]) (h _ (Chg.drew _ _))
end
end Go.Proofs.YtfbnfhhmiiahnaaGreatDoor.Wk
namespace Go.Proofs.YtfbnfhhmiiahnaaGreatDoor
open Go Wk
open Go.RowKit (Below)
attribute [local irreducible] Go.Calls
theorem Wk.RdS.ajO {α:Type} {f:α->Value} {Pb:Nat->Prop} {w:World} {v:Value} {xs:List α} {L:Nat} (o:Obj) (h:RdS (Wk.one f) 1 Pb w v xs) (hL:NoC w L):RdS (Wk.one f) 1 Pb (w.putObj L o) v xs:=by
 rcases h with h|h|⟨b,off,cap,cur,e',fr,hv,hb,hh,r⟩
 ·exact .inl h
 ·exact .inr (.inl h)
 ·refine .inr (.inr ⟨b,off,cap,cur,e',fr,hv,hb,?_,r⟩);rw [World.putObj_heap_other]
  ·exact hh
  ·rintro rfl;obtain ⟨o2,h1,h2⟩:=hL;rw [hh] at h1;cases h1;cases h2
theorem Wk.oJ.aeP {Pb Pe:Nat->Prop} {w:World} {v:Value} {xs:List Ed} {L:Nat} (o:Obj) (h:oJ rEd 100 6 Pb Pe w v xs) (hL:NoC w L):oJ rEd 100 6 Pb Pe (w.putObj L o) v xs:=by
 have hk: ∀k,v.ownBlock=some k->k≠L:=fun k hk=>h.nl hL hk;obtain ⟨cs,hoc,he⟩:=h.zV (Pb':=fun b=>v.ownBlock=some b/\Pb b) fun b hb hP=>⟨hb,hP⟩;refine ⟨cs,(hoc.keep fun b hb _=>World.putObj_heap_other (hk b hb.1)).mono fun b _ hP=>hP.2,fun i x hx=>?_⟩;obtain ⟨av,e,hr⟩:=he i x hx;exact ⟨av,e,Wk.RdS.ajO o hr hL⟩
section
variable {P:Program} {α:Type} {R:Rel α} {e:TypeId} {sz:Nat} {Pb Pe:Nat->Prop} {w:World} {v:Value} {xs:List α}
theorem Wk.oJ.ty (h:oJ R e sz Pb Pe w v xs) {k:Nat} (hk:v.ownBlock=some k): ∃cur,w.heap[k]? =some (.cells cur e (0,0)):=by
 obtain ⟨cs,⟨_,h⟩,_⟩:=h;rcases h with ⟨rfl,_⟩|⟨g,cap,cur,rfl,_,hg,_⟩
 ·cases hk
 ·simp only [Value.ownBlock,Option.some.injEq] at hk;subst hk;exact ⟨cur,hg⟩
theorem Wk.oJ.pK (h:oJ R e sz Pb Pe w v xs) {b:Nat} {T:TypeId} {cs:List Value} (hb:Bk w b T cs) (ne:aoU e T=false) {k:Nat} (hk:v.ownBlock=some k):k≠b:=by
 rintro rfl;obtain ⟨cur,hc⟩:=h.ty hk;have:=hc.symm.trans hb;simp only [Option.some.injEq,Obj.cells.injEq] at this;exact ao6 ne this.2.1
theorem Wk.oJ.rZ (h:oJ R e sz Pb Pe w v xs) {b:Nat} {kt:TypeId} {l:List (Value×Value)} (hm:sO P kt w b l) {k:Nat} (hk:v.ownBlock=some k):k≠b:=by
 rintro rfl;obtain ⟨cur,hc⟩:=h.ty hk;obtain ⟨es,cl,h2,_⟩:=hm;cases hc.symm.trans h2
theorem Wk.oJ.sZ {β:Type} {R':Rel β} {e':TypeId} {sz':Nat} {Qb Qe:Nat->Prop} {u:Value} {ys:List β} (h:oJ R e sz Pb Pe w v xs) (h':oJ R' e' sz' Qb Qe w u ys) (ne:aoU e e'=false):Sep v u:=by
 intro k h1 h2;obtain ⟨c1,e1⟩:=h.ty h1;obtain ⟨c2,e2⟩:=h'.ty h2;have:=e1.symm.trans e2;simp only [Option.some.injEq,Obj.cells.injEq] at this;exact ao6 ne this.2.1
theorem Wk.Bk.pK {w:World} {b b':Nat} {T T':TypeId} {cs cs':List Value} (h:Bk w b T cs) (h':Bk w b' T' cs') (ne:aoU T T'=false):b≠b':=by
 rintro rfl;have:=h.symm.trans h';simp only [Option.some.injEq,Obj.cells.injEq] at this;exact ao6 ne this.2.1
theorem Wk.Bk.rZ {w:World} {b b':Nat} {T kt:TypeId} {cs:List Value} {l:List (Value×Value)} (h:Bk w b T cs) (hm:sO P kt w b' l):b≠b':=by
 rintro rfl;obtain ⟨es,cl,h2,_⟩:=hm;cases h.symm.trans h2
end
abbrev vbo:Bool->Value:=fun b=>.bool b
theorem GY:rJ (Wk.one vbo) 1:=uI _ fun _=>rfl
abbrev uQ:=Value×List Nat
abbrev wrC:uQ->List Value:=fun x=>[x.1]
structure Gr0 (lo bg hm b6 n:Nat) (m:List (Nat×Nat)) (ps:List Nm) (lv wv gv pv:Value) (W:World):Prop where
 b:Bk W bg 145 (grC lv hm (.slice none 0 0) wv gv pv)
 v6:Bk W b6 140 [pT bg]
 mp:sO prog 181 W hm (CU m)
 wa:oJ (flat wrC) 65 1 (fun b=>lo<=b) NoB W wv (apT n (.slice none 0 0,[]))
 ga:oJ (Wk.one vbo) 4 1 (fun b=>lo<=b) NoB W gv (apT n false)
 pa:oJ (Wk.one vs) 9 1 (fun b=>lo<=b) NoB W pv ps
 lo2:lo<=bg/\lo<=b6/\lo<=hm
section
variable {lo bg hm b6 n:Nat} {m:List (Nat×Nat)} {ps:List Nm} {lv wv gv pv:Value} {W W':World}
theorem Gr0.new (g:Gr0 lo bg hm b6 n m ps lv wv gv pv W) (c:New W W'):Gr0 lo bg hm b6 n m ps lv wv gv pv W':=
 ⟨g.b.chg c id,g.v6.chg c id,g.mp.chg c id,g.wa.new (oh _) c,g.ga.new (oH _) c,g.pa.new (oH _) c,g.lo2⟩
theorem Gr0.put (g:Gr0 lo bg hm b6 n m ps lv wv gv pv W) {L:Nat} (o:Obj) (hL:NoC W L) (hm':L≠hm):Gr0 lo bg hm b6 n m ps lv wv gv pv (W.putObj L o):=
 ⟨g.b.put o hL,g.v6.put o hL,g.mp.put o hm',g.wa.put o (oh _) hL,g.ga.put o (oH _) hL,g.pa.put o (oH _) hL,g.lo2⟩
theorem Gr0.map (g:Gr0 lo bg hm b6 n m ps lv wv gv pv W) (c:Chg (fun k=>k=hm) W W') {m':List (Nat×Nat)} (h:sO prog 181 W' hm (CU m')):Gr0 lo bg hm b6 n m' ps lv wv gv pv W':=
 ⟨g.b.chg c fun e=>g.b.rZ g.mp e,g.v6.chg c fun e=>g.v6.rZ g.mp e,h,g.wa.chg (oh _) c fun k hk e=>g.wa.rZ g.mp hk e,g.ga.chg (oH _) c fun k hk e=>g.ga.rZ g.mp hk e,g.pa.chg (oH _) c fun k hk e=>g.pa.rZ g.mp hk e,g.lo2⟩
theorem Gr0.path (g:Gr0 lo bg hm b6 n m ps lv wv gv pv W) {w1:World} {pv':Value} {ps':List Nm} (c:Chg (fun k=>pv.ownBlock=some k) W w1) (own:oJ (Wk.one vs) 9 1 (fun b=>lo<=b) NoB w1 pv' ps') (b:Bk W' bg 145 (grC lv hm (.slice none 0 0) wv gv pv')) (c2:Chg (fun k=>k=bg) w1 W'):Gr0 lo bg hm b6 n m ps' lv wv gv pv' W':=by
 have v1:=g.v6.chg c fun e=>g.pa.pK g.v6 rfl e rfl;have m1:=g.mp.chg c fun e=>g.pa.rZ g.mp e rfl;have b1:=g.b.chg c fun e=>g.pa.pK g.b rfl e rfl;have wa1:=g.wa.chg (oh _) c fun k hk e=>g.wa.sZ g.pa rfl k hk e;have ga1:=g.ga.chg (oH _) c fun k hk e=>g.ga.sZ g.pa rfl k hk e;exact ⟨b,v1.chg c2 fun e=>v1.pK b1 rfl e,m1.chg c2 fun e=>b1.rZ m1 e.symm,wa1.chg (oh _) c2 fun k hk e=>wa1.pK b1 rfl hk e,ga1.chg (oH _) c2 fun k hk e=>ga1.pK b1 rfl hk e,own.chg (oH _) c2 fun k hk e=>own.pK b1 rfl hk e,g.lo2⟩
end
def Zn (lo bg hm b6:Nat) (bs:List uQ) (wv gv pv:Value) (b:Nat):Prop:=lo<=b/\b≠bg/\b≠b6/\b≠hm/\wv.ownBlock≠some b/\(∀x∈bs,x.1.ownBlock≠some b)/\gv.ownBlock≠some b/\pv.ownBlock≠some b
structure GrA (lo bg hm b6:Nat) (t:List Nd) (m:List (Nat×Nat)) (es:List Ed) (bs:List uQ) (gs:List Bool) (ps:List Nm) (lv ev wv gv pv:Value) (W:World):Prop where
 b:Bk W bg 145 (grC lv hm ev wv gv pv)
 tr:RdS rNd 3 (fun k=>k<lo) W lv t
 mp:sO prog 181 W hm (CU m)
 ed:oJ rEd 100 6 (Zn lo bg hm b6 bs wv gv pv) (Zn lo bg hm b6 bs wv gv pv) W ev es
 wa:LLs wrC (·.1) (·.2) viN 65 3 1 (fun b=>lo<=b) W wv bs
 ga:oJ (Wk.one vbo) 4 1 (fun b=>lo<=b) NoB W gv gs
 pa:oJ (Wk.one vs) 9 1 (fun b=>lo<=b) NoB W pv ps
 lo2:lo<=bg/\lo<=hm
section
variable {lo bg hm b6:Nat} {t:List Nd} {m:List (Nat×Nat)} {es:List Ed} {bs:List uQ} {gs:List Bool} {ps:List Nm} {lv ev wv gv pv:Value} {W W':World}
theorem GrA.new (g:GrA lo bg hm b6 t m es bs gs ps lv ev wv gv pv W) (c:New W W'):GrA lo bg hm b6 t m es bs gs ps lv ev wv gv pv W':=
 ⟨g.b.chg c id,g.tr.keep pM c.keep,g.mp.chg c id,g.ed.xB qH c i3 (fun _ _ _ e=>e),g.wa.new c,g.ga.new (oH _) c,g.pa.new (oH _) c,g.lo2⟩
theorem GrA.of0 {n:Nat} (g:Gr0 lo bg hm b6 n m ps lv wv gv pv W) (tr:RdS rNd 3 (fun k=>k<lo) W lv t):GrA lo bg hm b6 t m [] (apT n (.slice none 0 0,[])) (apT n false) ps lv (.slice none 0 0) wv gv pv W:=
 ⟨g.b,tr,g.mp,aN,⟨g.wa,fun b hb=>(by rw [(List.mem_replicate.1 hb).2];exact aN),fun b hb=>(by rw [(List.mem_replicate.1 hb).2];intro k e;cases e),fun i j b c _ hb _=>(by rw [(List.mem_replicate.1 (apA hb)).2];intro k e;cases e)⟩,g.ga,g.pa,⟨g.lo2.1,g.lo2.2.2⟩⟩
theorem GrA.put (g:GrA lo bg hm b6 t m es bs gs ps lv ev wv gv pv W) {L:Nat} (o:Obj) (hL:NoC W L) (h1:L≠hm) (h2:lo<=L):GrA lo bg hm b6 t m es bs gs ps lv ev wv gv pv (W.putObj L o):=
 ⟨g.b.put o hL,g.tr.keep pM (Keep.put o (by omega)),g.mp.put o h1,g.ed.aeP o hL,⟨g.wa.row.put o (oh _) hL,fun b hb=>(g.wa.el b hb).put o (oH _) hL,g.wa.vG,g.wa.sep⟩,g.ga.put o (oH _) hL,g.pa.put o (oH _) hL,g.lo2⟩
theorem GrA.aeQ (g:GrA lo bg hm b6 t m es bs gs ps lv ev wv gv pv W):GrA lo bg hm bg t m es bs gs ps lv ev wv gv pv W:=
 ⟨g.b,g.tr,g.mp,g.ed.mono rC (fun b _ e=>⟨e.1,e.2.1,e.2.1,e.2.2.2⟩) (fun b _ e=>⟨e.1,e.2.1,e.2.1,e.2.2.2⟩),g.wa,g.ga,g.pa,g.lo2⟩
theorem GrA.read (g:GrA lo bg hm b6 t m es bs gs ps lv ev wv gv pv W) {ev':Value} {es':List Ed} (b:Bk W' bg 145 (grC lv hm ev' wv gv pv)) (own:oJ rEd 100 6 (Zn lo bg hm b6 bs wv gv pv) (Zn lo bg hm b6 bs wv gv pv) W' ev' es') (c:Chg (fun k=>k=bg∨ev.ownBlock=some k) W W'):GrA lo bg hm b6 t m es' bs gs ps lv ev' wv gv pv W':=by
 have hz: ∀k,ev.ownBlock=some k->Zn lo bg hm b6 bs wv gv pv k:=fun k hk=>(g.ed.lt hk).1;refine ⟨b,g.tr.keep pM (c.keep fun k _ h1 e=>?_),g.mp.chg c (fun e=>?_),own,⟨g.wa.row.chg (oh _) c fun k hk e=>?_,fun x hx=>(g.wa.el x hx).chg (oH _) c fun k hk e=>?_,g.wa.vG,g.wa.sep⟩,g.ga.chg (oH _) c (fun k hk e=>?_),g.pa.chg (oH _) c (fun k hk e=>?_),g.lo2⟩
 ·rcases e with e|e
  ·have:=g.lo2.1;omega
  ·have:=(hz k e).1;omega
 ·rcases e with e|e
  ·exact g.b.rZ g.mp e.symm
  ·exact g.ed.rZ g.mp e rfl
 ·rcases e with e|e
  ·exact g.wa.row.pK g.b rfl hk e
  ·exact (hz k e).2.2.2.2.1 hk
 ·rcases e with e|e
  ·exact (g.wa.el x hx).pK g.b rfl hk e
  ·exact (hz k e).2.2.2.2.2.1 x hx hk
 ·rcases e with e|e
  ·exact g.ga.pK g.b rfl hk e
  ·exact (hz k e).2.2.2.2.2.2.1 hk
 ·rcases e with e|e
  ·exact g.pa.pK g.b rfl hk e
  ·exact (hz k e).2.2.2.2.2.2.2 hk
theorem GrA.gap (g:GrA lo bg hm b6 t m es bs gs ps lv ev wv gv pv W) {gs':List Bool} (own:oJ (Wk.one vbo) 4 1 (fun b=>lo<=b) NoB W' gv gs') (c:Chg (fun k=>gv.ownBlock=some k) W W'):GrA lo bg hm b6 t m es bs gs' ps lv ev wv gv pv W':=by
 refine ⟨g.b.chg c fun e=>g.ga.pK g.b rfl e rfl,g.tr.keep pM (c.keep fun k _ h1 e=>?_),g.mp.chg c (fun e=>g.ga.rZ g.mp e rfl),g.ed.xB qH c (fun k hk e=>g.ed.sZ g.ga rfl k hk e) (fun k hk _ e=>hk.2.2.2.2.2.2.1 e),⟨g.wa.row.chg (oh _) c fun k hk e=>g.wa.row.sZ g.ga rfl k hk e,fun x hx=>(g.wa.el x hx).chg (oH _) c fun k hk e=>(g.wa.el x hx).sZ g.ga rfl k hk e,g.wa.vG,g.wa.sep⟩,own,g.pa.chg (oH _) c (fun k hk e=>g.pa.sZ g.ga rfl k hk e),g.lo2⟩;have h2:lo<=k:=(g.ga.lt e).1;omega
theorem GrA.want (g:GrA lo bg hm b6 t m es bs gs ps lv ev wv gv pv W) {i:Nat} {x x':uQ} {w1:World} (hi:bs[i]? =some x) (ho:oJ (Wk.one viN) 3 1 (fun b=>lo<=b) NoB w1 x'.1 x'.2) (c1:Chg (fun k=>x.1.ownBlock=some k) W w1)
 (lie:x'.1.ownBlock=x.1.ownBlock∨ ∀k,x'.1.ownBlock=some k->W.heap.size<=k) (hr:oJ (flat wrC) 65 1 (fun b=>lo<=b) NoB W' wv (bs.set i x')) (c2:Chg (fun k=>wv.ownBlock=some k) w1 W'):GrA lo bg hm b6 t m es (bs.set i x') gs ps lv ev wv gv pv W':=by
 have hx:=apA hi;have hxo:=g.wa.el x hx;have hwa:=g.wa.set (b':=x') hi ho c1 lie hr c2;have c:Chg (fun k=>x.1.ownBlock=some k∨wv.ownBlock=some k) W W':=Chg.trans (c1.mono fun k _ e=>.inl e) c2 fun k _ e=>.inr e;have hlt: ∀k,(x.1.ownBlock=some k∨wv.ownBlock=some k)->lo<=k:=fun k e=>e.elim (fun e=>(hxo.lt e).1) fun e=>(g.wa.row.lt e).1;refine ⟨g.b.chg c fun e=>e.elim (fun e=>hxo.pK g.b rfl e rfl) fun e=>g.wa.row.pK g.b rfl e rfl,g.tr.keep pM (c.keep fun k _ h1 e=>?_),g.mp.chg c (fun e=>e.elim (fun e=>hxo.rZ g.mp e rfl) fun e=>g.wa.row.rZ g.mp e rfl), ((g.ed.mono (Pb':=fun b=>Zn lo bg hm b6 bs wv gv pv b/\b<W.heap.size) (Pe':=fun b=>Zn lo bg hm b6 bs wv gv pv b/\b<W.heap.size) rC (fun b hb e=>⟨e,hb⟩) (fun b hb e=>⟨e,hb⟩)).xB qH c (fun k hk e=>?_) (fun k hk _ e=>?_)).mono rC (fun b _ e=>?_) (fun b _ e=>?_),hwa,g.ga.chg (oH _) c (fun k hk e=>?_),g.pa.chg (oH _) c (fun k hk e=>?_),g.lo2⟩
 ·have:=hlt k e;omega
 ·exact e.elim (fun e=>g.ed.sZ hxo rfl k hk e) fun e=>g.ed.sZ g.wa.row rfl k hk e
 ·exact e.elim (fun e=>hk.1.2.2.2.2.2.1 x hx e) fun e=>hk.1.2.2.2.2.1 e
 all_goals first
  |(obtain ⟨⟨z1,z2,z3,z0,z4,z5,z6⟩,z7⟩:=e
    refine ⟨z1,z2,z3,z0,z4,fun y hy e2=>?_,z6⟩;rcases arJ hy with hy|rfl
    ·exact z5 y hy e2
    ·rcases lie with l1|l1
     ·exact z5 x hx (l1▸e2)
     ·have:=l1 b e2;omega)
  |exact e.elim (fun e=>g.ga.sZ hxo rfl k hk e) fun e=>g.ga.sZ g.wa.row rfl k hk e
  |exact e.elim (fun e=>g.pa.sZ hxo rfl k hk e) fun e=>g.pa.sZ g.wa.row rfl k hk e
theorem GrA.zone (g:GrA lo bg hm b6 t m es bs gs ps lv ev wv gv pv W) (h6:b6<W.heap.size) (hlo:lo<=W.heap.size): ∀b,W.heap.size<=b->Zn lo bg hm b6 bs wv gv pv b:=fun b hb=>by
 have h1:=g.b.lt;have h2:=g.mp.lt;exact ⟨by omega,by omega,by omega,by omega,fun e=>by have:=(g.wa.row.lt e).2;omega,fun x hx e=>by have:=((g.wa.el x hx).lt e).2;omega,fun e=>by have:=(g.ga.lt e).2;omega,fun e=>by have:=(g.pa.lt e).2;omega⟩
end
def TL (lv:Value) (n lo:Nat) (i:Nat) (v:Value) (w:World):Prop:=match i with
 |0=>v=lv
 |1=> ∃b,v=.map (some b)/\lo<=b/\sO prog 181 w b []
 |2=>v=lv
 |3=>v=vi n
 |4=>oJ (flat wrC) 65 1 (fun b=>lo<=b) NoB w v (apT n (.slice none 0 0,[]))
 |5=>v=lv
 |6=>v=vi n
 |7=>oJ (Wk.one vbo) 4 1 (fun b=>lo<=b) NoB w v (apT n false)
 |8=> ∃hm wv gv,v=.agg (grC lv hm (.slice none 0 0) wv gv (.slice none 0 0)).toArray/\lo<=hm/\sO prog 181 w hm []/\oJ (flat wrC) 65 1 (fun b=>lo<=b) NoB w wv (apT n (.slice none 0 0,[]))/\oJ (Wk.one vbo) 4 1 (fun b=>lo<=b) NoB w gv (apT n false)
 |9=> ∃bg hm wv gv,v=pT bg/\lo<=bg/\Bk w bg 145 (grC lv hm (.slice none 0 0) wv gv (.slice none 0 0))/\lo<=hm/\sO prog 181 w hm []/\oJ (flat wrC) 65 1 (fun b=>lo<=b) NoB w wv (apT n (.slice none 0 0,[]))/\oJ (Wk.one vbo) 4 1 (fun b=>lo<=b) NoB w gv (apT n false)
 |10=> ∃b,v=pT b/\lo<=b/\Bk w b 140 [.pointer none]
 |_=>True
theorem Y0 {lv:Value} {n lo:Nat}: ∀i v w w',New w w'->TL lv n lo i v w->TL lv n lo i v w':=by
 intro i v w w' c h;unfold TL at h ⊢;split at h<;>try exact h
 ·obtain ⟨b,e,h1,h2⟩:=h;exact ⟨b,e,h1,h2.chg c id⟩
 ·exact h.new (oh _) c
 ·exact h.new (oH _) c
 ·obtain ⟨hm,wv,gv,e,h1,h2,h3,h4⟩:=h;exact ⟨hm,wv,gv,e,h1,h2.chg c id,h3.new (oh _) c,h4.new (oH _) c⟩
 ·obtain ⟨bg,hm,wv,gv,e,h0,hb,h1,h2,h3,h4⟩:=h;exact ⟨bg,hm,wv,gv,e,h0,hb.chg c id,h1,h2.chg c id,h3.new (oh _) c,h4.new (oH _) c⟩
 ·obtain ⟨b,e,h1,h2⟩:=h;exact ⟨b,e,h1,h2.chg c id⟩
theorem QE {t:List Nd} {m:List (Nat×Nat)} {i:Nat} (hi:i<t.length):xP m i (t.drop i)=xP (if xw (ndA t i)≠0/\m.all (fun p=>decide (p.1≠xw (ndA t i)))=true then m++ [(xw (ndA t i),i)] else m) (i+1) (t.drop (i+1)):=by
 rw [drop_cons (GI hi),xP]
theorem L9 {t:List Nd} {i kind:Nat} {soft:Bool}: ∀(f place:Nat) (c:List Int),(vW t i kind soft f place c).length<=f
 |0,_,_=>by simp [vW]
 |f+1,_,[]=>by simp [vW]
 |f+1,place,x::c=>by
  rw [JS];split
  ·simp
  ·split
   ·simp
   ·split
    ·simp
    ·have:=L9 (t:=t) (i:=i) (kind:=kind) (soft:=soft) f (place+1) (c.drop ‹Nat›);simp only [ape];omega
theorem GZ {t:List Nd} (ht:pJ t=true) {i:Nat} (hi:i<t.length) (kind:Nat) (soft:Bool):(yH t i kind soft).length<=1024:=by
 have hv: ∀nm,((uN t i nm).getD []).length<=1024:=fun nm=>Ad ht hi;have key: ∀v:List UInt8,v.length<=1024->(if form 4 v=0 then vW t i kind soft (nums 4 v).length 0 (nums 4 v) else [⟨i,none,kind,soft,0,[]⟩]).length<=1024:=by
  intro v h;split
  ·have h1:=L9 (t:=t) (i:=i) (kind:=kind) (soft:=soft) (nums 4 v).length 0 (nums 4 v);have h2:=FK v;omega
  ·simp
 exact key _ (hv _)
def BL (t:List Nd) (i:Nat):List Ed:=[1,2,3,4,5].flatMap fun k=>yH t i k false++yH t i k true
def Aj (t:List Nd) (i k:Nat):List Ed:=([1,2,3,4,5].take (k-1)).flatMap fun k=>yH t i k false++yH t i k true
theorem TM {t:List Nd} {i k:Nat} (h1:1<=k) (h5:k<=5):Aj t i (k+1)=Aj t i k++yH t i k false++yH t i k true:=by
 have:k=1∨k=2∨k=3∨k=4∨k=5:=by omega
 rcases this with rfl|rfl|rfl|rfl|rfl<;>simp [Aj]
theorem Mc {t:List Nd} (ht:pJ t=true) {i:Nat} (hi:i<t.length): ∀k,(Aj t i k).length<=2048*5:=by
 intro k;have h: ∀l:List Nat,(l.flatMap fun k=>yH t i k false++yH t i k true).length<=2048*l.length:=by
  intro l;induction l with
  |nil=>simp
  |cons x r ih=>have h1:=GZ ht hi x false;have h2:=GZ ht hi x true;simp only [List.flatMap_cons,adE,ape];omega
 have h2:=h ([1,2,3,4,5].take (k-1));have h3:([1,2,3,4,5].take (k-1)).length<=5:=by rw [ao8];simp only [ape,apH];omega
 unfold Aj;omega
theorem uS {t:List Nd} (ht:pJ t=true): ∀i,i<=t.length->((abM i).flatMap (BL t)).length<=10240*i:=by
 intro i;induction i with
 |zero=>intro _;simp
 |succ i ih=>
  intro hi;have h1:=ih (by omega);have h2:=Mc ht (i:=i) (by omega) 6;rw [arv,ari,adE];have:([i].flatMap (BL t)).length=(Aj t i 6).length:=by simp [BL,Aj]
  omega
def DK (t:List Nd) (j:Nat):List Nat:=if 0<j then [par t j] else []
def xR (i:Nat) (e:Ed):Option Nat:=if e.src=i/\e.soft=false then e.dst else none
theorem Md (t:List Nd) (i:Nat):qB t i=DK t i++(pI t).filterMap (xR i):=rfl
theorem Ak {α:Type} {n i:Nat} {f:Nat->α} {x:α} (hi:i<n):((abM n).map f).set i x=(abM n).map fun j=>if j=i then x else f j:=by
 apply ao3;intro j;rw [apl];by_cases h:i=j
 ·subst h;rw [if_pos rfl,if_pos (by simpa using hi),apC,aq0 hi];simp
 ·rw [if_neg h,apC,apC];by_cases hj:j<n
  ·rw [aq0 hj];simp only [adC];rw [if_neg (fun e=>h e.symm)]
  ·rw [aoP (by simpa using hj)];rfl
def Xe (w w':World) (r:Value) (lv:Value) (t:List Nd):Prop:= ∃bg hm ev wv gv pv gs bs,r=.tuple #[pT bg,vi 0]/\GrA w.heap.size bg hm bg t (sG t) (pI t) bs gs (qw t) lv ev wv gv pv w'/\bs.map (·.2)=(abM t.length).map (qB t)/\gs.length=t.length
theorem Bz {Pb:Nat->Prop} {w:World} {v:Value} {t:List Nd} (h:RdS rNd 3 Pb w v t) (hok:pJ t=true):
 Calls prog 49 #[v] w (Ret fun r w'=>Xe w w' r v t/\New w w'):=by
 obtain ⟨a,cap,rfl,hc1,hc2⟩:=h.form;have hlen:=qm hok;have hpos:=tC hok;replace h:=h.mono (Pb':=fun k=>k<w.heap.size) A8 fun k hk _=>hk;refine xC func49 rfl ntmps49 rfl ?_;refine qq9 ?_;refine au (wU h) rfl ?_;rintro _ w1 ⟨rfl,n1⟩;unfold HY;rw [if_pos hok];have hz1:=n1.size;(repeat' (first|refine qq9 ?_|(refine aa6 (fun _=>?_) (fun _=>?_)<;>(first|(exfalso;omega)|skip))));refine iw ?_
 refine kL (TL (.slice a t.length cap) t.length w.heap.size) rfl (by kernel_rfl) (by kernel_rfl) (by kernel_rfl) Y0
  ⟨(fun F w' hn hd hf=>iR (ak (dw (aB _ _) (hf 0 rfl)))),
   (fun F w' hn hd hf=>fV (k:=181) fun w2 m2 n2 s2=>ak (dw n2 ⟨_,rfl,arp hz1 hn.size,m2⟩)),
   (fun F w' hn hd hf=>iR (ak (dw (aB _ _) (hf 0 rfl)))),
   (fun F w' hn hd hf=>bZ (hd 2 (by kernel_rfl)) (ak (dw (aB _ _) rfl))),
   (fun F w' hn hd hf=>eU (f:=(·.1:uQ->Value)) (y0:=(.slice none 0 0,[])) rfl (hd 3 (by kernel_rfl)) (hd 3 (by kernel_rfl)) (by omega) (by omega) (by omega) fun v2 w2 o2 n2=>ak (dw n2 (by rw [ao0] at o2;exact o2.mono (Pb':=fun b=>w.heap.size<=b) (oN _) (fun b _ e=>arp (arp hz1 hn.size) e) i3))),
   (fun F w' hn hd hf=>iR (ak (dw (aB _ _) (hf 0 rfl)))),
   (fun F w' hn hd hf=>bZ (hd 5 (by kernel_rfl)) (ak (dw (aB _ _) rfl))),
   (fun F w' hn hd hf=>eU (f:=vbo) (y0:=false) rfl (hd 6 (by kernel_rfl)) (hd 6 (by kernel_rfl)) (by omega) (by omega) (by omega) fun v2 w2 o2 n2=>ak (dw n2 (by rw [ao0] at o2;exact o2.mono (Pb':=fun b=>w.heap.size<=b) (oU _) (fun b _ e=>arp (arp hz1 hn.size) e) i3))),
   (fun F w' hn hd hf=>by have h0:F 28=.slice a t.length cap:=hd 0 (by kernel_rfl);obtain ⟨hm,h1,h1l,h1m⟩: ∃b,F 29=.map (some b)/\w.heap.size<=b/\sO prog 181 w' b []:=hd 1 (by kernel_rfl);have h4:oJ (flat wrC) 65 1 (fun b=>w.heap.size<=b) NoB w' (F 32) (apT t.length (.slice none 0 0,[])):=hd 4 (by kernel_rfl);have h7:oJ (Wk.one vbo) 4 1 (fun b=>w.heap.size<=b) NoB w' (F 35) (apT t.length false):=hd 7 (by kernel_rfl);obtain ⟨a4,c4,e4,_,_⟩:=h4.form;obtain ⟨a7,c7,e7,_,_⟩:=h7.form;rw [e4] at h4;rw [e7] at h7;refine bM (ps:=[(0,.tmp 28),(1,.tmp 29),(3,.tmp 32),(4,.tmp 35)]) (parts:=[(0,.slice a t.length cap),(1,.map (some hm)),(3,.slice a4 _ c4),(4,.slice a7 _ c7)]) rfl ?_ (by simp [Value.cells]) (ak (dw (aB _ _) ⟨hm,_,_,rfl,h1l,h1m,h4,h7⟩));show [(0,F 28),(1,F 29),(3,F 32),(4,F 35)]=_;rw [h0,h1,e4,e7]),
   (fun F w' hn hd hf=>by obtain ⟨hm,wv,gv,e,h1,h2,h3,h4⟩:TL (.slice a t.length cap) t.length w.heap.size 8 (F 36) w':=hd 8 (by kernel_rfl);exact Wl.box e fun w2 b2 n2 s2=>ak (dw n2 ⟨_,hm,wv,gv,rfl,arp hz1 hn.size,b2,h1,h2.chg n2 id,h3.new (oh _) n2,h4.new (oH _) n2⟩)),
   (fun F w' hn hd hf=>by refine Wl.alloc fun w2 b2 n2 s2=>?_;exact ak (dw n2 ⟨_,rfl,arp hz1 hn.size,b2⟩)),
   trivial⟩ ?_
 intro F w2 z n2 hz hd hf;obtain ⟨bg,hm,wv,gv,e9,h0,hb,h1,h2,h3,h4⟩:TL (.slice a t.length cap) t.length w.heap.size 9 (F 37) w2:=hd 9 (by decide);obtain ⟨b6,e10,h6l,h6⟩:TL (.slice a t.length cap) t.length w.heap.size 10 (F 6) w2:=hd 10 (by decide);have hF0:F 0=.slice a t.length cap:=hf 0 (by decide);cases hz;refine aO (u:=pT bg) h6 e10 (show (0:Nat)<1 by omega) e9 rfl fun w3 b3 c3=>?_;replace b3:Bk w3 b6 140 [pT bg]:=b3;refine ak ⟨rfl,?_⟩;have g3:Gr0 w.heap.size bg hm b6 t.length [] [] (.slice a t.length cap) wv gv (.slice none 0 0) w3:=⟨hb.chg c3 fun e=>hb.pK h6 rfl e,b3,h2.chg c3 fun e=>h6.rZ h2 e.symm,h3.chg (oh _) c3 fun k hk e=>h3.pK h6 rfl hk e,h4.chg (oH _) c3 fun k hk e=>h4.pK h6 rfl hk e,aN,h0,h6l,h1⟩;have n03:New w w3:=(Chg.trans (M:=fun k=>k=b6) (New.trans n1 n2).any c3 fun k _ e=>e).tN
 clear hd hf h3 h4 h2 hb h6;have hF:agrees F [(0,.slice a t.length cap),(6,pT b6)]:=⟨hF0,e10,trivial⟩;rw [<-qf hF];simp only [qi];clear hF hF0 e9 e10;generalize hlv:(Value.slice a t.length cap)=lv at*;(repeat' (first|refine aa2 ?_|refine dU ?_|refine dK ?_|refine eP ?_));subst hlv;refine au (GX (h.keep pM n03.keep) hok) rfl ?_;rintro _ w4 ⟨⟨bq,sv,rfl,hbq,hq⟩,n4⟩;have n04:=New.trans n03 n4;have hz3:=n03.size;have hz4:=n4.size;have aeR:=hq.1.lt;have hpl:=wV t;let I:Nat->World->Prop:=fun k W=>New w W/\w4.heap.size<=W.heap.size/\SqW (fun b=>w3.heap.size<=b/\b<w4.heap.size) bq sv (qw t) W/\ ∃pv,Gr0 w.heap.size bg hm b6 t.length [] ((qw t).take k) (.slice a t.length cap) wv gv pv W/\ ∀j,pv.ownBlock=some j->w4.heap.size<=j;have aeC:bg<w3.heap.size:=g3.b.lt;have anS:hm<w3.heap.size:=g3.mp.lt;refine AB ?_;refine iy (gf:=46) (lb:= #[pT bq]) rfl (fun args _=>rH inferInstance args) (iter_walk (Pb:=fun b=>w3.heap.size<=b/\b<w4.heap.size) (bs:=bq) (v:=sv) (l:=qw t)) (fun k=>rfl) I (fun _ _=>False) ?_ ?_ ?_ ?_ ?_ ?_ ?_ ?_ ?_
 ·exact fun k W h=>h.2.2.1
 ·rintro k W W' ⟨h1,h2,h3,pv,h4,h5⟩ n;exact ⟨h1.trans n,arp h2 n.size,h3.new n,pv,h4.new n,h5⟩
 ·rintro k W r r' ⟨h1,h2,h3,pv,h4,h5⟩ hL;have z:=n04.size;exact ⟨h1.put _ (by omega),by simpa using h2,h3.put _ (.loop hL) (by omega),pv,h4.put _ (.loop hL) (by omega),h5⟩
 ·exact fun _ _ _ _ h=>h.elim
 ·intro r;have n:=iC (w:=w4) (.deferred (some [])) (.loop r);exact ⟨n04.trans n,n.size,hq.new n,_,(g3.new n4).new n,fun j e=>by cases e⟩
 ·rintro k W r hk ⟨h1,h2,h3,pv,h4,h5⟩ hL hD;have hkt:k<t.length:=by omega
  have hgk:(qw t).getD k []=pV t k:=by rw [apG,uo hkt];rfl
  show Wr _ _ _ _ _ (upd (upd _ 40 (vs ((qw t).getD k []))) 41 (vi k)) W;rw [hgk];(repeat' (first|refine aa7 ?_|refine ak ?_|refine bQ rfl (by repeat' (first|exact Qfn.out (by rintro _ ⟨⟨_,e⟩,_⟩;cases e)|exact Qrd.out|exact Qas.out|refine Qsr.out ?_|refine oP.out ?_|refine Qsc.out ?_|refine qJ.out ?_)) ?_));refine ⟨aB _ _,fun r'=>?_⟩;have nL:NoC W (w4.heap.size+1):=.loop hL;have hLt:=nL.lt;have q1:New w (W.putObj (w4.heap.size+1) (.loop r')):=h1.put _ (by omega);have q3:=h3.put (.loop r') nL (by omega);have q4:=h4.put (.loop r') nL (by omega);have qL:NoC (W.putObj (w4.heap.size+1) (.loop r')) (w4.heap.size+1):=.loop (World.putObj_heap_same hLt);have qD:NoC (W.putObj (w4.heap.size+1) (.loop r')) w4.heap.size:=.mark ((World.putObj_heap_other (by omega)).trans hD);generalize W.putObj (w4.heap.size+1) (.loop r')=W3 at*;clear h1 h3 h4;have zW:=q1.size;have zL:=qL.lt;obtain ⟨pa,pc,rfl,_,_⟩:=q4.pa.form;have hpt:((qw t).take k).length=k:=by rw [ao8];omega
  (repeat' (refine Wr.block ?_));refine iD rfl (by repeat' (first|exact Qfn.out (by rintro _ ⟨⟨_,e⟩,_⟩;cases e)|exact Qrd.out|exact Qas.out|refine Qsr.out ?_|refine oP.out ?_|refine Qsc.out ?_|refine qJ.out ?_)) rfl (by kernel_rfl) (fun W'=>Chg (fun j=>(Value.slice pa ((qw t).take k).length pc).ownBlock=some j) W3 W') (Chg.drew _ _) ?_;intro W4 m4;have KW: ∀W',Chg (fun j=>(Value.slice pa ((qw t).take k).length pc).ownBlock=some j) W3 W'->Bk W' b6 140 [pT bg]:=fun W' c=>q4.v6.chg c fun e=>q4.pa.pK q4.v6 rfl e rfl;have aeS: ∀W',Chg (fun j=>(Value.slice pa ((qw t).take k).length pc).ownBlock=some j) W3 W'->Bk W' bg 145 (grC (.slice a t.length cap) hm (.slice none 0 0) wv gv (.slice pa ((qw t).take k).length pc)):=fun W' c=>q4.b.chg c fun e=>q4.pa.pK q4.b rfl e rfl;refine aa0 (ax (u:=pT bg) rfl (fun W' c=>(KW W' c).cell (o:=0) rfl) (af ?_));refine aa0 (ax (u:=pT bg) rfl (fun W' c=>(KW W' c).cell (o:=0) rfl) (af ?_));(repeat' (first|refine aa0 (dD rfl (af ?_))|refine aa0 (aa4 (af ?_))));refine aa0 (ax (u:=.slice pa ((qw t).take k).length pc) rfl (fun W' c=>(aeS W' c).cell (o:=5) rfl) (af ?_));(repeat' (refine aa0 (aa3 (af ?_))));refine aG rfl (bG (R:=Wk.one vs) (Pe:=NoB) (y:=pV t k) qW rfl rfl rfl rfl (by omega) (by omega) fun v6 W6 o6 n6 s6 e6=>?_);have m6:=m4.trans n6;refine ak ⟨rfl,m6.any,?_⟩;refine aG rfl (bH (R:=Wk.one vs) qW (q4.pa.new (oH _) m6) (o6.rd qW.mo) (fun y cs hy=>hy) rfl rfl (by omega) (by simp only [maxLen,apj];omega) (by simp only [apj];omega) fun u' W7 o7 c7 lie _=>?_);have c37:Chg (fun j=>(Value.slice pa ((qw t).take k).length pc).ownBlock=some j) W3 W7:=Chg.trans m6.any c7 i3;refine ak ⟨rfl,c37,?_⟩;(repeat' (first|refine aa0 (dD rfl (af ?_))|refine aa0 (aa4 (af ?_))));rw [<-take_snoc (uo hkt)] at o7;have z6:=m6.size;have o7':=o7.mono (Pb':=fun b=>w.heap.size<=b) (oU _) (fun b _ e=>by rcases e with e|e;exact e;omega) i3;refine Wt.last rfl (aO (u:=u') (aeS W7 c37) rfl (show (5:Nat)<6 by omega) rfl (by obtain ⟨_,_,rfl,_⟩:=o7.form;rfl) fun W8 b8 c8=>?_);refine ak ?_;have g8:=q4.path c37 o7' b8 c8;have z7:=c37.size;have z8:=c8.size;have hown: ∀j,(Value.slice pa ((qw t).take k).length pc).ownBlock=some j->w4.heap.size<=j:=h5;have e38:Chg (fun j=>j=bg∨(Value.slice pa ((qw t).take k).length pc).ownBlock=some j) W3 W8:=Chg.trans (c37.mono fun _ _ e=>.inr e) c8 fun _ _ e=>.inl e;(repeat' (refine dO ?_));refine ⟨e38.block _ qL.lt ?_,e38.block _ qD.lt ?_,Chg.trans q1 e38 fun j hj e=>?_,by omega,q3.chg e38 ?_ ?_,u',g8,?_⟩
  ·rintro (e|e)
   ·omega
   ·exact q4.pa.nl qL e rfl
  ·rintro (e|e)
   ·omega
   ·exact q4.pa.nl qD e rfl
  ·rcases e with e|e
   ·have:=g3.lo2;omega
   ·have:=hown j e;omega
  ·rintro (e|e)
   ·omega
   ·have:=hown _ e;omega
  ·rintro j hj (e|e)
   ·omega
   ·have:=hown _ e;omega
  ·intro j e;rcases lie with l1|l1
   ·exact hown j (l1▸e)
   ·have:=l1 j e;omega
 ·rintro W ⟨h1,h2,h3,pv,h4,h5⟩ hD;rw [apW] at h4;clear hq n4 g3 n04;generalize hD0:w4.heap.size=D at*;clear I;have anT:w.heap.size<=b6:=h4.lo2.2.1;have anU:bg<D:=by omega
  have hmD:hm<D:=by omega
  (repeat' (first|refine dK ?_|refine fK ?_));refine iw ?_;refine aS ?_;refine qq0 ?_;refine aC (σ:=Nat×List (Nat×Nat)) (fun q=>[(0,.slice a t.length cap),(6,pT b6),(52,.slice a t.length cap),(53,vi t.length),(54,vi q.1)]) (fun q W=>q.1<=t.length/\sG t=xP q.2 q.1 (t.drop q.1)/\Gr0 w.heap.size bg hm b6 t.length q.2 (qw t) (.slice a t.length cap) wv gv pv W/\New w W/\W.heap[D]? =some (.deferred (some []))) (fun q=>t.length-q.1) (0,[]) (sl rfl) ⟨aoW _,rfl,h4,h1,hD⟩ ?_;clear h4 h1 hD h2 h3;rintro ⟨i,m⟩ G W ⟨hi,hH,g,nW,hD⟩;dsimp only at hi hH g nW hD;simp only [qi];(repeat' (first|refine qq1 ?_|refine aa1 (fun _=>?_) (fun _=>?_)))
  ·have hil:i<t.length:=by omega
   rw [QE hil] at hH;refine aJ (h.keep pM nW.keep) rfl rfl (by omega) (GI hil) fun b o cs hl hR hat=>?_;obtain ⟨pvn,rfl,hpv⟩:=hR;obtain ⟨na,nc,rfl,_,_⟩:=hpv.form;refine aQ hat rfl rfl ?_;clear hat;refine Wl.alloc fun w5 b5 n5 s5=>?_;(repeat' (refine aa7 ?_));refine aK (new:=[vi (ndA t i).parent,vs (ndA t i).name,.slice na (ndA t i).qh.length nc]) b5 rfl rfl rfl rfl zl3 (by intro c hc;simp at hc;rcases hc with rfl|rfl|rfl<;>rfl) fun w6 b6' c6 s6=>?_;replace b6':Bk w6 W.heap.size 73 [vi (ndA t i).parent,vs (ndA t i).name,.slice na (ndA t i).qh.length nc]:=b6';have n6:New W w6:=(Chg.trans n5.any c6 i3).tN
   clear b5 n5 c6;refine qq0 ?_;refine aZ b6' rfl rfl ?_;refine au (CO (x:=ndA t i) (nm:=wE) (hpv.keep (pG pC) n6.keep)) rfl ?_;rintro _ w7 ⟨rfl,n7⟩;have n67:=New.trans n6 n7;have ev1: ∀o:Option (List UInt8),Nk o=.tuple #[vs (o.getD []),.bool o.isSome]:=fun o=>by cases o<;>rfl
   rw [ev1];have hvl:((uN t i wE).getD []).length<=1024:=Ad hok hil;have hhm:xw (ndA t i)=(Jq ((val (ndA t i).qh wE).getD [])).getD 0:=rfl;generalize hvv:(val (ndA t i).qh wE).getD []=txt at hhm;have hvl:txt.length<=1024:=by rw [<-hvv];exact hvl
   refine qq0 ?_;refine au (Gp (l:=txt) (by omega)) rfl ?_;rintro _ w8 ⟨rfl,n8⟩;have n68:=New.trans n67 n8;obtain ⟨n,hn,hnl⟩:=Jv txt;have hcm:Jq txt=if (only 0 (form 4 txt) (nums 4 txt)).2=0 then some (only 0 (form 4 txt) (nums 4 txt)).1.toNat else none:=rfl;rw [hn,ao0] at hcm;rw [hn];generalize (only 0 (form 4 txt) (nums 4 txt)).2=e8 at hcm;have g8:=g.new n68;have n08:=New.trans nW n68;have hD8:w8.heap[D]? =some (.deferred (some [])):=(n68.block _ (Array.getElem?_eq_some_iff.1 hD).1 id).trans hD;have nx: ∀(w':World) (G':Fr) (m':List (Nat×Nat)),Gr0 w.heap.size bg hm b6 t.length m' (qw t) (.slice a t.length cap) wv gv pv w'->New w w'->w'.heap[D]? =some (.deferred (some []))->sG t=xP m' (i+1) (t.drop (i+1))->(i+1<=t.length/\sG t=xP m' (i+1) (t.drop (i+1))/\Gr0 w.heap.size bg hm b6 t.length m' (qw t) (.slice a t.length cap) wv gv pv w'/\New w w'/\w'.heap[D]? =some (.deferred (some []))):=fun w' _ m' q1 q2 q3 q4=>⟨by omega,q4,q1,q2,q3⟩;refine qq0 ?_;refine ah (u:=pT bg) rfl (g8.v6.cell (o:=0) rfl) ?_;refine qq2 ?_;refine ah (u:=.map (some hm)) rfl (g8.b.cell (o:=1) rfl) ?_;(repeat' (refine aa2 ?_));refine kD kU g8.mp (acC hnl) rfl rfl (fun r hr=>?_) (fun hr=>?_)
   ·have hno: ¬(m.all (fun p=>decide (p.1≠n))=true):=by intro hall;obtain ⟨p,hp,e⟩:=List.mem_map.1 hr;simp only [Prod.mk.injEq,Value.int.injEq,true_and] at e;have:=List.all_eq_true.1 hall p hp;rw [decide_eq_true_eq] at this;exact this (by omega)
    have hif:(if xw (ndA t i)≠0/\m.all (fun p=>decide (p.1≠xw (ndA t i)))=true then m++ [(xw (ndA t i),i)] else m)=m:=by
     rw [if_neg];rintro ⟨q1,q2⟩;rw [hhm,hcm] at q1 q2;by_cases he:e8=0
     ·rw [if_pos he] at q2;exact hno q2
     ·rw [if_neg he] at q1;exact q1 rfl
    rw [hif] at hH;(repeat' (first|refine qq0 ?_|refine bK rfl rfl (fun _=>?_) (fun _=>?_)|refine aa6 (fun _=>?_) (fun _=>?_)))
    all_goals exact aA (i+1,m) (sl rfl) (nx _ G m g8 n08 hD8 hH) (by dsimp only;omega)
   ·have hall:m.all (fun p=>decide (p.1≠n))=true:=by rw [List.all_eq_true];intro p hp;have:=hr _ (List.mem_map.2 ⟨p,hp,rfl⟩);simp only [ne_eq,Value.int.injEq,true_and] at this;rw [decide_eq_true_eq];omega
    have hif:(e8=0/\n≠0)∨(if xw (ndA t i)≠0/\m.all (fun p=>decide (p.1≠xw (ndA t i)))=true then m++ [(xw (ndA t i),i)] else m)=m:=by
     by_cases he:e8=0
     ·by_cases hn0:n=0
      ·right;rw [if_neg];rintro ⟨q1,_⟩;rw [hhm,hcm,if_pos he] at q1;exact q1 hn0
      ·exact .inl ⟨he,hn0⟩
     ·right;rw [if_neg];rintro ⟨q1,_⟩;rw [hhm,hcm,if_neg he] at q1;exact q1 rfl
    (repeat' (first|refine qq0 ?_|refine bK rfl rfl (fun _=>?_) (fun _=>?_)|refine aa6 (fun _=>?_) (fun _=>?_)))
    ·have hput:(if xw (ndA t i)≠0/\m.all (fun p=>decide (p.1≠xw (ndA t i)))=true then m++ [(xw (ndA t i),i)] else m)=m++ [(n,i)]:=by
      have he:xw (ndA t i)=n:=by rw [hhm,hcm,if_pos (by omega)];rfl
      rw [he,if_pos ⟨by omega,hall⟩]
     rw [hput] at hH;refine ah (u:=pT bg) rfl (g8.v6.cell (o:=0) rfl) ?_;refine qq2 ?_;refine ah (u:=.map (some hm)) rfl (g8.b.cell (o:=1) rfl) ?_;(repeat' (refine aa2 ?_));refine gZ (u:=vi i) kU g8.mp (acC hnl) hr rfl rfl rfl fun w9 m9 c9 s9=>?_;have g9:=g8.map c9 (m':=m++ [(n,i)]) (by simpa [CU] using m9);have hlm:=g.lo2.2.2;refine qq0 ?_;exact aA (i+1,m++ [(n,i)]) (sl rfl) (nx _ G _ g9 ((Chg.trans (M:=fun k=>k=hm) n08.any c9 fun k _ e=>e).tN) ((c9.block _ (Array.getElem?_eq_some_iff.1 hD8).1 (by omega)).trans hD8) hH) (by dsimp only;omega)
    all_goals
     rcases hif with hif|hif
     ·exfalso;omega
     ·rw [hif] at hH;exact aA (i+1,m) (sl rfl) (nx _ G m g8 n08 hD8 hH) (by dsimp only;omega)
  obtain rfl:i=t.length:=by omega
  rw [aqf] at hH;obtain rfl:sG t=m:=hH;have ga:=g.mp;have g6:=g.v6;have hlm:=g.lo2.2.2;have gA:=GrA.of0 g (h.keep pM nW.keep);clear ga;let aeT:Nat->List uQ->Prop:=fun i bs=>bs.map (·.2)=(abM t.length).map fun j=>if j<i then DK t j else [];have aeU:aeT 0 (apT t.length (.slice none 0 0,[])):=by
   show aru _ _=_;rw [arR];apply ao3;intro j;rw [arG,apC];by_cases hj:j<t.length
   ·rw [if_pos hj,aq0 hj];rfl
   ·rw [if_neg hj,aoP (by simpa using hj)];rfl
  refine aC (σ:=Nat×Value×List uQ) (fun q=>[(0,.slice a t.length cap),(6,pT b6),(95,.slice a t.length cap),(96,vi t.length),(97,vi q.1)]) (fun q W=>q.1<=t.length/\aeT q.1 q.2.2/\GrA w.heap.size bg hm b6 t (sG t) ((abM q.1).flatMap (BL t)) q.2.2 (apT t.length false) (qw t) (.slice a t.length cap) q.2.1 wv gv pv W/\Bk W b6 140 [pT bg]/\New w W/\W.heap[D]? =some (.deferred (some []))) (fun q=>t.length-q.1) (0,.slice none 0 0,apT t.length (.slice none 0 0,[])) (sl rfl) ⟨aoW _,aeU,gA,g6,nW,hD⟩ ?_;clear g gA g6 nW hD aeU;rintro ⟨i,ev,bs⟩ G3 W ⟨hi,hbs,g,g6,nW,hD⟩;dsimp only at hi hbs g g6 nW hD;simp only [qi];(repeat' (first|refine qq1 ?_|refine aa1 (fun _=>?_) (fun _=>?_)))
  ·have hil:i<t.length:=by omega
   refine aC (σ:=Nat×Value) (fun q=>[(0,.slice a t.length cap),(6,pT b6),(16,vi i),(17,.int .u8 q.1),(95,.slice a t.length cap),(96,vi t.length),(97,vi i)]) (fun q W=>1<=q.1/\q.1<=6/\GrA w.heap.size bg hm b6 t (sG t) ((abM i).flatMap (BL t)++Aj t i q.1) bs (apT t.length false) (qw t) (.slice a t.length cap) q.2 wv gv pv W/\Bk W b6 140 [pT bg]/\New w W/\W.heap[D]? =some (.deferred (some []))) (fun q=>6-q.1) (1,ev) (sl rfl) ⟨aam _,by dsimp only;omega,by simpa [Aj] using g,g6,nW,hD⟩ ?_;clear g g6 nW hD;rintro ⟨k,ev⟩ G4 W ⟨hk1,hk6,g,g6,nW,hD⟩;dsimp only at hk1 hk6 g g6 nW hD;simp only [qi];have hDl:=(Array.getElem?_eq_some_iff.1 hD).1;have aeV:=g6.lt;have hzW:=nW.size;have anV:=uS hok i (by omega);have acN:=Mc hok hil k;(repeat' (first|refine qq5 ?_|refine dV rfl rfl (fun _=>?_) (fun _=>?_)|refine aX rfl rfl (fun _=>?_) (fun _=>?_)))
   ·refine ah (u:=pT bg) rfl (g6.cell (o:=0) rfl) ?_;(repeat' (refine aa2 ?_));have hz:=g.zone aeV hzW;have hnz: ¬Zn w.heap.size bg hm b6 bs wv gv pv bg/\ ¬Zn w.heap.size bg hm b6 bs wv gv pv bg/\ ¬Zn w.heap.size bg hm b6 bs wv gv pv hm/\hm≠bg:=⟨fun e=>e.2.1 rfl,fun e=>e.2.1 rfl,fun e=>e.2.2.2.1 rfl,fun e=>g.b.rZ g.mp e.symm⟩;have hlz:w.heap.size<=bg/\ ∀b,b<w.heap.size-> ¬Zn w.heap.size bg hm b6 bs wv gv pv b:=⟨g.lo2.1,fun b hb e=>by have:=e.1;omega⟩;refine au (LX (kind:=k) (soft:=false) g.b g.tr hok hil hk1 (by omega) g.mp g.ed (by simp only [adE];omega) hz hz hnz hlz) rfl ?_;rintro u w5 ⟨ev5,b5,KQ,c5,_⟩;have g5:=g.read b5 KQ c5;have hne: ∀k,ev.ownBlock=some k->w.heap.size<=k/\k≠b6/\k≠D:=fun k hk=>⟨(g.ed.lt hk).1.1,(g.ed.lt hk).1.2.2.1,g.ed.nl (.mark hD) hk⟩;have g65:=g6.chg c5 fun e=>e.elim (fun e=>g6.pK g.b rfl e) fun e=>(hne _ e).2.1 rfl;have hD5:=(c5.block _ hDl fun e=>e.elim (fun e=>by omega) fun e=>(hne _ e).2.2 rfl).trans hD;have n5:New w w5:=(Chg.trans nW.any c5 fun k _ e=>e).toNew fun k hk e=>by
     rcases e with e|e
     ·omega
     ·have:=(hne k e).1;omega
    have ajP:=(Array.getElem?_eq_some_iff.1 hD5).1;clear hne hz hnz hlz c5 b5 KQ;refine qq0 ?_;refine ah (u:=pT bg) rfl (g65.cell (o:=0) rfl) ?_;(repeat' (refine aa2 ?_));have hz:=g5.zone g65.lt n5.size;have hnz: ¬Zn w.heap.size bg hm b6 bs wv gv pv bg/\ ¬Zn w.heap.size bg hm b6 bs wv gv pv bg/\ ¬Zn w.heap.size bg hm b6 bs wv gv pv hm/\hm≠bg:=⟨fun e=>e.2.1 rfl,fun e=>e.2.1 rfl,fun e=>e.2.2.2.1 rfl,fun e=>g.b.rZ g.mp e.symm⟩;have hlz:w.heap.size<=bg/\ ∀b,b<w.heap.size-> ¬Zn w.heap.size bg hm b6 bs wv gv pv b:=⟨g.lo2.1,fun b hb e=>by have:=e.1;omega⟩;have anW:=GZ hok hil k false;refine au (LX (kind:=k) (soft:=true) g5.b g5.tr hok hil hk1 (by omega) g5.mp g5.ed (by simp only [adE];omega) hz hz hnz hlz) rfl ?_;rintro u w6 ⟨ev6,b6',WX,c6,_⟩;have g7:=g5.read b6' WX c6;have hne: ∀k,ev5.ownBlock=some k->w.heap.size<=k/\k≠b6/\k≠D:=fun k hk=>⟨(g5.ed.lt hk).1.1,(g5.ed.lt hk).1.2.2.1,g5.ed.nl (.mark hD5) hk⟩;have g67:=g65.chg c6 fun e=>e.elim (fun e=>g65.pK g5.b rfl e) fun e=>(hne _ e).2.1 rfl;have hD7:=(c6.block _ ajP fun e=>e.elim (fun e=>by omega) fun e=>(hne _ e).2.2 rfl).trans hD5;have n7:New w w6:=(Chg.trans n5.any c6 fun k _ e=>e).toNew fun k hk e=>by
     rcases e with e|e
     ·omega
     ·have:=(hne k e).1;omega
    clear hne hz hnz hlz c6 b6' WX g5 g65 hD5 n5;refine qq0 ?_;refine jq rfl rfl ?_;rw [show (k:Int)+1=((k+1:Nat):Int) from rfl,w8 (by omega)];refine qq5 ?_;refine aA (k+1,ev6) (sl rfl) ⟨by dsimp only;omega,by dsimp only;omega,?_,g67,n7,hD7⟩ (by dsimp only;omega);dsimp only;rw [TM hk1 (by omega)];simpa using g7
   ·have hes:(abM i).flatMap (BL t)++Aj t i k=(abM (i+1)).flatMap (BL t):=by
     have:k=6:=by omega
     subst this;rw [arv,ari];simp [BL,Aj]
    rw [hes] at g;have hb2:bs.length=t.length:=by have:=congrArg aqX hbs;simpa using this
    have hpi:=vg hok (i:=i) (by omega) hil;have hne0:bs≠ []:=by intro e;rw [e] at hb2;simp at hb2;omega
    obtain ⟨wg,wc,hwv,hwl,aeW,hob⟩:=g.wa.row.blk hne0;obtain ⟨x,hx⟩:=oZ bs (k:=i) (by omega);subst hwv;refine aV rfl (by kernel_rfl) (fun w'=>New W w') (Chg.drew _ _) ?_;intro w5 n5;refine aa0 (ax (u:=pT bg) rfl (fun w' hw=>(g6.chg hw id).cell (o:=0) rfl) (af ?_));refine qq4 ?_;refine aa0 (ax (u:=.slice (some ⟨wg,0,none⟩) bs.length wc) rfl (fun w' hw=>(g.b.chg hw id).cell (o:=3) rfl) (af ?_));(repeat' (refine aa0 (aa3 (af ?_))));refine aa0 (bD g.tr (fun w' hw=>hw.keep) rfl rfl (by omega) (GI hil) fun b o cs hl hR hat=>af ?_);obtain ⟨pv1,rfl,_⟩:=hR;(repeat' (refine aa0 (aa4 (af ?_))));refine aa0 (ax (u:=vi (par t i)) rfl (fun w' hw=>by rw [<-hpi.2];exact (hat w' hw).get 0 rfl) (af ?_));clear hat;refine aG rfl (bG (R:=Wk.one viN) (Pe:=NoB) (y:=par t i) qE rfl rfl rfl rfl (by omega) (by omega) fun v6 w6 o6 n6 s6 e6=>?_);have n56:=n5.trans n6;refine ak ⟨rfl,n56,?_⟩;refine aa0 (aa8 (af ?_));refine Wt.last rfl (dI (f:=(·.1:uQ->Value)) (q:=(v6,[par t i])) (j:=i) (cap:=wc) (g.wa.row.new (oh _) n56) rfl (by omega) (by show Value.pointer (some ⟨wg,0+(i:Int).toNat*1,none⟩)=_;simp) rfl rfl (by obtain ⟨_,_,rfl,_⟩:=o6.form;rfl) fun w7 o7 c7=>?_);refine ak ?_;have hz5:=n5.size;have g7:=g.want hx (x':=(v6,[par t i])) (w1:=w6) (o6.mono (oU _) (fun b _ e=>by have h9:w5.heap.size<=b:=e;omega) i3) n56.any (.inr fun k hk=>by have h9:w5.heap.size<=k:=(o6.lt hk).1;omega) o7 c7;have c07:Chg (fun k=>k=wg) W w7:=Chg.trans n56.any c7 fun k _ e=>by cases e;rfl
    have hwD:wg≠D:=g.wa.row.nl (.mark hD) rfl;have hw6:wg≠b6:=g.wa.row.pK g6 rfl rfl;refine qq0 ?_;refine aA (i+1,ev,bs.set i (v6,[par t i])) (sl rfl) ⟨by dsimp only;omega,?_,g7,g6.chg c07 (fun e=>hw6 e.symm),(Chg.trans (M:=fun k=>k=wg) nW.any c07 fun k _ e=>e).tN,(c07.block _ hDl (fun e=>hwD e.symm)).trans hD⟩ (by dsimp only;omega);show aru _ (bs.set i _)=_;rw [arx,show aru (·.2) bs=_ from hbs,Ak hil];apply ap8;intro j _;by_cases e1:j=i
    ·rw [if_pos e1,if_pos (by omega)];unfold DK;rw [if_pos (by omega),e1]
    ·rw [if_neg e1];by_cases e2:j<i
     ·rw [if_pos e2,if_pos (by omega)]
     ·rw [if_neg e2,if_neg (by omega)]
   ·have hes:(abM i).flatMap (BL t)++Aj t i k=(abM (i+1)).flatMap (BL t):=by
     have:k=6:=by omega
     subst this;rw [arv,ari];simp [BL,Aj]
    rw [hes] at g;refine aA (i+1,ev,bs) (sl rfl) ⟨by dsimp only;omega,?_,g,g6,nW,hD⟩ (by dsimp only;omega);have hi0:i=0:=by omega
    show aru _ bs=_;rw [show aru (·.2) bs=_ from hbs];apply ap8;intro j _;dsimp only;rw [hi0,if_neg (by omega)];by_cases e2:j<0+1
    ·rw [if_pos e2];unfold DK;rw [if_neg (by omega)]
    ·rw [if_neg e2]
  ·obtain rfl:i=t.length:=by omega
   have hed:(abM t.length).flatMap (BL t)=pI t:=rfl;rw [hed] at g;have hel:=uS hok t.length (aam _);rw [hed] at hel;have aeX:bs.map (·.2)=(abM t.length).map fun j=>DK t j++((pI t).take 0).filterMap (xR j):=by rw [show aru (·.2) bs=_ from hbs];apply ap8;intro j hj;rw [if_pos (by simpa using hj)];simp
   obtain ⟨ea,ec,rfl,_,_⟩:=g.ed.form;refine ah (u:=pT bg) rfl (g6.cell (o:=0) rfl) ?_;refine qq2 ?_;refine ah (u:=.slice ea (pI t).length ec) rfl (g.b.cell (o:=2) rfl) ?_;refine qq0 ?_;clear hbs;refine aC (σ:=Nat×List uQ×List Bool) (fun q=>[(6,pT b6),(130,.slice ea (pI t).length ec),(131,vi (pI t).length),(132,vi q.1)]) (fun q W=>q.1<=(pI t).length/\q.2.1.map (·.2)=((abM t.length).map fun j=>DK t j++((pI t).take q.1).filterMap (xR j))/\q.2.2.length=t.length/\GrA w.heap.size bg hm b6 t (sG t) (pI t) q.2.1 q.2.2 (qw t) (.slice a t.length cap) (.slice ea (pI t).length ec) wv gv pv W/\Bk W b6 140 [pT bg]/\New w W/\W.heap[D]? =some (.deferred (some []))) (fun q=>(pI t).length-q.1) (0,bs,apT t.length false) (sl rfl) ⟨aoW _,aeX,by simp,g,g6,nW,hD⟩ ?_;clear g g6 nW hD aeX;rintro ⟨k,bs,gs⟩ G5 W ⟨hk,hbs,hgl,g,g6,nW,hD⟩;dsimp only at hk hbs hgl g g6 nW hD;simp only [qi];have hDl:=(Array.getElem?_eq_some_iff.1 hD).1;have hzW:=nW.size;(repeat' (first|refine qq2 ?_|refine aa1 (fun _=>?_) (fun _=>?_)))
   ·obtain ⟨e,he⟩:=oZ (pI t) (k:=k) (by omega);have hlt:=sW e (apA he);have hb2:bs.length=t.length:=by have:=congrArg aqX hbs;simpa using this
    refine aJ (g.ed.rd qH.mo) rfl rfl (by omega) he fun b o cs hl hR hat=>?_;obtain ⟨av,rfl,hav⟩:=hR;obtain ⟨aa,ac,rfl,_,_⟩:=hav.form;refine aQ hat rfl rfl ?_;clear hat;refine Wl.alloc fun w5 b5 n5 s5=>?_;refine aK (new:=edC e (.slice aa e.args.length ac)) b5 rfl rfl rfl rfl zl6 P8 fun w6 b6' c6 s6=>?_;replace b6':Bk w6 W.heap.size 100 (edC e (.slice aa e.args.length ac)):=b6';have n6:New W w6:=(Chg.trans n5.any c6 i3).tN
    clear b5 n5 c6 hav;have g':=g.new n6;have g66:=g6.chg n6 id;have n06:=New.trans nW n6;have hD6:w6.heap[D]? =some (.deferred (some [])):=(n6.block _ hDl id).trans hD;have aeY:=(Array.getElem?_eq_some_iff.1 hD6).1;have hxl:=b6'.lt;clear g g6;have hst: ∀j,DK t j++((pI t).take (k+1)).filterMap (xR j)=(DK t j++((pI t).take k).filterMap (xR j))++(xR j e).toList:=fun j=>by rw [take_snoc he,List.filterMap_append,acM];congr 2
    have hno:(∀j,xR j e=none)->bs.map (·.2)=(abM t.length).map fun j=>DK t j++((pI t).take (k+1)).filterMap (xR j):=fun hh=>by rw [hbs];apply ap8;intro j _;rw [hst,hh];simp
    refine qq0 ?_;refine ah (u:=.bool e.soft) rfl (b6'.cell (o:=3) rfl) ?_;refine qq0 ?_;cases hso:e.soft
    ·refine qq0 ?_;refine ah (u:=vi (qx e.dst)) rfl (b6'.cell (o:=1) rfl) ?_;cases hds:e.dst with
     |none=>
      rw [show qx none=(-1:Int) from rfl];have hno':=hno fun j=>by unfold xR;rw [hds];split<;>rfl
      have hne0:gs≠ []:=by intro e;rw [e] at hgl;simp at hgl;omega
      obtain ⟨gg,gc,hgv,hgw,anX,hob⟩:=g'.ga.blk hne0;subst hgv;(repeat' (first|refine qq0 ?_|(refine aa1 (fun _=>?_) (fun _=>?_)<;>(first|(exfalso;omega)|skip))));refine aV rfl (by kernel_rfl) (fun w'=>New w6 w') (Chg.drew _ _) ?_;intro w7 n7;refine aa0 (ax (u:=pT bg) rfl (fun w' hw=>(g66.chg hw id).cell (o:=0) rfl) (af ?_));refine qq4 ?_;refine aa0 (ax (u:=.slice (some ⟨gg,0,none⟩) gs.length gc) rfl (fun w' hw=>(g'.b.chg hw id).cell (o:=4) rfl) (af ?_));(repeat' (refine aa0 (aa4 (af ?_))));refine aa0 (ax (u:=vi e.src) rfl (fun w' hw=>(b6'.chg hw id).cell (o:=0) rfl) (af ?_));refine aa0 (aa8 (af ?_));refine Wt.last rfl (dI (f:=vbo) (q:=true) (j:=e.src) (cap:=gc) (g'.ga.new (oH _) n7) rfl (by omega) (by show Value.pointer (some ⟨gg,0+(e.src:Int).toNat*1,none⟩)=_;simp) rfl rfl rfl fun w8 o8 c8=>?_);refine ak ?_;have g8:=(g'.new n7).gap o8 c8;have c68:Chg (fun k=>k=gg) w6 w8:=Chg.trans n7.any c8 fun k _ e=>by cases e;rfl
      have hwD:gg≠D:=g'.ga.nl (.mark hD6) rfl;have hw6:gg≠b6:=g'.ga.pK g66 rfl rfl;refine qq0 ?_;exact aA (k+1,bs,gs.set e.src true) (sl rfl) ⟨by dsimp only;omega,hno',by simpa using hgl,g8,g66.chg c68 (fun e=>hw6 e.symm),(Chg.trans (M:=fun k=>k=gg) n06.any c68 fun k _ e=>e).tN,(c68.block _ aeY (fun e=>hwD e.symm)).trans hD6⟩ (by dsimp only;omega)
     |some d=>
      rw [show qx (some d)=(d:Int) from rfl];have hne0:bs≠ []:=by intro e;rw [e] at hb2;simp at hb2;omega
      obtain ⟨wg,wc,hwv,hwl,aeW,hob⟩:=g'.wa.row.blk hne0;obtain ⟨⟨xv,xl⟩,hx⟩:=oZ bs (k:=e.src) (by omega);have hxo:=g'.wa.el _ (apA hx);dsimp only at hxo;obtain ⟨xa,xc,rfl,aaY,Y1⟩:=hxo.form;have Y2:xl=DK t e.src++((pI t).take k).filterMap (xR e.src):=by have h1:=congrArg (fun l=>l[e.src]?) hbs;simp only [apC,hx,aq0 hlt.1,adC,Option.some.injEq] at h1;exact h1
      have aeZ:xl.length<=10000000:=by
       rw [Y2,adE];have h1:(DK t e.src).length<=1:=by unfold DK;split<;>simp
       have h2:=arS (xR e.src) ((pI t).take k);have h3:((pI t).take k).length<=(pI t).length:=by rw [ao8];omega
       omega
      subst hwv;(repeat' (first|refine qq0 ?_|(refine aa1 (fun _=>?_) (fun _=>?_)<;>(first|(exfalso;omega)|skip))));refine aV rfl (by kernel_rfl) (fun w'=>Chg (fun j=>(Value.slice xa xl.length xc).ownBlock=some j) w6 w') (Chg.drew _ _) ?_;intro w7 n7;have h6': ∀w',Chg (fun j=>(Value.slice xa xl.length xc).ownBlock=some j) w6 w'->Bk w' b6 140 [pT bg]:=fun w' c=>g66.chg c fun e=>hxo.pK g66 rfl e rfl;have hg': ∀w',Chg (fun j=>(Value.slice xa xl.length xc).ownBlock=some j) w6 w'->Bk w' bg 145 (grC (.slice a t.length cap) hm (.slice ea (pI t).length ec) (.slice (some ⟨wg,0,none⟩) bs.length wc) gv pv):=fun w' c=>g'.b.chg c fun e=>hxo.pK g'.b rfl e rfl;have hx': ∀w',Chg (fun j=>(Value.slice xa xl.length xc).ownBlock=some j) w6 w'->Bk w' W.heap.size 100 (edC e (.slice aa e.args.length ac)):=fun w' c=>b6'.chg c fun e=>hxo.pK b6' rfl e rfl;refine aa0 (ax (u:=pT bg) rfl (fun w' hw=>(h6' w' hw).cell (o:=0) rfl) (af ?_));refine qq4 ?_;refine aa0 (ax (u:=.slice (some ⟨wg,0,none⟩) bs.length wc) rfl (fun w' hw=>(hg' w' hw).cell (o:=3) rfl) (af ?_));(repeat' (refine aa0 (aa4 (af ?_))));refine aa0 (ax (u:=vi e.src) rfl (fun w' hw=>(hx' w' hw).cell (o:=0) rfl) (af ?_));refine aa0 (ax (u:=pT bg) rfl (fun w' hw=>(h6' w' hw).cell (o:=0) rfl) (af ?_));refine qq4 ?_;refine aa0 (ax (u:=.slice (some ⟨wg,0,none⟩) bs.length wc) rfl (fun w' hw=>(hg' w' hw).cell (o:=3) rfl) (af ?_));(repeat' (refine aa0 (aa4 (af ?_))));refine aa0 (ax (u:=vi e.src) rfl (fun w' hw=>(hx' w' hw).cell (o:=0) rfl) (af ?_));refine aa0 (aa8 (af ?_));have hrow: ∀w',Chg (fun j=>(Value.slice xa xl.length xc).ownBlock=some j) w6 w'->w'.cell? ⟨wg,0+(e.src:Int).toNat*1,none⟩=some (.slice xa xl.length xc):=fun w' c=>by have h9:=(g'.wa.row.chg (oh _) c fun j hj e=>g'.wa.vG _ (apA hx) j e hj).at rfl rfl hx;have:=h9.get 0 rfl;simpa using this
      refine aa0 (ax (u:=.slice xa xl.length xc) rfl hrow (af ?_));(repeat' (refine aa0 (aa4 (af ?_))));refine aa0 (ax (u:=vi d) rfl (fun w' hw=>by have:=(hx' w' hw).cell (o:=1) (u:=vi (qx e.dst)) rfl;rw [hds] at this;exact this) (af ?_));refine aG rfl (bG (R:=Wk.one viN) (Pe:=NoB) (y:=d) qE rfl rfl rfl rfl (by omega) (by omega) fun v8 w8 o8 n8 s8 e8=>?_);have n78:=n7.trans n8;refine ak ⟨rfl,n78.any,?_⟩;refine aG rfl (bH qE (hxo.new (oH _) n78) (o8.rd qE.mo) (fun y cs hy=>hy) rfl rfl (by omega) (by simp only [maxLen,apj];omega) (by simp only [apj];omega) fun v9 w9 o9 c9 lie _=>?_);have c69:Chg (fun j=>(Value.slice xa xl.length xc).ownBlock=some j) w6 w9:=Chg.trans n78.any c9 i3;refine ak ⟨rfl,c69,?_⟩;refine aa0 (aa8 (af ?_));have ajQ:=n78.size;refine Wt.last rfl (dI (f:=(·.1:uQ->Value)) (q:=(v9,xl++ [d])) (j:=e.src) (cap:=wc) (g'.wa.row.chg (oh _) c69 fun j hj e=>g'.wa.vG _ (apA hx) j e hj) rfl (by omega) (by show Value.pointer (some ⟨wg,0+(e.src:Int).toNat*1,none⟩)=_;simp) rfl rfl (by obtain ⟨_,_,rfl,_⟩:=o9.form;rfl) fun w10 o10 c10=>?_);refine ak ?_;have NS:v9.ownBlock=(Value.slice xa xl.length xc).ownBlock∨ ∀k,v9.ownBlock=some k->w6.heap.size<=k:=lie.imp id fun h9 k hk=>by have:=h9 k hk;omega
      have g10:=g'.want hx (x':=(v9,xl++ [d])) (w1:=w9) (o9.mono (oU _) (fun b _ e=>by rcases e with e|e;exact e;omega) i3) c69 NS o10 c10;have G6:Chg (fun j=>(Value.slice xa xl.length xc).ownBlock=some j∨j=wg) w6 w10:=Chg.trans (c69.mono fun k _ e=>Or.inl e) c10 fun k _ e=>by cases e;exact .inr rfl
      have hwD:wg≠D:=g'.wa.row.nl (.mark hD6) rfl;have hw6:wg≠b6:=g'.wa.row.pK g66 rfl rfl;have hxD: ∀j,(Value.slice xa xl.length xc).ownBlock=some j->j≠D/\j≠b6/\w.heap.size<=j:=fun j hj=>⟨hxo.nl (.mark hD6) hj,hxo.pK g66 rfl hj,(hxo.lt hj).1⟩;refine qq0 ?_;refine aA (k+1,bs.set e.src (v9,xl++ [d]),gs) (sl rfl) ⟨by dsimp only;omega,?_,hgl,g10,g66.chg G6 (fun e=>e.elim (fun e=>(hxD _ e).2.1 rfl) fun e=>hw6 e.symm),(Chg.trans (M:=fun j=>(Value.slice xa xl.length xc).ownBlock=some j∨j=wg) n06.any G6 fun k _ e=>e).toNew fun k hk e=>by rcases e with e|e;(have:=(hxD k e).2.2;omega);omega,(G6.block _ aeY (fun e=>e.elim (fun e=>(hxD _ e).1 rfl) fun e=>hwD e.symm)).trans hD6⟩ (by dsimp only;omega);show aru _ (bs.set e.src _)=_;rw [arx,hbs,Ak hlt.1];apply ap8;intro j _;dsimp only;rw [hst j];by_cases e1:j=e.src
      ·rw [if_pos e1,Y2,e1];unfold xR;rw [if_pos ⟨rfl,hso⟩,hds];rfl
      ·rw [if_neg e1];unfold xR;rw [if_neg (fun h=>e1 h.1.symm)];simp
    ·have hno':=hno fun j=>by unfold xR;rw [if_neg (fun h=>by rw [hso] at h;cases h.2)]
     refine qq0 ?_;exact aA (k+1,bs,gs) (sl rfl) ⟨by dsimp only;omega,hno',hgl,g',g66,n06,hD6⟩ (by dsimp only;omega)
   ·obtain rfl:k=(pI t).length:=by omega
    rw [apW] at hbs;refine ah (u:=pT bg) rfl (g6.cell (o:=0) rfl) ?_;refine qq3 ?_;refine Qdn.e ?_;refine gu (by simp) hD ?_;have hnD:NoC W D:=.mark hD;refine dN (v:=.tuple #[pT bg,vi 0]) (rQ rfl (qy rfl) (qy rfl)) ⟨_,rfl,⟨bg,hm,.slice ea (pI t).length ec,wv,gv,pv,gs,bs,rfl,?_,hbs,hgl⟩,nW.put _ (by omega)⟩;exact (g.put _ hnD (by omega) (by omega)).aeQ
 ·exact fun _ h=>h.elim
 ·exact fun _ _ h=>h.elim
open Classical in
noncomputable def FO (W:Nat->List Nat) (n i:Nat):List Bool:=(abM n).map fun k=>decide (Rch W i k)
theorem QG (W:Nat->List Nat) (n i:Nat):(FO W n i).length=n:=by simp [FO]
theorem CV {W:Nat->List Nat} {n i k:Nat} (hk:k<n): ∃b,(FO W n i)[k]? =some b/\(b=true↔Rch W i k):=by
 unfold FO;refine ⟨_,by rw [apC,aq0 hk];rfl,?_⟩;simp
structure Mrk (W:Nat->List Nat) (i:Nat) (ks:List Nat) (S S':List Bool):Prop where
 len:S'.length=S.length
 mo: ∀k:Nat,S[k]? =some true->S'[k]? =some true
 snd: ∀k:Nat,S'[k]? =some true->S[k]? =some true∨Rch W i k
 all: ∀k∈ks,S'[k]? =some true
 cl: ∀k:Nat,S'[k]? =some true->S[k]? =some true∨ ∀m∈W k,S'[m]? =some true
theorem kM (W:Nat->List Nat) (i:Nat) (S:List Bool):Mrk W i [] S S:=⟨rfl,fun _ h=>h,fun _ h=>.inl h,by simp,fun _ h=>.inl h⟩
theorem Mrk.skip {W:Nat->List Nat} {i k:Nat} {ks:List Nat} {S S':List Bool} (h:Mrk W i ks S S') (hk:S'[k]? =some true):Mrk W i (ks++ [k]) S S':=
 ⟨h.len,h.mo,h.snd,fun m hm=>by
   rcases List.mem_append.1 hm with hm|hm
   ·exact h.all m hm
   ·rw [List.mem_singleton.1 hm];exact hk,h.cl⟩
theorem Mrk.step {W:Nat->List Nat} {i k:Nat} {ks:List Nat} {S S1 S2:List Bool} (h:Mrk W i ks S S1) (hk:k∈W i) (hl:k<S1.length) (h2:Mrk W k (W k) (S1.set k true) S2):Mrk W i (ks++ [k]) S S2:=by
 have hset: ∀m:Nat,(S1.set k true)[m]? =some true↔m=k∨S1[m]? =some true:=fun m=>by
  rw [apl];by_cases e:k=m
  ·subst e;simp [hl]
  ·rw [if_neg e];constructor
   ·exact .inr
   ·rintro (e2|e2)
    ·exact absurd e2.symm e
    ·exact e2
 have mo2: ∀m:Nat,S1[m]? =some true->S2[m]? =some true:=fun m hm=>h2.mo m ((hset m).2 (.inr hm));have hk2:S2[k]? =some true:=h2.mo k ((hset k).2 (.inl rfl));refine ⟨by rw [h2.len,aqV,h.len],fun m hm=>mo2 m (h.mo m hm),fun m hm=>?_,fun m hm=>?_,fun m hm=>?_⟩
 ·rcases h2.snd m hm with e|e
  ·rcases (hset m).1 e with rfl|e
   ·exact .inr (.one hk)
   ·exact h.snd m e
  ·exact .inr (Rch.trans (.one hk) e)
 ·rcases List.mem_append.1 hm with hm|hm
  ·exact mo2 m (h.all m hm)
  ·rw [List.mem_singleton.1 hm];exact hk2
 ·rcases h2.cl m hm with e|e
  ·rcases (hset m).1 e with rfl|e
   ·exact .inr h2.all
   ·rcases h.cl m e with e2|e2
    ·exact .inl e2
    ·exact .inr fun q hq=>mo2 q (e2 q hq)
  ·exact .inr e
theorem Mrk.full {W:Nat->List Nat} {i n:Nat} {S':List Bool} (h:Mrk W i (W i) (apT n false) S'):S'=FO W n i:=by
 have hf: ∀k:Nat,(apT n false)[k]? ≠some true:=fun k e=>by rw [arG] at e;split at e<;>cases e
 have hin: ∀k,Rch W i k->S'[k]? =some true:=by
  intro k hk;induction hk with
  |one h1=>exact h.all _ h1
  |more _ h1 ih=>exact (h.cl _ ih).resolve_left (hf _) _ h1
 have hl:S'.length=n:=by rw [h.len];simp
 apply ao3;intro k;by_cases hk:k<n
 ·obtain ⟨b,e,hb⟩:=CV (W:=W) (i:=i) hk;rw [e];obtain ⟨c,hc⟩:=oZ S' (k:=k) (by omega);rw [hc];congr 1;cases c<;>cases b
  ·rfl
  ·have:=hin k (hb.1 rfl);rw [hc] at this;cases this
  ·have:=(h.snd k hc).resolve_left (hf k);have:=hb.2 this;cases this
  ·rfl
 ·rw [aoP (by omega),aoP (by rw [QG];omega)]
def opn (S:List Bool):Nat:=S.count false
theorem Vx {S:List Bool} {k:Nat} (h:S[k]? =some false):opn (S.set k true)+1=opn S:=by
 unfold opn;obtain ⟨hl,e⟩:=List.getElem?_eq_some_iff.1 h;have h1:=arQ (a:=true) (b:=false) hl;have h2:0<S.count false:=List.count_pos_iff.2 (apA h);rw [h1,e];simp;omega
theorem Mrk.opn {W:Nat->List Nat} {i:Nat} {ks:List Nat} {S S':List Bool} (h:Mrk W i ks S S'):opn S'<=opn S:=by
 unfold Go.Proofs.YtfbnfhhmiiahnaaGreatDoor.opn;have key: ∀(S S':List Bool),S'.length=S.length->(∀k:Nat,S[k]? =some true->S'[k]? =some true)->S'.count false<=S.count false:=by
  intro S;induction S with
  |nil=>intro S' h1 _;rw [aoM h1];simp
  |cons b r ih=>
   intro S' h1 h2;cases S' with
   |nil=>simp at h1
   |cons c r'=>
    have:=ih r' (by simpa using h1) (fun k hk=>by have:=h2 (k+1) (by simpa using hk);simpa using this);rw [arE,arE];cases b<;>cases c<;>simp<;>try omega
    have:=h2 0 rfl;simp at this
 exact key S S' h.len h.mo
structure Rc (W0:World) (bg b1 b2 b3:Nat) (sv:Value) (W:World):Prop where
 n:New W0 W
 v1:Bk W b1 140 [pT bg]
 v2:Bk W b2 44 [sv]
 v3:Bk W b3 117 [.func (.func 99) #[] #[pT b1,pT b2,pT b3]]
theorem Rc.chg {W0 W W':World} {bg b1 b2 b3:Nat} {sv:Value} {S:List Bool} {Pb:Nat->Prop} (h:Rc W0 bg b1 b2 b3 sv W) (own:oJ (Wk.one vbo) 4 1 Pb NoB W sv S) (hlo: ∀k,sv.ownBlock=some k->W0.heap.size<=k) (c:Chg (fun k=>sv.ownBlock=some k) W W'):Rc W0 bg b1 b2 b3 sv W':=
 ⟨(Chg.trans h.n.any c fun k _ e=>e).toNew fun k hk e=>by have:=hlo k e;omega,h.v1.chg c fun e=>own.pK h.v1 rfl e rfl,h.v2.chg c fun e=>own.pK h.v2 rfl e rfl,h.v3.chg c fun e=>own.pK h.v3 rfl e rfl⟩
theorem QH {lo bg hm b6 b1 b2 b3:Nat} {t:List Nd} {m:List (Nat×Nat)} {es:List Ed} {bs:List uQ} {gs:List Bool} {ps:List Nm} {lv ev wv gv pv sv:Value} {W0:World} {Wn:Nat->List Nat}
 (g0:GrA lo bg hm b6 t m es bs gs ps lv ev wv gv pv W0) (hW:bs.map (·.2)=(abM t.length).map Wn) (hIn: ∀i,i<t.length-> ∀k∈Wn i,k<t.length) (hlo: ∀k,sv.ownBlock=some k->W0.heap.size<=k):
 ∀(N:Nat) (w:World) (S:List Bool) (i:Nat),opn S<=N->i<t.length->S.length=t.length->Rc W0 bg b1 b2 b3 sv w->oJ (Wk.one vbo) 4 1 (fun b=>W0.heap.size<=b) NoB w sv S->
  Calls prog 99 #[vi i,pT b1,pT b2,pT b3] w (Ret fun _ w'=> ∃S',Mrk Wn i (Wn i) S S'/\oJ (Wk.one vbo) 4 1 (fun b=>W0.heap.size<=b) NoB w' sv S'/\Chg (fun k=>sv.ownBlock=some k) w w'):=by
 intro N;induction N using aqg with
 |ind N IH=>
  intro w S i hN hi hS rc own;have hb2:bs.length=t.length:=by have:=congrArg aqX hW;simpa using this
  obtain ⟨⟨xv,xl⟩,hx⟩:=oZ bs (k:=i) (by omega);have hxl:xl=Wn i:=by have h1:=congrArg (fun l=>l[i]?) hW;simp only [apC,hx,aq0 hi,adC,Option.some.injEq] at h1;exact h1
  subst hxl;have hxo:=g0.wa.el _ (apA hx);dsimp only at hxo;obtain ⟨xa,xc,rfl,aaY,Y1⟩:=hxo.form;simp only [maxLen] at Y1;obtain ⟨wg,wc,hwv,hwl,aeW,hob⟩:=g0.wa.row.blk (by intro e;rw [e] at hb2;simp at hb2;omega);subst hwv;have g:=g0.new rc.n;refine oG func99 rfl ntmps99 rfl ?_;refine qq0 ?_;refine ah (u:=pT bg) rfl (rc.v1.cell (o:=0) rfl) ?_;refine qq2 ?_;refine ah (u:=.slice (some ⟨wg,0,none⟩) bs.length wc) rfl (g.b.cell (o:=3) rfl) ?_;(repeat' (refine aa2 ?_));refine di rfl rfl (by omega) (by omega) ?_;have hrow:w.cell? ⟨wg,0+(i:Int).toNat*1,none⟩=some (.slice xa (Wn i).length xc):=by have:=(g.wa.row.at rfl rfl hx).get 0 rfl;simpa using this
  refine ah (u:=.slice xa (Wn i).length xc) rfl hrow ?_;refine qq0 ?_;refine aC (σ:=Nat×List Bool) (fun q=>[(1,pT b1),(2,pT b2),(3,pT b3),(13,.slice xa (Wn i).length xc),(14,vi (Wn i).length),(15,vi q.1)]) (fun q W=>q.1<=(Wn i).length/\Mrk Wn i ((Wn i).take q.1) S q.2/\oJ (Wk.one vbo) 4 1 (fun b=>W0.heap.size<=b) NoB W sv q.2/\Rc W0 bg b1 b2 b3 sv W/\Chg (fun k=>sv.ownBlock=some k) w W) (fun q=>(Wn i).length-q.1) (0,S) (sl rfl) ⟨aoW _,kM _ _ _,own,rc,aB _ _⟩ ?_;rintro ⟨j,S1⟩ G W ⟨hj,hM,BQ,rc1,c1⟩;dsimp only at hj hM BQ rc1 c1;simp only [qi];have hl1:S1.length=t.length:=by rw [hM.len];exact hS
  obtain ⟨sg,scp,hsv,hsl,hsl2,anY⟩:=BQ.blk (by intro e;rw [e] at hl1;simp at hl1;omega);(repeat' (first|refine qq2 ?_|refine aa1 (fun _=>?_) (fun _=>?_)))
  ·obtain ⟨k,hk⟩:=oZ (Wn i) (k:=j) (by omega);have hkm:=apA hk;have hkl:=hIn i hi k hkm;have hxW:=(hxo.new (oH _) rc1.n).rd qE.mo;refine bC hxW rfl rfl (by omega) hk fun b o hcell=>?_;refine ah (u:=vi k) rfl hcell ?_;refine qq0 ?_;refine ah (u:=sv) rfl (rc1.v2.cell (o:=0) rfl) ?_;(repeat' (refine aa2 ?_));obtain ⟨mb,hmb⟩:=oZ S1 (k:=k) (by omega);refine bC (BQ.rd GY.mo) rfl rfl (by omega) hmb fun b o hcell=>?_;refine ah (u:=.bool mb) rfl hcell ?_;cases mb
   ·refine qq3 ?_;refine ah (u:=sv) rfl (rc1.v2.cell (o:=0) rfl) ?_;(repeat' (refine aa2 ?_));rw [hl1] at hsv;refine di (b:=sg) (off:=0) (l:=t.length) (cap:=scp) hsv rfl (by omega) (by omega) ?_;refine dI (f:=vbo) (q:=true) (j:=k) (cap:=scp) BQ (by rw [hl1];exact hsv) (by omega) (by show Value.pointer (some ⟨sg,0+(k:Int).toNat*1,none⟩)=_;simp) rfl rfl rfl fun w2 o2 c2=>?_;have rc2:=rc1.chg BQ hlo c2;refine qq0 ?_;refine ah (u:=.func (.func 99) #[] #[pT b1,pT b2,pT b3]) rfl (rc2.v3.cell (o:=0) rfl) ?_;(repeat' (refine aa2 ?_));have hop:=Vx hmb;have hop1:=hM.opn;refine bU (dst:=some 29) rfl (IH (opn (S1.set k true)) (by omega) w2 (S1.set k true) k (aam _) hkl (by rw [aqV];exact hl1) rc2 o2) rfl ?_;rintro u w3 ⟨S3,hM3,o3,c3⟩;simp only [xJ];have rc3:=rc2.chg o2 hlo c3;refine qq0 ?_;refine aA (j+1,S3) (sl rfl) ⟨by dsimp only;omega,?_,o3,rc3,Chg.trans (Chg.trans c1 c2 i3) c3 i3⟩ (by dsimp only;omega);dsimp only;rw [take_snoc hk];exact hM.step hkm (by omega) hM3
   ·refine qq0 ?_;refine aA (j+1,S1) (sl rfl) ⟨by dsimp only;omega,?_,BQ,rc1,c1⟩ (by dsimp only;omega);dsimp only;rw [take_snoc hk];exact hM.skip hmb
  ·obtain rfl:j=(Wn i).length:=by omega
   rw [apW] at hM;exact dh rfl ⟨_,rfl,S1,hM,BQ,c1⟩
section
variable {lo bg hm b6:Nat} {t:List Nd} {m:List (Nat×Nat)} {es:List Ed} {bs:List uQ} {gs:List Bool} {ps:List Nm} {lv ev wv gv pv:Value} {W:World} {Wn:Nat->List Nat}
theorem JZ {i:Nat} (g:GrA lo bg hm b6 t m es bs gs ps lv ev wv gv pv W) (hok:pJ t=true) (hW:bs.map (·.2)=(abM t.length).map Wn) (hIn: ∀i,i<t.length-> ∀k∈Wn i,k<t.length) (hi:i<t.length):
 Calls prog 75 #[pT bg,vi i] W (Ret fun r w'=>oJ (Wk.one vbo) 4 1 (fun b=>W.heap.size<=b) NoB w' r (FO Wn t.length i)/\New W w'):=by
 have hlen:=qm hok;obtain ⟨la,lc,rfl,_,_⟩:=g.tr.form;refine oG func75 rfl ntmps75 rfl ?_;refine qq0 ?_;refine Wl.box rfl fun w1 b1 n1 s1=>?_;replace b1:Bk w1 W.heap.size 140 [pT bg]:=b1;refine qq0 ?_;refine ah (u:=pT bg) rfl (b1.cell (o:=0) rfl) ?_;refine qq2 ?_;refine ah (u:=.slice la t.length lc) rfl ((g.new n1).b.cell (o:=0) rfl) ?_;(repeat' (refine bZ rfl ?_));refine eU (f:=vbo) (y0:=false) (Pe:=NoB) rfl rfl rfl (by omega) (by omega) (by omega) fun sv w2 o2 n2=>?_;rw [ao0] at o2;obtain ⟨sa,sc,rfl,_,_⟩:=o2.form;refine Wl.alloc fun w3 b3 n3 s3=>?_;have hz1:=n1.size;have hz2:=n2.size;refine aO (u:=.slice sa (apT t.length false).length sc) b3 rfl (show (0:Nat)<1 by omega) (by rw [arz];rfl) rfl fun w4 b4 c4=>?_;replace b4:Bk w4 w2.heap.size 44 [.slice sa (apT t.length false).length sc]:=b4;have n24:New w2 w4:=(Chg.trans n3.any c4 i3).tN
 have hz4:=n24.size;refine qq0 ?_;refine Wl.alloc fun w5 b5 n5 s5=>?_;replace b5:Bk w5 w4.heap.size 117 [.nilFunc]:=b5;refine qq0 ?_;refine dn (f1:=[]) (c1:=[pT W.heap.size,pT w2.heap.size,pT w4.heap.size]) rfl rfl ?_;refine aO (u:=.func (.func 99) #[] #[pT W.heap.size,pT w2.heap.size,pT w4.heap.size]) b5 rfl (show (0:Nat)<1 by omega) rfl rfl fun w6 b6' c6=>?_;replace b6':Bk w6 w4.heap.size 117 [.func (.func 99) #[] #[pT W.heap.size,pT w2.heap.size,pT w4.heap.size]]:=b6';have n46:New w4 w6:=(Chg.trans n5.any c6 i3).tN
 have n26:=New.trans n24 n46;have rc:Rc W bg W.heap.size w2.heap.size w4.heap.size (.slice sa (apT t.length false).length sc) w6:=⟨New.trans (New.trans n1 n2) n26,b1.chg (New.trans n2 n26) id,b4.chg n46 id,b6'⟩;have o6:=o2.new (oH _) n26;refine qq0 ?_;refine ah (u:=.func (.func 99) #[] #[pT W.heap.size,pT w2.heap.size,pT w4.heap.size]) rfl (rc.v3.cell (o:=0) rfl) ?_;(repeat' (refine aa2 ?_));refine bU (dst:=some 16) rfl (QH (Wn:=Wn) g hW hIn (fun k hk=>by have h9:w1.heap.size<=k:=(o6.lt hk).1;omega) _ w6 (apT t.length false) i (aam _) hi (by simp) rc (o6.mono (oU _) (fun b _ e=>by have h9:w1.heap.size<=b:=e;omega) i3)) rfl ?_;rintro u w7 ⟨S',hM,o7,c7⟩;simp only [xJ];have rc7:=rc.chg o6 (fun k hk=>by have h9:w1.heap.size<=k:=(o6.lt hk).1;omega) c7;refine qq0 ?_;refine ah (u:=.slice sa (apT t.length false).length sc) rfl (rc7.v2.cell (o:=0) rfl) ?_;refine qq3 ?_;have:=hM.full;subst this;exact ay rfl rfl ⟨_,rfl,o7,rc7.n⟩
abbrev TN:=Value×List Bool
abbrev brC:TN->List Value:=fun x=>[x.1]
abbrev BLs (lo:Nat) (w:World) (v:Value) (rs:List TN):Prop:=LLs brC (·.1) (·.2) vbo 44 4 1 (fun b=>lo<=b) w v rs
theorem Y3 (g:GrA lo bg hm b6 t m es bs gs ps lv ev wv gv pv W) (hok:pJ t=true) (hW:bs.map (·.2)=(abM t.length).map Wn) (hIn: ∀i,i<t.length-> ∀k∈Wn i,k<t.length):
 Calls prog 117 #[pT bg] W (Ret fun r w'=>(∃rs,BLs W.heap.size w' r rs/\rs.map (·.2)=(abM t.length).map (FO Wn t.length))/\New W w'):=by
 have hlen:=qm hok;have hpos:=tC hok;obtain ⟨la,lc,rfl,_,_⟩:=g.tr.form;refine oG func117 rfl ntmps117 rfl ?_;refine qq0 ?_;refine ah (u:=.slice la t.length lc) rfl (g.b.cell (o:=0) rfl) ?_;(repeat' (refine bZ rfl ?_));refine eU (f:=(·.1:TN->Value)) (y0:=(.slice none 0 0,[])) (Pe:=NoB) rfl rfl rfl (by omega) (by omega) (by omega) fun sv w1 o1 n1=>?_;rw [ao0] at o1;obtain ⟨sg,sc,hsv,_,_,hob⟩:=o1.blk (by intro e;rw [arF] at e;omega);rw [arz] at hsv;subst hsv;have L0:BLs W.heap.size w1 (.slice (some ⟨sg,0,none⟩) t.length sc) (apT t.length (.slice none 0 0,[])):=⟨o1,fun b hb=>(by rw [(List.mem_replicate.1 hb).2];exact aN),fun b hb=>(by rw [(List.mem_replicate.1 hb).2];intro k e;cases e),fun i j b c _ hb _=>(by rw [(List.mem_replicate.1 (apA hb)).2];intro k e;cases e)⟩;have e0:(apT t.length ((.slice none 0 0,[]):TN)).map (·.2)=(abM t.length).map fun j=>if j<0 then FO Wn t.length j else []:=by
  rw [arR];apply ao3;intro j;rw [arG,apC];by_cases hj:j<t.length
  ·rw [if_pos hj,aq0 hj];rfl
  ·rw [if_neg hj,aoP (by simpa using hj)];rfl
 refine qq0 ?_;refine aC (σ:=Nat×List TN) (fun q=>[(0,pT bg),(3,.slice (some ⟨sg,0,none⟩) t.length sc),(12,vi t.length),(13,vi q.1)]) (fun q w'=>q.1<=t.length/\BLs W.heap.size w' (.slice (some ⟨sg,0,none⟩) t.length sc) q.2/\q.2.map (·.2)=((abM t.length).map fun j=>if j<q.1 then FO Wn t.length j else [])/\New W w') (fun q=>t.length-q.1) (0,apT t.length (.slice none 0 0,[])) (sl rfl) ⟨aoW _,L0,e0,n1⟩ ?_;rintro ⟨i,rs⟩ G w2 ⟨hi,L2,e2,n2⟩;dsimp only at hi L2 e2 n2;simp only [qi];have hrl:rs.length=t.length:=by have:=congrArg aqX e2;simpa using this
 (repeat' (first|refine qq1 ?_|refine aa1 (fun _=>?_) (fun _=>?_)))
 ·have hil:i<t.length:=by omega
  refine au (JZ (g.new n2) hok hW hIn hil) rfl ?_;rintro rv w3 ⟨o3,n3⟩;obtain ⟨ra,rc,hrv,_,_⟩:=o3.form;obtain ⟨x,hx⟩:=oZ rs (k:=i) (by omega);refine di rfl rfl (by omega) (by omega) ?_;have hz2:=n2.size;refine dI (f:=(·.1:TN->Value)) (q:=(rv,FO Wn t.length i)) (j:=i) (cap:=sc) (L2.row.new (oh _) n3) (by rw [hrl]) (by omega) (by show Value.pointer (some ⟨sg,0+(i:Int).toNat*1,none⟩)=_;simp) rfl rfl (by rw [hrv];rfl) fun w4 o4 c4=>?_;have L4:=L2.set hx (b':=(rv,FO Wn t.length i)) (w1:=w3) (o3.mono (oU _) (fun b _ e=>by have h9:w2.heap.size<=b:=e;omega) i3) n3.any (.inr fun k hk=>(o3.lt hk).1) o4 c4;have hsg:W.heap.size<=sg:=(L2.row.lt rfl).1;refine qq0 ?_;refine aA (i+1,rs.set i (rv,FO Wn t.length i)) (sl rfl) ⟨by dsimp only;omega,L4,?_,Chg.trans (New.trans n2 n3) c4 fun k hk e=>by have h9:W.heap.size<=k:=(L2.row.lt e).1;omega⟩ (by dsimp only;omega);dsimp only;rw [arx,e2,Ak hil];apply ap8;intro j _;by_cases e1:j=i
  ·rw [if_pos e1,if_pos (by omega),e1]
  ·rw [if_neg e1];by_cases e3:j<i
   ·rw [if_pos e3,if_pos (by omega)]
   ·rw [if_neg e3,if_neg (by omega)]
 ·obtain rfl:i=t.length:=by omega
  refine ay rfl rfl ⟨_,rfl,⟨rs,L2,?_⟩,n2⟩;rw [e2];apply ap8;intro j hj;rw [if_pos (by simpa using hj)]
theorem Y4 (pt:Nat->Nm) (a b:Nat):Fg (pt a) (pt b)=sJ (fun _=>0) pt a b:=by
 unfold Fg sJ;rw [if_neg (arT 0),if_neg (arT 0)]
theorem NT {b2 a c:Nat} {w:World} (g:GrA lo bg hm b6 t m es bs gs (qw t) lv ev wv gv pv w) (h2:Bk w b2 140 [pT bg]) (ha:a<t.length) (hc:c<t.length) (hlen:t.length<=512):
 Calls prog 163 #[vi a,vi c,pT b2] w (Ret fun r w'=>r=vi (sJ (fun _=>0) (pV t) a c)/\Grw w w'):=by
 have hpl:=wV t;obtain ⟨pa,pc,rfl,_,_⟩:=g.pa.form;have hrd:=g.pa.rd qW.mo;refine oG func163 rfl ntmps163 rfl ?_;refine qq0 ?_;refine iq [0,1,2,3,4,5,6,7,8,9,10,11,12,13] [14,15] rfl (by kernel_rfl) (by simp only [pick,aq1,aq2];rfl) (by simp only [pick,aq1,aq2];rfl) (Grw w) (Grw.drew w) ?_;refine ax (u:=pT bg) rfl (fun w' hw=>(h2.chg hw.new id).cell (o:=0) rfl) ?_;(repeat' (first|refine dD rfl ?_|refine aa4 ?_));refine ax (u:=.slice pa (qw t).length pc) rfl (fun w' hw=>(g.b.chg hw.new id).cell (o:=5) rfl) ?_;(repeat' (refine aa3 ?_));refine dA (y:=pV t a) hrd (fun w' hw=>hw.new.keep) rfl rfl (by omega) (uo ha) fun bb off hcell=>?_;refine ax (u:=vs (pV t a)) rfl hcell ?_;refine ax (u:=pT bg) rfl (fun w' hw=>(h2.chg hw.new id).cell (o:=0) rfl) ?_;(repeat' (first|refine dD rfl ?_|refine aa4 ?_));refine ax (u:=.slice pa (qw t).length pc) rfl (fun w' hw=>(g.b.chg hw.new id).cell (o:=5) rfl) ?_;(repeat' (refine aa3 ?_));refine dA (y:=pV t c) hrd (fun w' hw=>hw.new.keep) rfl rfl (by omega) (uo hc) fun bb off hcell=>?_;refine ax (u:=vs (pV t c)) rfl hcell ?_;(repeat' (refine af ?_));refine dH ?_;refine au (x8 (a:=pV t a) (b:=pV t c)) rfl ?_;rintro _ _ ⟨rfl,rfl⟩;refine ak ⟨rfl,Grw.drew w,?_⟩;refine Wch.last ?_;refine qq3 ?_;exact ay rfl rfl ⟨_,rfl,by rw [<-Y4];rfl,Grw.drew w⟩
theorem QI {Ps:Nat->Prop} {v:Value} {some_:List Nat} (g:GrA lo bg hm b6 t m es bs gs (qw t) lv ev wv gv pv W) (hok:pJ t=true) (hs:RdS (Wk.one viN) 1 Ps W v some_) (hin: ∀k∈some_,k<t.length) (hsl:some_.length<=100000):
 Calls prog 142 #[pT bg,v] W (Ret fun r w'=>oJ (Wk.one viN) 3 1 (fun b=>W.heap.size<=b) NoB w' r (some_.mergeSort fun x y=> !decide (sJ (fun _=>0) (pV t) y x<0))/\New W w'):=by
 have hlen:=qm hok;refine oG func142 rfl ntmps142 rfl ?_;refine qq0 ?_;refine Wl.box rfl fun w1 b1 n1 s1=>?_;replace b1:Bk w1 W.heap.size 140 [pT bg]:=b1;refine qq0 ?_;refine au (Qa (hs.keep (pF _) n1.keep) (by omega)) rfl ?_;rintro cv w2 ⟨o2,n2⟩;have n02:=New.trans n1 n2;have b2:=b1.chg n2 id;have hz1:=n1.size;refine qq0 ?_;refine dn (f1:=[]) (c1:=[pT W.heap.size]) rfl rfl ?_;refine au (Eh (g:=163) (cb:= #[pT W.heap.size]) (lv:=fun _=>0) (pt:=pV t) o2 (fun a ha b hb e=>GN hok (hin a ha) (hin b hb) e) (by omega) fun w' hw a ha b hb=>?_) rfl ?_
 ·have nW:New W w':=(Chg.trans n02.any hw fun k _ e=>e).toNew fun k hk e=>by have h9:w1.heap.size<=k:=(o2.lt e).1;omega
  refine (NT (g.new nW) (b2.chg hw fun e=>o2.pK b2 rfl e rfl) (hin a ha) (hin b hb) hlen).mono ?_;rintro _ w'' ⟨_,rfl,rfl,hg⟩;exact ⟨rfl,hg⟩
 rintro _ w3 ⟨o3,c3⟩;refine qq0 ?_;exact ay rfl rfl ⟨_,rfl,o3.mono (oU _) (fun b _ e=>by have h9:w1.heap.size<=b:=e;omega) i3,(Chg.trans n02.any c3 fun k _ e=>e).toNew fun k hk e=>by have h9:w1.heap.size<=k:=(o2.lt e).1;omega⟩
theorem TP (g:GrA lo bg hm b6 t m es bs gs (qw t) lv ev wv gv pv W) (hok:pJ t=true):
 Calls prog 118 #[pT bg] W (Ret fun r w'=>oJ (Wk.one viN) 3 1 (fun b=>W.heap.size<=b) NoB w' r (qp t)/\New W w'):=by
 have hlen:=qm hok;have hpos:=tC hok;obtain ⟨la,lc,rfl,_,_⟩:=g.tr.form;refine oG func118 rfl ntmps118 rfl ?_;refine qq0 ?_;refine ah (u:=.slice la t.length lc) rfl (g.b.cell (o:=0) rfl) ?_;(repeat' (refine bZ rfl ?_));refine eU (f:=viN) (y0:=0) (Pe:=NoB) rfl rfl rfl (by omega) (by omega) (by omega) fun sv w1 o1 n1=>?_;rw [ao0] at o1;obtain ⟨sg,sc,hsv,hsg,_,hob⟩:=o1.blk (by intro e;rw [arF] at e;omega);rw [arz] at hsv;subst hsv;refine qq0 ?_;refine aC (σ:=Nat) (fun i=>[(0,pT bg),(3,.slice (some ⟨sg,0,none⟩) t.length sc),(12,vi t.length),(13,vi i)]) (fun i w'=>i<=t.length/\oJ (Wk.one viN) 3 1 (fun b=>W.heap.size<=b) NoB w' (.slice (some ⟨sg,0,none⟩) t.length sc) (abM i++apT (t.length-i) 0)/\New W w') (fun i=>t.length-i) 0 (sl rfl) ⟨aoW _,by simpa using o1,n1⟩ ?_;rintro i G w2 ⟨hi,o2,n2⟩;simp only [qi];have hll:(abM i++apT (t.length-i) 0).length=t.length:=by simp;omega
 (repeat' (first|refine qq1 ?_|refine aa1 (fun _=>?_) (fun _=>?_)))
 ·refine di rfl rfl (by omega) (by omega) ?_;refine dI (f:=viN) (q:=i) (j:=i) (cap:=sc) o2 (by rw [hll]) (by omega) (by show Value.pointer (some ⟨sg,0+(i:Int).toNat*1,none⟩)=_;simp) rfl rfl rfl fun w3 o3 c3=>?_;refine qq0 ?_;refine aA (i+1) (sl rfl) ⟨by omega,?_,Chg.trans n2 c3 fun k hk e=>by have h9:W.heap.size<=k:=(o2.lt e).1;omega⟩ (by omega);have hset:(abM i++apT (t.length-i) 0).set i i=abM (i+1)++apT (t.length-(i+1)) 0:=by rw [show t.length-i=(t.length-(i+1))+1 by omega,arK,ao2 _ _ (by simp),arv];simp
  rw [hset] at o3;exact o3
 ·obtain rfl:i=t.length:=by omega
  rw [aq4,arL,aqG] at o2;refine au (QI (g.new n2) hok (o2.rd qE.mo) (fun k hk=>by simpa using hk) (by simp;omega)) rfl ?_;rintro rv w3 ⟨o3,n3⟩;have hz2:=n2.size;refine qq3 ?_;exact ay rfl rfl ⟨_,rfl,o3.mono (oU _) (fun b _ e=>by have h9:w2.heap.size<=b:=e;omega) i3,New.trans n2 n3⟩
end
theorem Ew {Pb:Nat->Prop} {w:World} {v:Value} {t:List Nd} (h:RdS rNd 3 Pb w v t) (hok:pJ t=true):
 Calls prog 26 #[v] w (Ret fun r w'=>(∃q,r=.tuple #[q,vi 0]/\RdS rEd 6 (fun b=>w.heap.size<=b) w' q (pI t))/\New w w'):=by
 refine oG func26 rfl ntmps26 rfl ?_;refine qq0 ?_;refine au (Bz h hok) rfl ?_;rintro _ w1 ⟨⟨bg,hm,ev,wv,gv,pv,gs,bs,rfl,g,hb,_⟩,n1⟩;(repeat' (first|refine qq0 ?_|(refine aa6 (fun _=>?_) (fun _=>?_)<;>(first|(exfalso;omega)|skip))));refine ah (u:=ev) rfl (g.b.cell (o:=2) rfl) ?_;refine qq3 ?_;exact aH rfl rfl rfl ⟨_,rfl,⟨ev,rfl,(g.ed.rd qH.mo).mono rC fun b _ e=>e.elim (fun e=>e.1) fun e=>e.1⟩,n1⟩
theorem Wk.LLs.at {Pb:Nat->Prop} {w:World} {g l c i n:Nat} {rs:List TN} {Wn:Nat->List Nat} (L:LLs brC (·.1) (·.2) vbo 44 4 1 Pb w (.slice (some ⟨g,0,none⟩) l c) rs) (e:rs.map (·.2)=(abM n).map (FO Wn n)) (hi:i<n):
 ∃a c',w.cell? ⟨g,0+(i:Int).toNat*1,none⟩=some (.slice a n c')/\RdS (Wk.one vbo) 1 Pb w (.slice a n c') (FO Wn n i):=by
 have hl:rs.length=n:=by have:=congrArg aqX e;simpa using this
 obtain ⟨⟨xv,xl⟩,hx⟩:=oZ rs (k:=i) (by omega);have h1:=congrArg (fun l=>l[i]?) e;simp only [apC,hx,aq0 hi,adC,Option.some.injEq] at h1;subst h1;have ho:=L.el _ (apA hx);dsimp only at ho;obtain ⟨a,c',rfl,_,_⟩:=ho.form;rw [QG] at*;refine ⟨a,c',?_,?_⟩
 ·have:=(L.row.at rfl rfl hx).get 0 rfl;simpa using this
 ·exact (ho.rd GY.mo).mono GY.mo fun b _ e=>e.resolve_right id
theorem Ey {t:List Nd} {k:Nat}:k∈qp t↔k<t.length:=by
 unfold qp;rw [arI,aoS]
theorem TQ (t:List Nd):(qp t).length=t.length:=by unfold qp;rw [aq9,arB]
theorem Me {t:List Nd} (hok:pJ t=true): ∀i,i<t.length-> ∀k∈qB t i,k<t.length:=by
 intro i hi k hk;rw [Md] at hk;rcases List.mem_append.1 hk with hk|hk
 ·unfold DK at hk;split at hk
  ·simp at hk;subst hk;have:=vg hok (i:=i) (by omega) hi;omega
  ·simp at hk
 ·obtain ⟨e,he,hd⟩:=List.mem_filterMap.1 hk;unfold xR at hd;split at hd
  ·exact (sW e he).2 k hd
  ·cases hd
open Classical in
noncomputable def rD (W:Nat->List Nat) (i k:Nat):Bool:=decide (Rch W i k/\Rch W k i)
open Classical in
theorem QJ {W:Nat->List Nat} {i k:Nat}:rD W i k=true↔Rch W i k/\Rch W k i:=by unfold rD;exact decide_eq_true_iff
open Classical in
theorem FP (W:Nat->List Nat) (order seen:List Nat) (i:Nat) (r:List Nat):uj W order seen (i::r)=if i∈seen∨ ¬Rch W i i then uj W order seen r else order.filter (rD W i)::uj W order (seen++order.filter (rD W i)) r:=by
 rw [uj];rfl
def G7 (seen:List Nat) (D:List Bool) (n:Nat):Prop:=D.length=n/\ ∀k,k<n->D[k]? =some (seen.contains k)
theorem G7.set {seen:List Nat} {D:List Bool} {n k:Nat} (h:G7 seen D n) (hk:k<n):G7 (seen++ [k]) (D.set k true) n:=by
 refine ⟨by rw [aqV];exact h.1,fun j hj=>?_⟩;have hl:=h.1;rw [apl];by_cases e:k=j
 ·subst e;rw [if_pos rfl,if_pos (by omega)];simp
 ·rw [if_neg e,h.2 j hj];congr 1;simp;intro e2;exact absurd e2.symm e
def rW:Rel uQ:=fun _ _ x cs=>cs=[x.1]/\x.1.oneCell'=true
theorem abZ:rJ rW 1:=⟨fun _ _ _ _ _ _ h=>h,fun _ _ _ _ _ _ h=>h,fun _ _ x cs ⟨e,h⟩ _ c hc=>by subst e;simp at hc;subst hc;exact h⟩
theorem Wk.LLs.ajR {e te:TypeId} {Pb:Nat->Prop} {w:World} {v:Value} {rs:List uQ} (L:LLs wrC (·.1) (·.2) viN te e 1 Pb w v rs):oJ rW te 1 Pb NoB w v rs:=by
 obtain ⟨cs,hoc,he⟩:=L.row;refine ⟨cs,hoc,fun i x hx=>⟨he i x hx,?_⟩⟩;obtain ⟨a,c,e,_⟩:=(L.el x (apA hx)).form;rw [show x.1=_ from e];rfl
theorem Wk.oJ.ajS {te:TypeId} {Pb:Nat->Prop} {w:World} {v:Value} {rs:List uQ} (h:oJ rW te 1 Pb NoB w v rs):oJ (flat wrC) te 1 Pb NoB w v rs:=by
 obtain ⟨cs,hoc,he⟩:=h;exact ⟨cs,hoc,fun i x hx=>(he i x hx).1⟩
abbrev RgL (lo:Nat) (w:World) (v:Value) (rs:List uQ):Prop:=LLs wrC (·.1) (·.2) viN 65 3 1 (fun b=>lo<=b) w v rs
theorem TR {Pb:Nat->Prop} {w:World} {v:Value} {t:List Nd} (h:RdS rNd 3 Pb w v t) (hok:pJ t=true):
 Calls prog 87 #[v] w (Ret fun r w'=>(∃q rs,r=.tuple #[q,vi 0]/\RgL w.heap.size w' q rs/\rs.map (·.2)=uz t)/\New w w'):=by
 have hlen:=qm hok;have hpos:=tC hok;have hIn:=Me hok;obtain ⟨a,cap,rfl,_,_⟩:=h.form;refine oG func87 rfl ntmps87 rfl ?_;refine qq0 ?_;refine au (Bz h hok) rfl ?_;rintro _ w1 ⟨⟨bg,hm,ev,wv,gv,pv,gs,bs,rfl,g,hbs,_⟩,n1⟩;(repeat' (first|refine qq0 ?_|(refine aa6 (fun _=>?_) (fun _=>?_)<;>(first|(exfalso;omega)|skip))));refine au (Y3 g hok hbs hIn) rfl ?_;rintro av w2 ⟨⟨rs,LR,hrs⟩,n2⟩;have hrl:rs.length=t.length:=by have:=congrArg aqX hrs;simpa using this
 obtain ⟨rg,rc,hav,_,hrg,anZ⟩:=LR.row.blk (by intro e;rw [e] at hrl;simp at hrl;omega);rw [hrl] at hav;subst hav;refine qq0 ?_;refine eU (f:=vbo) (y0:=false) (Pe:=NoB) rfl rfl rfl (by omega) (by omega) (by omega) fun dv w3 o3 n3=>?_;rw [ao0] at o3;obtain ⟨dg,dc,hdv,hdg,_,an0⟩:=o3.blk (by intro e;rw [arF] at e;omega);rw [arz] at hdv;subst hdv;have g3:=(g.new n2).new n3;refine qq0 ?_;refine au (TP g3 hok) rfl ?_;rintro ov w4 ⟨o4,n4⟩;have hel:=TQ t;obtain ⟨oa,oc,rfl,_,_⟩:=o4.form;have LR4:=((LR.mono (Pb':=fun b=>w1.heap.size<=b/\b<w2.heap.size) fun b hb e=>⟨e,hb⟩).new n3).new n4;have d4:=o3.new (oH _) n4;have n04:=New.trans (New.trans n1 n2) (New.trans n3 n4);have hz1:=n1.size;have hz2:=n2.size;have hz3:=n3.size;have hz4:=n4.size;have hdl:=(d4.lt rfl).2;have an1:w2.heap.size<=dg:=hdg;refine qq0 ?_;refine aC (σ:=Nat×List Nat×List Bool×Value×List uQ) (fun q=>[(6,.slice (some ⟨rg,0,none⟩) t.length rc),(7,.slice (some ⟨dg,0,none⟩) t.length dc),(8,q.2.2.2.1),(9,.slice oa (qp t).length oc),(30,.slice oa (qp t).length oc),(31,vi (qp t).length),(32,vi q.1)]) (fun q W=>q.1<=(qp t).length/\uz t=q.2.2.2.2.map (·.2)++uj (qB t) (qp t) q.2.1 ((qp t).drop q.1)/\q.2.2.2.2.length<=q.1/\G7 q.2.1 q.2.2.1 t.length/\oJ (Wk.one vbo) 4 1 (fun b=>w2.heap.size<=b) NoB W (.slice (some ⟨dg,0,none⟩) t.length dc) q.2.2.1/\RgL w4.heap.size W q.2.2.2.1 q.2.2.2.2/\Chg (fun k=>k=dg) w4 W) (fun q=>(qp t).length-q.1) (0,[],apT t.length false,.slice none 0 0,[]) (sl rfl) ⟨aoW _,rfl,by simp,⟨by simp,fun k hk=>by rw [arG,if_pos hk];rfl⟩,d4,jh,aB _ _⟩ ?_;rintro ⟨i,seen,D,vo,acc⟩ G W ⟨hi,hR,hal,hD,od,LA,cW⟩;dsimp only at hi hR hal hD od LA cW;simp only [qi];have nW:New w W:=(Chg.trans n04.any cW fun k _ e=>e).tN
 have hzW:=cW.size;have LRW:=LR4.chg cW fun k hk e=>by omega
 have oW:=o4.chg (oH _) cW fun k hk e=>by have h9:w3.heap.size<=k:=(o4.lt hk).1;omega
 have hDl:=hD.1;obtain ⟨va,vc,rfl,_,_⟩:=LA.row.form;(repeat' (first|refine qq1 ?_|refine aa1 (fun _=>?_) (fun _=>?_)))
 ·obtain ⟨x,hx⟩:=oZ (qp t) (k:=i) (by omega);have hxl:=Ey.1 (apA hx);rw [drop_cons hx,FP] at hR;refine bC (oW.rd qE.mo) rfl rfl (by omega) hx fun b o hcell=>?_;refine ah (u:=vi x) rfl hcell ?_;refine qq0 ?_;have hdx:=hD.2 x hxl;refine bC (od.rd GY.mo) rfl rfl (by omega) hdx fun b o hcell=>?_;refine ah (u:=.bool (seen.contains x)) rfl hcell ?_;obtain ⟨ra,rcc,hrow,hrd⟩:=LRW.at hrs hxl;obtain ⟨bxx,ajT,hbi⟩:=CV (W:=qB t) (i:=x) hxl;cases hsn:seen.contains x
  ·have ajU:x∉seen:=fun e=>by rw [List.contains_iff_mem.2 e] at hsn;cases hsn
   refine qq2 ?_;refine di rfl rfl (by omega) (by omega) ?_;refine aP rfl rfl ?_;refine ah (u:=.slice ra t.length rcc) rfl hrow ?_;refine qq2 ?_;refine bC hrd rfl rfl (by omega) ajT fun b o hcell=>?_;refine aP rfl rfl ?_;refine ah (u:=.bool bxx) rfl hcell ?_;cases hbv:bxx
   ·rw [if_pos (.inr fun e=>by rw [hbv] at hbi;have:=hbi.2 e;cases this)] at hR;refine qq2 ?_;exact aA (i+1,seen,D,_,acc) (sl rfl) ⟨by dsimp only;omega,hR,by dsimp only;omega,hD,od,LA,cW⟩ (by dsimp only;omega)
   ·rw [if_neg (fun e=>e.elim ajU fun e=>e (hbi.1 hbv))] at hR;refine qq0 ?_;refine aC (σ:=Nat×List Bool×Value) (fun q=>[(6,.slice (some ⟨rg,0,none⟩) t.length rc),(7,.slice (some ⟨dg,0,none⟩) t.length dc),(8,.slice va acc.length vc),(9,.slice oa (qp t).length oc),(11,vi x),(12,q.2.2),(30,.slice oa (qp t).length oc),(31,vi (qp t).length),(32,vi i),(50,.slice oa (qp t).length oc),(51,vi (qp t).length),(52,vi q.1)]) (fun q W'=>q.1<=(qp t).length/\G7 (seen++((qp t).take q.1).filter (rD (qB t) x)) q.2.1 t.length/\oJ (Wk.one vbo) 4 1 (fun b=>w2.heap.size<=b) NoB W' (.slice (some ⟨dg,0,none⟩) t.length dc) q.2.1/\oJ (Wk.one viN) 3 1 (fun b=>W.heap.size<=b) NoB W' q.2.2 (((qp t).take q.1).filter (rD (qB t) x))/\Chg (fun k=>k=dg) W W') (fun q=>(qp t).length-q.1) (0,D,.slice none 0 0) (sl rfl) ⟨aoW _,by simpa using hD,od,aN,aB _ _⟩ ?_;rintro ⟨j,D2,rv⟩ G2 W2 ⟨hj,hD2,od2,or2,c2⟩;dsimp only at hj hD2 od2 or2 c2;simp only [qi];have Y5:=hD2.1;have an2:=c2.size;have LR2:=LRW.chg c2 fun k hk e=>by omega
    have o2:=oW.chg (oH _) c2 fun k hk e=>by have h9:w3.heap.size<=k:=(o4.lt hk).1;omega
    obtain ⟨pa,pc,rfl,_,_⟩:=or2.form;have hfl:(((qp t).take j).filter (rD (qB t) x)).length<=512:=by
     have h1:=arA (rD (qB t) x) ((qp t).take j);have h2:((qp t).take j).length<=(qp t).length:=by rw [ao8];omega
     omega
    (repeat' (first|refine qq2 ?_|refine aa1 (fun _=>?_) (fun _=>?_)))
    ·obtain ⟨y,hy⟩:=oZ (qp t) (k:=j) (by omega);have hyl:=Ey.1 (apA hy);have hstep:((qp t).take (j+1)).filter (rD (qB t) x)=((qp t).take j).filter (rD (qB t) x)++if rD (qB t) x y=true then [y] else []:=by rw [take_snoc hy,arC];congr 1;cases hr:rD (qB t) x y<;>simp [hr]
     refine bC (o2.rd qE.mo) rfl rfl (by omega) hy fun b o hcell=>?_;refine ah (u:=vi y) rfl hcell ?_;refine qq0 ?_;obtain ⟨ra1,rc1,hrow1,QK⟩:=LR2.at hrs hxl;obtain ⟨b1,hb1,acV⟩:=CV (W:=qB t) (i:=x) hyl;obtain ⟨ra2,rc2,hrow2,ajV⟩:=LR2.at hrs hyl;obtain ⟨b2,hb2,acW⟩:=CV (W:=qB t) (i:=y) hxl;refine di rfl rfl (by omega) (by omega) ?_;refine ah (u:=.slice ra1 t.length rc1) rfl hrow1 ?_;(repeat' (refine aa2 ?_));refine bC QK rfl rfl (by omega) hb1 fun b o hcell=>?_;refine ah (u:=.bool b1) rfl hcell ?_;have ab1:rD (qB t) x y=false-> ∀(G':Fr),(j+1<=(qp t).length/\G7 (seen++((qp t).take (j+1)).filter (rD (qB t) x)) D2 t.length/\oJ (Wk.one vbo) 4 1 (fun b=>w2.heap.size<=b) NoB W2 (.slice (some ⟨dg,0,none⟩) t.length dc) D2/\oJ (Wk.one viN) 3 1 (fun b=>W.heap.size<=b) NoB W2 (.slice pa (((qp t).take j).filter (rD (qB t) x)).length pc) (((qp t).take (j+1)).filter (rD (qB t) x))/\Chg (fun k=>k=dg) W W2):=fun hr _=>by rw [hstep,hr,if_neg (by decide),aqG];exact ⟨by omega,hD2,od2,or2,c2⟩
     cases hv1:b1
     ·have hr:rD (qB t) x y=false:=by unfold rD;rw [decide_eq_false_iff_not];rintro ⟨q1,_⟩;rw [hv1] at acV;have:=acV.2 q1;cases this
      refine qq0 ?_;exact aA (j+1,D2,_) (sl rfl) (ab1 hr G2) (by dsimp only;omega)
     ·refine qq2 ?_;refine di rfl rfl (by omega) (by omega) ?_;refine aP rfl rfl ?_;refine ah (u:=.slice ra2 t.length rc2) rfl hrow2 ?_;refine qq2 ?_;refine bC ajV rfl rfl (by omega) hb2 fun b o hcell=>?_;refine aP rfl rfl ?_;refine ah (u:=.bool b2) rfl hcell ?_;cases hv2:b2
      ·have hr:rD (qB t) x y=false:=by unfold rD;rw [decide_eq_false_iff_not];rintro ⟨_,q1⟩;rw [hv2] at acW;have:=acW.2 q1;cases this
       refine qq0 ?_;exact aA (j+1,D2,_) (sl rfl) (ab1 hr G2) (by dsimp only;omega)
      ·have hr:rD (qB t) x y=true:=by exact QJ.2 ⟨acV.1 hv1,acW.1 hv2⟩
       rw [hr,if_pos rfl] at hstep;refine qq3 ?_;refine bY (R:=Wk.one viN) (y:=y) qE or2 rfl rfl rfl rfl rfl (by omega) (by omega) (by simp only [maxLen];omega) (by omega) rfl rfl fun v3 w5 p o5 c5 lie=>?_;have od5:=od2.chg (oH _) c5 fun k hk e=>by have h8:W.heap.size<=k:=(or2.lt e).1;have h9:=(od.lt hk).2;omega
       refine qq0 ?_;refine di rfl rfl (by omega) (by omega) ?_;refine dI (f:=vbo) (q:=true) (j:=y) (cap:=dc) od5 (by rw [Y5]) (by omega) (by show Value.pointer (some ⟨dg,0+(y:Int).toNat*1,none⟩)=_;simp) rfl rfl rfl fun w6 o6 c6=>?_;refine qq0 ?_;have hs3: ∀k,v3.ownBlock=some k->W.heap.size<=k:=fun k hk=>by
        rcases (o5.lt hk).1 with e|e
        ·exact e
        ·omega
       refine aA (j+1,D2.set y true,v3) (sl rfl) ⟨by dsimp only;omega,?_,o6,?_,?_⟩ (by dsimp only;omega)
       ·dsimp only;rw [hstep, <-acM];exact hD2.set hyl
       ·dsimp only;rw [hstep]
        exact (o5.chg (oH _) c6 fun k hk e=>by have h8:=hs3 k hk;have h7:dg=k:=by injection e
                                               omega).mono qE.mo (fun b _ e=>by rcases e with e|e;exact e;omega) i3
       ·exact Chg.trans (Chg.trans (M:=fun k=>k=dg∨W.heap.size<=k) (c2.mono fun k _ e=>.inl e) c5 fun k _ e=>.inr (or2.lt e).1) c6 (fun k _ e=>.inl (by injection e with e;exact e.symm)) |>.mono fun k hk e=>e.resolve_right fun e=>by omega
    ·obtain rfl:j=(qp t).length:=by omega
     have htk:(qp t).take (qp t).length=qp t:=apW;rw [htk] at hD2;have or3:oJ (Wk.one viN) 3 1 (fun b=>W.heap.size<=b) NoB W2 (.slice pa (((qp t).take (qp t).length).filter (rD (qB t) x)).length pc) ((qp t).filter (rD (qB t) x)):=by simpa only [htk] using or2
     have LA2:=LA.chg c2 fun k hk e=>by omega
     refine bY (R:=rW) (y:=(.slice pa (((qp t).take (qp t).length).filter (rD (qB t) x)).length pc,(qp t).filter (rD (qB t) x))) abZ LA2.ajR rfl rfl rfl rfl ⟨rfl,rfl⟩ (by omega) (by omega) (by simp only [maxLen];omega) (by omega) rfl rfl fun v3 w5 p o5 c5 lie=>?_;have hz5:=c5.size;have L5:=LA2.snoc (b:=(.slice pa (((qp t).take (qp t).length).filter (rD (qB t) x)).length pc,(qp t).filter (rD (qB t) x))) (w':=w5) (v':=v3) ((o5.mono abZ.mo (Pb':=fun b=>w4.heap.size<=b) (fun b _ e=>by rcases e with e|e;exact e;omega) i3).ajS) c5 lie (or3.mono (oU _) (fun b _ e=>by omega) i3) (fun k h1 h2=>by have h8:W.heap.size<=k:=(or2.lt h1).1;have h9:=(LA.row.lt h2).2;omega) (fun c hc k h1 h2=>by have h8:W.heap.size<=k:=(or2.lt h1).1;have h9:=((LA.el c hc).lt h2).2;omega)
     have od5:=od2.chg (oH _) c5 fun k hk e=>by have h8:w4.heap.size<=k:=(LA.row.lt e).1;have h7:dg=k:=by injection hk
                                                omega
     refine qq0 ?_;refine aA (i+1,seen++(qp t).filter (rD (qB t) x),D2,v3,acc++ [(.slice pa (((qp t).take (qp t).length).filter (rD (qB t) x)).length pc,(qp t).filter (rD (qB t) x))]) (sl rfl) ⟨by dsimp only;omega,?_,by simp;omega,hD2,od5,L5,?_⟩ (by dsimp only;omega)
     ·dsimp only;rw [hR];simp
     ·exact (Chg.trans (M:=fun k=>k=dg∨w4.heap.size<=k) ((Chg.trans cW c2 i3).mono fun k _ e=>.inl e) c5 fun k _ e=>.inr (LA.row.lt e).1).mono fun k hk e=>e.resolve_right fun e=>by omega
  ·rw [if_pos (.inl (List.contains_iff_mem.1 hsn))] at hR;refine qq2 ?_;exact aA (i+1,seen,D,_,acc) (sl rfl) ⟨by dsimp only;omega,hR,by dsimp only;omega,hD,od,LA,cW⟩ (by dsimp only;omega)
 ·obtain rfl:i=(qp t).length:=by omega
  rw [aqf] at hR;have hR:uz t=acc.map (·.2):=by simpa [uj] using hR
  exact aH rfl rfl rfl ⟨_,rfl,⟨_,acc,rfl,LA.mono fun b _ e=>by omega,hR.symm⟩,nW⟩
end Go.Proofs.YtfbnfhhmiiahnaaGreatDoor
namespace Go.Proofs.YtfbnfhhmiiahnaaGreatDoor
open Go Wk Sy
open Go.RowKit (Below)
attribute [local irreducible] Go.Calls
def thM (th:List Bool) (i:Nat):Bool:=(th[i]?).getD false
theorem Vy {th:List Bool} {i:Nat} (h:i<th.length):th[i]? =some (thM th i):=by unfold thM;rw [adD h];rfl
theorem TT {Pb:Nat->Prop} {w:World} {b n:Nat} {v:Value} {th:List Bool} {x:SE} (h:Bk w b 44 [v]) (hs:RdS (Wk.one vbo) 1 Pb w v th) (hn:th.length=n) (h1:x.1.1.src<n) (h2: ∀d,x.1.1.dst=some d->d<n):
 Calls prog 72 #[.agg (seC x).toArray,.pointer (some ⟨b,0,none⟩)] w (Ret fun r w'=>r=.bool (!vz (thM th) x.1.1)/\New w w'):=by
 obtain ⟨a,cap,rfl,hc1,hc2⟩:=hs.form;simp only [maxLen] at hc2;refine oG func72 rfl ntmps72 rfl ?_;refine qq0 ?_;refine Wl.box rfl fun w1 b1 n1 s1=>?_;replace b1:Bk w1 w.heap.size 100 (seC x):=b1;replace h:=h.chg n1 id;replace hs:=hs.keep (pF _) n1.keep;obtain ⟨⟨⟨src,dst,kind,soft,place,args⟩,sv⟩,ix⟩:=x;dsimp only at h1 h2 b1;unfold vz;dsimp only;refine qq0 ?_;refine ah (u:=.bool soft) rfl (b1.cell (o:=3) rfl) ?_;cases soft
 ·refine qq3 ?_;exact ay rfl rfl ⟨_,rfl,rfl,n1⟩
 refine qq2 ?_;refine ah (u:=.slice a th.length cap) rfl (h.cell (o:=0) rfl) ?_;refine qq2 ?_;refine ah (u:=vi src) rfl (b1.cell (o:=0) rfl) ?_;(repeat' (refine aP rfl rfl ?_));refine bC hs rfl rfl (by omega) (Vy (by omega)) fun bb off hcell=>?_;refine aP rfl rfl ?_;refine ah (u:=.bool (thM th src)) rfl hcell ?_;cases thM th src
 ·refine qq3 ?_;exact ay rfl rfl ⟨_,rfl,rfl,n1⟩
 refine qq2 ?_;refine ah (u:=vi (qx dst)) rfl (b1.cell (o:=1) rfl) ?_;cases dst with
 |none=>rw [show qx none= -1 from rfl];(repeat' (first|refine qq3 ?_|(refine aa1 (fun _=>?_) (fun _=>?_)<;>(first|(exfalso;omega)|skip))));exact ay rfl rfl ⟨_,rfl,rfl,n1⟩
 |some d=>
  rw [show qx (some d)=(d:Int) from rfl];have hd:=h2 d rfl;(repeat' (first|refine qq2 ?_|(refine aa1 (fun _=>?_) (fun _=>?_)<;>(first|(exfalso;omega)|skip))));refine ah (u:=.slice a th.length cap) rfl (h.cell (o:=0) rfl) ?_;refine qq2 ?_;refine ah (u:=vi d) rfl (b1.cell (o:=1) rfl) ?_;(repeat' (refine aP rfl rfl ?_));refine bC hs rfl rfl (by omega) (Vy (by omega)) fun bb off hcell=>?_;refine aP rfl rfl ?_;refine ah (u:=.bool (thM th d)) rfl hcell ?_;have sh: ∀(q:Bool),(!(thM th d&&decide (d≠src)))=q->Value.bool q=Value.bool (!(true&&(true&&(thM th d&&decide (d≠src))))):=fun q e=>by rw [<-e];rfl
  cases hv:thM th d
  ·refine qq3 ?_;exact ay rfl rfl ⟨_,rfl,sh true (by rw [hv];rfl),n1⟩
  refine qq2 ?_;refine ah (u:=vi d) rfl (b1.cell (o:=1) rfl) ?_;refine qq2 ?_;refine ah (u:=vi src) rfl (b1.cell (o:=0) rfl) ?_;(repeat' (first|refine qq3 ?_|refine bK rfl rfl (fun _=>?_) (fun _=>?_)))
  ·obtain rfl:d=src:=by omega
   exact ay rfl rfl ⟨_,rfl,sh true (by simp),n1⟩
  ·have hne:d≠src:=by omega
   exact ay rfl rfl ⟨_,rfl,sh false (by rw [hv];simp [hne]),n1⟩
theorem Y6 {a b:List UInt8}:Fg a b<0↔a<b:=by
 unfold Fg;by_cases h:a<b
 ·rw [if_pos h];simp [h]
 ·rw [if_neg h];by_cases h2:b<a
  ·rw [if_pos h2];simp [h]
  ·rw [if_neg h2];simp [h]
section
variable {Pp:Nat->Prop} {t:List Nd} {bg hm b2:Nat} {lv ev wv gv pv:Value}
theorem TU {w:World} {x y:SE} (hb:Bk w bg 145 (grC lv hm ev wv gv pv)) (hp:RdS (Wk.one vs) 1 Pp w pv (qw t)) (h2:Bk w b2 140 [pT bg]) (hx:x.1.1.src<t.length) (hy:y.1.1.src<t.length) (hlen:t.length<=512):
 Calls prog 74 #[.agg (seC x).toArray,.agg (seC y).toArray,pT b2] w (Ret fun r w'=>r=vi (Fg (pV t x.1.1.src) (pV t y.1.1.src))/\New w w'):=by
 have hpl:=wV t;obtain ⟨pa,pc,rfl,_,_⟩:=hp.form;refine oG func74 rfl ntmps74 rfl ?_;refine qq0 ?_;refine Wl.box rfl fun w1 b1 n1 s1=>?_;replace b1:Bk w1 w.heap.size 100 (seC x):=b1;refine Wl.box rfl fun w3 b3 n3 s3=>?_;replace b3:Bk w3 w1.heap.size 100 (seC y):=b3;have n03:=New.trans n1 n3;replace b1:=b1.chg n3 id;replace hb:=hb.chg n03 id;replace h2:=h2.chg n03 id;replace hp:=hp.keep (pF _) n03.keep;refine qq0 ?_;refine iq [0,1,2,3,4,5,6,7,8,9,10,11,12,13,14,15] [16,17] rfl (by kernel_rfl) (by simp only [pick,aq1,aq2];rfl) (by simp only [pick,aq1,aq2];rfl) (Grw w3) (Grw.drew w3) ?_;refine ax (u:=pT bg) rfl (fun w' hw=>(h2.chg hw.new id).cell (o:=0) rfl) ?_;(repeat' (first|refine dD rfl ?_|refine aa4 ?_));refine ax (u:=.slice pa (qw t).length pc) rfl (fun w' hw=>(hb.chg hw.new id).cell (o:=5) rfl) ?_;(repeat' (refine aa4 ?_));refine ax (u:=vi x.1.1.src) rfl (fun w' hw=>(b1.chg hw.new id).cell (o:=0) rfl) ?_;refine dA (y:=pV t x.1.1.src) hp (fun w' hw=>hw.new.keep) rfl rfl (by omega) (uo hx) fun bb off hcell=>?_;refine ax (u:=vs (pV t x.1.1.src)) rfl hcell ?_;refine ax (u:=pT bg) rfl (fun w' hw=>(h2.chg hw.new id).cell (o:=0) rfl) ?_;(repeat' (first|refine dD rfl ?_|refine aa4 ?_));refine ax (u:=.slice pa (qw t).length pc) rfl (fun w' hw=>(hb.chg hw.new id).cell (o:=5) rfl) ?_;(repeat' (refine aa4 ?_));refine ax (u:=vi y.1.1.src) rfl (fun w' hw=>(b3.chg hw.new id).cell (o:=0) rfl) ?_;refine dA (y:=pV t y.1.1.src) hp (fun w' hw=>hw.new.keep) rfl rfl (by omega) (uo hy) fun bb off hcell=>?_;refine ax (u:=vs (pV t y.1.1.src)) rfl hcell ?_;(repeat' (refine af ?_));refine dH ?_;refine au (x8 (a:=pV t x.1.1.src) (b:=pV t y.1.1.src)) rfl ?_;rintro _ _ ⟨rfl,rfl⟩;refine ak ⟨rfl,Grw.drew w3,?_⟩;refine Wch.last ?_;refine qq3 ?_;exact ay rfl rfl ⟨_,rfl,rfl,New.trans n03 (Grw.drew w3).new⟩
theorem Xf {w:World} {g:Nat} (hb:Bk w bg 145 (grC lv hm ev wv gv pv)) (hp:RdS (Wk.one vs) 1 Pp w pv (qw t)) (h2:Bk w b2 140 [pT bg]) (hlen:t.length<=512) (e1:bg≠g) (e2:b2≠g) (e3: ¬Pp g):
 GL 74 #[pT b2] (fun x=>pV t x.1.1.src) (fun x=>x.1.1.src<t.length) g w:=by
 intro w' c x y hx hy;refine (TU (hb.chg c fun e=>e1 e) (hp.keep (pF _) (c.keep fun k _ hk e=>by subst e;exact e3 hk)) (h2.chg c fun e=>e2 e) hx hy hlen).mono ?_;rintro _ w'' ⟨_,rfl,rfl,n⟩;exact ⟨_,rfl,⟨_,rfl,Y6⟩,n⟩
end
noncomputable def J3 (t:List Nd) (there:Nat->Bool):List Ed×List Ed:=uO (qB t) (((pI t).filter (vz there)).mergeSort fun x y=> !decide (pV t y.src<pV t x.src))
section
variable {cf:FuncId} {cc:Array Value} [hcf:oI prog cf]
theorem KX {w:World} {a:Option Addr} {cap:Nat}:Calls prog 131 #[.slice a 0 cap,vi 0,vi 0,.func (.func cf) #[] cc] w (Ret fun _ w'=>New w w'):=by
 refine oG func131 rfl ntmps131 rfl ?_;refine qq0 ?_;refine aC (σ:=Unit) (fun _=>[(2,vi 0),(8,vi 1)]) (fun _ W=>New w W) (fun _=>0) () (sl rfl) (aB _ _) ?_;rintro _ G W n;simp only [qi];(repeat' (first|refine qq5 ?_|(refine aa1 (fun _=>?_) (fun _=>?_)<;>(first|(exfalso;omega)|skip))));exact dh rfl ⟨_,rfl,n⟩
theorem TV {w:World} {a:Option Addr} {cap:Nat}:Calls prog 98 #[.slice a 0 cap,vi 0,.func (.func cf) #[] cc] w (Ret fun _ w'=>New w w'):=by
 refine oG func98 rfl ntmps98 rfl ?_;refine qq0 ?_;refine aC (σ:=Unit) (fun _=>[(0,.slice a 0 cap),(1,vi 0),(2,.func (.func cf) #[] cc),(6,vi 20),(7,vi 0),(8,vi 20)]) (fun _ W=>New w W) (fun _=>0) () (sl rfl) (aB _ _) ?_;rintro _ G W n;simp only [qi];(repeat' (first|refine qq5 ?_|(refine dV rfl rfl (fun _=>?_) (fun _=>?_)<;>(first|(exfalso;omega)|skip))));refine au (KX (cf:=cf) (cc:=cc) (w:=W) (a:=a) (cap:=cap)) rfl ?_;rintro u w2 n2;refine qq0 ?_;refine aC (σ:=Unit) (fun _=>[(1,vi 0),(6,vi 20)]) (fun _ W=>New w W) (fun _=>0) () (sl rfl) (New.trans n n2) ?_;rintro _ G W n;simp only [qi];(repeat' (first|refine qq5 ?_|(refine aa1 (fun _=>?_) (fun _=>?_)<;>(first|(exfalso;omega)|skip))));exact dh rfl ⟨_,rfl,n⟩
theorem J4 {w:World} {a:Option Addr} {cap:Nat}:Calls prog 73 #[.slice a 0 cap,.func (.func cf) #[] cc] w (Ret fun _ w'=>New w w'):=by
 refine oG func73 rfl ntmps73 rfl ?_;refine qq0 ?_;refine au (TV (cf:=cf) (cc:=cc) (w:=w) (a:=a) (cap:=cap)) rfl ?_;rintro u w2 n2;refine qq5 ?_;exact dh rfl ⟨_,rfl,n2⟩
theorem NU {Pb:Nat->Prop} {w:World} {v:Value} {D0:List SE} {key:SE->Nm} {Pd:SE->Prop} (hix:D0.Pairwise fun x y=>x.2<y.2) (own:sQ Pb w v D0) (hP: ∀y∈D0,Pd y) (hc: ∀g,v.ownBlock=some g->GL cf cc key Pd g w) (hl:D0.length<=400000000):
 Calls prog 73 #[v,.func (.func cf) #[] cc] w (Ret fun _ w'=> ∃E,E.Perm D0/\Srt (ltE key) E/\sQ Pb w' v E/\Chg (fun k=>v.ownBlock=some k) w w'):=by
 by_cases h0:D0=[]
 ·subst h0;obtain ⟨a,cap,rfl,_,_⟩:=own.form;refine J4.mono ?_;rintro _ w' ⟨_,rfl,n⟩;exact ⟨_,rfl,[],List.Perm.refl _,by simp,own.new (oh seC) n,n.any⟩
 ·obtain ⟨g,cap,rfl,_,_,hob⟩:=own.blk h0;refine (IG hix rfl own hP (hc g hob) hl).mono ?_;rintro _ w' ⟨_,rfl,E,h1,h2,o,c⟩;exact ⟨_,rfl,E,h1,h2,o,c.mono fun k _ e=>by rw [hob,e]⟩
end
section
variable {lo bg hm b6:Nat} {t:List Nd} {m:List (Nat×Nat)} {es:List Ed} {bs:List uQ} {gs:List Bool} {ps:List Nm} {lv ev wv gv pv:Value} {W W':World}
theorem GrA.used {Pu:Nat->Prop} {uv:Value} {U:List SE} (g:GrA lo bg hm b6 t m es bs gs ps lv ev wv gv pv W) (u:sQ Pu W uv U) (hu: ∀k,uv.ownBlock=some k->lo<=k) (c:Chg (fun k=>uv.ownBlock=some k) W W')
 (own:oJ rEd 100 6 (Zn lo bg hm b6 bs wv gv pv) (Zn lo bg hm b6 bs wv gv pv) W' ev es):GrA lo bg hm b6 t m es bs gs ps lv ev wv gv pv W':=
 ⟨g.b.chg c fun e=>u.pK g.b rfl e rfl,g.tr.keep pM (c.keep fun k _ h1 e=>by have:=hu k e;omega),g.mp.chg c (fun e=>u.rZ g.mp e rfl),own,
  ⟨g.wa.row.chg (oh _) c fun k hk e=>g.wa.row.sZ u rfl k hk e,fun x hx=>(g.wa.el x hx).chg (oH _) c fun k hk e=>(g.wa.el x hx).sZ u rfl k hk e,g.wa.vG,g.wa.sep⟩,g.ga.chg (oH _) c (fun k hk e=>g.ga.sZ u rfl k hk e),g.pa.chg (oH _) c (fun k hk e=>g.pa.sZ u rfl k hk e),g.lo2⟩
end
structure SfI (lo bg hm:Nat) (t:List Nd) (E:List SE) (bs0:List uQ) (lv ev wv gv pv av:Value) (b7 N0:Nat) (bs:List uQ) (Wn:Nat->List Nat) (gs:List Bool) (uv dv:Value) (U D:List SE) (W:World):Prop where
 g:GrA lo bg hm bg t (sG t) (pI t) bs gs (qw t) lv ev wv gv pv W
 b7:Bk W b7 140 [pT bg]
 ed:oJ rEd 100 6 (fun b=>Zn lo bg hm bg bs0 wv gv pv b/\b<N0) (fun b=>Zn lo bg hm bg bs0 wv gv pv b/\b<N0) W ev (pI t)
 inc: ∀x∈bs, ∀k,x.1.ownBlock=some k->(∃y∈bs0,y.1.ownBlock=some k)∨N0<=k
 hbs:bs.map (·.2)=(abM t.length).map Wn
 hin: ∀j,j<t.length-> ∀k∈Wn j,k<t.length
 able:sQ (fun b=>lo<=b/\b<N0) W av E
 us:sQ (fun b=>N0<=b) W uv U
 dr:sQ (fun b=>N0<=b) W dv D
 sep:Sep uv dv
 args: ∀x∈E,RdS (Wk.one Bh) 1 (fun b=>Zn lo bg hm bg bs0 wv gv pv b/\b<N0) W (svV x.1.2) x.1.1.args
 uin: ∀x,x∈U∨x∈D->x∈E
 z:N0<=W.heap.size
 hlo:lo<=N0
section
variable {lo bg hm:Nat} {t:List Nd} {E:List SE} {bs0:List uQ} {lv ev wv gv pv av:Value} {b7 N0:Nat} {bs:List uQ} {Wn:Nat->List Nat} {gs:List Bool} {uv dv:Value} {U D:List SE} {W W':World}
theorem SfI.new (s:SfI lo bg hm t E bs0 lv ev wv gv pv av b7 N0 bs Wn gs uv dv U D W) (n:New W W'):SfI lo bg hm t E bs0 lv ev wv gv pv av b7 N0 bs Wn gs uv dv U D W':=
 ⟨s.g.new n,s.b7.chg n id,s.ed.xB qH n i3 (fun _ _ _ e=>e),s.inc,s.hbs,s.hin,s.able.new (oh seC) n,s.us.new (oh seC) n,s.dr.new (oh seC) n,s.sep,fun x hx=>(s.args x hx).keep (pF _) n.keep,s.uin,arp s.z n.size,s.hlo⟩
theorem SfI.zn (s:SfI lo bg hm t E bs0 lv ev wv gv pv av b7 N0 bs Wn gs uv dv U D W): ∀b,(Zn lo bg hm bg bs0 wv gv pv b/\b<N0)->Zn lo bg hm bg bs wv gv pv b:=by
 rintro b ⟨⟨z1,z2,z3,z0,z4,z5,z6⟩,z7⟩;refine ⟨z1,z2,z3,z0,z4,fun x hx e=>?_,z6⟩;rcases s.inc x hx b e with ⟨y,hy,e2⟩|h
 ·exact z5 y hy e2
 ·omega
theorem SfI.drop1 (s:SfI lo bg hm t E bs0 lv ev wv gv pv av b7 N0 bs Wn gs uv dv U D W) {x:SE} (hx:x∈E) {dv':Value} (o:sQ (fun b=>N0<=b) W' dv' (D++ [x])) (c:Chg (fun k=>dv.ownBlock=some k) W W') (lie:dv'.ownBlock=dv.ownBlock∨ ∀k,dv'.ownBlock=some k->W.heap.size<=k):
 SfI lo bg hm t E bs0 lv ev wv gv pv av b7 N0 bs Wn gs uv dv' U (D++ [x]) W':=by
 have hd: ∀k,dv.ownBlock=some k->N0<=k:=fun k hk=>(s.dr.lt hk).1;have hed:=s.ed.xB qH c (fun k hk e=>by have h1:=(s.ed.lt hk).1.2;have:=hd k e;omega) (fun k hk _ e=>by have:=hk.2;have:=hd k e;omega);refine ⟨s.g.used s.dr (fun k hk=>arp s.hlo (hd k hk)) c (hed.mono rC (fun b _=>s.zn b) (fun b _=>s.zn b)),s.b7.chg c fun e=>s.dr.pK s.b7 rfl e rfl,hed,s.inc,s.hbs,s.hin,s.able.chg (oh seC) c (fun k hk e=>by have h1:=(s.able.lt hk).1.2;have:=hd k e;omega),s.us.chg (oh seC) c (fun k hk e=>s.sep k hk e),o,fun k hk e=>?_,fun y hy=>(s.args y hy).keep (pF _) (c.keep fun k _ hk e=>by have:=hk.2;have:=hd k e;omega),?_,arp s.z c.size,s.hlo⟩
 ·rcases lie with l|l
  ·rw [l] at e;exact s.sep k hk e
  ·have:=l k e;have:=(s.us.lt hk).2;omega
 ·intro y hy;rcases hy with hy|hy
  ·exact s.uin y (.inl hy)
  ·rcases List.mem_append.1 hy with hy|hy
   ·exact s.uin y (.inr hy)
   ·rw [List.mem_singleton.1 hy];exact hx
theorem SfI.ajW (s:SfI lo bg hm t E bs0 lv ev wv gv pv av b7 N0 bs Wn gs uv dv U D W) {x:SE} (hx:x∈E) {uv':Value} (o:sQ (fun b=>N0<=b) W' uv' (U++ [x])) (c:Chg (fun k=>uv.ownBlock=some k) W W') (lie:uv'.ownBlock=uv.ownBlock∨ ∀k,uv'.ownBlock=some k->W.heap.size<=k):
 SfI lo bg hm t E bs0 lv ev wv gv pv av b7 N0 bs Wn gs uv' dv (U++ [x]) D W':=by
 have hd: ∀k,uv.ownBlock=some k->N0<=k:=fun k hk=>(s.us.lt hk).1;have hed:=s.ed.xB qH c (fun k hk e=>by have h1:=(s.ed.lt hk).1.2;have:=hd k e;omega) (fun k hk _ e=>by have:=hk.2;have:=hd k e;omega);refine ⟨s.g.used s.us (fun k hk=>arp s.hlo (hd k hk)) c (hed.mono rC (fun b _=>s.zn b) (fun b _=>s.zn b)),s.b7.chg c fun e=>s.us.pK s.b7 rfl e rfl,hed,s.inc,s.hbs,s.hin,s.able.chg (oh seC) c (fun k hk e=>by have h1:=(s.able.lt hk).1.2;have:=hd k e;omega),o,s.dr.chg (oh seC) c (fun k hk e=>s.sep k e hk),fun k hk e=>?_,fun y hy=>(s.args y hy).keep (pF _) (c.keep fun k _ hk e=>by have:=hk.2;have:=hd k e;omega),?_,arp s.z c.size,s.hlo⟩
 ·rcases lie with l|l
  ·rw [l] at hk;exact s.sep k hk e
  ·have:=l k hk;have:=(s.dr.lt e).2;omega
 ·intro y hy;rcases hy with hy|hy
  ·rcases List.mem_append.1 hy with hy|hy
   ·exact s.uin y (.inl hy)
   ·rw [List.mem_singleton.1 hy];exact hx
  ·exact s.uin y (.inr hy)
theorem SfI.Y7 (s:SfI lo bg hm t E bs0 lv ev wv gv pv av b7 N0 bs Wn gs uv dv U D W) {i d:Nat} {x x':uQ} {w1:World} (hi:bs[i]? =some x) (hx2:x'.2=Wn i++ [d]) (hd:d<t.length) (ho:oJ (Wk.one viN) 3 1 (fun b=>lo<=b) NoB w1 x'.1 x'.2) (c1:Chg (fun k=>x.1.ownBlock=some k) W w1)
 (lie:x'.1.ownBlock=x.1.ownBlock∨ ∀k,x'.1.ownBlock=some k->W.heap.size<=k) (hr:oJ (flat wrC) 65 1 (fun b=>lo<=b) NoB W' wv (bs.set i x')) (c2:Chg (fun k=>wv.ownBlock=some k) w1 W') (hwv: ∀k,wv.ownBlock=some k->k<N0):
 SfI lo bg hm t E bs0 lv ev wv gv pv av b7 N0 (bs.set i x') (fun j=>if j=i then Wn i++ [d] else Wn j) gs uv dv U D W':=by
 have hx:=apA hi;have hxo:=s.g.wa.el x hx;have hrow:=s.g.wa.row;have c:Chg (fun k=>x.1.ownBlock=some k∨wv.ownBlock=some k) W W':=Chg.trans (c1.mono fun k _ e=>.inl e) c2 fun k _ e=>.inr e;have hil:i<t.length:=by have h1:=congrArg aqX s.hbs;have h2:=(List.getElem?_eq_some_iff.1 hi).1;simp only [aqp,arB] at h1;omega
 have hz: ∀k,(Zn lo bg hm bg bs0 wv gv pv k/\k<N0)-> ¬(x.1.ownBlock=some k∨wv.ownBlock=some k):=by
  rintro k ⟨h1,h2⟩ (e|e)
  ·rcases s.inc x hx k e with ⟨y,hy,e2⟩|h
   ·exact h1.2.2.2.2.2.1 y hy e2
   ·omega
  ·exact h1.2.2.2.2.1 e
 refine ⟨s.g.want hi ho c1 lie hr c2,s.b7.chg c fun e=>e.elim (fun e=>hxo.pK s.b7 rfl e rfl) fun e=>hrow.pK s.b7 rfl e rfl,s.ed.xB qH c (fun k hk e=>hz k (s.ed.lt hk).1 e) (fun k hk _ e=>hz k hk e),?_,?_,?_, s.able.chg (oh seC) c (fun k hk e=>e.elim (fun e=>s.able.sZ hxo rfl k hk e) fun e=>s.able.sZ hrow rfl k hk e),s.us.chg (oh seC) c (fun k hk e=>e.elim (fun e=>s.us.sZ hxo rfl k hk e) fun e=>s.us.sZ hrow rfl k hk e),s.dr.chg (oh seC) c (fun k hk e=>e.elim (fun e=>s.dr.sZ hxo rfl k hk e) fun e=>s.dr.sZ hrow rfl k hk e),s.sep, fun y hy=>(s.args y hy).keep (pF _) (c.keep fun k _ hk e=>hz k hk e),s.uin,arp s.z c.size,s.hlo⟩
 ·intro y hy k e;rcases arJ hy with hy|rfl
  ·exact s.inc y hy k e
  ·rcases lie with l|l
   ·rw [l] at e;exact s.inc x hx k e
   ·exact .inr (arp s.z (l k e))
 ·rw [arx,s.hbs,Ak hil,hx2]
 ·intro j hj k hk;split at hk
  ·rcases List.mem_append.1 hk with hk|hk
   ·exact s.hin i hil k hk
   ·rw [List.mem_singleton.1 hk];exact hd
  ·exact s.hin j hj k hk
end
theorem Xg {Pb Pt:Nat->Prop} {w:World} {v tv:Value} {t:List Nd} {th:List Bool} (h:RdS rNd 3 Pb w v t) (ht:RdS (Wk.one vbo) 1 Pt w tv th) (hok:pJ t=true) (hl:th.length=t.length):
 Calls prog 43 #[v,tv] w (Ret fun r w'=>(∃q1 q2,r=.tuple #[q1,q2,vi 0]/\RdS rEd 6 (fun b=>w.heap.size<=b) w' q1 (J3 t (thM th)).1/\RdS rEd 6 (fun b=>w.heap.size<=b) w' q2 (J3 t (thM th)).2)/\New w w'):=by
 have hlen:=qm hok;have hpos:=tC hok;have hIn:=Me hok;have hE:(pI t).length<=10240*t.length:=uS hok t.length (aam _);obtain ⟨a,cap,rfl,_,_⟩:=h.form;obtain ⟨ta,ae0,rfl,_,_⟩:=ht.form;replace ht:=ht.mono (Pb':=fun k=>k<w.heap.size) (oU _) fun k hk _=>hk;refine oG func43 rfl ntmps43 rfl ?_;refine qq0 ?_;refine Wl.box rfl fun w1 b3 n1 s1=>?_;replace b3:Bk w1 w.heap.size 44 [.slice ta th.length ae0]:=b3;refine qq0 ?_;refine au (Bz (h.keep pM n1.keep) hok) rfl ?_;rintro _ w2 ⟨⟨bg,hm,ev,wv,gv,pv,gs,bs,rfl,g,hbs,hgl⟩,n2⟩;have hz1:=n1.size;have hz2:=n2.size;refine qq3 ?_;refine Wl.alloc fun w3 b7 n3 s3=>?_;refine aO (u:=pT bg) b7 rfl (show (0:Nat)<1 by omega) rfl rfl fun w4 b7' c4=>?_;replace b7':Bk w4 w2.heap.size 140 [pT bg]:=b7';have n24:New w2 w4:=(Chg.trans n3.any c4 i3).tN
 have n04:=New.trans (New.trans n1 n2) n24;have g4:=g.new n24;have b34:=b3.chg (New.trans n2 n24) id;clear b7 c4 g b3;obtain ⟨ea,ec,rfl,_,_⟩:=g4.ed.form;(repeat' (first|refine qq0 ?_|(refine aa6 (fun _=>?_) (fun _=>?_)<;>(first|(exfalso;omega)|skip))));refine ah (u:=.slice ta th.length ae0) rfl (b34.cell (o:=0) rfl) ?_;(repeat' (first|refine qq0 ?_|(refine aa6 (fun _=>?_) (fun _=>?_)<;>(first|(exfalso;omega)|skip))));refine ah (u:=pT bg) rfl (b7'.cell (o:=0) rfl) ?_;refine qq2 ?_;refine ah (u:=.slice ea (pI t).length ec) rfl (g4.b.cell (o:=2) rfl) ?_;obtain ⟨D0,hD0,hDx,rdD,hDa⟩:=aeN (g4.ed.rd qH.mo);have an3:D0.length=(pI t).length:=by rw [<-hD0,aqp]
 have hix:D0.Pairwise fun x y=>x.2<y.2:=by
  have:(D0.map (·.2)).Pairwise (· < ·):=by rw [hDx];exact apn
  exact List.pairwise_map.1 this
 refine au (Qz rdD (by omega)) rfl ?_;rintro cv w5 ⟨o5,n5⟩;have hz4:=n24.size;have hz5:=n5.size;refine dn (f1:=[]) (c1:=[pT w.heap.size]) rfl rfl ?_;have hsrc: ∀x∈D0,x.1.1.src<t.length/\ ∀d,x.1.1.dst=some d->d<t.length:=fun x hx=>sW x.1.1 (by rw [<-hD0];exact List.mem_map_of_mem hx);have b35:=b34.chg n5 id;have hcv: ∀k,cv.ownBlock=some k->w4.heap.size<=k:=fun k hk=>(o5.lt hk).1;have n05:=New.trans n04 n5;have ajX:=n04.size;have h3l:=b34.lt;have hz3:w.heap.size<w4.heap.size:=h3l;refine au (GU (p:=fun x=> !vz (thM th) x.1.1) o5 (fun y w' hy c=>?_)) rfl ?_
 ·exact TT (b35.chg c fun e=>by have:=hcv _ e;omega) ((ht.keep (pF _) n05.keep).keep (pF _) (c.keep fun k _ hP e=>by have:=hcv k e;omega)) hl (hsrc y hy).1 (hsrc y hy).2
 rintro av w6 ⟨o6,hav,c6⟩;have n46:New w4 w6:=(Chg.trans n5.any c6 i3).toNew fun k hk e=>by have:=hcv k e;omega
 have hAm:(D0.filter fun y=> !(!vz (thM th) y.1.1)).map (·.1.1)=(pI t).filter (vz (thM th)):=by rw [<-hD0,List.filter_map];congr 1;apply List.filter_congr;intro y _;simp
 have hAs:(D0.filter fun y=> !(!vz (thM th) y.1.1)).Sublist D0:=ao5;have hAx:=hix.sublist hAs;have hAl:=hAs.length_le;have hAu: ∀y∈D0.filter (fun y=> !(!vz (thM th) y.1.1)),vz (thM th) y.1.1=true:=fun y hy=>by simpa using (List.mem_filter.1 hy).2
 generalize hA:(D0.filter fun y=> !(!vz (thM th) y.1.1))=A at*;refine qq0 ?_;refine dn (f1:=[]) (c1:=[pT w2.heap.size]) rfl rfl ?_;have hp4:=(g4.pa.rd qW.mo).mono (Pb':=fun k=>k<w4.heap.size) (oU _) fun k hk _=>hk;have aeC:=g4.b.lt;have acX:=b7'.lt;have aaZ: ∀k,av.ownBlock=some k->w4.heap.size<=k:=fun k hk=>hcv k (hav k hk);refine au (NU (key:=fun x=>pV t x.1.1.src) (Pd:=fun x=>x.1.1.src<t.length) hAx o6 (fun y hy=>(hsrc y (hAs.subset hy)).1) (fun g hg=>Xf (g4.b.chg n46 id) (hp4.keep (pF _) n46.keep) (b7'.chg n46 id) hlen (fun e=>by have:=aaZ g hg;omega) (fun e=>by have:=aaZ g hg;omega) (fun e=>by have:=aaZ g hg;omega)) (by omega)) rfl ?_;rintro u w7 ⟨E,hEp,hEs,o7,c7⟩;have n47:New w4 w7:=(Chg.trans n46.any c7 i3).toNew fun k hk e=>by have:=aaZ k e;omega
 have n07:=New.trans n04 n47;have an4:=n47.size;have hEm:=TF (pV t) hAx hEp hEs;rw [hAm] at hEm;have hsm:J3 t (thM th)=uO (qB t) (E.map (·.1.1)):=by unfold J3;rw [hEm]
 have hEA: ∀x∈E,x∈D0/\vz (thM th) x.1.1=true:=fun x hx=>⟨hAs.subset (hEp.mem_iff.1 hx),hAu x (hEp.mem_iff.1 hx)⟩;have hEl:E.length<=5300000:=by rw [hEp.length_eq];omega
 have ajY: ∀k,wv.ownBlock=some k->k<w7.heap.size:=fun k hk=>by have:=(g4.wa.row.lt hk).2;omega
 have s0:SfI w1.heap.size bg hm t E bs (.slice a t.length cap) (.slice ea (pI t).length ec) wv gv pv av w2.heap.size w7.heap.size bs (qB t) gs (.slice none 0 0) (.slice none 0 0) [] [] w7:=by refine ⟨g4.new n47,b7'.chg n47 id,((g4.new n47).ed).mono rC (fun b hb e=>⟨e,hb⟩) (fun b hb e=>⟨e,hb⟩),fun x hx k e=>.inl ⟨x,hx,e⟩,hbs,hIn,o7.mono (oN seC) (fun b hb e=>⟨by have h9:w4.heap.size<=b:=e;omega,hb⟩) i3,aN,aN,fun k e=>(by cases e),fun x hx=>((hDa x (hEA x hx).1).keep (pF _) n47.keep).mono (oU _) fun b hb e=>⟨e.elim id id,hb⟩,by simp,aam _,by omega⟩
 have hwl: ∀j,(qB t j).length<=6000000:=fun j=>by
  rw [Md,adE];have h1:(DK t j).length<=1:=by unfold DK;split<;>simp
  have h2:=arS (xR j) (pI t);omega
 clear hDa hp4 hix hDx rdD hAx hAm hAs hAl hAu hEp hEs hEm o5 c6 o6 c7 g4 b7' b34 b35 n5 n46 hD0 hA;obtain ⟨aa,ac,rfl,_,_⟩:=o7.form;clear o7;refine qq0 ?_;refine aC (σ:=Nat×List uQ×(Nat->List Nat)×Value×Value×List SE×List SE) (fun q=>[(4,q.2.2.2.1),(5,q.2.2.2.2.1),(7,pT w2.heap.size),(34,.slice aa E.length ac),(35,vi E.length),(36,vi q.1)]) (fun q W=>q.1<=E.length/\SfI w1.heap.size bg hm t E bs (.slice a t.length cap) (.slice ea (pI t).length ec) wv gv pv (.slice aa E.length ac) w2.heap.size w7.heap.size q.2.1 q.2.2.1 gs q.2.2.2.1 q.2.2.2.2.1 q.2.2.2.2.2.1 q.2.2.2.2.2.2 W/\uO (qB t) (E.map (·.1.1))=(q.2.2.2.2.2.1.map (·.1.1)++(uO q.2.2.1 ((E.drop q.1).map (·.1.1))).1,q.2.2.2.2.2.2.map (·.1.1)++(uO q.2.2.1 ((E.drop q.1).map (·.1.1))).2)/\(∀j,(q.2.2.1 j).length<=6000000+q.1)/\q.2.2.2.2.2.1.length+q.2.2.2.2.2.2.length=q.1/\New w W) (fun q=>E.length-q.1) (0,bs,qB t,.slice none 0 0,.slice none 0 0,[],[]) (sl rfl) ⟨aoW _,s0,rfl,hwl,rfl,n07⟩ ?_;clear s0;rintro ⟨i,bs',Wn,uv,dv,U,D⟩ G W ⟨hi,s,hsg,Y8,hul,nW⟩;dsimp only at hi s hsg Y8 hul nW;simp only [qi];have hzW:=nW.size;(repeat' (first|refine qq1 ?_|refine aa1 (fun _=>?_) (fun _=>?_)))
 ·obtain ⟨x,hx⟩:=oZ E (k:=i) (by omega);have hxE:=apA hx;obtain ⟨hxD,hxm⟩:=hEA x hxE;obtain ⟨hxs,hxd⟩:=hsrc x hxD;obtain ⟨d,hd⟩: ∃d,x.1.1.dst=some d:=by
   cases e:x.1.1.dst with
   |none=>unfold vz at hxm;rw [e] at hxm;simp at hxm
   |some d=>exact ⟨d,rfl⟩
  have hdl:=hxd d hd;rw [drop_cons hx,List.map_cons,uO,hd,Option.getD_some] at hsg;refine aJ (s.able.rd (oN seC)) rfl rfl (by omega) hx fun b o cs hl2 hR hat=>?_;obtain rfl:cs=seC x:=hR;refine aQ hat rfl rfl ?_;refine Wl.alloc fun w8 b8 n8 s8=>?_;refine aK (new:=seC x) b8 rfl rfl rfl rfl zl6 (IC x) fun w9 b9 c9 s9=>?_;replace b9:Bk w9 W.heap.size 100 (seC x):=b9;have n9:New W w9:=(Chg.trans n8.any c9 i3).tN
  clear b8 n8 c9 hat;have S9:=s.new n9;have n09:=New.trans nW n9;have huW: ∀k,uv.ownBlock=some k->k<W.heap.size:=fun k hk=>(s.us.lt hk).2;clear s nW;refine qq0 ?_;refine iq [0,1,2,4,5] [3,6,7] rfl (by kernel_rfl) (by simp only [pick,aq1,aq2];rfl) (by simp only [pick,aq1,aq2];rfl) (fun w'=>New w9 w') (Chg.drew _ _) ?_;refine ax (u:=pT bg) rfl (fun w' hw=>(S9.b7.chg hw id).cell (o:=0) rfl) ?_;(repeat' (refine aa4 ?_));refine ax (u:=vi d) rfl (fun w' hw=>by have:=(b9.chg hw id).cell (o:=1) (u:=vi (qx x.1.1.dst)) rfl;rw [hd] at this;exact this) ?_;(repeat' (refine aa4 ?_));refine ax (u:=vi x.1.1.src) rfl (fun w' hw=>(b9.chg hw id).cell (o:=0) rfl) ?_;(repeat' (refine af ?_));have n10:New w9 w9.drew:=Chg.drew _ _;refine dH ?_;refine au (JZ (S9.g.new n10) hok S9.hbs S9.hin hdl) rfl ?_;rintro rv w11 ⟨orv,n11⟩;have G8:=New.trans n10 n11;refine ak ⟨rfl,G8,?_⟩;obtain ⟨ra,rc,rfl,_,_⟩:=orv.form;obtain ⟨bb,hbb,hbr⟩:=CV (W:=Wn) (i:=d) hxs;refine dH ?_;refine bC (orv.rd GY.mo) rfl rfl (by omega) hbb fun b o hcell=>?_;refine ak ⟨rfl,G8,?_⟩;refine Wch.last ?_;refine ah (u:=.bool bb) rfl hcell ?_;have S11:=S9.new G8;have b11:=b9.chg G8 id;have TW:=New.trans n09 G8;have Qv:=G8.size;have hz9:=n9.size;have hzN:=S11.z;have hNl:w.heap.size<=w7.heap.size:=n07.size;clear orv hcell b9 S9 n9 n10 n11;obtain ⟨ua,uc,rfl,_,_⟩:=S11.us.form;obtain ⟨da,dc,rfl,_,_⟩:=S11.dr.form;cases hb:bb
  ·have hnr: ¬Rch Wn d x.1.1.src:=fun e=>by have:=hbr.2 e;rw [hb] at this;cases this
   rw [if_neg hnr] at hsg;refine qq0 ?_;refine aZ b11 rfl rfl ?_;refine bY (R:=flat seC) (y:=x) Tt S11.us rfl rfl rfl rfl rfl (by omega) (by omega) (by simp only [maxLen];omega) (by omega) rfl rfl fun v2 w12 p o12 c12 lie=>?_;have anh:=b11.lt;have abb:=o12.mono (Pb':=fun b=>w7.heap.size<=b) (oN seC) (fun b _ e=>by rcases e with e|e;exact e;omega) i3;have S12:=S11.ajW hxE abb c12 lie;have b12:=b11.chg c12 (fun e=>by have:=huW _ e;omega);have n12:New w w12:=(Chg.trans TW.any c12 i3).toNew fun k hk e=>by have:=(S11.us.lt e).1;omega
   have an5:v2.ownBlock=v2.ownBlock:=rfl;clear o12 abb c12 lie S11 b11 TW;have ae1:bs'.length=t.length:=by have h1:=congrArg aqX S12.hbs;simpa using h1
   have hne0:bs'≠ []:=by intro e;rw [e] at ae1;simp at ae1;omega
   obtain ⟨wg,wc,hwv,an6,an7,hob⟩:=S12.g.wa.row.blk hne0;obtain ⟨⟨xv,xl⟩,hxr⟩:=oZ bs' (k:=x.1.1.src) (by omega);have hxo:=S12.g.wa.el _ (apA hxr);dsimp only at hxo;obtain ⟨xa,xc,rfl,aaY,Y1⟩:=hxo.form;have Y2:xl=Wn x.1.1.src:=by have h1:=congrArg (fun l=>l[x.1.1.src]?) S12.hbs;simp only [apC,hxr,aq0 hxs,adC,Option.some.injEq] at h1;exact h1
   have aeZ:xl.length<=6000000+i:=by rw [Y2];exact Y8 _
   subst hwv;obtain ⟨va,vc,rfl,_,_⟩:=S12.us.form;refine qq0 ?_;refine aV rfl (by kernel_rfl) (fun w'=>Chg (fun j=>(Value.slice xa xl.length xc).ownBlock=some j) w12 w') (Chg.drew _ _) ?_;intro w17 n17;have h6': ∀w',Chg (fun j=>(Value.slice xa xl.length xc).ownBlock=some j) w12 w'->Bk w' w2.heap.size 140 [pT bg]:=fun w' c=>S12.b7.chg c fun e=>hxo.pK S12.b7 rfl e rfl;have hg': ∀w',Chg (fun j=>(Value.slice xa xl.length xc).ownBlock=some j) w12 w'->Bk w' bg 145 (grC (.slice a t.length cap) hm (.slice ea (pI t).length ec) (.slice (some ⟨wg,0,none⟩) bs'.length wc) gv pv):=fun w' c=>S12.g.b.chg c fun e=>hxo.pK S12.g.b rfl e rfl;have hx': ∀w',Chg (fun j=>(Value.slice xa xl.length xc).ownBlock=some j) w12 w'->Bk w' W.heap.size 100 (seC x):=fun w' c=>b12.chg c fun e=>hxo.pK b12 rfl e rfl;refine aa0 (ax (u:=pT bg) rfl (fun w' hw=>(h6' w' hw).cell (o:=0) rfl) (af ?_));refine qq4 ?_;refine aa0 (ax (u:=.slice (some ⟨wg,0,none⟩) bs'.length wc) rfl (fun w' hw=>(hg' w' hw).cell (o:=3) rfl) (af ?_));(repeat' (refine aa0 (aa4 (af ?_))));refine aa0 (ax (u:=vi x.1.1.src) rfl (fun w' hw=>(hx' w' hw).cell (o:=0) rfl) (af ?_));refine aa0 (ax (u:=pT bg) rfl (fun w' hw=>(h6' w' hw).cell (o:=0) rfl) (af ?_));refine qq4 ?_;refine aa0 (ax (u:=.slice (some ⟨wg,0,none⟩) bs'.length wc) rfl (fun w' hw=>(hg' w' hw).cell (o:=3) rfl) (af ?_));(repeat' (refine aa0 (aa4 (af ?_))));refine aa0 (ax (u:=vi x.1.1.src) rfl (fun w' hw=>(hx' w' hw).cell (o:=0) rfl) (af ?_));refine aa0 (aa8 (af ?_));have hrow: ∀w',Chg (fun j=>(Value.slice xa xl.length xc).ownBlock=some j) w12 w'->w'.cell? ⟨wg,0+(x.1.1.src:Int).toNat*1,none⟩=some (.slice xa xl.length xc):=fun w' c=>by have h9:=(S12.g.wa.row.chg (oh _) c fun j hj e=>S12.g.wa.vG _ (apA hxr) j e hj).at rfl rfl hxr;have:=h9.get 0 rfl;simpa using this
   refine aa0 (ax (u:=.slice xa xl.length xc) rfl hrow (af ?_));(repeat' (refine aa0 (aa4 (af ?_))));refine aa0 (ax (u:=vi d) rfl (fun w' hw=>by have:=(hx' w' hw).cell (o:=1) (u:=vi (qx x.1.1.dst)) rfl;rw [hd] at this;exact this) (af ?_));refine aG rfl (bG (R:=Wk.one viN) (Pe:=NoB) (y:=d) qE rfl rfl rfl rfl (by omega) (by omega) fun v8 w18 o8 n8 s8 e8=>?_);have n78:=n17.trans n8;refine ak ⟨rfl,n78.any,?_⟩;refine aG rfl (bH qE (hxo.new (oH _) n78) (o8.rd qE.mo) (fun y cs hy=>hy) rfl rfl (by omega) (by simp only [maxLen,apj];omega) (by simp only [apj];omega) fun v9 w19 o9 c9 lie _=>?_);have c69:Chg (fun j=>(Value.slice xa xl.length xc).ownBlock=some j) w12 w19:=Chg.trans n78.any c9 i3;refine ak ⟨rfl,c69,?_⟩;refine aa0 (aa8 (af ?_));have ajQ:=n78.size;have aaO:=n12.size;have ani:=S12.z;refine Wt.last rfl (dI (f:=(·.1:uQ->Value)) (q:=(v9,xl++ [d])) (j:=x.1.1.src) (cap:=wc) (S12.g.wa.row.chg (oh _) c69 fun j hj e=>S12.g.wa.vG _ (apA hxr) j e hj) rfl (by omega) (by show Value.pointer (some ⟨wg,0+(x.1.1.src:Int).toNat*1,none⟩)=_;simp) rfl rfl (by obtain ⟨_,_,rfl,_⟩:=o9.form;rfl) fun w20 o10 c10=>?_);refine ak ?_;have NS:v9.ownBlock=(Value.slice xa xl.length xc).ownBlock∨ ∀k,v9.ownBlock=some k->w12.heap.size<=k:=lie.imp id fun h9 k hk=>by have:=h9 k hk;omega
   have S20:=S12.Y7 hxr (x':=(v9,xl++ [d])) (w1:=w19) (by rw [Y2]) hdl (o9.mono (oU _) (fun b _ e=>by rcases e with e|e;exact e;omega) i3) c69 NS o10 c10 ajY;have G6:Chg (fun j=>(Value.slice xa xl.length xc).ownBlock=some j∨j=wg) w12 w20:=Chg.trans (c69.mono fun k _ e=>Or.inl e) c10 fun k _ e=>by cases e;exact .inr rfl
   have n20:New w w20:=(Chg.trans (M:=fun j=>(Value.slice xa xl.length xc).ownBlock=some j∨j=wg) n12.any G6 fun k _ e=>e).toNew fun k hk e=>by rcases e with e|e;(have:=(hxo.lt e).1;omega);omega
   have hfe:(fun j=>if j=x.1.1.src then Wn j++ [d] else Wn j)=fun j=>if j=x.1.1.src then Wn x.1.1.src++ [d] else Wn j:=by
    funext j;by_cases e:j=x.1.1.src
    ·rw [if_pos e,if_pos e,e]
    ·rw [if_neg e,if_neg e]
   refine qq0 ?_;refine aA (i+1,bs'.set x.1.1.src (v9,xl++ [d]),(fun j=>if j=x.1.1.src then Wn x.1.1.src++ [d] else Wn j),_,_,U++ [x],D) (sl rfl) ⟨by dsimp only;omega,S20,?_,fun j=>?_,by dsimp only;rw [adE,apj];omega,n20⟩ (by dsimp only;omega)
   ·dsimp only;rw [hsg, <-hfe];simp
   ·dsimp only;split
    ·rw [adE,apj];have:=Y8 x.1.1.src;omega
    ·have:=Y8 j;omega
  ·have hnr:Rch Wn d x.1.1.src:=hbr.1 hb;rw [if_pos hnr] at hsg;refine qq3 ?_;refine aZ b11 rfl rfl ?_;refine bY (R:=flat seC) (y:=x) Tt S11.dr rfl rfl rfl rfl rfl (by omega) (by omega) (by simp only [maxLen];omega) (by omega) rfl rfl fun v2 w12 p o12 c12 lie=>?_;have abb:=o12.mono (Pb':=fun b=>w7.heap.size<=b) (oN seC) (fun b _ e=>by rcases e with e|e;exact e;omega) i3;have S12:=S11.drop1 hxE abb c12 lie;have n12:New w w12:=(Chg.trans TW.any c12 i3).toNew fun k hk e=>by have:=(S11.dr.lt e).1;omega
   refine qq5 ?_;refine aA (i+1,bs',Wn,.slice ua U.length uc,v2,U,D++ [x]) (sl rfl) ⟨by dsimp only;omega,S12,?_,fun j=>by dsimp only;have:=Y8 j;omega,by dsimp only;rw [adE,apj];omega,n12⟩ (by dsimp only;omega);dsimp only;rw [hsg];simp
 ·obtain rfl:i=E.length:=by omega
  rw [aqf,List.map_nil,uO,aqG,aqG] at hsg;refine cZ rfl rfl rfl rfl ⟨_,rfl,⟨uv,dv,rfl,?_,?_⟩,nW⟩
  ·rw [hsm,hsg];exact abX (s.us.rd (oN seC)) (fun b hb=>by rcases hb with hb|hb;omega;exact hb.elim) fun y hy=>(s.args y (s.uin y (.inl hy))).mono (oU _) fun b _ hb=>by have:=hb.1.1;omega
  ·rw [hsm,hsg];exact abX (s.dr.rd (oN seC)) (fun b hb=>by rcases hb with hb|hb;omega;exact hb.elim) fun y hy=>(s.args y (s.uin y (.inr hy))).mono (oU _) fun b _ hb=>by have:=hb.1.1;omega
end Go.Proofs.YtfbnfhhmiiahnaaGreatDoor
namespace Go.Proofs.YtfbnfhhmiiahnaaGreatDoor
open Go Wk
structure Giv where
 tree:List Nd
 cards:List Cd
 fails:List Nm
 gone:List Nm
structure Bn where
 path:Nm
 device:Bool
 level:Int
 reason:Nat
 card:Option Nat
 why:Int
 wants:List Nat
deriving Inhabited
def su (t:List Nd) (i:Nat):Bool:=decide (0<i)&&(onM t i&& !Ef t i)
def CW (t:List Nd) (i:Nat):List Nat:=(pI t).filterMap fun e=>if e.src=i/\e.soft=false/\su t i=true then e.dst else none
def wG (g:Giv) (i:Nat):Option Nat:=(E8 g.tree i++ [0]).find? fun k=>g.gone.contains (pV g.tree k)
def J5 (rs:List Rfs) (i:Nat):Option Int:=rs.foldl (fun a r=>if r.node=i then some r.by_ else a) none
def J6 (rs:List (List Nat)) (i:Nat):Option Nat:=rs.foldl (fun a l=>if i∈l then some (l.headD 0) else a) none
noncomputable def firstM (g:Giv) (i:Nat):Nat×Int:=
 let t:=g.tree;let d:=su t i
 if onM t i=false then (1, -1)
 else if d=true/\sD g.cards t i=none then (2, -1)
 else match (if d=true then J5 (rV g.cards t).2 i else none) with
  |some b=>(3,b)
  |none=>if d=true/\(∃e∈pI t,e.src=i/\e.soft=false/\e.dst=none) then (4, -1)
   else match (if d=true then J6 (uz t) i else none) with
    |some k=>(5,(k:Int))
    |none=>match wG g i with
     |some k=>(6,(k:Int))
     |none=>(0, -1)
noncomputable def Am (g:Giv) (i:Nat):Bn:=
 let c:=if su g.tree i=true then sD g.cards g.tree i else none
 {path:=pV g.tree i,device:=su g.tree i,level:=match c with|some k=>(g.cards.getD k default).level|none=>0,
  reason:=(firstM g i).1,card:=c,why:=(firstM g i).2,wants:=(if 0<i then [par g.tree i] else [])++CW g.tree i}
def qI (N:Nat->Bn) (n:Nat):List Nat:=((abM n).filter fun i=>decide ((N i).reason=0)).mergeSort fun x y=> !decide (sJ (fun i=>(N i).level) (fun i=>(N i).path) y x<0)
abbrev St:=Nat->Nat
def tq (N:Nat->Bn) (S:St):Option Nat->List Nat->Option Nat
 |best,[]=>best
 |best,n::r=>tq N S (if S n≠1/\(∀j,best=some j->(N n).path<(N j).path) then some n else best) r
def tY (N:Nat->Bn) (S:St) (i:Nat):Option Nat:=tq N S none (N i).wants
def sU (N:Nat->Bn) (fl:Nm->Bool) (S:St) (i:Nat):Option St:=
 if (N i).reason=0/\S i=0/\tY N S i=none then some (fun k=>if k=i then (if (N i).device&&fl (N i).path then 2 else 1) else S k) else none
structure Rnd where
 tried:List Nat
 waits:List (Nat×Nat)
deriving DecidableEq,Inhabited
def pY (N:Nat->Bn) (fl:Nm->Bool):List Nat->St->Rnd×St
 | [],S=>(⟨[],[]⟩,S)
 |i::r,S=>if S i≠0 then pY N fl r S else match sU N fl S i with
  |some S'=>let q:=pY N fl r S';(⟨i::q.1.tried,q.1.waits⟩,q.2)
  |none=>let q:=pY N fl r S;(⟨q.1.tried,(i,(tY N S i).getD 0)::q.1.waits⟩,q.2)
def doneGo (N:Nat->Bn) (fl:Nm->Bool) (order:List Nat):Nat->St->List Rnd×St
 |0,S=>([],S)
 |f+1,S=>
  let q:=pY N fl order S;let hd:=if q.1.tried=[]/\q.1.waits=[] then [] else [q.1]
  if q.1.tried=[] then (hd,q.2) else let p:=doneGo N fl order f q.2;(hd++p.1,p.2)
def S0:St:=fun _=>0
def wO (N:Nat->Bn) (fl:Nm->Bool) (n:Nat):List Rnd×St:=doneGo N fl (qI N n) (n+1) S0
def rowOf (N:Nat->Bn) (S:St) (i:Nat):Nat×Option Nat×Int:=
 if (N i).reason≠0∨S i=1 then ((N i).reason,(N i).card,(N i).why)
 else if S i=2 then (7,(N i).card,(N i).why)
 else (8,(N i).card,match tY N S i with|some k=>(k:Int)|none=> -1)
inductive Bnd (N:Nat->Bn) (fl:Nm->Bool):Nat->Prop
 |mk (i:Nat):(N i).reason=0->((N i).device&&fl (N i).path)=false->(∀n,n∈(N i).wants->Bnd N fl n)->Bnd N fl i
def Fld (N:Nat->Bn) (fl:Nm->Bool) (i:Nat):Prop:=(N i).reason=0/\((N i).device&&fl (N i).path)=true/\ ∀n∈(N i).wants,Bnd N fl n
theorem Bnd.inv {N:Nat->Bn} {fl:Nm->Bool} {i:Nat} (h:Bnd N fl i):(N i).reason=0/\((N i).device&&fl (N i).path)=false/\ ∀n∈(N i).wants,Bnd N fl n:=by
 cases h with|mk _ h1 h2 h3=>exact ⟨h1,h2,h3⟩
theorem FQ {N:Nat->Bn} {S:St}: ∀(l:List Nat) (b:Option Nat),tq N S b l=none↔b=none/\ ∀n∈l,S n=1
 | [],b=>by simp [tq]
 |n::r,b=>by
  rw [tq,FQ r];constructor
  ·rintro ⟨h1,h2⟩;split at h1
   ·cases h1
   ·rename_i hc
    subst h1;refine ⟨rfl,fun m hm=>?_⟩;rcases List.mem_cons.1 hm with rfl|hm
    ·exact arD fun e=>hc ⟨e,fun j hj=>by cases hj⟩
    ·exact h2 m hm
  ·rintro ⟨rfl,h⟩;refine ⟨if_neg fun e=>e.1 (h n arH),fun m hm=>h m (aqa _ hm)⟩
theorem QL {N:Nat->Bn} {S:St} {i:Nat}:tY N S i=none↔ ∀n∈(N i).wants,S n=1:=by
 unfold tY;rw [FQ];simp
theorem Ij {N:Nat->Bn} {S:St}: ∀(l:List Nat) (b:Option Nat) (k:Nat),tq N S b l=some k->b=some k∨(k∈l/\S k≠1)
 | [],b,k,h=>.inl h
 |n::r,b,k,h=>by
  rw [tq] at h;rcases Ij r _ k h with e|⟨e1,e2⟩
  ·split at e
   ·rename_i hc;cases e;exact .inr ⟨arH,hc.1⟩
   ·exact .inl e
  ·exact .inr ⟨aqa _ e1,e2⟩
theorem TY {N:Nat->Bn} {S:St} {i k:Nat} (h:tY N S i=some k):k∈(N i).wants/\S k≠1:=by
 rcases Ij _ _ _ h with e|e
 ·cases e
 ·exact e
structure Vld (N:Nat->Bn) (fl:Nm->Bool) (S:St):Prop where
 le: ∀i,S i<=2
 b: ∀i,S i=1->Bnd N fl i
 f: ∀i,S i=2->Fld N fl i
theorem ajZ {N:Nat->Bn} {fl:Nm->Bool}:Vld N fl S0:=⟨fun _=>aoW _,fun i h=>(by cases h),fun i h=>(by cases h)⟩
theorem Vld.look {N:Nat->Bn} {fl:Nm->Bool} {S S':St} {i:Nat} (v:Vld N fl S) (h:sU N fl S i=some S'):Vld N fl S':=by
 unfold sU at h;split at h
 ·rename_i hc
  cases h;obtain ⟨h1,h2,h3⟩:=hc;rw [QL] at h3;have hw: ∀n∈(N i).wants,Bnd N fl n:=fun n hn=>v.b n (h3 n hn);refine ⟨fun k=>?_,fun k hk=>?_,fun k hk=>?_⟩
  ·show (if k=i then _ else _)<=2;split
   ·split<;>omega
   ·exact v.le k
  ·split at hk
   ·rename_i e;subst e
    split at hk
    ·cases hk
    ·rename_i e;exact .mk _ h1 (by simpa using e) hw
   ·exact v.b k hk
  ·split at hk
   ·rename_i e;subst e
    split at hk
    ·rename_i e;exact ⟨h1,e,hw⟩
    ·cases hk
   ·exact v.f k hk
 ·cases h
def Fin (N:Nat->Bn) (n:Nat) (S:St):Prop:= ∀i,i<n->(N i).reason=0->S i=0-> ∃k∈(N i).wants,S k≠1
def InN (N:Nat->Bn) (n:Nat):Prop:= ∀i,i<n-> ∀k∈(N i).wants,k<n
theorem Fin.bnd {N:Nat->Bn} {fl:Nm->Bool} {S:St} {n:Nat} (v:Vld N fl S) (f:Fin N n S) (hn:InN N n) {i:Nat} (h:Bnd N fl i):i<n->S i=1:=by
 induction h with
 |mk i h1 h2 h3 ih=>
  intro hi;have h4:=v.le i;by_cases e1:S i=1
  ·exact e1
  ·by_cases e2:S i=2
   ·have:=(v.f i e2).2.1;rw [h2] at this;cases this
   ·obtain ⟨k,hk,e⟩:=f i hi h1 (by omega);exact absurd (ih k hk (hn i hi k hk)) e
def J7 (S:St) (l:List Nat):Nat:=(l.filter fun i=>decide (S i=0)).length
theorem QM {N:Nat->Bn} {fl:Nm->Bool} {S S':St} {i:Nat} (h:sU N fl S i=some S'):S i=0/\S' i≠0/\(∀k,S k≠0->S' k=S k)/\(∀k,k≠i->S' k=S k):=by
 unfold sU at h;split at h
 ·rename_i hc
  cases h;refine ⟨hc.2.1,?_,fun k hk=>?_,fun k hk=>if_neg hk⟩
  ·dsimp only;rw [if_pos rfl];split<;>decide
  ·dsimp only;rw [if_neg];intro e;subst e;exact hk hc.2.1
 ·cases h
theorem wY {N:Nat->Bn} {fl:Nm->Bool}: ∀(l:List Nat) (S:St),(∀k,S k≠0->(pY N fl l S).2 k=S k)/\(∀k,k∉l->(pY N fl l S).2 k=S k)/\(Vld N fl S->Vld N fl (pY N fl l S).2)/\
 ((pY N fl l S).1.tried=[]->(pY N fl l S).2=S/\ ∀i∈l,S i=0->sU N fl S i=none)/\(∀i∈(pY N fl l S).1.tried,i∈l/\S i=0/\(pY N fl l S).2 i≠0)
 | [],S=>⟨fun _ _=>rfl,fun _ _=>rfl,id,fun _=>⟨rfl,fun i h=>by simp at h⟩,fun i h=>by simp [pY] at h⟩
 |i::r,S=>by
  rw [pY];split
  ·rename_i h0
   obtain ⟨a,b,c,d,e⟩:=wY (N:=N) (fl:=fl) r S;refine ⟨a,fun k hk=>b k fun e=>hk (aqa _ e),c,fun h=>⟨(d h).1,fun k hk hs=>?_⟩,fun k hk=>⟨aqa _ (e k hk).1,(e k hk).2⟩⟩;rcases List.mem_cons.1 hk with rfl|hk
   ·exact absurd hs h0
   ·exact (d h).2 k hk hs
  ·rename_i h0
   have h0:S i=0:=arD h0;cases hl:sU N fl S i with
   |some S'=>
    obtain ⟨k1,k2,k3,k4⟩:=QM hl;obtain ⟨a,b,c,d,e⟩:=wY (N:=N) (fl:=fl) r S';dsimp only;refine ⟨fun k hk=>(a k (by rw [k3 k hk];exact hk)).trans (k3 k hk),fun k hk=>?_,fun v=>c (v.look hl),fun h=>(by cases h),fun k hk=>?_⟩
    ·exact (b k fun e=>hk (aqa _ e)).trans (k4 k fun e=>hk (e▸arH))
    ·rcases List.mem_cons.1 hk with rfl|hk
     ·exact ⟨arH,h0,by rw [a k k2];exact k2⟩
     ·obtain ⟨e1,e2,e3⟩:=e k hk;refine ⟨aqa _ e1,?_,e3⟩;exact arD fun hs=>hs ((k3 k hs).symm.trans e2)
   |none=>
    obtain ⟨a,b,c,d,e⟩:=wY (N:=N) (fl:=fl) r S;dsimp only;refine ⟨a,fun k hk=>b k fun e=>hk (aqa _ e),c,fun h=>⟨(d h).1,fun k hk hs=>?_⟩,fun k hk=>⟨aqa _ (e k hk).1,(e k hk).2⟩⟩;rcases List.mem_cons.1 hk with rfl|hk
    ·exact hl
    ·exact (d h).2 k hk hs
theorem Y9 {S S':St} {l:List Nat} (h: ∀k,S k≠0->S' k=S k) {i:Nat} (hi:i∈l) (h0:S i=0) (h1:S' i≠0):J7 S' l<J7 S l:=by
 unfold J7;rw [<-arU, <-arU];induction l with
 |nil=>simp at hi
 |cons x r ih=>
  rw [arV,arV];have hle:arW (fun i=>decide (S' i=0)) r<=arW (fun i=>decide (S i=0)) r:=by apply List.countP_mono_left;intro k _ hk;rw [decide_eq_true_eq] at hk ⊢;exact arD fun e=>e ((h k e).symm.trans hk)
  rcases List.mem_cons.1 hi with rfl|hi
  ·rw [decide_eq_true h0,decide_eq_false h1,if_neg (by decide),if_pos rfl];omega
  ·have:=ih hi;have h2:(if decide (S' x=0)=true then 1 else 0)<=(if decide (S x=0)=true then 1 else 0):=by
    by_cases e:S x=0
    ·rw [decide_eq_true e,if_pos rfl];split<;>decide
    ·rw [decide_eq_false e,decide_eq_false (by rw [h x e];exact e)];exact aam _
   exact Nat.add_lt_add_of_lt_of_le this h2
theorem J8 {N:Nat->Bn} {fl:Nm->Bool} {order:List Nat}: ∀(f:Nat) (S:St),Vld N fl S->J7 S order<f->Vld N fl (doneGo N fl order f S).2/\(∀i∈order,(doneGo N fl order f S).2 i=0->sU N fl (doneGo N fl order f S).2 i=none)
 |0,S,_,h=>by omega
 |f+1,S,v,h=>by
  obtain ⟨a,b,c,d,e⟩:=wY (N:=N) (fl:=fl) order S;rw [doneGo];dsimp only;split
  ·rename_i ht
   dsimp only;refine ⟨c v,fun i hi h0=>?_⟩;rw [(d ht).1] at h0 ⊢;exact (d ht).2 i hi h0
  ·rename_i ht
   obtain ⟨i,hi⟩:=List.exists_mem_of_ne_nil _ ht;obtain ⟨e1,e2,e3⟩:=e i hi;exact J8 f _ (c v) (by have:=Y9 a e1 e2 e3;omega)
theorem QN {N:Nat->Bn} {n i:Nat}:i∈qI N n↔i<n/\(N i).reason=0:=by
 unfold qI;rw [arI,aoT,aoS,decide_eq_true_eq]
theorem QO (N:Nat->Bn) (n:Nat):(qI N n).length<=n:=by
 unfold qI;rw [aq9];have:=arA (fun i=>decide ((N i).reason=0)) (abM n)
 rwa [arB] at this
theorem Xh {N:Nat->Bn} {fl:Nm->Bool} {S:St} {n:Nat} (h: ∀i∈qI N n,S i=0->sU N fl S i=none):Fin N n S:=by
 intro i hi hr h0;have:=h i (QN.2 ⟨hi,hr⟩) h0;unfold sU at this;split at this
 ·cases this
 ·rename_i hc
  have hw:tY N S i≠none:=fun e=>hc ⟨hr,h0,e⟩;cases hk:tY N S i with
  |none=>exact absurd hk hw
  |some k=>exact ⟨k,TY hk⟩
theorem MB (N:Nat->Bn) (fl:Nm->Bool) (n:Nat):Vld N fl (wO N fl n).2/\Fin N n (wO N fl n).2:=by
 unfold wO;have hl:J7 S0 (qI N n)<n+1:=by
  have h1:=QO N n;have:J7 S0 (qI N n)<=(qI N n).length:=by unfold J7;exact arA _ _
  omega
 obtain ⟨v,h⟩:=J8 (n+1) S0 ajZ hl;exact ⟨v,Xh h⟩
theorem QR {N:Nat->Bn} {S:St} {i:Nat}:(rowOf N S i).1=0↔(N i).reason=0/\S i=1:=by
 unfold rowOf;split
 ·rename_i h
  dsimp only;constructor
  ·intro e;exact ⟨e,h.resolve_left fun q=>q e⟩
  ·exact fun e=>e.1
 ·rename_i h
  rw [not_or,Decidable.not_not] at h;split
  ·simp;intro _;omega
  ·simp;intro _;exact h.2
end Go.Proofs.YtfbnfhhmiiahnaaGreatDoor
namespace Go.Proofs.YtfbnfhhmiiahnaaGreatDoor
open Go Wk
open Go.RowKit (Below)
attribute [local irreducible] Go.Calls
abbrev KY (L:List (Nm×Int)):List (Value×Value):=L.map fun p=>(vs p.1,vi p.2)
structure Cnt (l:List Nm) (L:List (Nm×Int)):Prop where
 nd:(L.map (·.1)).Nodup
 mem: ∀p∈L,1<=p.2/\p.2<=l.length/\p.1∈l
 all: ∀s∈l, ∃c,(s,c)∈L
theorem NW {s:Nm} (h:s.length<=100000000): ∃q,keyOf prog 9 (vs s)=some q:=
 ⟨_,WideMaps.keyOf_string_mk underlying9 (by simp only [ByteArray.size,ao1,maxLen];omega)⟩
theorem FT {Pb:Nat->Prop} {w:World} {v:Value} {xs:List Nm} (h:RdS (Wk.one vs) 1 Pb w v xs) (hs: ∀x∈xs,x.length<=100000000):
 Calls prog 57 #[v] w (Ret fun r w'=>(∃b L,r=.map (some b)/\w.heap.size<=b/\sO prog 9 w' b (KY L)/\Cnt xs L)/\New w w'):=by
 obtain ⟨a,cap,rfl,hc1,hc2⟩:=h.form;simp only [maxLen] at hc2;refine oG func57 rfl ntmps57 rfl ?_;refine qq0 ?_;refine fV (k:=9) fun w1 m1 n1 s1=>?_;generalize hbm:w.heap.size=bm at m1;refine qq0 ?_;refine aC (σ:=Nat×List (Nm×Int)) (fun s=>[(3,.map (some bm)),(7,.slice a xs.length cap),(8,vi xs.length),(9,vi s.1)]) (fun s W=>s.1<=xs.length/\Cnt (xs.take s.1) s.2/\sO prog 9 W bm (KY s.2)/\New w W) (fun s=>xs.length-s.1) (0,[]) (sl rfl) ⟨aoW _,⟨by simp,by simp,by simp⟩,m1,n1⟩ ?_;rintro ⟨i,L⟩ G W ⟨hi,hC,mW,nW⟩;dsimp only at hi hC mW nW;simp only [qi];(repeat' (first|refine qq1 ?_|refine aa1 (fun _=>?_) (fun _=>?_)))
 ·obtain ⟨s,hx⟩:=oZ xs (k:=i) (by omega);refine bC (h.keep (pF _) nW.keep) rfl rfl (by omega) hx fun b o hcell=>?_;refine ah (u:=vs s) rfl hcell ?_;refine qq0 ?_;obtain ⟨q,hq⟩:=NW (hs s (apA hx));have hlen:(xs.take i).length=i:=by rw [ao8];omega
  refine iY (Maps.string_keyed underlying9) mW hq rfl rfl ?_;rintro r (hr|⟨rfl,hr⟩)
  ·obtain ⟨⟨s',c⟩,hm,e⟩:=List.mem_map.1 hr;simp only [Prod.mk.injEq] at e;obtain ⟨e1,rfl⟩:=e;obtain rfl:=yD e1;have hb:=hC.mem _ hm;dsimp only at hb;(repeat' (refine Wl.add rfl rfl (by omega) (by omega) ?_));refine kE (v0:=vi c) (u:=vi (c+1)) (Maps.string_keyed underlying9) mW hq hr rfl rfl rfl fun w2 j v2 hj m2 c2 s2=>?_;rw [apC] at hj;obtain ⟨⟨s2',c2'⟩,hj1,hj2⟩:=Option.map_eq_some_iff.1 hj;simp only [Prod.mk.injEq] at hj2;obtain rfl:=yD hj2.1;have hset:(KY L).set j (vs s2',vi (c+1))=KY (L.set j (s2',c+1)):=by unfold KY;rw [arx]
   rw [hset] at m2;refine qq0 ?_;have hjl:=(List.getElem?_eq_some_iff.1 hj1).1;refine aA (i+1,L.set j (s2',c+1)) (sl rfl) ⟨by dsimp only;omega,⟨?_,fun p hp=>?_,fun t ht=>?_⟩,m2,Chg.trans nW c2 fun k hk e=>by omega⟩ (by dsimp only;omega)
   ·rw [arx];have:(L.map (·.1)).set j s2'=L.map (·.1):=by
     apply ao3;intro m;rw [apl];split
     ·rename_i e;subst e
      rw [if_pos (by simpa using hjl),apC,hj1];rfl
     ·rfl
    rw [this];exact hC.nd
   ·rw [take_snoc hx,adE,hlen];rcases arJ hp with hp|rfl
    ·have:=hC.mem p hp;rw [hlen] at this;exact ⟨this.1,by simp;omega,apX _ this.2.2⟩
    ·rw [hlen] at hb;exact ⟨by dsimp only;omega,by simp;omega,by simp⟩
   ·rw [take_snoc hx] at ht;have hin:t=s2'∨t∈xs.take i:=by
     rcases List.mem_append.1 ht with ht|ht
     ·exact .inr ht
     ·exact .inl (List.mem_singleton.1 ht)
    by_cases e:t=s2'
    ·subst e;exact ⟨c+1,List.mem_set hjl _⟩
    ·obtain ⟨d,hd⟩:=hC.all t (hin.resolve_left e);obtain ⟨m,hm'⟩:=List.mem_iff_getElem?.1 hd;refine ⟨d,List.mem_iff_getElem?.2 ⟨m,?_⟩⟩;rw [List.getElem?_set_ne]
     ·exact hm'
     ·rintro rfl;rw [hj1] at hm';cases hm';exact e rfl
  ·(repeat' (refine Wl.add rfl rfl (by omega) (by omega) ?_));refine gZ (u:=vi 1) (Maps.string_keyed underlying9) mW hq hr rfl rfl rfl fun w2 m2 c2 s2=>?_;refine qq0 ?_;refine aA (i+1,L++ [(s,1)]) (sl rfl) ⟨by dsimp only;omega,⟨?_,fun p hp=>?_,fun t ht=>?_⟩,by simpa [KY] using m2,Chg.trans nW c2 fun k hk e=>by omega⟩ (by dsimp only;omega)
   ·rw [aqk,List.nodup_append];refine ⟨hC.nd,by simp,fun x hx y hy=>?_⟩;obtain ⟨p,hp,rfl⟩:=List.mem_map.1 hx;simp at hy;subst hy;intro e;exact hr (vs p.1,vi p.2) (List.mem_map.2 ⟨p,hp,rfl⟩) (by rw [e])
   ·rw [take_snoc hx,adE,hlen];rcases List.mem_append.1 hp with hp|hp
    ·have:=hC.mem p hp;rw [hlen] at this;exact ⟨this.1,by simp;omega,apX _ this.2.2⟩
    ·rw [List.mem_singleton.1 hp];exact ⟨Int.le_refl 1,by simp;omega,by simp⟩
   ·rw [take_snoc hx] at ht;rcases List.mem_append.1 ht with ht|ht
    ·obtain ⟨d,hd⟩:=hC.all t ht;exact ⟨d,apX _ hd⟩
    ·rw [List.mem_singleton.1 ht];exact ⟨1,by simp⟩
 ·obtain rfl:i=xs.length:=by omega
  rw [apW] at hC;exact ay rfl rfl ⟨_,rfl,⟨bm,L,rfl,by omega,mW,hC⟩,nW⟩
end Go.Proofs.YtfbnfhhmiiahnaaGreatDoor
