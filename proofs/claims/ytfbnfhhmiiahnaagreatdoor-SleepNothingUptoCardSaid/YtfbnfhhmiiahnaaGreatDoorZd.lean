/-
  Texts of this claim, one behind the other: Lez, BG, C6, S8, Sz, Rf, Rg, Rn, Rs, Rh, D3, Ds, Ru, D4, D5, D6, D7, D8, S9, SA, SB, B8, BM.
-/
import Derived.Test.YtfbnfhhmiiahnaaGreatDoorZc
import Derived.RangeFuncFrom
import Derived.RangeFuncLeaves
import Derived.CallsIn
import Derived.TacticsIn
import Derived.RangeFuncSeq
import Derived.RangeFuncNested
import Derived.OrdersIn
set_option linter.all false
set_option maxHeartbeats 16000000
set_option maxRecDepth 8000
open List renaming range → abS,replicate → apW,mem_of_getElem? → apD,getElem?_map → apF,length_singleton → apm,getElem?_range → aq3,length_append → adL,take_length → apZ,getElem?_eq_getElem → adK,append_nil → aqJ,length → aq0,mem_cons_of_mem → aqd,mem_range → aoV,length_take → apb,map → arx,map_congr_left → aqb,mem_filter → aoW,range_succ → arz,map_set → arB,getElem?_cons_succ → aq4,getElem?_cons_zero → aq5,length_replicate → arC,length_filter_le → arD,length_range → arE,filter_append → arF,drop_length → aqi,getElem?_set → apo,count_cons → arH,ext_getElem? → ao6,getElem?_eq_none → aoS,filter_sublist → ao8,replicate_eq_nil_iff → arI,length_cons → aph,getElem?_replicate → arJ,mem_cons_self → arK,cons_append → aeH,eq_nil_iff_forall_not_mem → ap3,pairwise_lt_range → apr,size_toArray → ao4,mem_mergeSort → arL,length_mergeSort → ard,length_nil → apK,mem_or_eq_of_mem_set → arM,flatMap_append → arl,length_set → aqY,mem_append_left → ap0,nil_append → aoQ,eq_nil_of_length_eq_zero → aoP,map_id → aqc,replicate_succ → arN,set_append_right → ao5,map_append → aqn,replicate_zero → arO,getElem?_take → aav,map_map → aqa,drop_drop → apM,lt_trans → aqO,mergeSort_perm → arP,foldl_cons → aqk,getD_eq_getElem?_getD → apJ,count_set → arT,map_replicate → arU,append_assoc → adI,length_filterMap_le → arV,length_map → aqt,countP_eq_length_filter → arX,countP_cons → arY,countP → arZ
open Array renaming getElem?_eq_getElem → aaW,getD_eq_getD_getElem? → acf,replicate → ao1,getElem?_replicate → apa,getElem?_setIfInBounds_ne → arw,getElem?_eq_none → arA,getElem?_toList → aq2,size_setIfInBounds → arS
open Nat renaming zero_le → aoZ,le_trans → aru,lt_or_ge → arv,le_refl → aat,zero_add → acL,strongRecOn → aqj,beq → aoX,ne_of_beq_eq_false → ao9,sub_self → aq7,le_of_ble_eq_true → arQ
open Bool renaming and_eq_true → ao0,or_eq_true → ap6,false_or → ap7
open Int renaming toNat_natCast → ao3,lt_irrefl → arW
open Option renaming map_some → adJ,bind_some → arR
open Decidable renaming byContradiction → arG
open Go.Proofs.Tryz
namespace Go.Proofs.YtfbnfhhmiiahnaaGreatDoor.Wk
open Go Go.RowKit
section
variable {P:Program} {ops:Array Oper} {C:World->Prop} {Q:Exit->Act->World->Prop}
def okV (ops:Array Oper):Bool:=
 Region.noSelect ops&&(abS ops.size).all (fun j=>(abS j).all fun i=>Jp ops i j)&&
 (abS ops.size).all (fun j=>match ops[j]? with|some o=>o.after.all fun e=> !Region.binds .any e||decide (e.on<j)|none=>true)
theorem WW {j:Nat} {post:List Nat} (hjn:j<ops.size) (hpost:j+1=ops.size->post=[]) (hQ: ∀e a w,e≠ .normal-> ¬Q e a w) (hQC: ∀a w,Q .normal a w->C w): ∀(pre:List Nat) (a:Act) (w:World),(∀i∈pre,Free ops i j)->C w->TS P ops C Q (pre++j::post) a w->
 wpOp P ops QF j (fun a' w'=>C w'/\TS P ops C Q (pre++post) a' w') a w:=by
 intro pre a w hf hC h;obtain ⟨oj,hj⟩: ∃oj,ops[j]? =some oj:=⟨ops[j],aaW hjn⟩;cases hq:isQ ops j with
 |true=>
  obtain ⟨v,hy,ht⟩:=BZ hj hq pre a w hf hC h;have hrj:readB oj.op=true:=by unfold isQ at hq;rw [hj] at hq;exact hq
  exact ig hj hy hrj hC ⟨hC,ht⟩
 |false=>
  induction pre generalizing a with
  |nil=>
   rw [aoQ,TS,if_neg (by rw [hq];simp)] at h;by_cases hp:j+1=ops.size
   ·rw [if_pos hp] at h;rw [aoQ,hpost hp];exact BV hQ (fun a' w' h'=>⟨hQC _ _ h',h'⟩) h
   ·rw [if_neg hp] at h;exact h
  |cons i pre ih=>
   obtain ⟨⟨oi,oj',hi,hj',h1,h2,s1,s2⟩,hone,_⟩:=hf i (by simp);rw [hj] at hj';cases hj';have hqi:isQ ops i=true:=by rcases hone with h|h;exact h;rw [hq] at h;cases h
   rw [aeH,TS,if_pos hqi] at h;obtain ⟨o,vi,ho,hy,ht⟩:=h;rw [hi] at ho;cases ho;have:=ih _ (fun k hk=>hf k (by simp [hk])) ht;refine wpOp_mono (fun a' w' h'=>?_) (wpOp_put hj h1 s1 s2 hy this);obtain ⟨hy',hC',ht'⟩:=h';refine ⟨hC',?_⟩;rw [aeH,TS,if_pos hqi];exact ⟨oi,vi,hi,hy',ht'⟩
theorem NR {Q2:Exit->Act->World->Prop} (hQ: ∀e a w,e≠ .normal-> ¬Q e a w) (hQC: ∀a w,Q .normal a w->C w) (hQ2: ∀a w,Q .normal a w->Q2 .normal a w) (hok:okV ops=true): ∀(fuel:Nat) (listed:Array Bool) (a:Act) (w:World),listed.size=ops.size->(left ops listed).length=fuel->zU ops listed->(fuel≠0->C w)->TS P ops C Q (left ops listed) a w->wpAny P .any ops Q2 fuel listed a w:=by
 simp only [okV,ao0] at hok;obtain ⟨⟨hns,Jq⟩,hdown⟩:=hok;have hsel:=Region.noSelect_spec hns;have rdy: ∀listed:Array Bool,listed.size=ops.size-> ∀i,i∈Region.ready .any ops listed->i∈left ops listed:=by intro listed hs i hi;obtain ⟨h0,o,ho,_⟩:=mem_ready.1 hi;unfold left;rw [aoW,aoV];exact ⟨(Array.getElem?_eq_some_iff.1 ho).1,by simp [h0]⟩
 intro fuel;induction fuel with
 |zero=>intro listed a w hs hl hcl hC h;have hnil:left ops listed=[]:=aoP hl;rw [hnil] at h;refine ⟨?_,hQ2 _ _ h⟩;rw [ap3];intro i hi;have:=rdy listed hs i hi;rw [hnil] at this;cases this
 |succ fuel ih=>
  intro listed a w hs hl hcl hC h;replace hC:=hC (by simp);refine ⟨fun h0=>?_,fun j hj=>?_⟩
  ·exfalso;cases hL:left ops listed with
   |nil=>rw [hL] at hl;cases hl
   |cons i l=>
    have hmem:i∈left ops listed:=by rw [hL];simp
    have hmem':=hmem;unfold left at hmem;rw [aoW,aoV] at hmem;have hall: ∀k,k<i->listed.getD k false=true:=by
     intro k hk;have hks:k<ops.size:=by omega
     cases hb:listed.getD k true with
     |true=>simpa [acf,hs,hks] using hb
     |false=>
      have hkm:k∈left ops listed:=by unfold left;rw [aoW,aoV];exact ⟨hks,by simp [hb]⟩
      have hsort:(left ops listed).Pairwise (· < ·):=List.Pairwise.sublist ao8 apr;rw [hL] at hkm hsort;rcases List.mem_cons.1 hkm with e|e
      ·omega
      ·have:=(List.pairwise_cons.1 hsort).1 k e;omega
    have:i∈Region.ready .any ops listed:=by refine mem_ready.2 ⟨by simpa using hmem.2,ops[i],aaW hmem.1,fun e he hb=>?_⟩;have h3:=List.all_eq_true.1 hdown i (List.mem_range.2 hmem.1);rw [aaW hmem.1] at h3;have h4:=Array.all_eq_true'.1 h3 e he;rw [hb] at h4;exact hall e.on (by simpa using h4)
    rw [h0] at this;cases this
  ·obtain ⟨pre,post,hL⟩:=List.append_of_mem (rdy listed hs j hj);rw [hL] at h;obtain ⟨_,oj,hoj,_⟩:=mem_ready.1 hj;have hjs:j<ops.size:=(Array.getElem?_eq_some_iff.1 hoj).1;have hnd:(left ops listed).Nodup:=List.Nodup.sublist ao8 List.nodup_range;have hsort:(left ops listed).Pairwise (· < ·):=List.Pairwise.sublist ao8 apr;have Ea: ∀i∈left ops listed,i<ops.size/\listed.getD i true=false:=fun i hi=>by unfold left at hi;rw [aoW,aoV] at hi;exact ⟨hi.1,by simpa using hi.2⟩
   have wX: ∀k,k∈ahead ops ops.size [j]->k=j∨listed.getD k false=true:=wR hcl hj _ _ (by simp);have hfree: ∀i∈pre,Free ops i j:=by
    intro i hi;have him:i∈left ops listed:=by rw [hL];simp [hi]
    obtain ⟨his,hun⟩:=Ea i him;have hij:i<j:=by rw [hL] at hsort;exact (List.pairwise_append.1 hsort).2.2 i hi j (by simp)
    have h3:=List.all_eq_true.1 (List.all_eq_true.1 Jq j (List.mem_range.2 hjs)) i (List.mem_range.2 hij);unfold Jp at h3;simp only [ap6,ao0,aaW his,aaW hjs] at h3;rcases h3 with h3|⟨h3,h4,h5⟩
    ·exfalso;rcases wX i (by simpa using h3) with e|e
     ·omega
     ·simp [acf,hs,his] at hun e;rw [hun] at e;cases e
    ·exact ⟨⟨_,_,aaW his,aaW hjs,h4,h5,fun cs b=>hsel i _ cs b (aaW his),fun cs b=>hsel j _ cs b (aaW hjs)⟩,h3,by omega⟩
   have hpo:j+1=ops.size->post=[]:=by
    intro hje;cases post with
    |nil=>rfl
    |cons k post=>
     have hkm:k∈left ops listed:=by rw [hL];simp
     have h1:=(Ea k hkm).1;rw [hL] at hsort;have h2:=(List.pairwise_append.1 hsort).2.1;have:=(List.pairwise_cons.1 h2).1 k (by simp);omega
   have hset:left ops (listed.setIfInBounds j true)=pre++post:=by rw [EX hs hjs];exact AY hnd hL
   have hlen:(pre++post).length=fuel:=by have:=hl;rw [hL] at this;simp at this ⊢;omega
   have hcl':=hcl.set hj;exact yw (fun a' w' h'=>ih _ a' w' (by simpa using hs) (by rw [hset];exact hlen) hcl' (fun _=>h'.1) (by rw [hset];exact h'.2)) (WW hjs hpo hQ hQC pre a w hfree hC h)
end
section
variable {P:Program} {n:Nat} {ds:List Deferred} {Q:Po} {F:Fr} {ops:List Oper} {C:World->Prop} {w:World}
theorem nY {rid:Nat} (hm:P.follows .mixedOrders=true) (hB:okV ops.toArray=true) (C:World->Prop) (hC:C w.drew) (h: ∀w',New w w'->Wt P n ds C (fun e F w=>e=.normal/\C w/\Q .normal F w) ops ops F w'):Wc P n ds Q (.region rid ops.toArray true) F w:=by
 unfold Wc;refine wp_region_any hm ?_;have hleft:left ops.toArray (ao1 ops.toArray.size false)=(abS ops.length).map (0+ ·):=by unfold left;rw [show ((fun x=>0+x):Nat->Nat)=id from funext fun x=>acL x,aqc];simp only [ao4];refine List.filter_eq_self.2 fun k hk=>?_;have:=List.mem_range.1 hk;simp [acf,apa,this]
 have h0:zU ops.toArray (ao1 ops.toArray.size false):=by intro j o hj;exfalso;simp only [acf,apa] at hj;split at hj<;>simp at hj
 refine NR (C:=C) (Q:=QA n ds (fun e F w=>e=.normal/\C w/\Q .normal F w)) (by rintro e a w he ⟨F,_,h,_⟩;exact he h) (by rintro a w ⟨F,_,_,hC,_⟩;exact hC) (by rintro a w ⟨F,e,_,_,hq⟩;exact ⟨F,e,hq⟩) hB _ _ _ _ (by simp) (by rw [hleft];simp) h0 (fun _=>hC) ?_;rw [hleft];exact Cb ops 0 F w.drew (fun j=>by rw [acL]) (h _ (Chg.drew _ _))
end
end Go.Proofs.YtfbnfhhmiiahnaaGreatDoor.Wk
namespace Go.Proofs.YtfbnfhhmiiahnaaGreatDoor
open Go Wk
open Go.RowKit (Below)
attribute [local irreducible] Go.Calls
theorem Eu: ∀(l:List Nd) (i:Nat) (dp pt:List Int) (sn:List Kid),(xN i dp pt sn l).2.isSome=true->
 (∀j x,l[j]? =some x->i+j≠0->(x.parent,x.name)∉sn)/\(∀j k x y,j<k->l[j]? =some x->l[k]? =some y->i+j≠0->(x.parent,x.name)≠(y.parent,y.name))
 | [],_,_,_,_,_=>⟨fun j x h=>by simp at h,fun j k x y _ h=>by simp at h⟩
 |z::r,i,dp,pt,sn,h=>by
  rw [xN] at h;split at h
  ·cases h
  ·split at h
   ·rename_i h0
    subst h0;split at h
    ·cases h
    ·obtain ⟨a,b⟩:=Eu r 1 _ _ _ h;refine ⟨fun j x hx hj=>?_,fun j k x y hjk hx hy hj=>?_⟩
     ·cases j with
      |zero=>exact absurd rfl hj
      |succ j=>exact a j x (by simpa using hx) (by omega)
     ·cases j with
      |zero=>exact absurd rfl hj
      |succ j=>cases k with
       |zero=>omega
       |succ k=>exact b j k x y (by omega) (by simpa using hx) (by simpa using hy) (by omega)
   ·rename_i h0
    split at h
    ·cases h
    ·split at h
     ·cases h
     ·rename_i h3
      have hz:(z.parent,z.name)∉sn:=fun e=>h3 (.inr (.inr (.inr (List.contains_iff_mem.2 e))));obtain ⟨a,b⟩:=Eu r (i+1) _ _ _ h;refine ⟨fun j x hx hj=>?_,fun j k x y hjk hx hy hj=>?_⟩
      ·cases j with
       |zero=>simp at hx;subst hx;exact hz
       |succ j=>exact fun e=>a j x (by simpa using hx) (by omega) (by simp [e])
      ·cases k with
       |zero=>omega
       |succ k=>cases j with
        |zero=>simp at hx;subst hx;exact fun e=>a k y (by simpa using hy) (by omega) (by simp [<-e])
        |succ j=>exact b j k x y (by omega) (by simpa using hx) (by simpa using hy) (by omega)
theorem aaX {t:List Nd} (ht:pM t=true) {i j:Nat} {x y:Nd} (hx:t[i]? =some x) (hy:t[j]? =some y) (hi:i≠0) (hj:j≠0) (h1:x.parent=y.parent) (h2:x.name=y.name):i=j:=by
 have h:=ht;unfold pM at h;rw [ao0] at h;have hd:=(Eu t 0 [] [] [] h.1).2;rcases Nat.lt_trichotomy i j with hlt|he|hlt
 ·exact absurd (by rw [h1,h2]) (hd i j x y hlt hx hy (by omega))
 ·exact he
 ·exact absurd (by rw [h1,h2]) (hd j i y x hlt hy hx (by omega))
theorem WX {t:List Nd} (ht:pM t=true): ∀(a b:Nat),a<t.length->b<t.length->zV t a=zV t b->a=b:=by
 intro a;induction a using aqj with
 |ind a ih=>
  intro b ha hb h;obtain ⟨x,hx⟩:=pz t ha;obtain ⟨y,hy⟩:=pz t hb;by_cases a0:a=0
  ·by_cases b0:b=0
   ·omega
   ·rw [uN ht hy b0,a0,yB] at h;simp at h
  ·by_cases b0:b=0
   ·rw [uN ht hx a0,b0,yB] at h;simp at h
   ·rw [uN ht hx a0,uN ht hy b0] at h;obtain ⟨h1,h2⟩:=List.append_inj' h rfl;have ka:=(rQ ht hx).kid a0;have kb:=(rQ ht hy).kid b0;have hp:=ih x.parent.toNat (by omega) y.parent.toNat (by omega) (by omega) h1;exact aaX ht hx hy a0 b0 (by omega) (by simpa using h2)
theorem GI {t:List Nd} (ht:pM t=true) {a b:Nat} (ha:a<t.length) (hb:b<t.length) (h:pX t a=pX t b):a=b:=
 WX ht a b ha hb (VX (fun n hn=>(Ba ht a n hn).1) (fun n hn=>(Ba ht b n hn).1) h)
def rkF (cs:List Cd) (t:List Nd) (i:Nat):Bool:=onM t i&&(sD cs t i).isSome
theorem WY {Pb Pt:Nat->Prop} {w:World} {v u:Value} {cs:List Cd} {t:List Nd} (h:RdS rCd 7 Pb w v cs) (ht:RdS rNd 3 Pt w u t) (hc:vG cs=true) (hok:pM t=true):
 Calls prog 119 #[v,u] w (Ret fun r w'=>(∃q,r=.tuple #[q,vi 0]/\oP (Wk.one viN) 3 1 (fun b=>w.heap.size<=b) NoB w' q (E9 cs t))/\New w w'):=by
 obtain ⟨a,cap,rfl,hc1,hc2⟩:=h.form;obtain ⟨a2,cap2,rfl,hd1,hd2⟩:=ht.form;have hlen:=qo hok;have htp:=uM hok;have hcl:=O9 hc;replace h:=h.mono (Pb':=fun k=>k<w.heap.size) SG fun k hk _=>hk;replace ht:=ht.mono (Pb':=fun k=>k<w.heap.size) Ce fun k hk _=>hk;refine oI func119 rfl ntmps119 rfl ?_;refine qq0 ?_;refine Wl.box rfl (fun w1 b1 n1 s1=>?_);replace b1:Bk w1 w.heap.size 23 [.slice a cs.length cap]:=b1;refine qq1 ?_;refine ah (u:=.slice a cs.length cap) rfl (b1.cell (o:=0) rfl) ?_;(repeat' (refine aa1 ?_));refine au (PX (h.keep rG n1.keep) (ht.keep pU n1.keep) hc hok) rfl ?_;rintro _ w2 ⟨⟨q,rfl,oa⟩,n2⟩;have b2:=b1.chg n2 id;have n02:=New.trans n1 n2;obtain ⟨qa,qc,rfl,_,_⟩:=oa.form;refine qq5 ?_;refine Wl.alloc fun w3 b3 n3 s3=>?_;replace b3:Bk w3 w2.heap.size 154 [.slice none 0 0]:=b3;refine aJ (u:=.slice qa (allM cs t).length qc) b3 rfl (show (0:Nat)<1 by omega) rfl rfl fun w4 b4 c4=>?_;replace b4:Bk w4 w2.heap.size 154 [.slice qa (allM cs t).length qc]:=b4;have hz2:=n02.size;have n24:New w2 w4:=(Chg.trans n3.any c4 i3).tN
 have n04:=New.trans n02 n24;have b24:=b2.chg n24 id;have oa4:=oa.new (oH zQ) n24;(repeat' (first|refine qq4 ?_|(refine aa4 (fun _=>?_) (fun _=>?_)<;>(first|(exfalso;omega)|skip))));refine fF (f:=vs) (y0:=([]:Nm)) (Pe:=NoB) rfl rfl rfl (by omega) (by omega) (by omega) fun vp w5 op n5=>?_;rw [ao3] at op;obtain ⟨gp,gc,hvp,hgp,hgl,_⟩:=op.blk (by intro e;rw [arI] at e;omega);rw [arC] at hvp;subst hvp;refine Wl.alloc fun w6 b6 n6 s6=>?_;replace b6:Bk w6 w5.heap.size 24 [.slice none 0 0]:=b6;refine aJ (u:=.slice (some ⟨gp,0,none⟩) t.length gc) b6 rfl (show (0:Nat)<1 by omega) rfl rfl fun w7 b7 c7=>?_;replace b7:Bk w7 w5.heap.size 24 [.slice (some ⟨gp,0,none⟩) t.length gc]:=b7;have hz4:=n04.size;have hz5:=n5.size;have n57:New w5 w7:=(Chg.trans n6.any c7 i3).tN
 have n47:=New.trans n5 n57;have n07:=New.trans n04 n47;have op7:=op.new (oJ _) n57;have b27:=b24.chg n47 id;have b47:=b4.chg n47 id;have oa7:=oa4.new (oH zQ) n47;have hb4:=b4.lt;have hb2:=b2.lt;have hz1:=n2.size;have acW: ∀k,(Value.slice qa (allM cs t).length qc).ownBlock=some k->k<w2.heap.size:=fun k hk=>(oa.lt hk).2;refine qq4 ?_;refine aC (σ:=Nat×Value) (fun s=>[(1,.slice a2 t.length cap2),(2,.pointer (some ⟨w.heap.size,0,none⟩)),(6,.pointer (some ⟨w2.heap.size,0,none⟩)),(8,s.2),(9,.pointer (some ⟨w5.heap.size,0,none⟩)),(26,vi t.length),(27,vi s.1)]) (fun s W=>s.1<=t.length/\oP (Wk.one viN) 3 1 (fun b=>w7.heap.size<=b) NoB W s.2 ((abS s.1).filter (rkF cs t))/\oP (Wk.one vs) 9 1 (fun b=>w4.heap.size<=b) NoB W (.slice (some ⟨gp,0,none⟩) t.length gc) ((abS s.1).map (pX t)++apW (t.length-s.1) [])/\Chg (fun k=>k=gp) w7 W) (fun s=>t.length-s.1) (0,.slice none 0 0) (sl rfl) ⟨aoZ _,aN,by simpa using op7,aB _ _⟩ ?_;rintro ⟨i,l⟩ G W ⟨hi,own,opW,cW⟩;dsimp only at hi own opW cW;simp only [ql];have nW:New w W:=(Chg.trans n07.any cW i3).tN
 have bcW:=b27.chg cW (by omega);have baW:=b47.chg cW (by omega);have bpW:=b7.chg cW (by omega);have oaW:=oa7.chg (oH zQ) cW fun k hk e=>by have:=acW k hk;omega
 have hzW:=nW.size;have hz7:=cW.size;have acX:=n57.size;obtain ⟨la,lc,rfl,_,_⟩:=own.form;have hfl:((abS i).filter (rkF cs t)).length<=i:=by
  have:=arD (rkF cs t) (abS i)
  rwa [arE] at this
 (repeat' (first|refine qq2 ?_|refine aa2 (fun _=>?_) (fun _=>?_)))
 ·have hil:i<t.length:=by omega
  refine nY rfl (by kernel_rfl) (fun w'=>Chg (fun k=>k=gp) W w') (Chg.drew _ _) ?_;intro w8 n8;refine aa0 (ax (u:=.slice (some ⟨gp,0,none⟩) t.length gc) rfl (fun w' hw=>(bpW.chg hw (by omega)).cell (o:=0) rfl) (af ?_));(repeat' (refine aa0 (aa3 (af ?_))));refine aH rfl (au (LU (i:=i) ((ht.keep pU nW.keep).mono Ce (fun _ _ e=>e) |>.keep pU n8.keep) hok hil) rfl ?_);rintro _ w9 ⟨rfl,n9⟩;have n89:=New.trans n8 n9;refine ak ⟨rfl,n89.any,?_⟩;(repeat' (first|refine aa0 (aa3 (af ?_))|refine aa0 (iW rfl rfl (af ?_))));refine aa0 (aa8 (af ?_));have hpl:((abS i).map (pX t)++apW (t.length-i) ([]:Nm)).length=t.length:=by simp;omega
  refine Wt.last rfl (dR (q:=pX t i) (j:=i) (cap:=gc) (opW.new (oJ _) n89) (by rw [hpl]) (by omega) (by show Value.pointer (some ⟨gp,0+(i:Int).toNat*1,none⟩)=_;simp) rfl rfl rfl fun w10 o10 c10=>?_);have hset:((abS i).map (pX t)++apW (t.length-i) ([]:Nm)).set i (pX t i)=(abS (i+1)).map (pX t)++apW (t.length-(i+1)) []:=by rw [show t.length-i=(t.length-(i+1))+1 by omega,arN,ao5 _ _ (by simp),arz,aqn];simp
  rw [hset] at o10;have DJ:Chg (fun k=>k=gp) W w10:=Chg.trans n89.any c10 fun k _ e=>(by cases e;rfl);refine ak ⟨rfl,DJ,?_⟩;have aeQ:=own.chg (oJ _) DJ fun k hk e=>by have:=(own.lt hk).1;omega
  have ajM:New w w10:=(Chg.trans nW.any DJ i3).tN
  have KZ:Chg (fun k=>k=gp) w7 w10:=Chg.trans cW DJ i3;have ajN:=baW.chg DJ (by omega);have ajO:=oaW.chg (oH zQ) DJ fun k hk e=>by have:=acW k hk;omega
  refine qq2 ?_;refine au (Fb (i:=i) (ht.keep pU ajM.keep) hok hil) rfl ?_;rintro _ w11 ⟨rfl,n11⟩;have NS:Chg (fun k=>k=gp) w7 w11:=Chg.trans KZ n11.any i3;have Qu:=aeQ.new (oJ _) n11;have o11:=o10.new (oJ _) n11;have ajP:=ajN.chg n11 id;have ajQ:=ajO.new (oH zQ) n11;have hstep:(abS (i+1)).filter (rkF cs t)=(abS i).filter (rkF cs t)++if rkF cs t i=true then [i] else []:=by rw [arz,arF];congr 1;cases hr:rkF cs t i<;>simp [hr]
  have hget:(allM cs t)[i]? =some (yD cs (uj t i)):=by unfold allM;rw [apF,aq3 hil];rfl
  cases hon:onM t i
  ·have hrf:rkF cs t i=false:=by unfold rkF;rw [hon];rfl
   rw [hrf,if_neg (by decide),aqJ] at hstep;refine qq4 ?_;exact aA (i+1,_) (sl rfl) ⟨by dsimp only;omega,by rw [hstep];exact Qu,o11,NS⟩ (by dsimp only;omega)
  ·refine qq5 ?_;refine ah (u:=.slice qa (allM cs t).length qc) rfl (ajP.cell (o:=0) rfl) ?_;refine qq5 ?_;refine aO (ajQ.rd Fj.mo) rfl rfl (by omega) hget fun bb off cs' hcl' hR hat=>?_;obtain rfl:cs'=zQ (yD cs (uj t i)):=hR;cases hf:yD cs (uj t i) with
   |none=>
    rw [hf] at hat;have hrf:rkF cs t i=false:=by unfold rkF sD;rw [hf,Option.map_none,Option.isSome_none,Bool.and_false]
    rw [hrf,if_neg (by decide),aqJ] at hstep;refine qq5 ?_;refine ah (u:=vi (-1)) rfl (hat.get 0 rfl) ?_;(repeat' (first|refine qq4 ?_|(refine aV rfl rfl (fun _=>?_) (fun _=>?_)<;>(first|(exfalso;omega)|skip))));exact aA (i+1,_) (sl rfl) ⟨by dsimp only;omega,by rw [hstep];exact Qu,o11,NS⟩ (by dsimp only;omega)
   |some m=>
    rw [hf] at hat;have hrf:rkF cs t i=true:=by unfold rkF sD;rw [hf,hon];rfl
    rw [hrf,if_pos rfl] at hstep;refine qq5 ?_;refine ah (u:=vi m.1) rfl (hat.get 0 rfl) ?_;(repeat' (first|refine qq5 ?_|(refine aV rfl rfl (fun _=>?_) (fun _=>?_)<;>(first|(exfalso;omega)|skip))));refine bZ (R:=Wk.one viN) (y:=i) qQ Qu rfl rfl rfl rfl rfl (by omega) (by omega) (by simp only [maxLen];omega) (by omega) rfl rfl fun v' w12 p o12 c12 lie=>?_;have Tn:=NS.size;have ajR:Chg (fun k=>k=gp) w7 w12:=by
     refine (Chg.trans (M:=fun k=>k=gp∨w7.heap.size<=k) (NS.mono fun _ _ e=>.inl e) c12 fun k _ e=>.inr (Qu.lt e).1).mono fun k hk e=>?_;rcases e with e|e
     ·exact e
     ·omega
    have ajS:=o11.chg (oJ _) c12 fun k hk e=>by
     have h1:w7.heap.size<=k:=(Qu.lt e).1;have h2:gp=k:=by injection hk
     omega
    rw [<-hstep] at o12;refine qq4 ?_;exact aA (i+1,v') (sl rfl) ⟨by dsimp only;omega,o12.mono qQ.mo (fun b _ hb=>by rcases hb with hb|hb<;>omega) i3,ajS,ajR⟩ (by dsimp only;omega)
 ·obtain rfl:i=t.length:=by omega
  rw [aq7,arO,aqJ] at opW;refine dw (f1:=[]) (c1:=[.pointer (some ⟨w.heap.size,0,none⟩),.pointer (some ⟨w2.heap.size,0,none⟩),.pointer (some ⟨w5.heap.size,0,none⟩)]) rfl rfl ?_;have hmem: ∀x∈(abS t.length).filter (rkF cs t),x<t.length/\ ∃k,sD cs t x=some k:=fun x hx=>by obtain ⟨h1,h2⟩:=List.mem_filter.1 hx;unfold rkF at h2;rw [ao0,Option.isSome_iff_exists] at h2;exact ⟨by simpa using h1,h2.2⟩
  refine au (Ej (g:=144) (cb:= #[.pointer (some ⟨w.heap.size,0,none⟩),.pointer (some ⟨w2.heap.size,0,none⟩),.pointer (some ⟨w5.heap.size,0,none⟩)]) (lv:=Gn cs t) (pt:=pX t) own (fun x hx y hy e=>GI hok (hmem x hx).1 (hmem y hy).1 e) (by omega) fun w' hw x hx y hy=>?_) rfl ?_
  ·obtain ⟨hxl,kx,hkx⟩:=hmem x hx;obtain ⟨hyl,ky,hky⟩:=hmem y hy;have hne: ∀k,k<w7.heap.size-> ¬(Value.slice la ((abS t.length).filter (rkF cs t)).length lc).ownBlock=some k:=fun k hk e=>by have:=(own.lt e).1;omega
   have nWw:Chg (fun k=>w7.heap.size<=k) W w':=hw.mono fun k _ e=>(own.lt e).1;refine (SQ (Pc:=fun k=>k<w.heap.size) (Pp:=fun b=>w4.heap.size<=b∨NoB b) (cs:=cs) (t:=t) (ka:=kx) (kb:=ky) (bcW.chg nWw (show ¬w7.heap.size<=w.heap.size by omega)) (baW.chg nWw (show ¬w7.heap.size<=w2.heap.size by omega)) (bpW.chg nWw (show ¬w7.heap.size<=w5.heap.size by have:=b7.lt;omega)) ((h.keep rG nW.keep).keep rG (nWw.keep fun k hk _ e=>by have h1:w7.heap.size<=k:=e;omega)) ((oaW.chg (oH zQ) nWw fun k hk e=>by have:=acW k hk;have h1:w7.heap.size<=k:=e;omega).rd Fj.mo) ?_ hxl hyl hkx hky hcl hlen).mono ?_
   ·have o9:=opW.chg (oJ _) nWw fun k hk e=>by
     have h1:w7.heap.size<=k:=e;have h2:gp=k:=by injection hk
     omega
    exact o9.rd qU.mo
   ·rintro _ w'' ⟨_,rfl,rfl,hg⟩;exact ⟨rfl,hg⟩
  rintro _ w11 ⟨o11,c11⟩;have n11:New w w11:=Chg.trans nW c11 fun k hk e=>by have:=(own.lt e).1;omega
  refine qq5 ?_;exact aG rfl rfl rfl ⟨_,rfl,⟨_,rfl,o11.mono qQ.mo (fun b _ hb=>by omega) i3⟩,n11⟩
abbrev uX (x:Ei):List Value:=vi x.1::qE x.2
theorem Ah:rF (flat uX) 4:=rC _ (fun _=>rfl) fun x c hc=>by simp [qE] at hc;rcases hc with rfl|rfl|rfl|rfl<;>rfl
abbrev BP (x:Rfs):List Value:=[vi x.node,.int .u8 x.claim.kind,w64 x.claim.from_,w64 x.claim.upto,vi x.by_]
theorem zk:rF (flat BP) 5:=rC _ (fun _=>rfl) fun x c hc=>by simp at hc;rcases hc with rfl|rfl|rfl|rfl|rfl<;>rfl
theorem NT {w:World} {n y:Int} {k a b:Int}:(Instr.build 205 #[(0,vi n),(1,.agg #[.int .u8 k,.int .u64 a,.int .u64 b]),(2,vi y)]).run prog w=.ok (.agg #[vi n,.int .u8 k,.int .u64 a,.int .u64 b,vi y]) w:=by
 kernel_rfl
theorem La {w:World} {n:Int}:(Instr.build 205 #[(0,vi n),(2,vi (-1))]).run prog w=.ok (.agg #[vi n,.int .u8 0,.int .u64 0,.int .u64 0,vi (-1)]) w:=by
 kernel_rfl
theorem NU {w:World} {n:Int} {k a b:Int}:(Instr.build 275 #[(0,vi n),(1,.agg #[.int .u8 k,.int .u64 a,.int .u64 b])]).run prog w=.ok (.agg #[vi n,.int .u8 k,.int .u64 a,.int .u64 b]) w:=by
 kernel_rfl
theorem GK {Pb:Nat->Prop} {w:World} {v:Value} {l:List Ei} {p:Ei->Bool} {g:FuncId} {cap:Array Value} [hc:oN prog g] (h:RdS (flat uX) 4 Pb w v l)
 (hf: ∀y w',y∈l->New w w'->Calls prog g ([Value.agg (uX y).toArray]++cap.toList).toArray w' (Ret fun r w''=>r=.bool (p y)/\New w' w'')):
 Calls prog 147 #[v,.func (.func g) #[] cap] w (Ret fun r w'=>r=vi (idx p l)/\New w w'):=by
 obtain ⟨a,cp,rfl,hc1,hc2⟩:=h.form;simp only [maxLen] at hc2;refine oI func147 rfl ntmps147 rfl ?_;refine qq4 ?_;refine aC (σ:=Nat) (fun i=>[(0,.slice a l.length cp),(1,.func (.func g) #[] cap),(7,vi l.length),(8,vi i)]) (fun i w'=>i<=l.length/\(∀x∈l.take i,p x=false)/\New w w') (fun i=>l.length-i) 0 (sl rfl) ⟨aoZ _,by simp,aB _ _⟩ ?_;rintro i G w1 ⟨hi,hall,n1⟩;simp only [ql];(repeat' (first|refine qq2 ?_|refine aa2 (fun _=>?_) (fun _=>?_)))
 ·obtain ⟨y,hy⟩:=pz l (k:=i) (by omega);refine dF h n1.keep rfl rfl (by omega) hy fun b o cs hl hR hat=>?_;obtain rfl:cs=uX y:=hR;refine aS hat rfl rfl ?_;refine bU (dst:=some 16) rfl (hf y w1 (apD hy) n1) rfl ?_;rintro _ w2 ⟨rfl,n2⟩;simp only [xH];cases hp:p y with
  |true=>refine qq5 ?_;refine ay rfl rfl ⟨_,rfl,?_,New.trans n1 n2⟩;rw [Fe hy hall hp];rfl
  |false=>refine qq3 ?_;exact aA (i+1) (sl rfl) ⟨by omega,Cm hy hall hp,New.trans n1 n2⟩ (by omega)
 ·have e:i=l.length:=by omega
  subst e;rw [apZ] at hall;refine ay rfl rfl ⟨_,rfl,?_,n1⟩;rw [Ad hall];rfl
theorem Tq {w:World} {b:Nat} {c:Clm} {o:Ei} (h:Bk w b 203 (qE c)):
 Calls prog 148 #[.agg (uX o).toArray,.pointer (some ⟨b,0,none⟩)] w (Ret fun r w'=>r=.bool (JA o.2 c)/\New w w'):=by
 refine oI func148 rfl ntmps148 rfl ?_;refine qq0 ?_;refine Wl.box rfl fun w1 b1 n1 s1=>?_;replace b1:Bk w1 w.heap.size 275 (uX o):=b1;replace h:=h.chg n1 id;refine qq2 ?_;refine aS (cs:=qE o.2) (o:=0+1) (fun i u hu=>b1.cell (o:=0+1+i) (by rw [show 0+1+i=i+1 by omega];exact hu)) rfl rfl ?_;refine bD h rfl rfl ?_;refine au (WJ (a:=o.2) (b:=c)) rfl ?_;rintro _ w2 ⟨rfl,n2⟩;refine qq6 ?_;exact ay rfl rfl ⟨_,rfl,rfl,New.trans n1 n2⟩
theorem NW {w:World}:Calls prog 145 #[.slice none 0 0] w (Ret fun r w'=>r=.slice none 0 0/\w=w'):=by
 refine oI func145 rfl ntmps145 rfl ?_;refine qq2 ?_;refine jd rfl rfl ?_;refine qq4 ?_;exact ay rfl rfl ⟨_,rfl,rfl,rfl⟩
theorem YT {out:List Ei} {l:List Clm} {k:Nat} {c:Clm} (h:l[k]? =some c):Nr out (l.drop k)=match out.find? fun o=>JA o.2 c with
 |some o=>some (c,o.1)
 |none=>Nr out (l.drop (k+1)):=by rw [drop_cons h,Nr];rfl
theorem aaY {α:Type} {p:α->Bool} {l:List α} (h:l.find? p=none):idx p l= -1:=by
 refine Ad fun x hx=>?_;have:=List.find?_eq_none.1 h x hx;simpa using this
theorem YU {α:Type} {p:α->Bool} {l:List α} {y:α} (h:l.find? p=some y): ∃i:Nat,idx p l=(i:Int)/\l[i]? =some y:=by
 have hf:=yF (p:=p) l;unfold idx;cases hi:l.findIdx? p with
 |none=>rw [hi] at hf;dsimp only at hf;rw [hf] at h;cases h
 |some i=>rw [hi] at hf;obtain ⟨z,h1,h2⟩:=hf;rw [h] at h2;cases h2;exact ⟨i,rfl,h1⟩
theorem aaZ {t:List Nd} {i:Nat} {l:List Clm} (h:ofM t i=some l):l.length<=64:=by
 unfold ofM at h;split at h
 ·cases h
 ·dsimp only at h;split at h
  ·rename_i hc;cases h;exact hc
  ·cases h
def YV (w w':World) (r:Value) (q:List Ei×List Rfs):Prop:= ∃v u,r=.tuple #[v,u]/\oP (flat uX) 275 4 (fun b=>w.heap.size<=b) NoB w' v q.1/\oP (flat BP) 205 5 (fun b=>w.heap.size<=b) NoB w' u q.2
theorem Tt {t:List Nd} {out:List Ei} {ns:List Nat} {k n:Nat} (h:ns[k]? =some n):vg t out (ns.drop k)=match ofM t n with
 |none=>let q:=vg t out (ns.drop (k+1));(q.1,⟨n,⟨0,0,0⟩, -1⟩::q.2)
 |some l=>match Nr out l with
  |some (c,b)=>let q:=vg t out (ns.drop (k+1));(q.1,⟨n,c,b⟩::q.2)
  |none=>vg t (out++l.map fun c=>(n,c)) (ns.drop (k+1)):=by rw [drop_cons h,vg];rfl
theorem WZ {Pb Pn:Nat->Prop} {w:World} {v vn:Value} {l:List Nd} {ns:List Nat} (h:RdS rNd 3 Pb w v l) (hok:pM l=true) (hn:RdS (Wk.one viN) 1 Pn w vn ns) (hns: ∀n∈ns,n<l.length) (hnl:ns.length<=512):
 Calls prog 120 #[v,.slice none 0 0,vn] w (Ret fun r w'=>YV w w' r (vg l [] ns)/\New w w'):=by
 obtain ⟨a,cap,rfl,hc1,hc2⟩:=h.form;obtain ⟨na,nc,rfl,hd1,hd2⟩:=hn.form;have hlen:=qo hok;refine oI func120 rfl ntmps120 rfl ?_;refine qq2 ?_;refine au NW rfl ?_;rintro _ _ ⟨rfl,rfl⟩;refine qq4 ?_;refine aC (σ:=Nat×(Value×List Ei)×(Value×List Rfs)) (fun q=>[(0,.slice a l.length cap),(8,q.2.1.1),(9,q.2.2.1),(22,.slice na ns.length nc),(23,vi ns.length),(24,vi q.1)]) (fun q W=>q.1<=ns.length/\q.2.1.2.length<=64*q.1/\q.2.2.2.length<=q.1/\vg l [] ns=((vg l q.2.1.2 (ns.drop q.1)).1,q.2.2.2++(vg l q.2.1.2 (ns.drop q.1)).2)/\oP (flat uX) 275 4 (fun b=>w.heap.size<=b) NoB W q.2.1.1 q.2.1.2/\oP (flat BP) 205 5 (fun b=>w.heap.size<=b) NoB W q.2.2.1 q.2.2.2/\Sep q.2.1.1 q.2.2.1/\New w W) (fun q=>ns.length-q.1) (0,(.slice none 0 0,[]),(.slice none 0 0,[])) (sl rfl) ⟨aoZ _,by simp,by simp,by simp,aN,aN,(fun k e=>by cases e),aB _ _⟩ ?_;rintro ⟨k,⟨vo,out⟩,⟨vr,rf⟩⟩ G W ⟨hk,hol,hrl,hG,own,Ep,sep,nW⟩;dsimp only at hk hol hrl hG own Ep sep nW;simp only [ql];obtain ⟨oa,oc,rfl,_,_⟩:=own.form;obtain ⟨ra,rc,rfl,_,_⟩:=Ep.form;have hzW:=nW.size;(repeat' (first|refine qq2 ?_|refine aa2 (fun _=>?_) (fun _=>?_)))
 ·obtain ⟨n,hx⟩:=pz ns (k:=k) (by omega);have ajT:=hns n (apD hx);refine bC (hn.keep (pF _) nW.keep) rfl rfl (by omega) hx fun b o hcell=>?_;refine ah (u:=vi n) rfl hcell ?_;refine qq2 ?_;refine au (aaT (i:=n) (h.keep pU nW.keep) hok ajT) rfl ?_;rintro _ w1 ⟨⟨vl,e,rfl,hof⟩,n1⟩;have n01:=New.trans nW n1;have BO:=own.new (oH uX) n1;have abZ:=Ep.new (oH BP) n1;rw [Tt hx] at hG;cases hom:ofM l n with
  |none=>rw [hom] at hof hG;dsimp only at hof hG;(repeat' (first|refine qq5 ?_|(refine aa4 (fun _=>?_) (fun _=>?_)<;>(first|(exfalso;omega)|skip))));refine eG (ps:=[(0,.tmp 37),(2,.const (vi (-1)))]) (parts:=[(0,vi n),(2,vi (-1))]) rfl La ?_;refine bZ (R:=flat BP) (y:=⟨n,⟨0,0,0⟩, -1⟩) zk abZ rfl rfl rfl rfl rfl (by omega) (by omega) (by simp only [maxLen];omega) (by omega) rfl rfl fun v2 w2 p tC c2 lie=>?_;have hz1:=n1.size;refine qq8 ?_;refine aA (k+1,(.slice oa out.length oc,out),(v2,rf++ [⟨n,⟨0,0,0⟩, -1⟩])) (sl rfl) ⟨by dsimp only;omega,by dsimp only;omega,by simp;omega,?_,BO.AX (oH uX) c2 sep,tC.mono zk.mo (fun b _ e=>by rcases e with e|e;exact e;omega) i3,BX BO sep lie,Chg.trans n01 c2 fun b hb e=>by have:=(Ep.lt e).1;omega⟩ (by dsimp only;omega);dsimp only;rw [hG];simp
  |some cl=>
   rw [hom] at hof hG;obtain ⟨rfl,abb⟩:=hof;dsimp only at hG;have hcl:=aaZ hom;obtain ⟨ca,cc,rfl,_,_⟩:=abb.form;have hz1:=n1.size;(repeat' (first|refine qq4 ?_|(refine aa4 (fun _=>?_) (fun _=>?_)<;>(first|(exfalso;omega)|skip))));refine aC (σ:=Nat) (fun j=>[(0,.slice a l.length cap),(8,.slice oa out.length oc),(9,.slice ra rf.length rc),(11,vi n),(12,.slice ca cl.length cc),(14,vi (-1)),(22,.slice na ns.length nc),(23,vi ns.length),(24,vi k),(41,.slice ca cl.length cc),(42,vi cl.length),(43,vi j)]) (fun j W'=>j<=cl.length/\Nr out cl=Nr out (cl.drop j)/\New w1 W') (fun j=>cl.length-j) 0 (sl rfl) ⟨aoZ _,by simp,aB _ _⟩ ?_;rintro j G2 W2 ⟨hj,hH,n2⟩;simp only [ql];have tC:=BO.new (oH uX) n2;have ab1:=abZ.new (oH BP) n2;have YW:=abb.new (oH qE) n2;have n02:=New.trans n01 n2;have hz2:=n2.size;(repeat' (first|refine qq2 ?_|refine aa2 (fun _=>?_) (fun _=>?_)|(refine aV rfl rfl (fun _=>?_) (fun _=>?_)<;>(first|(exfalso;omega)|skip))))
   ·obtain ⟨c,hc⟩:=pz cl (k:=j) (by omega);refine aO (YW.rd vI.mo) rfl rfl (by omega) hc fun b o cs hl hR hat=>?_;obtain rfl:cs=qE c:=hR;refine aS hat rfl rfl ?_;clear hat;refine Wl.alloc fun w3 b3 n3 s3=>?_;(repeat' (refine aa7 ?_));refine aK (new:=qE c) b3 rfl rfl rfl rfl zl3 (YH c) fun w4 b4 c4 s4=>?_;replace b4:Bk w4 W2.heap.size 203 (qE c):=b4;have n24:New W2 w4:=(Chg.trans n3.any c4 i3).tN
    refine qq4 ?_;refine dw (f1:=[]) (c1:=[.pointer (some ⟨W2.heap.size,0,none⟩)]) rfl rfl ?_;refine au (GK (p:=fun o=>JA o.2 c) (g:=148) (cap:= #[.pointer (some ⟨W2.heap.size,0,none⟩)]) ((tC.new (oH uX) n24).rd Ah.mo) (fun y w' _ hw=>Tq (b4.chg hw id))) rfl ?_;rintro _ w5 ⟨rfl,n5⟩;have n25:=New.trans n24 n5;rw [YT hc] at hH;cases hfd:out.find? fun o=>JA o.2 c with
    |none=>rw [hfd] at hH;rw [aaY hfd];(repeat' (first|refine qq4 ?_|(refine aV rfl rfl (fun _=>?_) (fun _=>?_)<;>(first|(exfalso;omega)|skip))));exact aA (j+1) (sl rfl) ⟨by omega,hH,New.trans n2 n25⟩ (by omega)
    |some y=>
     rw [hfd] at hH;obtain ⟨m,e1,e2⟩:=YU hfd;rw [e1];dsimp only at hH;rw [hH] at hG;dsimp only at hG;have KX:=tC.new (oH uX) n25;have aeR:=ab1.new (oH BP) n25;have ab2:=YW.new (oH qE) n25;have n05:=New.trans n02 n25;have hml:=(List.getElem?_eq_some_iff.1 e2).1;have hz5:=n25.size;(repeat' (first|refine qq8 ?_|(refine aV rfl rfl (fun _=>?_) (fun _=>?_)<;>(first|(exfalso;omega)|skip))));refine aX rfl (by kernel_rfl) (fun w'=>Chg (fun b=>(Value.slice ra rf.length rc).ownBlock=some b) w5 w') (Chg.drew _ _) ?_;intro w6 n6;have hkc: ∀w',Chg (fun b=>(Value.slice ra rf.length rc).ownBlock=some b) w5 w'->oP (flat qE) 203 3 (fun b=>W.heap.size<=b) NoB w' (.slice ca cl.length cc) cl:=fun w' hw=>ab2.chg (oH qE) hw fun b hb e=>by have h1:=(abb.lt hb).1;have h2:=(Ep.lt e).2;omega
     have hko: ∀w',Chg (fun b=>(Value.slice ra rf.length rc).ownBlock=some b) w5 w'->oP (flat uX) 275 4 (fun b=>w.heap.size<=b) NoB w' (.slice oa out.length oc) out:=fun w' hw=>KX.AX (oH uX) hw sep;(repeat' (refine aa0 (aa3 (af ?_))));refine aa0 (aY (w:=w5) (ab2.rd vI.mo) (fun w' hw=>hw.keep fun b hb h1 e=>?_) rfl rfl (by omega) hc fun b o cs hl hR hat=>af ?_)
     ·rcases h1 with h1|h1
      ·have h2:=(Ep.lt e).2;omega
      ·exact h1
     obtain rfl:cs=qE c:=hR;refine aa0 (bK hat rfl rfl (af ?_));clear hat;(repeat' (refine aa0 (aa3 (af ?_))));refine aa0 (aY (w:=w5) ((KX.yX (Pb':=fun b=>(Value.slice oa out.length oc).ownBlock=some b) fun b hb _=>hb).rd Ah.mo) (fun w' hw=>hw.keep fun b hb h1 e=>?_) rfl rfl (by omega) e2 fun b o cs hl hR hat=>af ?_)
     ·rcases h1 with h1|h1
      ·exact sep b h1 e
      ·exact h1
     obtain rfl:cs=uX y:=hR;(repeat' (refine aa0 (aa6 (af ?_))));refine aa0 (ax (u:=vi y.1) rfl (fun w' hw=>(hat w' hw).get 0 rfl) (af ?_));clear hat;refine aH rfl (eG (ps:=[(0,.tmp 58),(1,.tmp 62),(2,.tmp 67)]) (parts:=[(0,vi n),(1,.agg (qE c).toArray),(2,vi y.1)]) rfl NT (ak ⟨rfl,n6.any,?_⟩));refine aH rfl (bF (R:=flat BP) (y:=⟨n,c,y.1⟩) (Pe:=NoB) zk rfl rfl rfl rfl (by omega) (by omega) fun vt w7 ot n7 s7 P8=>?_);have n67:=New.trans n6 n7;refine ak ⟨rfl,n67.any,?_⟩;refine aH rfl (bI zk (aeR.new (oH BP) n67) (ot.rd zk.mo) (fun y cs hy=>hy) rfl rfl (by omega) (by simp only [maxLen,apm];omega) (by simp only [apm];omega) fun v8 w8 o8 c8 lie _=>?_);have c58:=Chg.trans n67.any c8 i3;refine ak ⟨rfl,c58,?_⟩;(repeat' (first|refine bG ?_|refine aa0 (dU (by conv=>{lhs;whnf}) (af ?_))));refine qq8 ?_;have hz7:=n67.size;refine aA (k+1,(.slice oa out.length oc,out),(v8,rf++ [⟨n,c,y.1⟩])) (sl rfl) ⟨by dsimp only;omega,by dsimp only;omega,by simp;omega,?_,hko w8 c58,o8.mono zk.mo (fun b _ e=>by rcases e with e|e;exact e;omega) i3,BX (KX.new (oH uX) n67) sep lie,Chg.trans n05 c58 fun b hb e=>by have:=(Ep.lt e).1;omega⟩ (by dsimp only;omega);dsimp only;rw [hG];simp
   ·obtain rfl:j=cl.length:=by omega
    rw [aqi] at hH;have hH:Nr out cl=none:=hH;rw [hH] at hG;dsimp only at hG;have ab3: ∀b,(Value.slice ca cl.length cc).ownBlock=some b->W.heap.size<=b/\b<w1.heap.size:=fun b hb=>abb.lt hb;have BN:oP (flat uX) 275 4 (fun b=>w.heap.size<=b/\(Value.slice ca cl.length cc).ownBlock≠some b/\(Value.slice ra rf.length rc).ownBlock≠some b) NoB W2 (.slice oa out.length oc) out:=tC.yX fun b hb e=>⟨e,fun e2=>by have:=(ab3 b e2).1;have:=(own.lt hb).2;omega,sep b hb⟩;have aeS:oP (flat qE) 203 3 (fun b=>(Value.slice ca cl.length cc).ownBlock=some b) NoB W2 (.slice ca cl.length cc) cl:=YW.yX fun b hb _=>hb;refine aC (σ:=Nat×Value×List Ei) (fun q=>[(0,.slice a l.length cap),(8,q.2.1),(9,.slice ra rf.length rc),(11,vi n),(22,.slice na ns.length nc),(23,vi ns.length),(24,vi k),(71,.slice ca cl.length cc),(72,vi cl.length),(73,vi q.1)]) (fun q W'=>q.1<=cl.length/\q.2.2=out++(cl.take q.1).map (fun c=>(n,c))/\oP (flat uX) 275 4 (fun b=>w.heap.size<=b/\(Value.slice ca cl.length cc).ownBlock≠some b/\(Value.slice ra rf.length rc).ownBlock≠some b) NoB W' q.2.1 q.2.2/\oP (flat qE) 203 3 (fun b=>(Value.slice ca cl.length cc).ownBlock=some b) NoB W' (.slice ca cl.length cc) cl/\oP (flat BP) 205 5 (fun b=>w.heap.size<=b) NoB W' (.slice ra rf.length rc) rf/\New w W'/\w1.heap.size<=W'.heap.size) (fun q=>cl.length-q.1) (0,.slice oa out.length oc,out) (sl rfl) ⟨aoZ _,by simp,BN,aeS,ab1,n02,hz2⟩ ?_;rintro ⟨j,vo3,YX⟩ G3 W3 ⟨hj,ho3,xX,oc3,or3,n3,hz3⟩;dsimp only at hj ho3 xX oc3 or3 n3 hz3;simp only [ql];obtain ⟨pa,pc,rfl,_,_⟩:=xX.form;(repeat' (first|refine qq0 ?_|refine aa2 (fun _=>?_) (fun _=>?_)))
    ·obtain ⟨c,hc⟩:=pz cl (k:=j) (by omega);have ajU:YX.length=out.length+j:=by rw [ho3];simp;omega
     refine aO (oc3.rd vI.mo) rfl rfl (by omega) hc fun b o cs hl hR hat=>?_;obtain rfl:cs=qE c:=hR;refine aS hat rfl rfl ?_;clear hat;refine Wl.alloc fun w4 b4 n4 s4=>?_;refine aK (new:=qE c) b4 rfl rfl rfl rfl zl3 (YH c) fun w5 b5 c5 s5=>?_;replace b5:Bk w5 W3.heap.size 203 (qE c):=b5;have n35:New W3 w5:=(Chg.trans n4.any c5 i3).tN
     refine qq2 ?_;refine bD b5 rfl rfl ?_;refine eG (ps:=[(0,.tmp 78),(1,.tmp 79)]) (parts:=[(0,vi n),(1,.agg (qE c).toArray)]) rfl NU ?_;refine bZ (R:=flat uX) (y:=(n,c)) Ah (xX.new (oH uX) n35) rfl rfl rfl rfl rfl (by omega) (by omega) (by simp only [maxLen];omega) (by omega) rfl rfl fun v6 w6 p WU c6 lie=>?_;refine qq4 ?_;have aeT:=n35.size;have hz6:=c6.size;refine aA (j+1,v6,YX++ [(n,c)]) (sl rfl) ⟨by dsimp only;omega,?_,WU.mono Ah.mo (fun b _ e=>?_) i3,(oc3.new (oH qE) n35).chg (oH qE) c6 fun b hb e=>(xX.lt e).1.2.1 hb,(or3.new (oH BP) n35).chg (oH BP) c6 fun b hb e=>(xX.lt e).1.2.2 hb,Chg.trans (New.trans n3 n35) c6 fun b hb e=>by have:=(xX.lt e).1.1;omega,by omega⟩ (by dsimp only;omega)
     ·dsimp only;rw [ho3,take_snoc hc];simp
     ·rcases e with e|e
      ·exact e
      ·have:=n3.size;exact ⟨by omega,fun e2=>by have:=(ab3 b e2).2;omega,fun e2=>by have:=(Ep.lt e2).2;omega⟩
    ·obtain rfl:j=cl.length:=by omega
     rw [apZ] at ho3;have ajU:YX.length=out.length+cl.length:=by rw [ho3];simp
     refine aA (k+1,(.slice pa YX.length pc,YX),(.slice ra rf.length rc,rf)) (sl rfl) ⟨by dsimp only;omega,by dsimp only;omega,by dsimp only;omega,?_,xX.mono Ah.mo (fun b _ e=>e.1) i3,or3,fun b hb=>(xX.lt hb).1.2.2,n3⟩ (by dsimp only;omega);dsimp only;rw [hG,ho3]
 ·obtain rfl:k=ns.length:=by omega
  rw [aqi] at hG;simp only [vg,aqJ] at hG;rw [hG];exact aG rfl rfl rfl ⟨_,rfl,⟨_,_,rfl,own,Ep⟩,nW⟩
def abd (w w':World) (r:Value) (q:List Ei×List Rfs):Prop:= ∃v u,r=.tuple #[v,u,vi 0]/\oP (flat uX) 275 4 (fun b=>w.heap.size<=b) NoB w' v q.1/\oP (flat BP) 205 5 (fun b=>w.heap.size<=b) NoB w' u q.2
theorem Qv {cs:List Cd} {t:List Nd}: ∀n∈E9 cs t,n<t.length:=by
 intro n hn;unfold E9 at hn;rw [arL,aoW,aoV] at hn;exact hn.1
theorem Md (cs:List Cd) (t:List Nd):(E9 cs t).length<=t.length:=by
 unfold E9;rw [ard];have:=arD (fun i=>onM t i&&(sD cs t i).isSome) (abS t.length)
 rwa [arE] at this
theorem Qw {Pb Pt:Nat->Prop} {w:World} {v u:Value} {cs:List Cd} {t:List Nd} (h:RdS rCd 7 Pb w v cs) (ht:RdS rNd 3 Pt w u t) (hc:vG cs=true) (hok:pM t=true):
 Calls prog 88 #[v,u] w (Ret fun r w'=>abd w w' r (rX cs t)/\New w w'):=by
 have hlen:=qo hok;refine oI func88 rfl ntmps88 rfl ?_;refine qq2 ?_;refine au (WY h ht hc hok) rfl ?_;rintro _ w1 ⟨⟨q,rfl,own⟩,n1⟩;(repeat' (first|refine qq4 ?_|(refine aa4 (fun _=>?_) (fun _=>?_)<;>(first|(exfalso;omega)|skip))));refine au (WZ (ht.keep pU n1.keep) hok (own.rd (pq _)) Qv (by have:=Md cs t;omega)) rfl ?_;rintro _ w2 ⟨⟨va,vb,rfl,o1,o2⟩,n2⟩;refine qq5 ?_;have hz:=n1.size;exact cZ rfl rfl rfl rfl ⟨_,rfl,⟨_,_,rfl,o1.mono Ah.mo (fun b _ e=>by omega) i3,o2.mono zk.mo (fun b _ e=>by omega) i3⟩,New.trans n1 n2⟩
end Go.Proofs.YtfbnfhhmiiahnaaGreatDoor
namespace Go.Proofs.YtfbnfhhmiiahnaaGreatDoor
open Go Wk Sy
open Go.RowKit (Below)
attribute [local irreducible] Go.Calls
theorem Xa {α:Type} (p:α->Bool) (l:List α):(idx p l= -1/\ ∀x∈l,p x=false)∨ ∃i y,idx p l=(i:Nat)/\l[i]? =some y/\p y=true/\ ∀x∈l.take i,p x=false:=by
 unfold idx;cases hx:l.findIdx? p with
 |none=>exact .inl ⟨rfl,List.findIdx?_eq_none_iff.1 hx⟩
 |some i=>
  obtain ⟨hlt,hp,hb⟩:=List.findIdx?_eq_some_iff_getElem.1 hx;refine .inr ⟨i,l[i],rfl,adK hlt,hp,fun x hx=>?_⟩;obtain ⟨j,hj⟩:=List.mem_iff_getElem?.1 hx;rw [aav] at hj;split at hj
  ·rename_i hji
   have h2:=hb j hji;obtain ⟨h3,rfl⟩:=List.getElem?_eq_some_iff.1 hj;simpa using h2
  ·cases hj
theorem aeU {Pb:Nat->Prop} {w:World} {v:Value} {es:List Ed} (h:RdS rEd 6 Pb w v es): ∃D:List SE,D.map (·.1.1)=es/\D.map (·.2)=abS es.length/\RdS (flat seC) 6 Pb w v D/\ ∀x∈D,RdS (Wk.one Be) 1 Pb w (svV x.1.2) x.1.1.args:=by
 rcases h with ⟨rfl,rfl⟩|⟨a,cap,rfl,rfl,hc⟩|⟨b,off,cap,cur,e,fr,rfl,hb,hh,h1,h2,h3,h4⟩
 ·exact ⟨[],rfl,rfl,.inl ⟨rfl,rfl⟩,by simp⟩
 ·exact ⟨[],rfl,rfl,.inr (.inl ⟨a,cap,rfl,rfl,hc⟩),by simp⟩
 ·have hx: ∀i:Nat, ∃s:SV, ∀x,es[i]? =some x->(cur.toList.drop (off+i*6)).take 6=edC x (svV s)/\RdS (Wk.one Be) 1 Pb w (svV s) x.args:=fun i=>by
   cases hi:es[i]? with
   |none=>exact ⟨(none,0,0),fun x e=>by cases e⟩
   |some x=>obtain ⟨u,hu,hr⟩:=h4 i x hi;obtain ⟨a,c,rfl,_,_⟩:=hr.form;exact ⟨(a,x.args.length,c),fun y e=>by cases e;exact ⟨hu,hr⟩⟩
  obtain ⟨s,hs⟩:=Classical.axiomOfChoice hx;refine ⟨es.zipIdx.map fun p=>((p.1,s p.2),p.2),?_,?_,.inr (.inr ⟨b,off,cap,cur,e,fr,by simp,hb,hh,by simpa using h1,h2,by simpa using h3,?_⟩),?_⟩
  ·rw [aqa];exact List.zipIdx_map_fst 0 es
  ·rw [aqa];show es.zipIdx.map (fun p=>p.2)=_;rw [List.zipIdx_map_snd,List.range_eq_range']
  ·intro i x hx';rw [apF,List.getElem?_zipIdx] at hx';cases hi:es[i]? with
   |none=>rw [hi] at hx';cases hx'
   |some y=>rw [hi] at hx';simp only [adJ,acL] at hx';cases hx';exact (hs i y hi).1
  ·intro x hx';obtain ⟨⟨y,i⟩,hm,rfl⟩:=List.mem_map.1 hx';rw [List.mem_zipIdx_iff_getElem?] at hm;exact (hs i y hm).2
theorem ab4 {Pb Pe:Nat->Prop} {w:World} {v:Value} {D:List SE} (h:RdS (flat seC) 6 Pb w v D) (hP: ∀b,Pb b->Pe b) (ha: ∀x∈D,RdS (Wk.one Be) 1 Pe w (svV x.1.2) x.1.1.args):RdS rEd 6 Pe w v (D.map (·.1.1)):=by
 rcases h with ⟨rfl,rfl⟩|⟨a,cap,rfl,rfl,hc⟩|⟨b,off,cap,cur,e,fr,rfl,hb,hh,h1,h2,h3,h4⟩
 ·exact .inl ⟨rfl,rfl⟩
 ·exact .inr (.inl ⟨a,cap,rfl,rfl,hc⟩)
 ·refine .inr (.inr ⟨b,off,cap,cur,e,fr,by simp,hP b hb,hh,by simpa using h1,h2,by simpa using h3,fun i x hx=>?_⟩);rw [apF] at hx;obtain ⟨y,hy,rfl⟩:=Option.map_eq_some_iff.1 hx;exact ⟨_,h4 i y hy,ha y (apD hy)⟩
theorem Qy {Pb:Nat->Prop} {w:World} {v:Value} {l:List SE} (h:RdS (flat seC) 6 Pb w v l) (hl:l.length<=20000000):
 Calls prog 71 #[v] w (Ret fun r w'=>sO (fun b=>w.heap.size<=b) w' r l/\New w w'):=by
 obtain ⟨a,cap,rfl,hc1,hc2⟩:=h.form;refine oI func71 rfl ntmps71 rfl ?_;refine qq2 ?_;refine jd rfl rfl ?_;cases a with
 |none=>
  have e:l=[]:=by
   rcases h with ⟨_,rfl⟩|⟨_,_,e,_⟩|⟨_,_,_,_,_,_,e,_⟩
   ·rfl
   ·cases e
   ·cases e
  subst e;refine qq4 ?_;exact ay rfl rfl ⟨_,rfl,aN,aB _ _⟩
 |some a=>refine qq4 ?_;refine iJ (R:=flat seC) (Pe:=NoB) fun v1 w1 o1 n1=>?_;(repeat' (refine aa1 ?_));refine bI Ti o1 (h.keep (pI seC) n1.keep) (fun y cs hy=>hy) rfl rfl (by omega) (by simp only [maxLen,apK];omega) (by simp only [apK];omega) fun v2 w2 o2 c2 lie _=>?_;refine qq6 ?_;refine ay rfl rfl ⟨_,rfl,?_,Chg.trans n1 c2 fun k hk e=>by have:=(o1.lt e).1;omega⟩;have hs:=n1.size;exact o2.mono (oU seC) (fun b _ hb=>by rcases hb with hb|hb;exact hb;omega) i3
theorem IW {Pb:Nat->Prop} {w:World} {v:Value} {l:List SE} {p:SE->Bool} {g:FuncId} {cap:Array Value} [hc:oN prog g] (h:RdS (flat seC) 6 Pb w v l)
 (hf: ∀y w',y∈l->New w w'->Calls prog g ([Value.agg (seC y).toArray]++cap.toList).toArray w' (Ret fun r w''=>r=.bool (p y)/\New w' w'')):
 Calls prog 97 #[v,.func (.func g) #[] cap] w (Ret fun r w'=>r=vi (idx p l)/\New w w'):=by
 obtain ⟨a,cp,rfl,hc1,hc2⟩:=h.form;simp only [maxLen] at hc2;refine oI func97 rfl ntmps97 rfl ?_;refine qq4 ?_;refine aC (σ:=Nat) (fun i=>[(0,.slice a l.length cp),(1,.func (.func g) #[] cap),(7,vi l.length),(8,vi i)]) (fun i w'=>i<=l.length/\(∀x∈l.take i,p x=false)/\New w w') (fun i=>l.length-i) 0 (sl rfl) ⟨aoZ _,by simp,aB _ _⟩ ?_;rintro i G w1 ⟨hi,hall,n1⟩;simp only [ql];(repeat' (first|refine qq2 ?_|refine aa2 (fun _=>?_) (fun _=>?_)))
 ·obtain ⟨y,hy⟩:=pz l (k:=i) (by omega);refine dF h n1.keep rfl rfl (by omega) hy fun b o cs hl hR hat=>?_;obtain rfl:cs=seC y:=hR;refine aS hat rfl rfl ?_;refine bU (dst:=some 16) rfl (hf y w1 (apD hy) n1) rfl ?_;rintro _ w2 ⟨rfl,n2⟩;simp only [xH];cases hp:p y with
  |true=>refine qq5 ?_;refine ay rfl rfl ⟨_,rfl,?_,New.trans n1 n2⟩;rw [Fe hy hall hp];rfl
  |false=>refine qq3 ?_;exact aA (i+1) (sl rfl) ⟨by omega,Cm hy hall hp,New.trans n1 n2⟩ (by omega)
 ·have e:i=l.length:=by omega
  subst e;rw [apZ] at hall;refine ay rfl rfl ⟨_,rfl,?_,n1⟩;rw [Ad hall];rfl
theorem GL {Pb:Nat->Prop} {w:World} {v:Value} {l:List SE} {p:SE->Bool} {fg:FuncId} {fc:Array Value} [hc:oN prog fg] (h:sO Pb w v l)
 (hf: ∀y w',y∈l->Chg (fun b=>v.ownBlock=some b) w w'->Calls prog fg ([Value.agg (seC y).toArray]++fc.toList).toArray w' (Ret fun r w''=>r=.bool (p y)/\New w' w'')):
 Calls prog 70 #[v,.func (.func fg) #[] fc] w (Ret fun r w'=>sO Pb w' r (l.filter fun y=> !p y)/\(∀b,r.ownBlock=some b->v.ownBlock=some b)/\Chg (fun b=>v.ownBlock=some b) w w'):=by
 refine oI func70 rfl ntmps70 rfl ?_;refine qq2 ?_;refine au (IW (h.rd (oU seC)) (fun y w' hy hn=>hf y w' hy hn.any)) rfl ?_;rintro _ w1 ⟨rfl,n1⟩;rcases Xa p l with ⟨e,hno⟩|⟨i,y0,e,hi0,hpy,hbef⟩
 ·rw [e];(repeat' (first|refine qq4 ?_|(refine bH rfl rfl (fun _=>?_) (fun _=>?_)<;>(first|(exfalso;omega)|skip))));refine ay rfl rfl ⟨_,rfl,?_,fun b hb=>hb,n1.any⟩;rw [List.filter_eq_self.2 (fun y hy=>by simp [hno y hy])];exact h.new (oH seC) n1
 ·rw [e];have hil:i<l.length:=(List.getElem?_eq_some_iff.1 hi0).1;obtain ⟨g,cap,rfl,hgb,hgl,hob⟩:=h.blk (by intro e;rw [e] at hil;simp at hil);obtain ⟨_,_,hfm,hcap,hmax⟩:=h.form;cases hfm;simp only [maxLen] at hmax;(repeat' (first|refine qq0 ?_|(refine bH rfl rfl (fun _=>?_) (fun _=>?_)<;>(first|(exfalso;omega)|skip))));refine aC (σ:=Nat×Nat×List SE) (fun s=>[(0,.slice (some ⟨g,0,none⟩) l.length cap),(1,.func (.func fg) #[] fc),(5,vi s.1),(6,vi s.2.1)]) (fun s w'=>s.1<s.2.1/\s.2.1<=l.length/\s.2.2.length=l.length/\s.2.2.take s.1=(l.take s.2.1).filter (fun y=> !p y)/\s.2.2.drop s.2.1=l.drop s.2.1/\sO Pb w' (.slice (some ⟨g,0,none⟩) l.length cap) s.2.2/\Chg (fun b=>(Value.slice (some (⟨g,0,none⟩:Addr)) l.length cap).ownBlock=some b) w w') (fun s=>l.length-s.2.1) (i,i+1,l) (sl rfl) ⟨by simp,by simp only;omega,rfl,?_,rfl,h.new (oH seC) n1,n1.any⟩ ?_
  ·simp only;rw [take_snoc hi0,arF,List.filter_eq_self.2 (fun y hy=>by simp [hbef y hy])];simp [hpy]
  rintro ⟨i,j,xs⟩ G w2 ⟨hij,hj,hxl,htk,hdr,ox,c2⟩;dsimp only at hij hj hxl htk hdr ox c2;simp only [ql];(repeat' (first|refine qq2 ?_|refine aa2 (fun _=>?_) (fun _=>?_)))
  ·obtain ⟨y,hy⟩:=pz l (k:=j) (by omega);have hxy:xs[j]? =some y:=by have:=congrArg (fun q=>q[0]?) hdr;simpa [hy] using this
   have hox:sO Pb w2 (.slice (some ⟨g,0,none⟩) l.length cap) xs:=ox;have hrd:=ox.rd (oU seC);refine aO hrd rfl rfl (by omega) hxy fun b o cs hl hR hat=>?_;obtain rfl:cs=seC y:=hR;refine aS hat rfl rfl ?_;refine Wl.alloc fun w3 b3 n3 s3=>?_;refine aK (new:=seC y) b3 rfl rfl rfl rfl zl6 (IQ y) fun w4 b4 c4 s4=>?_;replace b4:Bk w4 w2.heap.size 100 (seC y):=b4;have hs2:=c2.size;have n24:New w2 w4:=Chg.trans n3 c4 fun k hk e=>by omega
   have ox4:=ox.new (oH seC) n24;have c24:=Chg.trans c2 (n24.any (M:=fun b=>(Value.slice (some (⟨g,0,none⟩:Addr)) l.length cap).ownBlock=some b)) i3;refine qq4 ?_;refine bD b4 rfl rfl ?_;refine bU (dst:=some 28) rfl (hf y w4 (apD hy) c24) rfl ?_;rintro _ w5 ⟨rfl,n5⟩;simp only [xH];have b5:=b4.chg n5 id;have ox5:=ox4.new (oH seC) n5;have c5:=Chg.trans c24 (n5.any (M:=fun b=>(Value.slice (some (⟨g,0,none⟩:Addr)) l.length cap).ownBlock=some b)) i3;cases hp:p y with
   |true=>
    refine qq4 ?_;refine aA (i,j+1,xs) (sl rfl) ⟨by dsimp only;omega,by dsimp only;omega,hxl,?_,?_,ox5,c5⟩ (by dsimp only;omega)
    ·dsimp only;rw [htk,take_snoc hy,arF];simp [hp]
    ·dsimp only;have:=congrArg (List.drop 1) hdr;simpa [apM] using this
   |false=>
    refine qq4 ?_;refine bD b5 rfl rfl ?_;refine dB rfl rfl (by omega) (by omega) ?_;refine fJ (f:=seC) (q:=y) (j:=i) (sz:=6) (cap:=cap) (fun _=>rfl) IQ ox5 (by rw [hxl]) (by omega) (by show Value.pointer (some ⟨g,0+(i:Int).toNat*6,none⟩)=_;simp) rfl rfl fun w6 o6 c6=>?_;refine qq4 ?_;refine aA (i+1,j+1,xs.set i y) (sl rfl) ⟨by dsimp only;omega,by dsimp only;omega,by simpa using hxl,?_,?_,o6,Chg.trans c5 c6 i3⟩ (by dsimp only;omega)
    ·dsimp only;have hget:(xs.set i y)[i]? =some y:=by rw [apo,if_pos rfl,if_pos (by omega)]
     rw [take_snoc hget,List.take_set_of_le (aat i),htk,take_snoc hy,arF];simp [hp]
    ·dsimp only;rw [List.drop_set_of_lt (by omega)];have:=congrArg (List.drop 1) hdr;simpa [apM] using this
  ·have e:j=l.length:=by omega
   subst e;rw [apZ] at htk;refine kC (f:=seC) (i:=i) (cap:=cap) (by simp [Value.cells];exact ⟨rfl,rfl,rfl,rfl,rfl⟩) ox (by rw [hxl]) rfl rfl (by omega) rfl fun u w3 o3 c3=>?_;refine qq4 ?_;refine kD rfl rfl (by omega) ?_;refine qq6 ?_;refine ay rfl rfl ⟨_,rfl,?_,fun b hb=>hb,Chg.trans c2 c3 i3⟩;rw [<-htk];exact o3
end Go.Proofs.YtfbnfhhmiiahnaaGreatDoor
namespace Go.Proofs.YtfbnfhhmiiahnaaGreatDoor
open Go Wk Sy
section
theorem J7 {α:Type} {a b:α}: ∀ {S:List α},S.Nodup->[a,b].Sublist S->[b,a].Sublist S->False
 | [],_,h,_=>by cases h
 |x::r,hn,h1,h2=>by
  have hx:=(List.nodup_cons.1 hn).1;have hr:=(List.nodup_cons.1 hn).2;cases h1 with
  |cons _ h1=>
   cases h2 with
   |cons _ h2=>exact J7 hr h1 h2
   |cons_cons _ h2=>exact hx (h1.subset (by simp))
  |cons_cons _ h1=>
   cases h2 with
   |cons _ h2=>exact hx (h2.subset (by simp))
   |cons_cons _ h2=>exact hx (h1.subset (by simp))
theorem Vk: ∀ {D:List SE},(D.Pairwise fun x y=>x.2<y.2)-> ∀ {x y},x∈D->y∈D->x.2<y.2->[x,y].Sublist D
 | [],_,x,y,h,_,_=>by cases h
 |d::r,hp,x,y,hx,hy,hlt=>by
  obtain ⟨h1,h2⟩:=List.pairwise_cons.1 hp;rcases List.mem_cons.1 hx with ex|hx
  ·rcases List.mem_cons.1 hy with ey|hy
   ·rw [ex,ey] at hlt;omega
   ·rw [ex];exact List.Sublist.cons_cons _ (List.singleton_sublist.2 hy)
  ·rcases List.mem_cons.1 hy with ey|hy
   ·have:=h1 x hx;rw [ey] at hlt;omega
   ·exact List.Sublist.cons _ (Vk h2 hx hy hlt)
variable {key:SE->Nm}
abbrev leE (key:SE->Nm) (x y:SE):Bool:= !cpE key y x
theorem YZ: ∀x y z:SE,leE key x y=true->leE key y z=true->leE key x z=true:=by
 intro x y z h1 h2;unfold leE cpE at*;simp only [Bool.not_eq_true',decide_eq_false_iff_not] at*;intro h;by_cases e:key z<key y
 ·exact h2 e
 ·by_cases e2:key y=key z
  ·rw [e2] at h1;exact h1 h
  ·exact h1 (aqO (Gs e (fun e3=>e2 e3.symm)) h)
theorem Vl: ∀x y:SE,(leE key x y||leE key y x)=true:=by
 intro x y;unfold leE cpE;by_cases e:key y<key x
 ·have: ¬key x<key y:=fun h=>List.lt_irrefl _ (aqO e h);simp [this]
 ·simp [e]
theorem Tv {D0:List SE} (hix:D0.Pairwise fun x y=>x.2<y.2):Srt (ltE key) (D0.mergeSort (leE key)):=by
 have hp:=arP D0 (leE key);have hs:=List.pairwise_mergeSort (le:=leE key) YZ Vl D0;have hd:D0.Nodup:=hix.imp fun h e=>by rw [e] at h;omega
 have hn:(D0.mergeSort (leE key)).Nodup:=hp.nodup_iff.2 hd;have hi:((D0.mergeSort (leE key)).map (·.2)).Nodup:=(hp.map _).nodup_iff.2 (List.pairwise_map.2 (hix.imp fun h e=>by omega));refine List.pairwise_iff_forall_sublist.2 fun {a b} hab=>?_;have hle:=List.pairwise_iff_forall_sublist.1 hs hab;have hkn: ¬key b<key a:=by unfold leE cpE at hle;simpa using hle
 have ha:=hp.mem_iff.1 (hab.subset (by simp:a∈ [a,b]));have hb:=hp.mem_iff.1 (hab.subset (by simp:b∈ [a,b]));by_cases hlt:key a<key b
 ·exact .inl hlt
 have hke:key a=key b:=arG fun e=>hlt (Gs hkn fun e2=>e e2.symm);refine .inr ⟨hke,?_⟩;have hne:a.2≠b.2:=by have:=hi.sublist (hab.map (·.2));simp at this;exact this
 by_cases h2:a.2<b.2
 ·exact h2
 ·have hba:=Vk hix hb ha (by omega);have:=List.pair_sublist_mergeSort (le:=leE key) YZ Vl (by unfold leE cpE;simp [hlt]) hba;exact (J7 hn hab this).elim
theorem Tz {D0 E:List SE} (pt:Nat->Nm) (hix:D0.Pairwise fun x y=>x.2<y.2) (hp:E.Perm D0) (hs:Srt (ltE fun x=>pt x.1.1.src) E):E.map (·.1.1)=(D0.map (·.1.1)).mergeSort fun x y=> !decide (pt y.src<pt x.src):=by
 have h:=aau (acU fun x=>pt x.1.1.src) (hp.trans (arP D0 (leE fun x=>pt x.1.1.src)).symm) hs (Tv hix);rw [h];exact List.map_mergeSort (fun a _ b _=>rfl)
end
end Go.Proofs.YtfbnfhhmiiahnaaGreatDoor
namespace Go.Proofs.YtfbnfhhmiiahnaaGreatDoor.Wk
open Go Go.RowKit
abbrev FR:Option Nat->Fence
 |none=>Fence.wide
 |some r=>Fence.wide.inRound r
def Ew (l:List Oper):Bool:=l.all fun o=>match o.op with| .defer _=>false|_=>true
section
variable {P:Program} {r:Option Nat}
theorem Me {o:Oper} {a:Act} {next next':Act->World->Prop} {Q:Exit->Act->World->Prop} {res:Result Next} (hn: ∀a w,next a w->next' a w) (h:o.upon P a next Q res):o.uponIn (FR r) 0 P a next' Q res:=by
 cases r<;>cases res with
 |ok v w=>
  cases v with
  |value v=>exact hn _ _ h
  |skip=>exact hn _ _ h
  |defer d=>exact hn _ _ h
  |enter f args=>
   refine ⟨fun _=>by simp [FR,Fence.wide] at*,?_⟩;refine CallsIn.mono (show CallsIn Fence.wide 0 P f args w _ from (callsIn_wide (n:=0)).2 h) ?_;intro e w' he;cases e with
   |returned v=>exact hn _ _ he
   |panicked c=>exact he
   |outgrown=>exact he
  |row row args=>refine ⟨fun _=>by simp [FR,Fence.wide] at*,?_⟩;intro c cs _;obtain ⟨v,w',hr,hs⟩:=h c cs;exact ⟨v,w',hn _ _ hr,stepsIn_wide.2 hs⟩
  |_=>exact h.elim
 |halt e w=>cases e<;>exact h
theorem Dv {ops:Array Oper} {Q:Exit->Act->World->Prop} (hout: ¬LetsOut Q): ∀(l:List Oper),Ew l=true-> ∀a w,wpList P ops Q l a w->wpListIn (FR r) 0 P ops Q l a w
 | [],_,_,_,h=>h
 |o::l,hl,a,w,h=>by
  unfold Ew at hl;rw [List.all_cons,ao0] at hl;have ih:=Dv (ops:=ops) hout l hl.2;have ho: ∀c,o.op≠ .defer c:=fun c e=>by have:=hl.1;rw [e] at this;cases this
  unfold wpList at h;unfold wpListIn;have Y0: ∀f,(FR r).fn f:=by cases r<;>exact fun _=>trivial
  split
  ·rename_i hw
   rw [if_pos hw] at h;rcases h with h|⟨_,h⟩
   ·refine ⟨fun f _=>Y0 f,?_⟩;rw [Oper.semAt_eq _ _ _ ho];exact Me ih h
   ·exact absurd h hout
  ·rename_i hw
   rw [if_neg hw] at h;exact ⟨fun f _=>Y0 f,ih _ _ h⟩
end
def Wr (P:Program) (n:Nat) (r:Option Nat) (Q:Po) (c:Code) (F:Fr) (w:World):Prop:=c.wpIn (FR r) 0 P (QA n [] Q) (act n [] F) w
def Qsr (P:Program) (n:Nat) (r:Option Nat) (b:Code) (Q:Po):Po
 | .normal,F,w=>Wr P n r Q b F w
 |e,F,w=>Q e F w
section
variable {P:Program} {n:Nat} {r:Option Nat} {Q:Po} {F:Fr} {w:World}
theorem di {a b:Code} (h:Wr P n r (Qsr P n r b Q) a F w):Wr P n r Q (.seq a b) F w:=by
 refine wpIn_seq (wpIn_mono h ?_);rintro e a' w' ⟨F',rfl,hq⟩;cases e<;>first|exact hq|exact ⟨F',rfl,hq⟩
theorem bP {id:Nat} {l:List Oper} (hl:Ew l=true) (hQ: ∀F w, ¬Q .outgrown F w) (h:Wl P n [] Q l l F w):Wr P n r Q (.region id l.toArray false) F w:=by
 unfold Wl at h;exact wpIn_region_lit (Dv (fun hx=>by obtain ⟨a,w,F',_,hq⟩:=hx;exact hQ F' w hq) l hl _ _ h)
theorem Wr.block {id:Nat} {c:Code} (h:Wr P n r (qH id Q) c F w):Wr P n r Q (.block id c) F w:=by
 refine wpIn_block (wpIn_mono h ?_);rintro e a' w' ⟨F',rfl,hq⟩;unfold qH at hq;cases e with
 |exit j=>
  simp only at hq;simp only [Exit.inBlock];split<;>rename_i hj
  ·rw [if_pos hj] at hq;exact ⟨F',rfl,hq⟩
  ·rw [if_neg hj] at hq;exact ⟨F',rfl,hq⟩
 |_=>exact ⟨F',rfl,hq⟩
theorem Wr.skip (h:Q .normal F w):Wr P n r Q .skip F w:=wpIn_skip ⟨F,rfl,h⟩
theorem iO {id:Nat} (h:Q (.exit id) F w):Wr P n r Q (.exit id) F w:=wpIn_exit ⟨F,rfl,h⟩
theorem jJ (h:Q .ret F w):Wr P n r Q .ret F w:=wpIn_ret ⟨F,rfl,h⟩
theorem eH {c:Operand} {x y:Code} (hc:ev n F c=.bool true) (h:Wr P n r Q x F w):Wr P n r Q (.cond c x y) F w:=wpIn_cond_true (wZ.trans hc) h
theorem eP {c:Operand} {x y:Code} (hc:ev n F c=.bool false) (h:Wr P n r Q y F w):Wr P n r Q (.cond c x y) F w:=wpIn_cond_false (wZ.trans hc) h
theorem bQ {b:Code} (h:Wr P n r Q b F w):Qsr P n r b Q .normal F w:=h
theorem iP {b:Code} {id:Nat} (h:Q (.exit id) F w):Qsr P n r b Q (.exit id) F w:=h
theorem jK {b:Code} (h:Q .ret F w):Qsr P n r b Q .ret F w:=h
theorem Qsr.out {b:Code} (h: ∀F w, ¬Q .outgrown F w): ∀F w, ¬Qsr P n r b Q .outgrown F w:=h
theorem qH.out {id:Nat} (h: ∀F w, ¬Q .outgrown F w): ∀F w, ¬qH id Q .outgrown F w:=by unfold qH;exact h
end
section
variable {P:Program} {n:Nat} {r:Option Nat} {ops:Array Oper} {Q:Exit->Act->World->Prop}
structure Qap (F:Fence) (P:Program) (ops:Array Oper) (Q Q1:Exit->Act->World->Prop) (l2:List Oper):Prop where
 nm: ∀a w,Q1 .normal a w->wpListIn F 0 P ops Q l2 a w
 pn: ∀c a w,Q1 (.panic c) a w->Q (.panic c) a w
 out:LetsOut Q1->LetsOut Q
theorem TA {F:Fence} {o:Oper} {l2:List Oper} {Q1:Exit->Act->World->Prop} (q:Qap F P ops Q Q1 l2) {a:Act} {K K':Act->World->Prop} (hK: ∀a w,K a w->K' a w) {res:Result Next} (h:o.uponIn F 0 P a K Q1 res):o.uponIn F 0 P a K' Q res:=by
 cases res with
 |ok v w=>
  cases v with
  |value v=>exact hK _ _ h
  |skip=>exact hK _ _ h
  |defer d=>exact hK _ _ h
  |enter f args=>
   refine ⟨h.1,h.2.mono fun e w' he=>?_⟩;cases e with
   |returned v=>exact hK _ _ he
   |panicked c=>exact q.pn _ _ _ he
   |outgrown=>exact q.out he
  |row row args=>exact ⟨h.1,h.2.mono fun v w' he=>hK _ _ he⟩
  |round l f tmps asg bd=>
   refine ⟨h.1,h.2.mono fun e w' he=>?_⟩;cases e with
   |returned v=>exact hK _ _ he
   |panicked c=>exact q.pn _ _ _ he
   |outgrown=>exact q.out he
  |_=>exact h.elim
 |halt e w=>
  cases e with
  |panic v=>exact q.pn _ _ _ h
  |_=>exact h
theorem Ey {F:Fence} {l2:List Oper} {Q1:Exit->Act->World->Prop} (q:Qap F P ops Q Q1 l2): ∀(l1:List Oper) (a:Act) (w:World),wpListIn F 0 P ops Q1 l1 a w->wpListIn F 0 P ops Q (l1++l2) a w
 | [],_,_,h=>q.nm _ _ h
 |o::l1,a,w,h=>by
  rw [aeH];unfold wpListIn at h ⊢;split
  ·rename_i hw
   rw [if_pos hw] at h;exact ⟨h.1,TA q (fun a w=>Ey q l1 a w) h.2⟩
  ·rename_i hw
   rw [if_neg hw] at h;exact ⟨h.1,Ey q l1 _ _ h.2⟩
end
theorem Qfn.out {P:Program} {n:Nat} {fn:Func} {R:Ending->World->Prop} (h: ∀w, ¬R .outgrown w): ∀F w, ¬Qfn P n fn R .outgrown F w:=by unfold Qfn;exact fun _ w=>h w
attribute [irreducible] Wr Qsr
abbrev Pd:=Exit->List Deferred->Fr->World->Prop
def QD (n:Nat) (Q:Pd):Exit->Act->World->Prop:=fun e a w=> ∃ds F,a=act n ds F/\Q e ds F w
def Wd (P:Program) (n:Nat) (Q:Pd) (c:Code) (ds:List Deferred) (F:Fr) (w:World):Prop:=c.wp P (QD n Q) (act n ds F) w
def Qds (P:Program) (n:Nat) (b:Code) (Q:Pd):Pd
 | .normal,ds,F,w=>Wd P n Q b ds F w
 |e,ds,F,w=>Q e ds F w
def Qdb (id:Nat) (Q:Pd):Pd
 | .exit j,ds,F,w=>if j=id then Q .normal ds F w else Q (.exit j) ds F w
 |e,ds,F,w=>Q e ds F w
def Qdn (Q:Pd) (ds:List Deferred):Po:=fun e F w=>Q e ds F w
section
variable {P:Program} {n:Nat} {ds:List Deferred} {Q:Pd} {F:Fr} {w:World}
theorem gy {c:Code} (h:Wc P n ds (Qdn Q ds) c F w):Wd P n Q c ds F w:=by
 unfold Wc at h;refine wp_mono h ?_;rintro e a w ⟨F',rfl,hq⟩;exact ⟨ds,F',rfl,hq⟩
theorem dV {a b:Code} (h:Wd P n (Qds P n b Q) a ds F w):Wd P n Q (.seq a b) ds F w:=by
 refine wp_seq (wp_mono h ?_);rintro e a' w' ⟨ds',F',rfl,hq⟩;cases e<;>first|exact hq|exact ⟨ds',F',rfl,hq⟩
theorem Wd.block {id:Nat} {c:Code} (h:Wd P n (Qdb id Q) c ds F w):Wd P n Q (.block id c) ds F w:=by
 refine wp_block (wp_mono h ?_);rintro e a' w' ⟨ds',F',rfl,hq⟩;unfold Qdb at hq;cases e with
 |exit j=>
  simp only at hq;simp only [Exit.inBlock];split<;>rename_i hj
  ·rw [if_pos hj] at hq;exact ⟨ds',F',rfl,hq⟩
  ·rw [if_neg hj] at hq;exact ⟨ds',F',rfl,hq⟩
 |_=>exact ⟨ds',F',rfl,hq⟩
theorem eU {id:Nat} {l:List Oper} (h:Wl P n ds (Qdn Q ds) l l F w):Wd P n Q (.region id l.toArray false) ds F w:=gy (aU h)
theorem Wd.skip (h:Q .normal ds F w):Wd P n Q .skip ds F w:=wp_skip ⟨ds,F,rfl,h⟩
theorem gX (h:Q .ret ds F w):Wd P n Q .ret ds F w:=wp_ret ⟨ds,F,rfl,h⟩
theorem Qdn.e {e:Exit} (h:Q e ds F w):Qdn Q ds e F w:=h
theorem dJ {b:Code} (h:Wd P n Q b ds F w):Qds P n b Q .normal ds F w:=h
theorem gU {b:Code} (h:Q .ret ds F w):Qds P n b Q .ret ds F w:=h
theorem fM {id:Nat} (h:Q .normal ds F w):Qdb id Q .normal ds F w:=h
theorem Qdb.ret {id:Nat} (h:Q .ret ds F w):Qdb id Q .ret ds F w:=h
theorem Qdb.hit {id:Nat} (h:Q .normal ds F w):Qdb id Q (.exit id) ds F w:=by simp only [Qdb,if_pos];exact h
theorem gQ {c:Operand} {x y:Code} (hc:ev n F c=.bool true) (h:Wd P n Q x ds F w):Wd P n Q (.cond c x y) ds F w:=wp_cond_true (wZ.trans hc) h
theorem iR {c:Operand} {x y:Code} (hc:ev n F c=.bool false) (h:Wd P n Q y ds F w):Wd P n Q (.cond c x y) ds F w:=wp_cond_false (wZ.trans hc) h
def Lv (P:Program) (n:Nat) (fn:Func) (R:Ending->World->Prop) (ds:List Deferred) (F:Fr) (u:FrameMode) (w:World):Prop:=LeavesInM Fence.wide 0 P fn (arr n F) R ds u w
def Qdf (P:Program) (n:Nat) (fn:Func) (R:Ending->World->Prop):Pd
 | .normal,ds,F,w| .ret,ds,F,w=>Lv P n fn R ds F .returning w
 | .panic chain,ds,F,w=>Lv P n fn R ds F (.panicking chain) w
 | .outgrown,_,_,w=>R .outgrown w
 |_,_,_,_=>False
theorem xB {f:FuncId} {fn:Func} {c:Code} {l:List Value} {R:Ending->World->Prop} (hf:P.funcs[f]? =some fn) (hb:fn.body=some c) (hn:fn.ntmps=n)
 (hl:Nat.ble l.length n=true) (h:Wd P n (Qdf P n fn R) c [] (Jf l) w):Calls P f l.toArray w R:=by
 refine (callsIn_wide (n:=0)).1 (callsIn_of_wp_marks (F:=Fence.wide) hf hb trivial (wpIn_wide.2 ?_) rfl);rw [hn,DZ l n (arQ hl)];refine wp_mono h ?_;rintro e a w ⟨ds,F,rfl,hq⟩;cases e<;>exact hq
theorem gB {fn:Func} {R:Ending->World->Prop} {D:Nat} {u:FrameMode} (hu:u≠ .run) (hD:w.heap[D]? =some (.deferred (some []))) (h:Lv P n fn R ds F u (w.putObj D (.deferred none))):
 Lv P n fn R ({target:=.collected D,args:= #[]}::ds) F u w:=⟨hu,.inl ⟨D,_,rfl,run_takeDeferred hD,h⟩⟩
theorem dL {fn:Func} {R:Ending->World->Prop} {v:Value} (h:(results fn (arr n F)).run P w=.ok v w) (k:R (.returned v) w):Lv P n fn R [] F .returning w:=⟨_,h,k⟩
end
def Qrd (L D:Nat) (W0:World) (I:World->Prop) (Ix:Code->World->Prop):Po
 | .normal,_,W=>W.heap[L]? =W0.heap[L]? /\W.heap[D]? =W0.heap[D]? /\I W
 | .ret,_,W=>W.heap[L]? =W0.heap[L]? /\W.heap[D]? =W0.heap[D]? /\Ix .ret W
 | .exit id,_,W=>W.heap[L]? =W0.heap[L]? /\W.heap[D]? =W0.heap[D]? /\Ix (.exit id) W
 |_,_,_=>False
def Qas (K:Fr->World->Prop):Po
 | .normal,F,W=>K F W
 |_,_,_=>False
theorem Qrd.out {L D:Nat} {W0:World} {I:World->Prop} {Ix:Code->World->Prop}: ∀F w, ¬Qrd L D W0 I Ix .outgrown F w:=fun _ _ h=>h
theorem Qas.out {K:Fr->World->Prop}: ∀F w, ¬Qas K .outgrown F w:=fun _ _ h=>h
section
variable {P:Program} {n:Nat} {r:Option Nat} {Q:Po} {F:Fr} {w:World}
theorem jL {σ:Type} (S:σ->List (Nat×Value)) (I:σ->World->Prop) (μ:σ->Nat) (s0:σ) {c:Code}
 (hF:agrees F (S s0)) (h0:I s0 w) (step: ∀s G w,I s w->Wr P n r (oZ S I μ s Q) c (ql G (S s)) w):Wr P n r Q (.loop c) F w:=by
 unfold Wr at*;let J:Act->World->Nat->Prop:=fun a w m=> ∃s F,a=act n [] F/\agrees F (S s)/\I s w/\μ s=m;refine wpIn_loop (fun a w=> ∃m,J a w m) (fun a w=>least (J a w)) ⟨_,s0,F,rfl,hF,h0,rfl⟩ ?_;intro a w hJ;obtain ⟨⟨s,F,ha,h1,h2,h3⟩,_⟩:=AB hJ;subst ha;have:=step s F w h2;rw [qh h1] at this;refine wpIn_mono this ?_;rintro e a' w' ⟨F',rfl,hq⟩;unfold oZ at hq;cases e with
 |normal=>obtain ⟨s',h1',h2',h3'⟩:=hq;have hJ':J (act n [] F') w' (μ s'):=⟨s',F',rfl,h1',h2',rfl⟩;refine ⟨⟨_,hJ'⟩,?_⟩;have:=(AB ⟨_,hJ'⟩).2 _ hJ';omega
 |_=>exact ⟨F',rfl,hq⟩
theorem oZ.out {σ:Type} {S:σ->List (Nat×Value)} {I:σ->World->Prop} {μ:σ->Nat} {s:σ} (h: ∀F w, ¬Q .outgrown F w): ∀F w, ¬oZ S I μ s Q .outgrown F w:=by unfold oZ;exact h
end
attribute [irreducible] Wd Qds Qdb Lv
def abe (F:Fr) (ps:Array Nat) (xs:Array Value):Fr:=(ps.toList.zip xs.toList).foldl (fun F p=>upd F p.1 p.2) F
theorem Y1 {n:Nat} (ps:Array Nat) (xs:Array Value) (F:Fr):((ps.zip xs).foldl (fun tmps (t,a)=>tmps.setIfInBounds t a) (arr n F))=arr n (abe F ps xs):=by
 rw [<-Array.foldl_toList,Array.toList_zip];unfold abe;generalize ps.toList.zip xs.toList=l;induction l generalizing F with
 |nil=>rfl
 |cons p l ih=>rw [aqk,aqk, <-ih];congr 1;simp [UH]
def Vm (P:Program) (gf:FuncId) (lb:Array Value) (N:Nat) (x:Nat->Array Value) (Rd:World->Prop):Prop:=
 ∀(l:Nat) (J:Nat->World->Prop) (Jx:World->Prop) (W:World),(∀k W,J k W->Rd W)->(∀k W W',J k W->New W W'->J k W')->
  (∀k W,k<N->J k W->YieldAt Fence.wide 0 P l (x k) W fun e W'=>(e=.returned (.bool true)/\J (k+1) W')∨(e=.returned (.bool false)/\Jx W'))->
  J 0 W->CallsIn Fence.wide 0 P gf (#[.func (.yield l) #[] #[]]++lb) W fun e W'=>(∃v,e=.returned v)/\(J N W'∨Jx W')
section
variable {P:Program} {n:Nat} {ds:List Deferred} {Q:Pd} {F:Fr} {w:World}
theorem iC {g:Operand} {ps:Array Nat} {assign body:Code} {gf:Nat} {lb:Array Value} {N:Nat} {x:Nat->Array Value} {Rd:World->Prop}
 (hg:ev n F g=.func (.func gf) #[] lb) (eg: ∀args w,(callFunc gf args).run P w=.ok (.enter gf args) w) (it:Vm P gf lb N x Rd) (hsz: ∀k,(x k).size=ps.size)
 (I:Nat->World->Prop) (Ix:Code->World->Prop)
 (hRd: ∀k W,I k W->Rd W)
 (sN: ∀k W W',I k W->New W W'->I k W')
 (sI: ∀k W r r',I k W->W.heap[w.heap.size+1]? =some (.loop r)->I k (W.putObj (w.heap.size+1) (.loop r')))
 (sX: ∀c W r r',Ix c W->W.heap[w.heap.size+1]? =some (.loop r)->Ix c (W.putObj (w.heap.size+1) (.loop r')))
 (h0: ∀r,I 0 ((w.alloc (.deferred (some []))).alloc (.loop r)))
 (acY: ∀k W r,k<N->I k W->W.heap[w.heap.size+1]? =some (.loop r)->W.heap[w.heap.size]? =some (.deferred (some []))->
   Wr P n (some (w.heap.size+1)) (Qas fun F' W'=>New W W'/\ ∀r',Wr P n (some (w.heap.size+1)) (Qrd (w.heap.size+1) w.heap.size (W'.putObj (w.heap.size+1) (.loop r')) (I (k+1)) Ix) body F' (W'.putObj (w.heap.size+1) (.loop r'))) assign (abe F ps (x k)) W)
 (hdone: ∀W,I N W->W.heap[w.heap.size]? =some (.deferred (some []))->Q .normal ({target:=.collected w.heap.size,args:= #[]}::ds) F W)
 (hret: ∀W,Ix .ret W->W.heap[w.heap.size]? =some (.deferred (some []))->Q .ret ({target:=.collected w.heap.size,args:= #[]}::ds) F W)
 (aeV: ∀id W,Ix (.exit id) W->W.heap[w.heap.size]? =some (.deferred (some []))->Q (.exit id) ({target:=.collected w.heap.size,args:= #[]}::ds) F W):
 Wd P n Q (.rangeFunc g ps assign body) ds F w:=by
 unfold Wd;refine (wpIn_wide (n:=0)).1 (wpIn_rangeFunc ?_);intro fn _;obtain ⟨rec,hrec⟩: ∃rec:LoopState->Option Code->Loop,rec=fun st pe=>{state:=st,pending:=pe,fn,tmps:=arr n F,params:=ps,assign,body,defers:=w.heap.size}:=⟨_,rfl⟩;obtain ⟨W1,hW1⟩: ∃W1,(w.alloc (.deferred (some []))).alloc (.loop (rec .ready none))=W1:=⟨_,rfl⟩;have hL1:W1.heap[w.heap.size+1]? =some (.loop (rec .ready none)):=by rw [<-hW1];have:=World.alloc_heap_new (w.alloc (.deferred (some []))) (.loop (rec .ready none));rwa [World.size_alloc] at this
 have hK1:W1.heap[w.heap.size]? =some (.deferred (some [])):=by rw [<-hW1];exact (Below.heap_alloc _ _ _ (by simp)).trans (World.alloc_heap_new w _)
 have hI1:I 0 W1:=by rw [<-hW1];exact h0 _
 refine ⟨w.heap.size+1,[{target:=.collected w.heap.size,args:= #[]}],W1,{target:=.fn (.func gf) lb,args:= #[.func (.yield (w.heap.size+1)) #[] #[]]},W1,gf, #[.func (.yield (w.heap.size+1)) #[] #[]]++lb,W1,?_,?_,?_,?_,fun h=>by simp [Fence.wide] at h,?_⟩
 ·rw [<-hW1,hrec];exact run_enterLoop_outer _ _ _ _ _
 ·simp only [resolve,wZ,hg];simp [go_sem]
 ·exact fun _ _=>trivial
 ·simp [invoke,go_sem,eg]
 ·refine (it (w.heap.size+1) (fun k W=>I k W/\W.heap[w.heap.size+1]? =some (.loop (rec .ready none))/\W.heap[w.heap.size]? =some (.deferred (some []))) (fun W=> ∃c,(c=.ret∨ ∃id,c=.exit id)/\Ix c W/\W.heap[w.heap.size+1]? =some (.loop (rec .done (some c)))/\W.heap[w.heap.size]? =some (.deferred (some []))) W1 (fun k W h=>hRd k W h.1) (fun k W W' h n=>⟨sN k W W' h.1 n,(n.block _ (Array.getElem?_eq_some_iff.1 h.2.1).1 id).trans h.2.1,(n.block _ (Array.getElem?_eq_some_iff.1 h.2.2).1 id).trans h.2.2⟩) ?_ ⟨hI1,hL1,hK1⟩).mono ?_
  ·
   rintro k W hk ⟨hi,hl,hd⟩;have hlt:w.heap.size+1<W.heap.size:=(Array.getElem?_eq_some_iff.1 hl).1;have hy:=run_yield (P:=P) (args:=(x k)) hl (by rw [hrec];exact hsz k);rw [hrec] at hy;have hz:((ps.zip (x k)).foldl (fun tmps (t,a)=>tmps.setIfInBounds t a) (arr n F))=arr n (abe F ps (x k)):=by exact Y1 ps (x k) F
   refine ⟨fn,_,assign,body,hy,roundIn_of_wpIn (F:=Fence.wide) (n:=0) trivial ?_⟩;dsimp only;rw [hz];have hA:=acY k W _ hk hi hl hd;unfold Wr at hA;refine wpIn_mono hA ?_;rintro e a w1 ⟨F',rfl,hq⟩;cases e with
   |normal=>
    obtain ⟨hn,hq⟩:=hq;have hl':=(hn.block _ hlt id).trans hl;have hd':=(hn.block _ (Nat.lt_of_succ_lt hlt) id).trans hd;have hlt':w.heap.size+1<w1.heap.size:=(Array.getElem?_eq_some_iff.1 hl').1;refine ⟨_,run_beginRound hl' (by rw [hrec]),?_⟩;have hl2:(w1.putObj (w.heap.size+1) (.loop {rec .ready none with state:=.busy})).heap[w.heap.size+1]? =some (.loop {rec .ready none with state:=.busy}):=World.putObj_heap_same hlt';have hd2:(w1.putObj (w.heap.size+1) (.loop {rec .ready none with state:=.busy})).heap[w.heap.size]? =some (.deferred (some [])):=(World.putObj_heap_other (by omega)).trans hd';have hB:=hq {rec .ready none with state:=.busy};unfold Wr at hB;refine wpIn_mono hB ?_
    have fin: ∀(jump:Option Code) (W3:World),W3.heap[w.heap.size+1]? =some (.loop {rec .ready none with state:=.busy})->W3.heap[w.heap.size]? =some (.deferred (some []))->
     (Instr.endRound (w.heap.size+1) jump).run P W3=.ok (.bool jump.isNone) (W3.putObj (w.heap.size+1) (.loop (rec (if jump.isNone then .ready else .done) jump)))/\
     (W3.putObj (w.heap.size+1) (.loop (rec (if jump.isNone then .ready else .done) jump))).heap[w.heap.size+1]? =some (.loop (rec (if jump.isNone then .ready else .done) jump))/\
     (W3.putObj (w.heap.size+1) (.loop (rec (if jump.isNone then .ready else .done) jump))).heap[w.heap.size]? =some (.deferred (some [])):=fun jump W3 h3 h4=>by
     have:=run_endRound (P:=P) jump h3;rw [hrec] at this ⊢;exact ⟨this,World.putObj_heap_same (Array.getElem?_eq_some_iff.1 h3).1,(World.putObj_heap_other (by omega)).trans h4⟩
    rintro e a3 W3 ⟨F3,rfl,hq3⟩;cases e with
    |normal=>obtain ⟨h3,h4,h5⟩:=hq3;obtain ⟨hr,hl4,hk4⟩:=fin none W3 (h3.trans hl2) (h4.trans hd2);exact ⟨_,_,hr,.inl ⟨rfl,sI _ _ _ _ h5 (h3.trans hl2),hl4,hk4⟩⟩
    |ret=>obtain ⟨h3,h4,h5⟩:=hq3;obtain ⟨hr,hl4,hk4⟩:=fin (some .ret) W3 (h3.trans hl2) (h4.trans hd2);exact ⟨_,_,hr,.inr ⟨rfl,.ret,.inl rfl,sX _ _ _ _ h5 (h3.trans hl2),hl4,hk4⟩⟩
    |exit id=>obtain ⟨h3,h4,h5⟩:=hq3;obtain ⟨hr,hl4,hk4⟩:=fin (some (.exit id)) W3 (h3.trans hl2) (h4.trans hd2);exact ⟨_,_,hr,.inr ⟨rfl,.exit id,.inr ⟨id,rfl⟩,sX _ _ _ _ h5 (h3.trans hl2),hl4,hk4⟩⟩
    |goto t=>exact hq3.elim
    |panic ch=>exact hq3.elim
    |outgrown=>exact hq3.elim
   |exit id=>exact hq.elim
   |goto t=>exact hq.elim
   |ret=>exact hq.elim
   |panic ch=>exact hq.elim
   |outgrown=>exact hq.elim
  ·
   rintro e W2 ⟨⟨v,rfl⟩,(⟨hi,hl,hk⟩|⟨c,hc,hi,hl,hk⟩)⟩
   ·refine ⟨none,_,by have:=run_endLoop (P:=P) hl (by rw [hrec];simp);rw [hrec] at this;exact this,?_⟩;exact ⟨_,_,rfl,hdone _ (sI _ _ _ _ hi hl) ((World.putObj_heap_other (by omega)).trans hk)⟩
   ·refine ⟨some c,_,by have:=run_endLoop (P:=P) hl (by rw [hrec];simp);rw [hrec] at this;exact this,?_⟩;rcases hc with rfl|⟨id,rfl⟩
    ·exact wpIn_ret ⟨_,_,rfl,hret _ (sX _ _ _ _ hi hl) ((World.putObj_heap_other (by omega)).trans hk)⟩
    ·exact wpIn_exit ⟨_,_,rfl,aeV _ _ (sX _ _ _ _ hi hl) ((World.putObj_heap_other (by omega)).trans hk)⟩
end
theorem jM {P:Program} {n:Nat} {r:Option Nat} {Q:Po} {F:Fr} {w:World} {id:Nat} {l1 l2 l:List Oper} {d:Nat} {g x x2:Operand} {ts:Array TypeId} {ty:TypeId} {pos:String} {aft:Array Edge}
 (hl:l=l1++⟨some d,.call {callee:=.value g,args:= #[x,x2],argTypes:=ts},ty,pos,aft,none⟩::l2) (h1:Ew l1=true) (h2:Ew l2=true) (hQ: ∀F w, ¬Q .outgrown F w)
 (h:Wl P n [] (fun e F' w'=>e=.normal/\ ∃L v v2,ev n F' g=.func (.yield L) #[] #[]/\ev n F' x=v/\ev n F' x2=v2/\YieldAt Fence.wide 0 P L #[v,v2] w' fun e w''=> ∃u,e=.returned u/\Wl P n [] Q l l2 (upd F' d u) w'') l l1 F w):
 Wr P n r Q (.region id l.toArray false) F w:=by
 unfold Wr;unfold Wl at h;refine wpIn_region_lit ?_;have hout: ¬LetsOut (QA n [] Q):=fun hx=>by obtain ⟨a,w,F',_,hq⟩:=hx;exact hQ F' w hq
 have key: ∀a w,wpListIn (FR r) 0 P l.toArray (QA n [] Q) (l1++⟨some d,.call {callee:=.value g,args:= #[x,x2],argTypes:=ts},ty,pos,aft,none⟩::l2) a w->wpListIn (FR r) 0 P l.toArray (QA n [] Q) l a w:=by intro a w h';rw [<-hl] at h';exact h'
 refine key _ _ (Ey ⟨?_,?_,?_⟩ l1 _ _ (Dv (fun hx=>?_) l1 h1 _ _ h))
 rotate_left
 ·rintro c a w ⟨F',_,hq,_⟩;cases hq
 ·rintro ⟨a,w,F',_,hq,_⟩;cases hq
 ·obtain ⟨a,w,F',_,hq,_⟩:=hx;cases hq
 ·rintro a w' ⟨F',rfl,_,L,v,v2,hg,hx,hx2,fn,tmps,asg,bd,hy,hR⟩;show wpListIn (FR r) 0 P l.toArray (QA n [] Q) (_::l2) _ w';unfold wpListIn;split
  rotate_left
  ·rename_i hw;exact absurd rfl hw
  refine ⟨fun f _=>by cases r<;>trivial,?_⟩;have e:(execOp (ev n F') ⟨some d,.call {callee:=.value g,args:= #[x,x2],argTypes:=ts},ty,pos,aft,none⟩).run P w'=.ok (.round L fn tmps asg bd) w':=by simp only [execOp,resolve,hg,Deferred.ofValue,Sem.run_bind,Sem.run_pure,Result.andThen_ok,invoke];simpa [hx,hx2] using hy
  rw [Oper.semAt_eq _ _ _ (fun c h=>by cases h),yg,e,Oper.uponIn_round];refine ⟨fun h=>by cases r<;>simp [FR,Fence.wide] at h,RoundIn.mono (show RoundIn (FR r) (0-1) P L fn tmps asg bd w' _ by cases r<;>exact hR) ?_⟩;rintro _ w'' ⟨u,rfl,hw⟩;show wpListIn (FR r) 0 P l.toArray (QA n [] Q) l2 _ w'';rw [yT];exact Dv hout l2 h2 _ _ hw
def NoC (w:World) (L:Nat):Prop:= ∃o,w.heap[L]? =some o/\o.isCells=false
theorem NoC.loop {w:World} {L:Nat} {r:Loop} (h:w.heap[L]? =some (.loop r)):NoC w L:=⟨_,h,rfl⟩
theorem NoC.mark {w:World} {D:Nat} {l:Option (List Deferred)} (h:w.heap[D]? =some (.deferred l)):NoC w D:=⟨_,h,rfl⟩
theorem NoC.lt {w:World} {L:Nat} (h:NoC w L):L<w.heap.size:=by obtain ⟨o,h,_⟩:=h;exact (Array.getElem?_eq_some_iff.1 h).1
theorem Bk.nl {w:World} {b L:Nat} {T:TypeId} {cs:List Value} (h:Bk w b T cs) (hL:NoC w L):b≠L:=by
 rintro rfl;obtain ⟨o,h1,h2⟩:=hL;have:=h1.symm.trans h;cases this;cases h2
theorem oP.nl {α:Type} {R:Rel α} {e:TypeId} {sz:Nat} {Pb Pe:Nat->Prop} {w:World} {v:Value} {xs:List α} {L:Nat} (h:oP R e sz Pb Pe w v xs) (hL:NoC w L) {k:Nat} (hk:v.ownBlock=some k):k≠L:=by
 obtain ⟨cs,⟨_,h⟩,_⟩:=h;rcases h with ⟨rfl,_⟩|⟨g,cap,cur,rfl,_,hg,_⟩
 ·cases hk
 ·rintro rfl;have:g=k:=by simpa [Value.ownBlock] using hk
  subst this;obtain ⟨o,h1,h2⟩:=hL;have:=h1.symm.trans hg;cases this;cases h2
theorem Chg.putObj (w:World) (L:Nat) (o:Obj):Chg (fun k=>k=L) w (w.putObj L o):=
 ⟨rfl,rfl,rfl,by simp,fun k _ hk=>World.putObj_heap_other hk⟩
theorem Bk.put {w:World} {b L:Nat} {T:TypeId} {cs:List Value} (o:Obj) (h:Bk w b T cs) (hL:NoC w L):Bk (w.putObj L o) b T cs:=h.chg (Chg.putObj w L o) (h.nl hL)
theorem oP.put {α:Type} {R:Rel α} {e:TypeId} {sz:Nat} {Pb Pe:Nat->Prop} {w:World} {v:Value} {xs:List α} {L:Nat} (o:Obj) (hR:Plain R) (h:oP R e sz Pb Pe w v xs) (hL:NoC w L):oP R e sz Pb Pe (w.putObj L o) v xs:=
 h.chg hR (Chg.putObj w L o) fun _ hk=>h.nl hL hk
theorem Chg.put {M:Nat->Prop} {w0 w:World} {L:Nat} (o:Obj) (h:Chg M w0 w) (hL:w0.heap.size<=L):Chg M w0 (w.putObj L o):=
 Chg.trans h (Chg.putObj w L o) fun k hk e=>by omega
theorem Keep.put {Pb:Nat->Prop} {w:World} {L:Nat} (o:Obj) (h: ¬Pb L):Keep Pb w (w.putObj L o):=fun b hb _=>World.putObj_heap_other fun e=>h (e▸hb)
theorem sK.put {P:Program} {k:TypeId} {w:World} {b L:Nat} {l:List (Value×Value)} (o:Obj) (h:sK P k w b l) (hL:L≠b):sK P k (w.putObj L o) b l:=h.chg (Chg.putObj w L o) fun e=>hL e.symm
theorem iD {w:World} (r:Obj) (r':Obj):New w ((w.alloc r).alloc r'):=Chg.trans (Chg.alloc _ _ _) (Chg.alloc _ _ _) i3
end Go.Proofs.YtfbnfhhmiiahnaaGreatDoor.Wk
namespace Go.Proofs.YtfbnfhhmiiahnaaGreatDoor
open Go Wk
open Go.RowKit (Below)
attribute [local irreducible] Go.Calls
theorem jO {P:Program} {n:Nat} {w:World} {f:FuncId} {fn:Func} {c:Code} {l:List Value} {R:Ending->World->Prop} (hf:P.funcs[f]? =some fn) (hb:fn.body=some c) (hn:fn.ntmps=n)
 (hl:Nat.ble l.length n=true) (h:Wr P n none (Qfn P n fn R) c (Jf l) w):CallsIn Fence.wide 0 P f l.toArray w R:=by
 refine callsIn_of_wp hf hb trivial ?_ rfl;rw [hn,DZ l n (arQ hl)];unfold Wr at h;refine wpIn_mono h ?_;rintro e a w ⟨F,rfl,hq⟩;unfold Qfn at hq;cases e<;>first|exact ⟨rfl,hq⟩|exact hq
theorem Wk.YieldAt.mono {P:Program} {l:Nat} {args:Array Value} {W:World} {R R':Ending->World->Prop} (h:YieldAt Fence.wide 0 P l args W R) (hR: ∀e w,R e w->R' e w):YieldAt Fence.wide 0 P l args W R':=by
 obtain ⟨fn,tmps,asg,bd,h1,h2⟩:=h;exact ⟨fn,tmps,asg,bd,h1,h2.mono hR⟩
abbrev pT (b:Nat):Value:=.pointer (some ⟨b,0,none⟩)
def qx (t:List Nd):List Nm:=(abS t.length).map (pX t)
theorem wU (t:List Nd):(qx t).length=t.length:=by simp [qx]
theorem uo {t:List Nd} {k:Nat} (hk:k<t.length):(qx t)[k]? =some (pX t k):=by
 unfold qx;rw [apF,aq3 hk];rfl
def SqW (Pb:Nat->Prop) (bs:Nat) (v:Value) (l:List Nm) (W:World):Prop:=Bk W bs 24 [v]/\RdS (Wk.one vs) 1 Pb W v l
theorem SqW.new {Pb:Nat->Prop} {bs:Nat} {v:Value} {l:List Nm} {W W':World} (h:SqW Pb bs v l W) (n:New W W'):SqW Pb bs v l W':=⟨h.1.chg n id,h.2.keep (pF _) n.keep⟩
theorem SqW.put {Pb:Nat->Prop} {bs L:Nat} {v:Value} {l:List Nm} {W:World} (o:Obj) (h:SqW Pb bs v l W) (hL:NoC W L) (hP: ¬Pb L):SqW Pb bs v l (W.putObj L o):=⟨h.1.put o hL,h.2.keep (pF _) (Keep.put o hP)⟩
theorem SqW.chg {Pb M:Nat->Prop} {bs:Nat} {v:Value} {l:List Nm} {W W':World} (h:SqW Pb bs v l W) (c:Chg M W W') (hb: ¬M bs) (hP: ∀k,Pb k-> ¬M k):SqW Pb bs v l W':=⟨h.1.chg c hb,h.2.keep (pF _) (c.keep fun k _ hk=>hP k hk)⟩
theorem iter_walk {Pb:Nat->Prop} {bs:Nat} {v:Value} {l:List Nm}:Vm prog 46 #[pT bs] l.length (fun k=> #[vs (l.getD k []),vi k]) (SqW Pb bs v l):=by
 intro L J Jx W hRd hN hY h0;obtain ⟨hb,hr⟩:=hRd _ _ h0;obtain ⟨a,cp,rfl,hc1,hc2⟩:=hr.form;simp only [maxLen] at hc2;show CallsIn Fence.wide 0 prog _ ([.func (.yield L) #[] #[],pT bs]:List Value).toArray W _;refine jO func46 rfl ntmps46 rfl ?_;(repeat' (first|refine di ?_|refine bP rfl (by repeat' (first|exact Qfn.out (by rintro _ ⟨⟨_,e⟩,_⟩;cases e)|exact Qrd.out|exact Qas.out|refine Qsr.out ?_|refine oZ.out ?_|refine Qsc.out ?_|refine qH.out ?_)) ?_));refine ah rfl (hb.cell (o:=0) rfl) ?_;(repeat' (first|refine aa1 ?_|refine ak ?_|refine cu rfl ?_|refine bQ ?_|refine Wr.block ?_));refine jL (σ:=Nat) (fun k=>[(0,.func (.yield L) #[] #[]),(5,.slice a l.length cp),(6,vi l.length),(7,vi k)]) (fun k W'=>k<=l.length/\J k W') (fun k=>l.length-k) 0 (sl rfl) ⟨aoZ _,h0⟩ ?_;rintro k G W1 ⟨hk,hJ⟩;obtain ⟨hb1,hr1⟩:=hRd _ _ hJ;simp only [ql];(repeat' (first|refine aa1 ?_|refine ak ?_|refine bQ ?_|refine di ?_|refine bP rfl (by repeat' (first|exact Qfn.out (by rintro _ ⟨⟨_,e⟩,_⟩;cases e)|exact Qrd.out|exact Qas.out|refine Qsr.out ?_|refine oZ.out ?_|refine Qsc.out ?_|refine qH.out ?_)) ?_|refine Wr.block ?_|refine Wr.skip ?_|refine iO ?_|refine iP ?_|refine dO ?_|refine dS ?_|refine eH rfl ?_|refine eP rfl ?_|refine aa2 (fun _=>?_) (fun _=>?_)))
 ·obtain ⟨y,hy⟩:=pz l (k:=k) (by omega);refine bC hr1 rfl rfl (by omega) hy fun bb o hcell=>?_;refine ah (u:=vs y) rfl hcell ?_;(repeat' (first|refine aa7 ?_|refine ak ?_|refine bQ ?_|refine di ?_));refine jM (l1:=[_,_,_]) (l2:=[_]) rfl rfl rfl (by repeat' (first|exact Qfn.out (by rintro _ ⟨⟨_,e⟩,_⟩;cases e)|exact Qrd.out|exact Qas.out|refine Qsr.out ?_|refine oZ.out ?_|refine Qsc.out ?_|refine qH.out ?_)) ?_;(repeat' (first|refine aa1 ?_|refine ak ?_));refine ⟨rfl,L,vs y,vi k,rfl,rfl,rfl,?_⟩;have hg:l.getD k []=y:=by rw [apJ,hy];rfl
  have hy2:=hY k W1 (by omega) hJ;dsimp only at hy2;rw [hg] at hy2;refine Wk.YieldAt.mono hy2 ?_;rintro e W4 (⟨rfl,hJ4⟩|⟨rfl,hJ4⟩)
  ·refine ⟨_,rfl,?_⟩;(repeat' (first|refine aa1 ?_|refine ak ?_|refine dn rfl ?_|refine bQ ?_|refine bP rfl (by repeat' (first|exact Qfn.out (by rintro _ ⟨⟨_,e⟩,_⟩;cases e)|exact Qrd.out|exact Qas.out|refine Qsr.out ?_|refine oZ.out ?_|refine Qsc.out ?_|refine qH.out ?_)) ?_|refine Wr.skip ?_|refine dM ?_|refine eP rfl ?_|refine Wl.add rfl rfl (by omega) (by omega) ?_));exact aA (k+1) (sl rfl) ⟨by omega,hJ4⟩ (by omega)
  ·refine ⟨_,rfl,?_⟩;(repeat' (first|refine ak ?_|refine dn rfl ?_|refine bQ ?_|refine jJ ?_|refine jK ?_|refine gI ?_|refine gK ?_|refine eH rfl ?_));exact fE rfl ⟨⟨_,rfl⟩,.inr hJ4⟩
 ·have e:k=l.length:=by omega
  subst e;exact dh rfl ⟨⟨_,rfl⟩,.inl hJ⟩
theorem GR {Pb:Nat->Prop} {w:World} {v:Value} {l:List Nd} (h:RdS rNd 3 Pb w v l) (hok:pM l=true):
 Calls prog 23 #[v] w (Ret fun r w'=>(∃bs sv,r=.func (.func 46) #[] #[pT bs]/\w.heap.size<=bs/\SqW (fun b=>w.heap.size<=b/\b<w'.heap.size) bs sv (qx l) w')/\New w w'):=by
 obtain ⟨a,cap,rfl,hc1,hc2⟩:=h.form;have hlen:=qo hok;replace h:=h.mono (Pb':=fun k=>k<w.heap.size) Ce fun k hk _=>hk;refine oI func23 rfl ntmps23 rfl ?_;refine qq1 ?_;refine Wl.alloc fun w1 b1 n1 s1=>?_;replace b1:Bk w1 w.heap.size 24 [.slice none 0 0]:=b1;refine qq4 ?_;refine au (wS (h.keep pU n1.keep)) rfl ?_;rintro _ w2 ⟨rfl,n2⟩;unfold H9;rw [if_pos hok];have n02:=New.trans n1 n2;have b2:=b1.chg n2 id;have hz2:=n2.size;have hpl:=wU l;(repeat' (first|refine qq4 ?_|(refine bH rfl rfl (fun _=>?_) (fun _=>?_)<;>(first|(exfalso;omega)|skip))));refine aC (σ:=Nat×Value) (fun q=>[(0,.slice a l.length cap),(3,pT w.heap.size),(14,.slice a l.length cap),(15,vi l.length),(16,vi q.1)]) (fun q W=>q.1<=l.length/\Bk W w.heap.size 24 [q.2]/\oP (Wk.one vs) 9 1 (fun b=>w.heap.size<b) NoB W q.2 ((qx l).take q.1)/\New w W) (fun q=>l.length-q.1) (0,.slice none 0 0) (sl rfl) ⟨aoZ _,b2,aN,n02⟩ ?_;rintro ⟨i,u⟩ G W ⟨hi,bW,own,nW⟩;dsimp only at hi bW own nW;simp only [ql];have hzW:=nW.size;have hbl:=bW.lt;obtain ⟨ua,uc,rfl,_,_⟩:=own.form;(repeat' (first|refine qq2 ?_|refine aa2 (fun _=>?_) (fun _=>?_)))
 ·have hx:=uo (t:=l) (k:=i) (by omega);have hlt:((qx l).take i).length<=512:=by simp only [apb];omega
  have hne: ∀k,(Value.slice ua ((qx l).take i).length uc).ownBlock=some k->w.heap.size<k:=fun k hk=>(own.lt hk).1;refine aX rfl (by kernel_rfl) (fun w'=>Chg (fun k=>(Value.slice ua ((qx l).take i).length uc).ownBlock=some k) W w') (Chg.drew _ _) ?_;intro w3 n3;refine aa0 (ax (u:=.slice ua ((qx l).take i).length uc) rfl (fun w' hw=>(bW.chg hw fun e=>by have:=hne _ e;omega).cell (o:=0) rfl) (af ?_));(repeat' (refine aa0 (aa3 (af ?_))));refine aH rfl (au (LQ (i:=i) ((h.keep pU nW.keep).keep pU n3.keep) hok (by omega)) rfl ?_);rintro _ w4 ⟨rfl,n4⟩;replace n4:=New.trans n3 n4;refine ak ⟨rfl,n4.any,?_⟩;refine aH rfl (bF (R:=Wk.one vs) (y:=pX l i) (Pe:=NoB) qU rfl rfl rfl rfl (by omega) (by omega) fun vt w5 ot n5 s5 P8=>?_);have n45:=New.trans n4 n5;refine ak ⟨rfl,n45.any,?_⟩;refine aH rfl (bI qU (own.new (oJ _) n45) (ot.rd qU.mo) (fun y cs hy=>hy) rfl rfl (by omega) (by simp only [maxLen,apm];omega) (by simp only [apm];omega) fun v6 w6 o6 c6 lie _=>?_);have c36:Chg (fun k=>(Value.slice ua ((qx l).take i).length uc).ownBlock=some k) W w6:=Chg.trans n45.any c6 i3;refine ak ⟨rfl,c36,?_⟩;have b6:=bW.chg c36 fun e=>by have:=hne _ e;omega
  refine Wt.last rfl (aJ (u:=v6) b6 rfl (show (0:Nat)<1 by omega) rfl (by obtain ⟨_,_,rfl,_⟩:=o6.form;rfl) fun w7 b7 c7=>?_);refine ak ?_;have hz5:=n45.size;have hs6: ∀k,v6.ownBlock=some k->w.heap.size<k:=fun k hk=>by
   rcases (o6.lt hk).1 with e|e
   ·exact e
   ·omega
  refine qq4 ?_;refine aA (i+1,v6) (sl rfl) ⟨by dsimp only;omega,b7,?_,Chg.trans (Chg.trans (M:=fun k=>w.heap.size<=k) nW.any c36 fun k _ e=>by have:=hne k e;omega) c7 (fun k _ e=>by omega) |>.tN⟩ (by dsimp only;omega);rw [take_snoc hx];exact (o6.chg (oJ _) c7 fun k hk e=>by have:=hs6 k hk;omega).mono qU.mo (fun b _ e=>by rcases e with e|e;exact e;omega) i3
 ·obtain rfl:i=l.length:=by omega
  have e:(qx l).take l.length=qx l:=List.take_of_length_le (by omega);rw [e] at own bW;refine dw (f1:=[]) (c1:=[pT w.heap.size]) rfl rfl ?_;refine qq6 ?_;exact ay rfl rfl ⟨_,rfl,⟨w.heap.size,.slice ua (qx l).length uc,rfl,aat _,bW,(own.rd qU.mo).mono qU.mo fun b hb e=>by rcases e with e|e;(exact ⟨by omega,hb⟩);exact e.elim⟩,nW⟩
end Go.Proofs.YtfbnfhhmiiahnaaGreatDoor
namespace Go.Proofs.YtfbnfhhmiiahnaaGreatDoor.Wk
open Go Go.RowKit
section
variable {P:Program} {n:Nat} {ds:List Deferred} {Q:Po} {F0:Fr} {w0:World} {ops:List Oper}
structure TB (ops:List Oper) (N:Nat) (Φ:Nat->Value->World->Prop) (F0:Fr) (wb:World) (listed:Array Bool) (F:Fr) (w:World):Prop where
 size:listed.size=ops.length
 last:listed[N]? =some false
 new:New wb w
 done: ∀i:Nat,listed[i]? =some true->Φ i (F (wH ops i)) w
 rest: ∀s:Nat,(∀i:Nat,listed[i]? =some true->wH ops i≠s)->F s=F0 s
 acZ: ∀(i:Nat) (o:Oper),listed[i]? =some true->ops[i]? =some o-> ∀e∈o.after,Region.binds .any e=true->listed[e.on]? =some true
def NY (ops:List Oper):Bool:=match ops[ops.length-1]? with
 |some z=>(abS (ops.length-1)).all (fun i=>z.after.any fun e=>e.on == i&&Region.binds .any e)&&z.after.all fun e=>e.on<ops.length-1
 |none=>false
def Vo (ops:List Oper) (i s:Nat):Bool:=(ops.take (ops.length-1)).all fun o:Oper=>o.dst != some s||o.after.any fun e:Edge=>e.on == i&&Region.binds .any e
theorem MB: ∀ {l:List Bool} {i j:Nat},i≠j->l[i]? =some false->l[j]? =some false->2<=l.count false
 | [],i,j,_,h,_=>by simp at h
 |b::r,0,0,h,_,_=>absurd rfl h
 |b::r,0,j+1,_,h1,h2=>by simp at h1 h2;subst h1;have:0<r.count false:=List.count_pos_iff.2 (apD h2);rw [arH];simp only [BEq.rfl,if_true];omega
 |b::r,i+1,0,_,h1,h2=>by simp at h1 h2;subst h2;have:0<r.count false:=List.count_pos_iff.2 (apD h1);rw [arH];simp only [BEq.rfl,if_true];omega
 |b::r,i+1,j+1,h,h1,h2=>by have:=MB (l:=r) (i:=i) (j:=j) (by omega) (by simpa using h1) (by simpa using h2);rw [arH];omega
theorem nZ {id:Nat} (Φ:Nat->Value->World->Prop) (hm:P.follows .mixedOrders=true) (h1:X8 (ops.take (ops.length-1))=true) (h2:abT (ops.take (ops.length-1))=true) (h3:NY ops=true)
 (hst: ∀i v w w',New w w'->Φ i v w->Φ i v w')
 (step: ∀(i:Nat) (o:Oper),i<ops.length-1->ops[i]? =some o-> ∀F w,New w0 w->(∀j,(o.after.any fun e=>e.on == j&&Region.binds .any e)=true->Φ j (F (wH ops j)) w)->(∀s,Vo ops i s=true->F s=F0 s)->
   Wl P n ds (vW Φ w (wH ops i) i F) ops [o] F w)
 (fin: ∀F w z,New w0 w->ops[ops.length-1]? =some z->(∀i,i<ops.length-1->Φ i (F (wH ops i)) w)->(∀s,(∀i,i<ops.length-1->wH ops i≠s)->F s=F0 s)->Wl P n ds (fun e F' w'=>e=.normal/\Q .normal F' w') ops [z] F w):
 Wc P n ds Q (.region id ops.toArray true) F0 w0:=by
 obtain ⟨N,hN⟩: ∃N,ops.length-1=N:=⟨_,rfl⟩;obtain ⟨z,hz⟩: ∃z,ops[N]? =some z:=by
  unfold NY at h3;rw [hN] at h3;cases h:ops[N]? with
  |none=>rw [h] at h3;cases h3
  |some z=>exact ⟨z,rfl⟩
 have hNl:N<ops.length:=(List.getElem?_eq_some_iff.1 hz).1;rw [hN] at h1 h2 step fin;have hzB:(∀i,i<N->(z.after.any fun e=>e.on == i&&Region.binds .any e)=true)/\ ∀e∈z.after,e.on<N:=by unfold NY at h3;rw [hN,hz] at h3;simp only [ao0] at h3;refine ⟨fun i hi=>List.all_eq_true.1 h3.1 i (List.mem_range.2 hi),fun e he=>?_⟩;have:=Array.all_eq_true'.1 h3.2 e he;simpa using this
 have htk: ∀i,i<N->(ops.take N)[i]? =ops[i]? :=fun i hi=>by rw [aav,if_pos hi]
 have htl:(ops.take N).length=N:=by rw [apb];omega
 have hdst: ∀i o,i<N->ops[i]? =some o->o.dst=some (wH ops i)/\ ∀e∈o.after,e.on<i:=by
  intro i o hi ho;have:=List.all_eq_true.1 h1 i (List.mem_range.2 (by omega));simp only [htk i hi,ho,ao0] at this;refine ⟨?_,fun e he=>?_⟩
  ·simp only [wH,ho,arR];cases hd:o.dst with
   |none=>rw [hd] at this;simp at this
   |some d=>rfl
  ·have h:=Array.all_eq_true'.1 this.2 e he;simpa using h
 have hne: ∀i j,i<N->j<N->i≠j->wH ops i≠wH ops j:=by intro i j hi hj hij he;have:=List.all_eq_true.1 (List.all_eq_true.1 h2 i (List.mem_range.2 (by omega))) j (List.mem_range.2 (by omega));simp only [ap6,beq_iff_eq,hij,false_or,bne_iff_ne,ne_eq,htk i hi,htk j hj] at this;apply this;have ei:=(hdst i _ hi (adK (by omega))).1;have ej:=(hdst j _ hj (adK (by omega))).1;rw [adK (by omega),adK (by omega)];simp only [arR,ei,ej,he]
 unfold Wc;refine wp_region_any hm ?_;have noQ: ∀ {Q':Po},(∀e F w,Q' e F w->e=.normal)-> ∀e a w',e≠ .normal-> ¬QA n ds Q' e a w':=by rintro Q' hQ e a w' he ⟨F',_,h⟩;exact he (hQ _ _ _ h)
 have hmono: ∀ {Q':Po} {i:Nat} {o:Oper} {F:Fr} {w:World} {K K':Act->World->Prop},(∀e F w,Q' e F w->e=.normal)->ops.toArray[i]? =some o->(∀a w,K a w->K' a w)->wpOp P ops.toArray (QA n ds Q') i K (act n ds F) w->wpOp P ops.toArray (QA n ds Q) i K' (act n ds F) w:=by
  intro Q' i o F w K K' hQ ho hK hh;have noQ:=noQ hQ;unfold wpOp at hh ⊢;simp only [ho] at hh ⊢;split
  ·rename_i hw
   rw [if_pos hw] at hh;rcases hh with hh|⟨_,a₀,w₀,hq⟩
   ·refine .inl ?_;unfold Oper.wp at*;generalize (execOp (act n ds F).eval o).run P w=r at*;cases r with
    |ok nx w'=>
     cases nx<;>simp only [Oper.upon] at hh ⊢ <;>
      first
       |exact hK _ _ hh
       |exact Calls.mono hh (fun e w'' he=>by cases e<;>first|exact hK _ _ he|exact absurd he (noQ _ _ _ (by simp))|(obtain ⟨a₀,w₀,hq⟩:=he;exact absurd hq (noQ _ _ _ (by simp))))
       |exact Rows.mono hh (fun _ _ he=>hK _ _ he)
    |halt x w'=>cases x<;>simp only [Oper.upon] at hh ⊢ <;>exact absurd hh (noQ _ _ _ (by simp))
   ·exact absurd hq (noQ _ _ _ (by simp))
  ·rename_i hw
   rw [if_neg hw] at hh;exact hK _ _ hh
 have key: ∀fuel (listed:Array Bool) F w,TB ops N Φ F0 w0 listed F w->unl listed=fuel+1->wpAny P .any ops.toArray (QA n ds Q) (fuel+1) listed (act n ds F) w:=by
  intro fuel;have Vp: ∀(listed:Array Bool) F w,TB ops N Φ F0 w0 listed F w->Region.ready .any ops.toArray listed≠ []:=by
   intro listed F w hI hr;have hall: ∀i,i<N->listed[i]? =some true:=by
    intro i;induction i using aqj with
    |ind i ih=>
     intro hi;have his:i<listed.size:=by rw [hI.size];omega
     cases hb:listed[i] with
     |true=>rw [aaW his,hb]
     |false=>
      exfalso;have:i∈Region.ready .any ops.toArray listed:=by
       refine mem_ready.2 ⟨?_,ops[i]'(by omega),by simp,fun e he _=>?_⟩
       ·simp [acf,aaW his,hb]
       ·have:=(hdst i _ hi (adK (by omega))).2 e he;simp [acf,ih e.on this (by omega)]
      rw [hr] at this;cases this
   have:N∈Region.ready .any ops.toArray listed:=by
    refine mem_ready.2 ⟨?_,z,by simpa using hz,fun e he _=>?_⟩
    ·simp [acf,hI.last]
    ·simp [acf,hall e.on (hzB.2 e he)]
   rw [hr] at this;cases this
  induction fuel with
  |zero=>
   intro listed F w hI hu;refine ⟨fun hr=>absurd hr (Vp listed F w hI),fun i hi=>?_⟩;obtain ⟨h0,o,ho,TD⟩:=mem_ready.1 hi;have ho':ops[i]? =some o:=by simpa using ho
   have hil:i<ops.length:=(List.getElem?_eq_some_iff.1 ho').1;have his:i<listed.size:=by rw [hI.size];exact hil
   have hli:listed[i]=false:=by simpa [acf,aaW his] using h0
   have hlt: ∀e∈o.after,Region.binds .any e=true->listed[e.on]? =some true:=by
    intro e he hb;have h:=TD e he hb;rcases arv e.on listed.size with h'|h'
    ·simp [acf,aaW h'] at h;rw [aaW h',h]
    ·simp [acf,arA h'] at h
   have hlN: ∀k,listed[k]? =some true->k<N:=fun k hk=>by
    have hkl:k<ops.length:=by
     rcases arv k ops.length with h|h
     ·exact h
     ·rw [arA (by rw [hI.size];exact h)] at hk;cases hk
    rcases arv k N with h|h
    ·exact h
    ·obtain rfl:k=N:=by omega
     rw [hI.last] at hk;cases hk
   rcases arv i N with hiN|hiN
   ·have hs:=step i o hiN ho' F w hI.new (fun j hj=>by obtain ⟨e,he,hb⟩:=Array.any_eq_true'.1 hj;simp only [ao0,beq_iff_eq] at hb;exact hI.done j (hb.1▸hlt e he hb.2)) (fun s hs=>hI.rest s fun k hk he=>by have hkN:=hlN k hk;have hok:=adK (l:=ops) (i:=k) (by omega);have hmem:ops[k]'(by omega)∈ops.take N:=List.mem_iff_getElem?.2 ⟨k,by rw [htk k hkN];exact hok⟩;unfold Vo at hs;rw [hN] at hs;have h3:=List.all_eq_true.1 hs _ hmem;rw [(hdst k _ hkN hok).1,he] at h3;simp only [bne_self_eq_false,ap7] at h3;obtain ⟨e,hee,hb⟩:=Array.any_eq_true'.1 h3;simp only [ao0,beq_iff_eq] at hb;have:=hI.acZ k _ hk hok e hee hb.2;rw [hb.1,aaW his,hli] at this;cases this);have hwp:wpOp P ops.toArray (QA n ds (vW Φ w (wH ops i) i F)) i (fun a w'=>QA n ds (vW Φ w (wH ops i) i F) .normal a w') (act n ds F) w:=by have hs2:=hs;unfold Wl wpList at hs2;unfold wpOp;simp only [ho];exact hs2
    refine hmono (fun _ _ _ h=>h.1) ho ?_ hwp;rintro a w' ⟨F',rfl,_,v,rfl,hn,hΦ⟩;exfalso;have h2:2<=listed.toList.count false:=by
     have e1:listed.toList[i]? =some false:=by rw [aq2,aaW his,hli]
     have e2:listed.toList[N]? =some false:=by rw [aq2];exact hI.last
     exact MB (by omega) e1 e2
    unfold unl at hu;omega
   ·obtain rfl:i=N:=by omega
    rw [hz] at ho';cases ho';have hall: ∀k,k<i->listed[k]? =some true:=fun k hk=>by obtain ⟨e,he,hb⟩:=Array.any_eq_true'.1 (hzB.1 k hk);simp only [ao0,beq_iff_eq] at hb;exact hb.1▸hlt e he hb.2
    have hs:=fin F w z hI.new hz (fun k hk=>hI.done k (hall k hk)) (fun s hs=>hI.rest s fun k hk=>hs k (hlN k hk));have hwp:wpOp P ops.toArray (QA n ds (fun e F' w'=>e=.normal/\Q .normal F' w')) i (fun a w'=>QA n ds (fun e F' w'=>e=.normal/\Q .normal F' w') .normal a w') (act n ds F) w:=by have hs2:=hs;unfold Wl wpList at hs2;unfold wpOp;simp only [ho];exact hs2
    refine hmono (fun _ _ _ h=>h.1) ho ?_ hwp;rintro a w' ⟨F',rfl,_,hQ⟩;have hdone: ∀k,k<(listed.setIfInBounds i true).size->(listed.setIfInBounds i true)[k]? =some true:=fun k hk=>by
     rw [arS,hI.size] at hk;by_cases hki:k=i
     ·subst hki;simp [his]
     ·rw [arw (Ne.symm hki)];exact hall k (by omega)
    have hr:Region.ready .any ops.toArray (listed.setIfInBounds i true)=[]:=by
     rw [ap3];intro k hk;have h0:=(mem_ready.1 hk).1;rcases arv k (listed.setIfInBounds i true).size with h|h
     ·have:=hdone k h;simp [acf,this] at h0
     ·simp [acf,arA h] at h0
    exact ⟨hr,F',rfl,hQ⟩
  |succ fuel ih=>
   intro listed F w hI hu;refine ⟨fun hr=>absurd hr (Vp listed F w hI),fun i hi=>?_⟩;obtain ⟨h0,o,ho,TD⟩:=mem_ready.1 hi;have ho':ops[i]? =some o:=by simpa using ho
   have hil:i<ops.length:=(List.getElem?_eq_some_iff.1 ho').1;have his:i<listed.size:=by rw [hI.size];exact hil
   have hli:listed[i]=false:=by simpa [acf,aaW his] using h0
   have hlt: ∀e∈o.after,Region.binds .any e=true->listed[e.on]? =some true:=by
    intro e he hb;have h:=TD e he hb;rcases arv e.on listed.size with h'|h'
    ·simp [acf,aaW h'] at h;rw [aaW h',h]
    ·simp [acf,arA h'] at h
   have hlN: ∀k,listed[k]? =some true->k<N:=fun k hk=>by
    have hkl:k<ops.length:=by
     rcases arv k ops.length with h|h
     ·exact h
     ·rw [arA (by rw [hI.size];exact h)] at hk;cases hk
    rcases arv k N with h|h
    ·exact h
    ·obtain rfl:k=N:=by omega
     rw [hI.last] at hk;cases hk
   rcases arv i N with hiN|hiN
   ·have hs:=step i o hiN ho' F w hI.new (fun j hj=>by obtain ⟨e,he,hb⟩:=Array.any_eq_true'.1 hj;simp only [ao0,beq_iff_eq] at hb;exact hI.done j (hb.1▸hlt e he hb.2)) (fun s hs=>hI.rest s fun k hk he=>by have hkN:=hlN k hk;have hok:=adK (l:=ops) (i:=k) (by omega);have hmem:ops[k]'(by omega)∈ops.take N:=List.mem_iff_getElem?.2 ⟨k,by rw [htk k hkN];exact hok⟩;unfold Vo at hs;rw [hN] at hs;have h3:=List.all_eq_true.1 hs _ hmem;rw [(hdst k _ hkN hok).1,he] at h3;simp only [bne_self_eq_false,ap7] at h3;obtain ⟨e,hee,hb⟩:=Array.any_eq_true'.1 h3;simp only [ao0,beq_iff_eq] at hb;have:=hI.acZ k _ hk hok e hee hb.2;rw [hb.1,aaW his,hli] at this;cases this);have hwp:wpOp P ops.toArray (QA n ds (vW Φ w (wH ops i) i F)) i (fun a w'=>QA n ds (vW Φ w (wH ops i) i F) .normal a w') (act n ds F) w:=by have hs2:=hs;unfold Wl wpList at hs2;unfold wpOp;simp only [ho];exact hs2
    refine hmono (fun _ _ _ h=>h.1) ho ?_ hwp;rintro a w' ⟨F',rfl,_,v,rfl,hn,hΦ⟩;refine ih _ _ _ ⟨by simpa using hI.size,by rw [arw (by omega)];exact hI.last,New.trans hI.new hn,fun j hj=>?_,fun s hs=>?_,fun j oj hj hoj e he hb=>?_⟩ ?_
    ·by_cases hji:j=i
     ·subst hji;rw [BQ,if_pos rfl];exact hΦ
     ·rw [arw (Ne.symm hji)] at hj;rw [BQ,if_neg (hne j i (hlN j hj) hiN hji)];exact hst _ _ _ _ hn (hI.done j hj)
    ·have:=hs i (by simp [his]);rw [BQ,if_neg (Ne.symm this)];exact hI.rest s fun j hj=>hs j (by
      by_cases hji:j=i
      ·subst hji;simp [his]
      ·rw [arw (Ne.symm hji)];exact hj)
    ·by_cases hei:e.on=i
     ·rw [hei];simp [his]
     ·rw [arw (Ne.symm hei)];by_cases hji:j=i
      ·subst hji;rw [ho'] at hoj;cases hoj;exact hlt e he hb
      ·rw [arw (Ne.symm hji)] at hj;exact hI.acZ j oj hj hoj e he hb
    ·unfold unl at hu ⊢;rw [Array.toList_setIfInBounds,arT (by simpa using his)];simp [hli,hu]
   ·obtain rfl:i=N:=by omega
    rw [hz] at ho';cases ho';have hall: ∀k,k<i->listed[k]? =some true:=fun k hk=>by obtain ⟨e,he,hb⟩:=Array.any_eq_true'.1 (hzB.1 k hk);simp only [ao0,beq_iff_eq] at hb;exact hb.1▸hlt e he hb.2
    have hs:=fin F w z hI.new hz (fun k hk=>hI.done k (hall k hk)) (fun s hs=>hI.rest s fun k hk=>hs k (hlN k hk));have hwp:wpOp P ops.toArray (QA n ds (fun e F' w'=>e=.normal/\Q .normal F' w')) i (fun a w'=>QA n ds (fun e F' w'=>e=.normal/\Q .normal F' w') .normal a w') (act n ds F) w:=by have hs2:=hs;unfold Wl wpList at hs2;unfold wpOp;simp only [ho];exact hs2
    refine hmono (fun _ _ _ h=>h.1) ho ?_ hwp;rintro a w' ⟨F',rfl,_,hQ⟩;have hdone: ∀k,k<(listed.setIfInBounds i true).size->(listed.setIfInBounds i true)[k]? =some true:=fun k hk=>by
     rw [arS,hI.size] at hk;by_cases hki:k=i
     ·subst hki;simp [his]
     ·rw [arw (Ne.symm hki)];exact hall k (by omega)
    have hr:Region.ready .any ops.toArray (listed.setIfInBounds i true)=[]:=by
     rw [ap3];intro k hk;have h0:=(mem_ready.1 hk).1;rcases arv k (listed.setIfInBounds i true).size with h|h
     ·have:=hdone k h;simp [acf,this] at h0
     ·simp [acf,arA h] at h0
    exact ⟨fun _=>⟨F',rfl,hQ⟩,fun k hk=>by rw [hr] at hk;cases hk⟩
 have hI0:TB ops N Φ F0 w0 (ao1 ops.length false) F0 w0.drew:= ⟨by simp,by rw [apa,if_pos hNl],Chg.drew _ _,fun i hi=>(by rw [apa] at hi;split at hi<;>cases hi),fun s _=>rfl,fun i o hi=>(by rw [apa] at hi;split at hi<;>cases hi)⟩;have:=key (ops.length-1) _ _ _ hI0 (by simp [unl];omega);have e1:ops.toArray.size=ops.length-1+1:=by simp;omega
 have e2:ao1 ops.toArray.size false=ao1 ops.length false:=by simp
 rw [e2,e1];exact this
def ab5 (P:Program) (n:Nat) (ds:List Deferred) (Φ:Nat->Value->World->Prop) (ops:List Oper) (F0:Fr) (w0:World) (i:Nat) (o:Oper):Prop:=
 ∀F w,New w0 w->(∀j,(o.after.any fun e=>e.on == j&&Region.binds .any e)=true->Φ j (F (wH ops j)) w)->(∀s,Vo ops i s=true->F s=F0 s)->
    Wl P n ds (vW Φ w (wH ops i) i F) ops [o] F w
def J9 (P:Program) (n:Nat) (ds:List Deferred) (Φ:Nat->Value->World->Prop) (ops:List Oper) (F0:Fr) (w0:World):Nat->List Oper->Prop
 |_,[]=>True
 |_,[_]=>True
 |i,o::o2::r=>ab5 P n ds Φ ops F0 w0 i o/\J9 P n ds Φ ops F0 w0 (i+1) (o2::r)
theorem J9.get {Φ:Nat->Value->World->Prop}: ∀ {l:List Oper} {k:Nat},J9 P n ds Φ ops F0 w0 k l-> ∀(i:Nat) (o:Oper),i<l.length-1->l[i]? =some o->ab5 P n ds Φ ops F0 w0 (k+i) o
 | [],_,_,i,o,_,h=>by simp at h
 | [_],_,_,i,o,hi,_=>by simp at hi
 |o'::o2::r,k,hs,0,o,_,h=>by simp at h;subst h;exact hs.1
 |o'::o2::r,k,hs,i+1,o,hi,h=>by have:=J9.get hs.2 i o (by simp only [aph] at hi ⊢;omega) (by simpa using h);rw [Nat.add_right_comm] at this;exact this
theorem kS {id:Nat} (Φ:Nat->Value->World->Prop) (hm:P.follows .mixedOrders=true) (h1:X8 (ops.take (ops.length-1))=true) (h2:abT (ops.take (ops.length-1))=true) (h3:NY ops=true)
 (hst: ∀i v w w',New w w'->Φ i v w->Φ i v w') (step:J9 P n ds Φ ops F0 w0 0 ops)
 (fin: ∀F w z,New w0 w->ops[ops.length-1]? =some z->(∀i,i<ops.length-1->Φ i (F (wH ops i)) w)->(∀s,(∀i,i<ops.length-1->wH ops i≠s)->F s=F0 s)->Wl P n ds (fun e F' w'=>e=.normal/\Q .normal F' w') ops [z] F w):
 Wc P n ds Q (.region id ops.toArray true) F0 w0:=
 nZ Φ hm h1 h2 h3 hst (fun i o hi ho=>by have:=step.get i o hi ho;rwa [acL] at this) fin
end
section
variable {P:Program} {r:Option Nat} {md:Region.Mode} {ops:Array Oper} {Q:Exit->Act->World->Prop}
theorem abf (hout: ¬LetsOut Q) (hpl: ∀(i:Nat) (o:Oper),ops[i]? =some o-> ∀c,o.op≠ .defer c) {i:Nat} {K K':Act->World->Prop} (hK: ∀a w,K a w->K' a w) {a:Act} {w:World} (h:wpOp P ops Q i K a w):wpOpIn (FR r) 0 P ops Q i K' a w:=by
 have Y0: ∀f,(FR r).fn f:=by cases r<;>exact fun _=>trivial
 unfold wpOp at h;unfold wpOpIn;split
 ·rename_i ho
  rw [ho] at h;exact hK _ _ h
 ·rename_i o ho
  simp only [ho] at h;split
  ·rename_i hw
   rw [if_pos hw] at h;rcases h with h|⟨_,h⟩
   ·refine ⟨fun f _=>Y0 f,?_⟩;rw [Oper.semAt_eq _ _ _ (hpl i o ho)];exact Me hK h
   ·exact absurd h hout
  ·rename_i hw
   rw [if_neg hw] at h;exact ⟨fun f _=>Y0 f,hK _ _ h⟩
theorem QB (hout: ¬LetsOut Q) (hpl: ∀(i:Nat) (o:Oper),ops[i]? =some o-> ∀c,o.op≠ .defer c): ∀(fuel:Nat) (listed:Array Bool) (a:Act) (w:World),wpAny P md ops Q fuel listed a w->wpAnyIn (FR r) 0 P md ops Q fuel listed a w
 |0,_,_,_,h=>h
 |fuel+1,_,_,_,h=>⟨h.1,fun i hi=>abf hout hpl (fun a w h'=>QB hout hpl fuel _ a w h') (h.2 i hi)⟩
end
section
variable {P:Program} {n:Nat} {r:Option Nat} {ops:List Oper} {Q:Po} {F:Fr} {w:World}
theorem iE {rid:Nat} (hpl:Ew ops=true) (hQ: ∀F w, ¬Q .outgrown F w) (hm:P.follows .mixedOrders=true) (hB:okT ops.toArray=true) (C:World->Prop) (hC:C w.drew) (h: ∀w',New w w'->Wt P n [] C Q ops ops F w'):Wr P n r Q (.region rid ops.toArray true) F w:=by
 unfold Wr;refine wpIn_region_any hm (QB (fun hx=>by obtain ⟨a,w,F',_,hq⟩:=hx;exact hQ F' w hq) (fun i o ho c e=>?_) _ _ _ _ ?_)
 ·unfold Ew at hpl;have:=List.all_eq_true.1 hpl o (apD (by simpa using ho));rw [e] at this;cases this
 have hleft:left ops.toArray (ao1 ops.toArray.size false)=(abS ops.length).map (0+ ·):=by unfold left;rw [show ((fun x=>0+x):Nat->Nat)=id from funext fun x=>acL x,aqc];simp only [ao4];refine List.filter_eq_self.2 fun k hk=>?_;have:=List.mem_range.1 hk;simp [acf,apa,this]
 have h0:zU ops.toArray (ao1 ops.toArray.size false):=by intro j o hj;exfalso;simp only [acf,apa] at hj;split at hj<;>simp at hj
 refine H7 (C:=C) hB _ _ _ _ (by simp) (by rw [hleft];simp) h0 (fun _=>hC) ?_;rw [hleft];exact Cb ops 0 F w.drew (fun j=>by rw [acL]) (h _ (Chg.drew _ _))
end
end Go.Proofs.YtfbnfhhmiiahnaaGreatDoor.Wk
namespace Go.Proofs.YtfbnfhhmiiahnaaGreatDoor
open Go Wk
open Go.RowKit (Below)
attribute [local irreducible] Go.Calls
theorem Wk.RdS.ajV {α:Type} {f:α->Value} {Pb:Nat->Prop} {w:World} {v:Value} {xs:List α} {L:Nat} (o:Obj) (h:RdS (Wk.one f) 1 Pb w v xs) (hL:NoC w L):RdS (Wk.one f) 1 Pb (w.putObj L o) v xs:=by
 rcases h with h|h|⟨b,off,cap,cur,e',fr,hv,hb,hh,r⟩
 ·exact .inl h
 ·exact .inr (.inl h)
 ·refine .inr (.inr ⟨b,off,cap,cur,e',fr,hv,hb,?_,r⟩);rw [World.putObj_heap_other]
  ·exact hh
  ·rintro rfl;obtain ⟨o2,h1,h2⟩:=hL;rw [hh] at h1;cases h1;cases h2
theorem Wk.oP.aeW {Pb Pe:Nat->Prop} {w:World} {v:Value} {xs:List Ed} {L:Nat} (o:Obj) (h:oP rEd 100 6 Pb Pe w v xs) (hL:NoC w L):oP rEd 100 6 Pb Pe (w.putObj L o) v xs:=by
 have hk: ∀k,v.ownBlock=some k->k≠L:=fun k hk=>h.nl hL hk;obtain ⟨cs,hoc,he⟩:=h.yX (Pb':=fun b=>v.ownBlock=some b/\Pb b) fun b hb hP=>⟨hb,hP⟩;refine ⟨cs,(hoc.keep fun b hb _=>World.putObj_heap_other (hk b hb.1)).mono fun b _ hP=>hP.2,fun i x hx=>?_⟩;obtain ⟨av,e,hr⟩:=he i x hx;exact ⟨av,e,Wk.RdS.ajV o hr hL⟩
section
variable {P:Program} {α:Type} {R:Rel α} {e:TypeId} {sz:Nat} {Pb Pe:Nat->Prop} {w:World} {v:Value} {xs:List α}
theorem Wk.oP.ty (h:oP R e sz Pb Pe w v xs) {k:Nat} (hk:v.ownBlock=some k): ∃cur,w.heap[k]? =some (.cells cur e (0,0)):=by
 obtain ⟨cs,⟨_,h⟩,_⟩:=h;rcases h with ⟨rfl,_⟩|⟨g,cap,cur,rfl,_,hg,_⟩
 ·cases hk
 ·simp only [Value.ownBlock,Option.some.injEq] at hk;subst hk;exact ⟨cur,hg⟩
theorem Wk.oP.pR (h:oP R e sz Pb Pe w v xs) {b:Nat} {T:TypeId} {cs:List Value} (hb:Bk w b T cs) (ne:aoX e T=false) {k:Nat} (hk:v.ownBlock=some k):k≠b:=by
 rintro rfl;obtain ⟨cur,hc⟩:=h.ty hk;have:=hc.symm.trans hb;simp only [Option.some.injEq,Obj.cells.injEq] at this;exact ao9 ne this.2.1
theorem Wk.oP.rZ (h:oP R e sz Pb Pe w v xs) {b:Nat} {kt:TypeId} {l:List (Value×Value)} (hm:sK P kt w b l) {k:Nat} (hk:v.ownBlock=some k):k≠b:=by
 rintro rfl;obtain ⟨cur,hc⟩:=h.ty hk;obtain ⟨es,cl,h2,_⟩:=hm;cases hc.symm.trans h2
theorem Wk.oP.tK {β:Type} {R':Rel β} {e':TypeId} {sz':Nat} {Qb Qe:Nat->Prop} {u:Value} {ys:List β} (h:oP R e sz Pb Pe w v xs) (h':oP R' e' sz' Qb Qe w u ys) (ne:aoX e e'=false):Sep v u:=by
 intro k h1 h2;obtain ⟨c1,e1⟩:=h.ty h1;obtain ⟨c2,e2⟩:=h'.ty h2;have:=e1.symm.trans e2;simp only [Option.some.injEq,Obj.cells.injEq] at this;exact ao9 ne this.2.1
theorem Wk.Bk.pR {w:World} {b b':Nat} {T T':TypeId} {cs cs':List Value} (h:Bk w b T cs) (h':Bk w b' T' cs') (ne:aoX T T'=false):b≠b':=by
 rintro rfl;have:=h.symm.trans h';simp only [Option.some.injEq,Obj.cells.injEq] at this;exact ao9 ne this.2.1
theorem Wk.Bk.rZ {w:World} {b b':Nat} {T kt:TypeId} {cs:List Value} {l:List (Value×Value)} (h:Bk w b T cs) (hm:sK P kt w b' l):b≠b':=by
 rintro rfl;obtain ⟨es,cl,h2,_⟩:=hm;cases h.symm.trans h2
end
abbrev vbo:Bool->Value:=fun b=>.bool b
theorem GU:rF (Wk.one vbo) 1:=uI _ fun _=>rfl
abbrev xC:=Value×List Nat
abbrev wrC:xC->List Value:=fun x=>[x.1]
structure Gr0 (lo bg hm b6 n:Nat) (m:List (Nat×Nat)) (ps:List Nm) (lv wv gv pv:Value) (W:World):Prop where
 b:Bk W bg 145 (grC lv hm (.slice none 0 0) wv gv pv)
 v6:Bk W b6 140 [pT bg]
 mp:sK prog 181 W hm (CQ m)
 wa:oP (flat wrC) 65 1 (fun b=>lo<=b) NoB W wv (apW n (.slice none 0 0,[]))
 ga:oP (Wk.one vbo) 4 1 (fun b=>lo<=b) NoB W gv (apW n false)
 pa:oP (Wk.one vs) 9 1 (fun b=>lo<=b) NoB W pv ps
 lo2:lo<=bg/\lo<=b6/\lo<=hm
section
variable {lo bg hm b6 n:Nat} {m:List (Nat×Nat)} {ps:List Nm} {lv wv gv pv:Value} {W W':World}
theorem Gr0.new (g:Gr0 lo bg hm b6 n m ps lv wv gv pv W) (c:New W W'):Gr0 lo bg hm b6 n m ps lv wv gv pv W':=
 ⟨g.b.chg c id,g.v6.chg c id,g.mp.chg c id,g.wa.new (oH _) c,g.ga.new (oJ _) c,g.pa.new (oJ _) c,g.lo2⟩
theorem Gr0.put (g:Gr0 lo bg hm b6 n m ps lv wv gv pv W) {L:Nat} (o:Obj) (hL:NoC W L) (hm':L≠hm):Gr0 lo bg hm b6 n m ps lv wv gv pv (W.putObj L o):=
 ⟨g.b.put o hL,g.v6.put o hL,g.mp.put o hm',g.wa.put o (oH _) hL,g.ga.put o (oJ _) hL,g.pa.put o (oJ _) hL,g.lo2⟩
theorem Gr0.map (g:Gr0 lo bg hm b6 n m ps lv wv gv pv W) (c:Chg (fun k=>k=hm) W W') {m':List (Nat×Nat)} (h:sK prog 181 W' hm (CQ m')):Gr0 lo bg hm b6 n m' ps lv wv gv pv W':=
 ⟨g.b.chg c fun e=>g.b.rZ g.mp e,g.v6.chg c fun e=>g.v6.rZ g.mp e,h,g.wa.chg (oH _) c fun k hk e=>g.wa.rZ g.mp hk e,g.ga.chg (oJ _) c fun k hk e=>g.ga.rZ g.mp hk e,g.pa.chg (oJ _) c fun k hk e=>g.pa.rZ g.mp hk e,g.lo2⟩
theorem Gr0.path (g:Gr0 lo bg hm b6 n m ps lv wv gv pv W) {w1:World} {pv':Value} {ps':List Nm} (c:Chg (fun k=>pv.ownBlock=some k) W w1) (own:oP (Wk.one vs) 9 1 (fun b=>lo<=b) NoB w1 pv' ps') (b:Bk W' bg 145 (grC lv hm (.slice none 0 0) wv gv pv')) (c2:Chg (fun k=>k=bg) w1 W'):Gr0 lo bg hm b6 n m ps' lv wv gv pv' W':=by
 have v1:=g.v6.chg c fun e=>g.pa.pR g.v6 rfl e rfl;have m1:=g.mp.chg c fun e=>g.pa.rZ g.mp e rfl;have b1:=g.b.chg c fun e=>g.pa.pR g.b rfl e rfl;have wa1:=g.wa.chg (oH _) c fun k hk e=>g.wa.tK g.pa rfl k hk e;have ga1:=g.ga.chg (oJ _) c fun k hk e=>g.ga.tK g.pa rfl k hk e;exact ⟨b,v1.chg c2 fun e=>v1.pR b1 rfl e,m1.chg c2 fun e=>b1.rZ m1 e.symm,wa1.chg (oH _) c2 fun k hk e=>wa1.pR b1 rfl hk e,ga1.chg (oJ _) c2 fun k hk e=>ga1.pR b1 rfl hk e,own.chg (oJ _) c2 fun k hk e=>own.pR b1 rfl hk e,g.lo2⟩
end
def Zn (lo bg hm b6:Nat) (bs:List xC) (wv gv pv:Value) (b:Nat):Prop:=lo<=b/\b≠bg/\b≠b6/\b≠hm/\wv.ownBlock≠some b/\(∀x∈bs,x.1.ownBlock≠some b)/\gv.ownBlock≠some b/\pv.ownBlock≠some b
structure GrA (lo bg hm b6:Nat) (t:List Nd) (m:List (Nat×Nat)) (es:List Ed) (bs:List xC) (gs:List Bool) (ps:List Nm) (lv ev wv gv pv:Value) (W:World):Prop where
 b:Bk W bg 145 (grC lv hm ev wv gv pv)
 tr:RdS rNd 3 (fun k=>k<lo) W lv t
 mp:sK prog 181 W hm (CQ m)
 ed:oP rEd 100 6 (Zn lo bg hm b6 bs wv gv pv) (Zn lo bg hm b6 bs wv gv pv) W ev es
 wa:LLs wrC (·.1) (·.2) viN 65 3 1 (fun b=>lo<=b) W wv bs
 ga:oP (Wk.one vbo) 4 1 (fun b=>lo<=b) NoB W gv gs
 pa:oP (Wk.one vs) 9 1 (fun b=>lo<=b) NoB W pv ps
 lo2:lo<=bg/\lo<=hm
section
variable {lo bg hm b6:Nat} {t:List Nd} {m:List (Nat×Nat)} {es:List Ed} {bs:List xC} {gs:List Bool} {ps:List Nm} {lv ev wv gv pv:Value} {W W':World}
theorem GrA.new (g:GrA lo bg hm b6 t m es bs gs ps lv ev wv gv pv W) (c:New W W'):GrA lo bg hm b6 t m es bs gs ps lv ev wv gv pv W':=
 ⟨g.b.chg c id,g.tr.keep pU c.keep,g.mp.chg c id,g.ed.xA qI c i3 (fun _ _ _ e=>e),g.wa.new c,g.ga.new (oJ _) c,g.pa.new (oJ _) c,g.lo2⟩
theorem GrA.of0 {n:Nat} (g:Gr0 lo bg hm b6 n m ps lv wv gv pv W) (tr:RdS rNd 3 (fun k=>k<lo) W lv t):GrA lo bg hm b6 t m [] (apW n (.slice none 0 0,[])) (apW n false) ps lv (.slice none 0 0) wv gv pv W:=
 ⟨g.b,tr,g.mp,aN,⟨g.wa,fun b hb=>(by rw [(List.mem_replicate.1 hb).2];exact aN),fun b hb=>(by rw [(List.mem_replicate.1 hb).2];intro k e;cases e),fun i j b c _ hb _=>(by rw [(List.mem_replicate.1 (apD hb)).2];intro k e;cases e)⟩,g.ga,g.pa,⟨g.lo2.1,g.lo2.2.2⟩⟩
theorem GrA.put (g:GrA lo bg hm b6 t m es bs gs ps lv ev wv gv pv W) {L:Nat} (o:Obj) (hL:NoC W L) (h1:L≠hm) (h2:lo<=L):GrA lo bg hm b6 t m es bs gs ps lv ev wv gv pv (W.putObj L o):=
 ⟨g.b.put o hL,g.tr.keep pU (Keep.put o (by omega)),g.mp.put o h1,g.ed.aeW o hL,⟨g.wa.row.put o (oH _) hL,fun b hb=>(g.wa.el b hb).put o (oJ _) hL,g.wa.wG,g.wa.sep⟩,g.ga.put o (oJ _) hL,g.pa.put o (oJ _) hL,g.lo2⟩
theorem GrA.aeX (g:GrA lo bg hm b6 t m es bs gs ps lv ev wv gv pv W):GrA lo bg hm bg t m es bs gs ps lv ev wv gv pv W:=
 ⟨g.b,g.tr,g.mp,g.ed.mono rH (fun b _ e=>⟨e.1,e.2.1,e.2.1,e.2.2.2⟩) (fun b _ e=>⟨e.1,e.2.1,e.2.1,e.2.2.2⟩),g.wa,g.ga,g.pa,g.lo2⟩
theorem GrA.read (g:GrA lo bg hm b6 t m es bs gs ps lv ev wv gv pv W) {ev':Value} {es':List Ed} (b:Bk W' bg 145 (grC lv hm ev' wv gv pv)) (own:oP rEd 100 6 (Zn lo bg hm b6 bs wv gv pv) (Zn lo bg hm b6 bs wv gv pv) W' ev' es') (c:Chg (fun k=>k=bg∨ev.ownBlock=some k) W W'):GrA lo bg hm b6 t m es' bs gs ps lv ev' wv gv pv W':=by
 have hz: ∀k,ev.ownBlock=some k->Zn lo bg hm b6 bs wv gv pv k:=fun k hk=>(g.ed.lt hk).1;refine ⟨b,g.tr.keep pU (c.keep fun k _ h1 e=>?_),g.mp.chg c (fun e=>?_),own,⟨g.wa.row.chg (oH _) c fun k hk e=>?_,fun x hx=>(g.wa.el x hx).chg (oJ _) c fun k hk e=>?_,g.wa.wG,g.wa.sep⟩,g.ga.chg (oJ _) c (fun k hk e=>?_),g.pa.chg (oJ _) c (fun k hk e=>?_),g.lo2⟩
 ·rcases e with e|e
  ·have:=g.lo2.1;omega
  ·have:=(hz k e).1;omega
 ·rcases e with e|e
  ·exact g.b.rZ g.mp e.symm
  ·exact g.ed.rZ g.mp e rfl
 ·rcases e with e|e
  ·exact g.wa.row.pR g.b rfl hk e
  ·exact (hz k e).2.2.2.2.1 hk
 ·rcases e with e|e
  ·exact (g.wa.el x hx).pR g.b rfl hk e
  ·exact (hz k e).2.2.2.2.2.1 x hx hk
 ·rcases e with e|e
  ·exact g.ga.pR g.b rfl hk e
  ·exact (hz k e).2.2.2.2.2.2.1 hk
 ·rcases e with e|e
  ·exact g.pa.pR g.b rfl hk e
  ·exact (hz k e).2.2.2.2.2.2.2 hk
theorem GrA.gap (g:GrA lo bg hm b6 t m es bs gs ps lv ev wv gv pv W) {gs':List Bool} (own:oP (Wk.one vbo) 4 1 (fun b=>lo<=b) NoB W' gv gs') (c:Chg (fun k=>gv.ownBlock=some k) W W'):GrA lo bg hm b6 t m es bs gs' ps lv ev wv gv pv W':=by
 refine ⟨g.b.chg c fun e=>g.ga.pR g.b rfl e rfl,g.tr.keep pU (c.keep fun k _ h1 e=>?_),g.mp.chg c (fun e=>g.ga.rZ g.mp e rfl),g.ed.xA qI c (fun k hk e=>g.ed.tK g.ga rfl k hk e) (fun k hk _ e=>hk.2.2.2.2.2.2.1 e),⟨g.wa.row.chg (oH _) c fun k hk e=>g.wa.row.tK g.ga rfl k hk e,fun x hx=>(g.wa.el x hx).chg (oJ _) c fun k hk e=>(g.wa.el x hx).tK g.ga rfl k hk e,g.wa.wG,g.wa.sep⟩,own,g.pa.chg (oJ _) c (fun k hk e=>g.pa.tK g.ga rfl k hk e),g.lo2⟩;have h2:lo<=k:=(g.ga.lt e).1;omega
theorem GrA.want (g:GrA lo bg hm b6 t m es bs gs ps lv ev wv gv pv W) {i:Nat} {x x':xC} {w1:World} (hi:bs[i]? =some x) (ho:oP (Wk.one viN) 3 1 (fun b=>lo<=b) NoB w1 x'.1 x'.2) (c1:Chg (fun k=>x.1.ownBlock=some k) W w1)
 (lie:x'.1.ownBlock=x.1.ownBlock∨ ∀k,x'.1.ownBlock=some k->W.heap.size<=k) (hr:oP (flat wrC) 65 1 (fun b=>lo<=b) NoB W' wv (bs.set i x')) (c2:Chg (fun k=>wv.ownBlock=some k) w1 W'):GrA lo bg hm b6 t m es (bs.set i x') gs ps lv ev wv gv pv W':=by
 have hx:=apD hi;have hxo:=g.wa.el x hx;have hwa:=g.wa.set (b':=x') hi ho c1 lie hr c2;have c:Chg (fun k=>x.1.ownBlock=some k∨wv.ownBlock=some k) W W':=Chg.trans (c1.mono fun k _ e=>.inl e) c2 fun k _ e=>.inr e;have hlt: ∀k,(x.1.ownBlock=some k∨wv.ownBlock=some k)->lo<=k:=fun k e=>e.elim (fun e=>(hxo.lt e).1) fun e=>(g.wa.row.lt e).1;refine ⟨g.b.chg c fun e=>e.elim (fun e=>hxo.pR g.b rfl e rfl) fun e=>g.wa.row.pR g.b rfl e rfl,g.tr.keep pU (c.keep fun k _ h1 e=>?_),g.mp.chg c (fun e=>e.elim (fun e=>hxo.rZ g.mp e rfl) fun e=>g.wa.row.rZ g.mp e rfl), ((g.ed.mono (Pb':=fun b=>Zn lo bg hm b6 bs wv gv pv b/\b<W.heap.size) (Pe':=fun b=>Zn lo bg hm b6 bs wv gv pv b/\b<W.heap.size) rH (fun b hb e=>⟨e,hb⟩) (fun b hb e=>⟨e,hb⟩)).xA qI c (fun k hk e=>?_) (fun k hk _ e=>?_)).mono rH (fun b _ e=>?_) (fun b _ e=>?_),hwa,g.ga.chg (oJ _) c (fun k hk e=>?_),g.pa.chg (oJ _) c (fun k hk e=>?_),g.lo2⟩
 ·have:=hlt k e;omega
 ·exact e.elim (fun e=>g.ed.tK hxo rfl k hk e) fun e=>g.ed.tK g.wa.row rfl k hk e
 ·exact e.elim (fun e=>hk.1.2.2.2.2.2.1 x hx e) fun e=>hk.1.2.2.2.2.1 e
 all_goals first
  |(obtain ⟨⟨z1,z2,z3,z0,z4,z5,z6⟩,z7⟩:=e
    refine ⟨z1,z2,z3,z0,z4,fun y hy e2=>?_,z6⟩;rcases arM hy with hy|rfl
    ·exact z5 y hy e2
    ·rcases lie with l1|l1
     ·exact z5 x hx (l1▸e2)
     ·have:=l1 b e2;omega)
  |exact e.elim (fun e=>g.ga.tK hxo rfl k hk e) fun e=>g.ga.tK g.wa.row rfl k hk e
  |exact e.elim (fun e=>g.pa.tK hxo rfl k hk e) fun e=>g.pa.tK g.wa.row rfl k hk e
theorem GrA.zone (g:GrA lo bg hm b6 t m es bs gs ps lv ev wv gv pv W) (h6:b6<W.heap.size) (hlo:lo<=W.heap.size): ∀b,W.heap.size<=b->Zn lo bg hm b6 bs wv gv pv b:=fun b hb=>by
 have h1:=g.b.lt;have h2:=g.mp.lt;exact ⟨by omega,by omega,by omega,by omega,fun e=>by have:=(g.wa.row.lt e).2;omega,fun x hx e=>by have:=((g.wa.el x hx).lt e).2;omega,fun e=>by have:=(g.ga.lt e).2;omega,fun e=>by have:=(g.pa.lt e).2;omega⟩
end
def TF (lv:Value) (n lo:Nat) (i:Nat) (v:Value) (w:World):Prop:=match i with
 |0=>v=lv
 |1=> ∃b,v=.map (some b)/\lo<=b/\sK prog 181 w b []
 |2=>v=lv
 |3=>v=vi n
 |4=>oP (flat wrC) 65 1 (fun b=>lo<=b) NoB w v (apW n (.slice none 0 0,[]))
 |5=>v=lv
 |6=>v=vi n
 |7=>oP (Wk.one vbo) 4 1 (fun b=>lo<=b) NoB w v (apW n false)
 |8=> ∃hm wv gv,v=.agg (grC lv hm (.slice none 0 0) wv gv (.slice none 0 0)).toArray/\lo<=hm/\sK prog 181 w hm []/\oP (flat wrC) 65 1 (fun b=>lo<=b) NoB w wv (apW n (.slice none 0 0,[]))/\oP (Wk.one vbo) 4 1 (fun b=>lo<=b) NoB w gv (apW n false)
 |9=> ∃bg hm wv gv,v=pT bg/\lo<=bg/\Bk w bg 145 (grC lv hm (.slice none 0 0) wv gv (.slice none 0 0))/\lo<=hm/\sK prog 181 w hm []/\oP (flat wrC) 65 1 (fun b=>lo<=b) NoB w wv (apW n (.slice none 0 0,[]))/\oP (Wk.one vbo) 4 1 (fun b=>lo<=b) NoB w gv (apW n false)
 |10=> ∃b,v=pT b/\lo<=b/\Bk w b 140 [.pointer none]
 |_=>True
theorem Y3 {lv:Value} {n lo:Nat}: ∀i v w w',New w w'->TF lv n lo i v w->TF lv n lo i v w':=by
 intro i v w w' c h;unfold TF at h ⊢;split at h<;>try exact h
 ·obtain ⟨b,e,h1,h2⟩:=h;exact ⟨b,e,h1,h2.chg c id⟩
 ·exact h.new (oH _) c
 ·exact h.new (oJ _) c
 ·obtain ⟨hm,wv,gv,e,h1,h2,h3,h4⟩:=h;exact ⟨hm,wv,gv,e,h1,h2.chg c id,h3.new (oH _) c,h4.new (oJ _) c⟩
 ·obtain ⟨bg,hm,wv,gv,e,h0,hb,h1,h2,h3,h4⟩:=h;exact ⟨bg,hm,wv,gv,e,h0,hb.chg c id,h1,h2.chg c id,h3.new (oH _) c,h4.new (oJ _) c⟩
 ·obtain ⟨b,e,h1,h2⟩:=h;exact ⟨b,e,h1,h2.chg c id⟩
theorem QC {t:List Nd} {m:List (Nat×Nat)} {i:Nat} (hi:i<t.length):xM m i (t.drop i)=xM (if xu (ndA t i)≠0/\m.all (fun p=>decide (p.1≠xu (ndA t i)))=true then m++ [(xu (ndA t i),i)] else m) (i+1) (t.drop (i+1)):=by
 rw [drop_cons (IJ hi),xM]
theorem MC {t:List Nd} {i kind:Nat} {soft:Bool}: ∀(f place:Nat) (c:List Int),(vS t i kind soft f place c).length<=f
 |0,_,_=>by simp [vS]
 |f+1,_,[]=>by simp [vS]
 |f+1,place,x::c=>by
  rw [J4];split
  ·simp
  ·split
   ·simp
   ·split
    ·simp
    ·have:=MC (t:=t) (i:=i) (kind:=kind) (soft:=soft) f (place+1) (c.drop ‹Nat›);simp only [aph];omega
theorem GV {t:List Nd} (ht:pM t=true) {i:Nat} (hi:i<t.length) (kind:Nat) (soft:Bool):(yE t i kind soft).length<=1024:=by
 have hv: ∀nm,((uO t i nm).getD []).length<=1024:=fun nm=>Ac ht hi;have key: ∀v:List UInt8,v.length<=1024->(if form 4 v=0 then vS t i kind soft (nums 4 v).length 0 (nums 4 v) else [⟨i,none,kind,soft,0,[]⟩]).length<=1024:=by
  intro v h;split
  ·have h1:=MC (t:=t) (i:=i) (kind:=kind) (soft:=soft) (nums 4 v).length 0 (nums 4 v);have h2:=FK v;omega
  ·simp
 exact key _ (hv _)
def BK (t:List Nd) (i:Nat):List Ed:=[1,2,3,4,5].flatMap fun k=>yE t i k false++yE t i k true
def Ai (t:List Nd) (i k:Nat):List Ed:=([1,2,3,4,5].take (k-1)).flatMap fun k=>yE t i k false++yE t i k true
theorem TI {t:List Nd} {i k:Nat} (h1:1<=k) (h5:k<=5):Ai t i (k+1)=Ai t i k++yE t i k false++yE t i k true:=by
 have:k=1∨k=2∨k=3∨k=4∨k=5:=by omega
 rcases this with rfl|rfl|rfl|rfl|rfl<;>simp [Ai]
theorem MF {t:List Nd} (ht:pM t=true) {i:Nat} (hi:i<t.length): ∀k,(Ai t i k).length<=2048*5:=by
 intro k;have h: ∀l:List Nat,(l.flatMap fun k=>yE t i k false++yE t i k true).length<=2048*l.length:=by
  intro l;induction l with
  |nil=>simp
  |cons x r ih=>have h1:=GV ht hi x false;have h2:=GV ht hi x true;simp only [List.flatMap_cons,adL,aph];omega
 have h2:=h ([1,2,3,4,5].take (k-1));have h3:([1,2,3,4,5].take (k-1)).length<=5:=by rw [apb];simp only [aph,apK];omega
 unfold Ai;omega
theorem vT {t:List Nd} (ht:pM t=true): ∀i,i<=t.length->((abS i).flatMap (BK t)).length<=10240*i:=by
 intro i;induction i with
 |zero=>intro _;simp
 |succ i ih=>
  intro hi;have h1:=ih (by omega);have h2:=MF ht (i:=i) (by omega) 6;rw [arz,arl,adL];have:([i].flatMap (BK t)).length=(Ai t i 6).length:=by simp [BK,Ai]
  omega
def DK (t:List Nd) (j:Nat):List Nat:=if 0<j then [par t j] else []
def xO (i:Nat) (e:Ed):Option Nat:=if e.src=i/\e.soft=false then e.dst else none
theorem MG (t:List Nd) (i:Nat):qB t i=DK t i++(pK t).filterMap (xO i):=rfl
theorem Dw {α:Type} {n i:Nat} {f:Nat->α} {x:α} (hi:i<n):((abS n).map f).set i x=(abS n).map fun j=>if j=i then x else f j:=by
 apply ao6;intro j;rw [apo];by_cases h:i=j
 ·subst h;rw [if_pos rfl,if_pos (by simpa using hi),apF,aq3 hi];simp
 ·rw [if_neg h,apF,apF];by_cases hj:j<n
  ·rw [aq3 hj];simp only [adJ];rw [if_neg (fun e=>h e.symm)]
  ·rw [aoS (by simpa using hj)];rfl
def Xb (w w':World) (r:Value) (lv:Value) (t:List Nd):Prop:= ∃bg hm ev wv gv pv gs bs,r=.tuple #[pT bg,vi 0]/\GrA w.heap.size bg hm bg t (sG t) (pK t) bs gs (qx t) lv ev wv gv pv w'/\bs.map (·.2)=(abS t.length).map (qB t)/\gs.length=t.length
theorem Bo {Pb:Nat->Prop} {w:World} {v:Value} {t:List Nd} (h:RdS rNd 3 Pb w v t) (hok:pM t=true):
 Calls prog 49 #[v] w (Ret fun r w'=>Xb w w' r v t/\New w w'):=by
 obtain ⟨a,cap,rfl,hc1,hc2⟩:=h.form;have hlen:=qo hok;have hpos:=uM hok;replace h:=h.mono (Pb':=fun k=>k<w.heap.size) Ce fun k hk _=>hk;refine xB func49 rfl ntmps49 rfl ?_;refine DF ?_;refine au (wS h) rfl ?_;rintro _ w1 ⟨rfl,n1⟩;unfold H9;rw [if_pos hok];have hz1:=n1.size;(repeat' (first|refine DF ?_|(refine aa4 (fun _=>?_) (fun _=>?_)<;>(first|(exfalso;omega)|skip))));refine gy ?_
 refine kS (TF (.slice a t.length cap) t.length w.heap.size) rfl (by kernel_rfl) (by kernel_rfl) (by kernel_rfl) Y3
  ⟨(fun F w' hn hd hf=>iT (ak (dA (aB _ _) (hf 0 rfl)))),
   (fun F w' hn hd hf=>fZ (k:=181) fun w2 m2 n2 s2=>ak (dA n2 ⟨_,rfl,aru hz1 hn.size,m2⟩)),
   (fun F w' hn hd hf=>iT (ak (dA (aB _ _) (hf 0 rfl)))),
   (fun F w' hn hd hf=>cu (hd 2 (by kernel_rfl)) (ak (dA (aB _ _) rfl))),
   (fun F w' hn hd hf=>fF (f:=(·.1:xC->Value)) (y0:=(.slice none 0 0,[])) rfl (hd 3 (by kernel_rfl)) (hd 3 (by kernel_rfl)) (by omega) (by omega) (by omega) fun v2 w2 o2 n2=>ak (dA n2 (by rw [ao3] at o2;exact o2.mono (Pb':=fun b=>w.heap.size<=b) (oU _) (fun b _ e=>aru (aru hz1 hn.size) e) i3))),
   (fun F w' hn hd hf=>iT (ak (dA (aB _ _) (hf 0 rfl)))),
   (fun F w' hn hd hf=>cu (hd 5 (by kernel_rfl)) (ak (dA (aB _ _) rfl))),
   (fun F w' hn hd hf=>fF (f:=vbo) (y0:=false) rfl (hd 6 (by kernel_rfl)) (hd 6 (by kernel_rfl)) (by omega) (by omega) (by omega) fun v2 w2 o2 n2=>ak (dA n2 (by rw [ao3] at o2;exact o2.mono (Pb':=fun b=>w.heap.size<=b) (pq _) (fun b _ e=>aru (aru hz1 hn.size) e) i3))),
   (fun F w' hn hd hf=>by have h0:F 28=.slice a t.length cap:=hd 0 (by kernel_rfl);obtain ⟨hm,h1,h1l,h1m⟩: ∃b,F 29=.map (some b)/\w.heap.size<=b/\sK prog 181 w' b []:=hd 1 (by kernel_rfl);have h4:oP (flat wrC) 65 1 (fun b=>w.heap.size<=b) NoB w' (F 32) (apW t.length (.slice none 0 0,[])):=hd 4 (by kernel_rfl);have h7:oP (Wk.one vbo) 4 1 (fun b=>w.heap.size<=b) NoB w' (F 35) (apW t.length false):=hd 7 (by kernel_rfl);obtain ⟨a4,c4,e4,_,_⟩:=h4.form;obtain ⟨a7,c7,e7,_,_⟩:=h7.form;rw [e4] at h4;rw [e7] at h7;refine bJ (ps:=[(0,.tmp 28),(1,.tmp 29),(3,.tmp 32),(4,.tmp 35)]) (parts:=[(0,.slice a t.length cap),(1,.map (some hm)),(3,.slice a4 _ c4),(4,.slice a7 _ c7)]) rfl ?_ (by simp [Value.cells]) (ak (dA (aB _ _) ⟨hm,_,_,rfl,h1l,h1m,h4,h7⟩));show [(0,F 28),(1,F 29),(3,F 32),(4,F 35)]=_;rw [h0,h1,e4,e7]),
   (fun F w' hn hd hf=>by obtain ⟨hm,wv,gv,e,h1,h2,h3,h4⟩:TF (.slice a t.length cap) t.length w.heap.size 8 (F 36) w':=hd 8 (by kernel_rfl);exact Wl.box e fun w2 b2 n2 s2=>ak (dA n2 ⟨_,hm,wv,gv,rfl,aru hz1 hn.size,b2,h1,h2.chg n2 id,h3.new (oH _) n2,h4.new (oJ _) n2⟩)),
   (fun F w' hn hd hf=>by refine Wl.alloc fun w2 b2 n2 s2=>?_;exact ak (dA n2 ⟨_,rfl,aru hz1 hn.size,b2⟩)),
   trivial⟩ ?_
 intro F w2 z n2 hz hd hf;obtain ⟨bg,hm,wv,gv,e9,h0,hb,h1,h2,h3,h4⟩:TF (.slice a t.length cap) t.length w.heap.size 9 (F 37) w2:=hd 9 (by decide);obtain ⟨b6,e10,h6l,h6⟩:TF (.slice a t.length cap) t.length w.heap.size 10 (F 6) w2:=hd 10 (by decide);have hF0:F 0=.slice a t.length cap:=hf 0 (by decide);cases hz;refine aJ (u:=pT bg) h6 e10 (show (0:Nat)<1 by omega) e9 rfl fun w3 b3 c3=>?_;replace b3:Bk w3 b6 140 [pT bg]:=b3;refine ak ⟨rfl,?_⟩;have g3:Gr0 w.heap.size bg hm b6 t.length [] [] (.slice a t.length cap) wv gv (.slice none 0 0) w3:=⟨hb.chg c3 fun e=>hb.pR h6 rfl e,b3,h2.chg c3 fun e=>h6.rZ h2 e.symm,h3.chg (oH _) c3 fun k hk e=>h3.pR h6 rfl hk e,h4.chg (oJ _) c3 fun k hk e=>h4.pR h6 rfl hk e,aN,h0,h6l,h1⟩;have n03:New w w3:=(Chg.trans (M:=fun k=>k=b6) (New.trans n1 n2).any c3 fun k _ e=>e).tN
 clear hd hf h3 h4 h2 hb h6;have hF:agrees F [(0,.slice a t.length cap),(6,pT b6)]:=⟨hF0,e10,trivial⟩;rw [<-qh hF];simp only [ql];clear hF hF0 e9 e10;generalize hlv:(Value.slice a t.length cap)=lv at*;(repeat' (first|refine aa1 ?_|refine dV ?_|refine dJ ?_|refine eU ?_));subst hlv;refine au (GR (h.keep pU n03.keep) hok) rfl ?_;rintro _ w4 ⟨⟨bq,sv,rfl,hbq,hq⟩,n4⟩;have n04:=New.trans n03 n4;have hz3:=n03.size;have hz4:=n4.size;have aeY:=hq.1.lt;have hpl:=wU t;let I:Nat->World->Prop:=fun k W=>New w W/\w4.heap.size<=W.heap.size/\SqW (fun b=>w3.heap.size<=b/\b<w4.heap.size) bq sv (qx t) W/\ ∃pv,Gr0 w.heap.size bg hm b6 t.length [] ((qx t).take k) (.slice a t.length cap) wv gv pv W/\ ∀j,pv.ownBlock=some j->w4.heap.size<=j;have aeJ:bg<w3.heap.size:=g3.b.lt;have anT:hm<w3.heap.size:=g3.mp.lt;refine Az ?_;refine iC (gf:=46) (lb:= #[pT bq]) rfl (fun args _=>rE inferInstance args) (iter_walk (Pb:=fun b=>w3.heap.size<=b/\b<w4.heap.size) (bs:=bq) (v:=sv) (l:=qx t)) (fun k=>rfl) I (fun _ _=>False) ?_ ?_ ?_ ?_ ?_ ?_ ?_ ?_ ?_
 ·exact fun k W h=>h.2.2.1
 ·rintro k W W' ⟨h1,h2,h3,pv,h4,h5⟩ n;exact ⟨h1.trans n,aru h2 n.size,h3.new n,pv,h4.new n,h5⟩
 ·rintro k W r r' ⟨h1,h2,h3,pv,h4,h5⟩ hL;have z:=n04.size;exact ⟨h1.put _ (by omega),by simpa using h2,h3.put _ (.loop hL) (by omega),pv,h4.put _ (.loop hL) (by omega),h5⟩
 ·exact fun _ _ _ _ h=>h.elim
 ·intro r;have n:=iD (w:=w4) (.deferred (some [])) (.loop r);exact ⟨n04.trans n,n.size,hq.new n,_,(g3.new n4).new n,fun j e=>by cases e⟩
 ·rintro k W r hk ⟨h1,h2,h3,pv,h4,h5⟩ hL hD;have hkt:k<t.length:=by omega
  have hgk:(qx t).getD k []=pX t k:=by rw [apJ,uo hkt];rfl
  show Wr _ _ _ _ _ (upd (upd _ 40 (vs ((qx t).getD k []))) 41 (vi k)) W;rw [hgk];(repeat' (first|refine aa7 ?_|refine ak ?_|refine bP rfl (by repeat' (first|exact Qfn.out (by rintro _ ⟨⟨_,e⟩,_⟩;cases e)|exact Qrd.out|exact Qas.out|refine Qsr.out ?_|refine oZ.out ?_|refine Qsc.out ?_|refine qH.out ?_)) ?_));refine ⟨aB _ _,fun r'=>?_⟩;have nL:NoC W (w4.heap.size+1):=.loop hL;have hLt:=nL.lt;have q1:New w (W.putObj (w4.heap.size+1) (.loop r')):=h1.put _ (by omega);have q3:=h3.put (.loop r') nL (by omega);have q4:=h4.put (.loop r') nL (by omega);have qL:NoC (W.putObj (w4.heap.size+1) (.loop r')) (w4.heap.size+1):=.loop (World.putObj_heap_same hLt);have qD:NoC (W.putObj (w4.heap.size+1) (.loop r')) w4.heap.size:=.mark ((World.putObj_heap_other (by omega)).trans hD);generalize W.putObj (w4.heap.size+1) (.loop r')=W3 at*;clear h1 h3 h4;have zW:=q1.size;have zL:=qL.lt;obtain ⟨pa,pc,rfl,_,_⟩:=q4.pa.form;have hpt:((qx t).take k).length=k:=by rw [apb];omega
  (repeat' (refine Wr.block ?_));refine iE rfl (by repeat' (first|exact Qfn.out (by rintro _ ⟨⟨_,e⟩,_⟩;cases e)|exact Qrd.out|exact Qas.out|refine Qsr.out ?_|refine oZ.out ?_|refine Qsc.out ?_|refine qH.out ?_)) rfl (by kernel_rfl) (fun W'=>Chg (fun j=>(Value.slice pa ((qx t).take k).length pc).ownBlock=some j) W3 W') (Chg.drew _ _) ?_;intro W4 m4;have Lc: ∀W',Chg (fun j=>(Value.slice pa ((qx t).take k).length pc).ownBlock=some j) W3 W'->Bk W' b6 140 [pT bg]:=fun W' c=>q4.v6.chg c fun e=>q4.pa.pR q4.v6 rfl e rfl;have aeZ: ∀W',Chg (fun j=>(Value.slice pa ((qx t).take k).length pc).ownBlock=some j) W3 W'->Bk W' bg 145 (grC (.slice a t.length cap) hm (.slice none 0 0) wv gv (.slice pa ((qx t).take k).length pc)):=fun W' c=>q4.b.chg c fun e=>q4.pa.pR q4.b rfl e rfl;refine aa0 (ax (u:=pT bg) rfl (fun W' c=>(Lc W' c).cell (o:=0) rfl) (af ?_));refine aa0 (ax (u:=pT bg) rfl (fun W' c=>(Lc W' c).cell (o:=0) rfl) (af ?_));(repeat' (first|refine aa0 (fO rfl (af ?_))|refine aa0 (aa6 (af ?_))));refine aa0 (ax (u:=.slice pa ((qx t).take k).length pc) rfl (fun W' c=>(aeZ W' c).cell (o:=5) rfl) (af ?_));(repeat' (refine aa0 (aa3 (af ?_))));refine aH rfl (bF (R:=Wk.one vs) (Pe:=NoB) (y:=pX t k) qU rfl rfl rfl rfl (by omega) (by omega) fun v6 W6 o6 n6 s6 e6=>?_);have m6:=m4.trans n6;refine ak ⟨rfl,m6.any,?_⟩;refine aH rfl (bI (R:=Wk.one vs) qU (q4.pa.new (oJ _) m6) (o6.rd qU.mo) (fun y cs hy=>hy) rfl rfl (by omega) (by simp only [maxLen,apm];omega) (by simp only [apm];omega) fun u' W7 o7 c7 lie _=>?_);have c37:Chg (fun j=>(Value.slice pa ((qx t).take k).length pc).ownBlock=some j) W3 W7:=Chg.trans m6.any c7 i3;refine ak ⟨rfl,c37,?_⟩;(repeat' (first|refine aa0 (fO rfl (af ?_))|refine aa0 (aa6 (af ?_))));rw [<-take_snoc (uo hkt)] at o7;have z6:=m6.size;have o7':=o7.mono (Pb':=fun b=>w.heap.size<=b) (pq _) (fun b _ e=>by rcases e with e|e;exact e;omega) i3;refine Wt.last rfl (aJ (u:=u') (aeZ W7 c37) rfl (show (5:Nat)<6 by omega) rfl (by obtain ⟨_,_,rfl,_⟩:=o7.form;rfl) fun W8 b8 c8=>?_);refine ak ?_;have g8:=q4.path c37 o7' b8 c8;have z7:=c37.size;have z8:=c8.size;have hown: ∀j,(Value.slice pa ((qx t).take k).length pc).ownBlock=some j->w4.heap.size<=j:=h5;have e38:Chg (fun j=>j=bg∨(Value.slice pa ((qx t).take k).length pc).ownBlock=some j) W3 W8:=Chg.trans (c37.mono fun _ _ e=>.inr e) c8 fun _ _ e=>.inl e;(repeat' (refine dM ?_));refine ⟨e38.block _ qL.lt ?_,e38.block _ qD.lt ?_,Chg.trans q1 e38 fun j hj e=>?_,by omega,q3.chg e38 ?_ ?_,u',g8,?_⟩
  ·rintro (e|e)
   ·omega
   ·exact q4.pa.nl qL e rfl
  ·rintro (e|e)
   ·omega
   ·exact q4.pa.nl qD e rfl
  ·rcases e with e|e
   ·have:=g3.lo2;omega
   ·have:=hown j e;omega
  ·rintro (e|e)
   ·omega
   ·have:=hown _ e;omega
  ·rintro j hj (e|e)
   ·omega
   ·have:=hown _ e;omega
  ·intro j e;rcases lie with l1|l1
   ·exact hown j (l1▸e)
   ·have:=l1 j e;omega
 ·rintro W ⟨h1,h2,h3,pv,h4,h5⟩ hD;rw [apZ] at h4;clear hq n4 g3 n04;generalize hD0:w4.heap.size=D at*;clear I;have anU:w.heap.size<=b6:=h4.lo2.2.1;have anV:bg<D:=by omega
  have hmD:hm<D:=by omega
  (repeat' (first|refine dJ ?_|refine fM ?_));refine gy ?_;refine aP ?_;refine qq4 ?_;refine aC (σ:=Nat×List (Nat×Nat)) (fun q=>[(0,.slice a t.length cap),(6,pT b6),(52,.slice a t.length cap),(53,vi t.length),(54,vi q.1)]) (fun q W=>q.1<=t.length/\sG t=xM q.2 q.1 (t.drop q.1)/\Gr0 w.heap.size bg hm b6 t.length q.2 (qx t) (.slice a t.length cap) wv gv pv W/\New w W/\W.heap[D]? =some (.deferred (some []))) (fun q=>t.length-q.1) (0,[]) (sl rfl) ⟨aoZ _,rfl,h4,h1,hD⟩ ?_;clear h4 h1 hD h2 h3;rintro ⟨i,m⟩ G W ⟨hi,hH,g,nW,hD⟩;dsimp only at hi hH g nW hD;simp only [ql];(repeat' (first|refine qq2 ?_|refine aa2 (fun _=>?_) (fun _=>?_)))
  ·have hil:i<t.length:=by omega
   rw [QC hil] at hH;refine aO (h.keep pU nW.keep) rfl rfl (by omega) (IJ hil) fun b o cs hl hR hat=>?_;obtain ⟨pvn,rfl,hpv⟩:=hR;obtain ⟨na,nc,rfl,_,_⟩:=hpv.form;refine aS hat rfl rfl ?_;clear hat;refine Wl.alloc fun w5 b5 n5 s5=>?_;(repeat' (refine aa7 ?_));refine aK (new:=[vi (ndA t i).parent,vs (ndA t i).name,.slice na (ndA t i).qj.length nc]) b5 rfl rfl rfl rfl zl3 (by intro c hc;simp at hc;rcases hc with rfl|rfl|rfl<;>rfl) fun w6 b6' c6 s6=>?_;replace b6':Bk w6 W.heap.size 73 [vi (ndA t i).parent,vs (ndA t i).name,.slice na (ndA t i).qj.length nc]:=b6';have n6:New W w6:=(Chg.trans n5.any c6 i3).tN
   clear b5 n5 c6;refine qq2 ?_;refine bD b6' rfl rfl ?_;refine au (CG (x:=ndA t i) (nm:=wu) (hpv.keep (pI pC) n6.keep)) rfl ?_;rintro _ w7 ⟨rfl,n7⟩;have n67:=New.trans n6 n7;have ev1: ∀o:Option (List UInt8),Ns o=.tuple #[vs (o.getD []),.bool o.isSome]:=fun o=>by cases o<;>rfl
   rw [ev1];have hvl:((uO t i wu).getD []).length<=1024:=Ac hok hil;have hhm:xu (ndA t i)=(Jz ((val (ndA t i).qj wu).getD [])).getD 0:=rfl;generalize hvv:(val (ndA t i).qj wu).getD []=txt at hhm;have hvl:txt.length<=1024:=by rw [<-hvv];exact hvl
   refine qq5 ?_;refine au (Gm (l:=txt) (by omega)) rfl ?_;rintro _ w8 ⟨rfl,n8⟩;have n68:=New.trans n67 n8;obtain ⟨n,hn,hnl⟩:=JE txt;have hcm:Jz txt=if (only 0 (form 4 txt) (nums 4 txt)).2=0 then some (only 0 (form 4 txt) (nums 4 txt)).1.toNat else none:=rfl;rw [hn,ao3] at hcm;rw [hn];generalize (only 0 (form 4 txt) (nums 4 txt)).2=e8 at hcm;have g8:=g.new n68;have n08:=New.trans nW n68;have hD8:w8.heap[D]? =some (.deferred (some [])):=(n68.block _ (Array.getElem?_eq_some_iff.1 hD).1 id).trans hD;have nx: ∀(w':World) (G':Fr) (m':List (Nat×Nat)),Gr0 w.heap.size bg hm b6 t.length m' (qx t) (.slice a t.length cap) wv gv pv w'->New w w'->w'.heap[D]? =some (.deferred (some []))->sG t=xM m' (i+1) (t.drop (i+1))->(i+1<=t.length/\sG t=xM m' (i+1) (t.drop (i+1))/\Gr0 w.heap.size bg hm b6 t.length m' (qx t) (.slice a t.length cap) wv gv pv w'/\New w w'/\w'.heap[D]? =some (.deferred (some []))):=fun w' _ m' q1 q2 q3 q4=>⟨by omega,q4,q1,q2,q3⟩;refine qq5 ?_;refine ah (u:=pT bg) rfl (g8.v6.cell (o:=0) rfl) ?_;refine qq5 ?_;refine ah (u:=.map (some hm)) rfl (g8.b.cell (o:=1) rfl) ?_;(repeat' (refine aa1 ?_));refine kK kU g8.mp (acH hnl) rfl rfl (fun r hr=>?_) (fun hr=>?_)
   ·have hno: ¬(m.all (fun p=>decide (p.1≠n))=true):=by intro hall;obtain ⟨p,hp,e⟩:=List.mem_map.1 hr;simp only [Prod.mk.injEq,Value.int.injEq,true_and] at e;have:=List.all_eq_true.1 hall p hp;rw [decide_eq_true_eq] at this;exact this (by omega)
    have hif:(if xu (ndA t i)≠0/\m.all (fun p=>decide (p.1≠xu (ndA t i)))=true then m++ [(xu (ndA t i),i)] else m)=m:=by
     rw [if_neg];rintro ⟨q1,q2⟩;rw [hhm,hcm] at q1 q2;by_cases he:e8=0
     ·rw [if_pos he] at q2;exact hno q2
     ·rw [if_neg he] at q1;exact q1 rfl
    rw [hif] at hH;(repeat' (first|refine qq4 ?_|refine bH rfl rfl (fun _=>?_) (fun _=>?_)|refine aa4 (fun _=>?_) (fun _=>?_)))
    all_goals exact aA (i+1,m) (sl rfl) (nx _ G m g8 n08 hD8 hH) (by dsimp only;omega)
   ·have hall:m.all (fun p=>decide (p.1≠n))=true:=by rw [List.all_eq_true];intro p hp;have:=hr _ (List.mem_map.2 ⟨p,hp,rfl⟩);simp only [ne_eq,Value.int.injEq,true_and] at this;rw [decide_eq_true_eq];omega
    have hif:(e8=0/\n≠0)∨(if xu (ndA t i)≠0/\m.all (fun p=>decide (p.1≠xu (ndA t i)))=true then m++ [(xu (ndA t i),i)] else m)=m:=by
     by_cases he:e8=0
     ·by_cases hn0:n=0
      ·right;rw [if_neg];rintro ⟨q1,_⟩;rw [hhm,hcm,if_pos he] at q1;exact q1 hn0
      ·exact .inl ⟨he,hn0⟩
     ·right;rw [if_neg];rintro ⟨q1,_⟩;rw [hhm,hcm,if_neg he] at q1;exact q1 rfl
    (repeat' (first|refine qq4 ?_|refine bH rfl rfl (fun _=>?_) (fun _=>?_)|refine aa4 (fun _=>?_) (fun _=>?_)))
    ·have hput:(if xu (ndA t i)≠0/\m.all (fun p=>decide (p.1≠xu (ndA t i)))=true then m++ [(xu (ndA t i),i)] else m)=m++ [(n,i)]:=by
      have he:xu (ndA t i)=n:=by rw [hhm,hcm,if_pos (by omega)];rfl
      rw [he,if_pos ⟨by omega,hall⟩]
     rw [hput] at hH;refine ah (u:=pT bg) rfl (g8.v6.cell (o:=0) rfl) ?_;refine qq5 ?_;refine ah (u:=.map (some hm)) rfl (g8.b.cell (o:=1) rfl) ?_;(repeat' (refine aa1 ?_));refine iq (u:=vi i) kU g8.mp (acH hnl) hr rfl rfl rfl fun w9 m9 c9 s9=>?_;have g9:=g8.map c9 (m':=m++ [(n,i)]) (by simpa [CQ] using m9);have hlm:=g.lo2.2.2;refine qq4 ?_;exact aA (i+1,m++ [(n,i)]) (sl rfl) (nx _ G _ g9 ((Chg.trans (M:=fun k=>k=hm) n08.any c9 fun k _ e=>e).tN) ((c9.block _ (Array.getElem?_eq_some_iff.1 hD8).1 (by omega)).trans hD8) hH) (by dsimp only;omega)
    all_goals
     rcases hif with hif|hif
     ·exfalso;omega
     ·rw [hif] at hH;exact aA (i+1,m) (sl rfl) (nx _ G m g8 n08 hD8 hH) (by dsimp only;omega)
  obtain rfl:i=t.length:=by omega
  rw [aqi] at hH;obtain rfl:sG t=m:=hH;have ga:=g.mp;have g6:=g.v6;have hlm:=g.lo2.2.2;have gA:=GrA.of0 g (h.keep pU nW.keep);clear ga;let ae0:Nat->List xC->Prop:=fun i bs=>bs.map (·.2)=(abS t.length).map fun j=>if j<i then DK t j else [];have ae1:ae0 0 (apW t.length (.slice none 0 0,[])):=by
   show arx _ _=_;rw [arU];apply ao6;intro j;rw [arJ,apF];by_cases hj:j<t.length
   ·rw [if_pos hj,aq3 hj];rfl
   ·rw [if_neg hj,aoS (by simpa using hj)];rfl
  refine aC (σ:=Nat×Value×List xC) (fun q=>[(0,.slice a t.length cap),(6,pT b6),(95,.slice a t.length cap),(96,vi t.length),(97,vi q.1)]) (fun q W=>q.1<=t.length/\ae0 q.1 q.2.2/\GrA w.heap.size bg hm b6 t (sG t) ((abS q.1).flatMap (BK t)) q.2.2 (apW t.length false) (qx t) (.slice a t.length cap) q.2.1 wv gv pv W/\Bk W b6 140 [pT bg]/\New w W/\W.heap[D]? =some (.deferred (some []))) (fun q=>t.length-q.1) (0,.slice none 0 0,apW t.length (.slice none 0 0,[])) (sl rfl) ⟨aoZ _,ae1,gA,g6,nW,hD⟩ ?_;clear g gA g6 nW hD ae1;rintro ⟨i,ev,bs⟩ G3 W ⟨hi,hbs,g,g6,nW,hD⟩;dsimp only at hi hbs g g6 nW hD;simp only [ql];(repeat' (first|refine qq2 ?_|refine aa2 (fun _=>?_) (fun _=>?_)))
  ·have hil:i<t.length:=by omega
   refine aC (σ:=Nat×Value) (fun q=>[(0,.slice a t.length cap),(6,pT b6),(16,vi i),(17,.int .u8 q.1),(95,.slice a t.length cap),(96,vi t.length),(97,vi i)]) (fun q W=>1<=q.1/\q.1<=6/\GrA w.heap.size bg hm b6 t (sG t) ((abS i).flatMap (BK t)++Ai t i q.1) bs (apW t.length false) (qx t) (.slice a t.length cap) q.2 wv gv pv W/\Bk W b6 140 [pT bg]/\New w W/\W.heap[D]? =some (.deferred (some []))) (fun q=>6-q.1) (1,ev) (sl rfl) ⟨aat _,by dsimp only;omega,by simpa [Ai] using g,g6,nW,hD⟩ ?_;clear g g6 nW hD;rintro ⟨k,ev⟩ G4 W ⟨hk1,hk6,g,g6,nW,hD⟩;dsimp only at hk1 hk6 g g6 nW hD;simp only [ql];have hDl:=(Array.getElem?_eq_some_iff.1 hD).1;have ae2:=g6.lt;have hzW:=nW.size;have anW:=vT hok i (by omega);have acS:=MF hok hil k;(repeat' (first|refine qq0 ?_|refine dW rfl rfl (fun _=>?_) (fun _=>?_)|refine aW rfl rfl (fun _=>?_) (fun _=>?_)))
   ·refine ah (u:=pT bg) rfl (g6.cell (o:=0) rfl) ?_;(repeat' (refine aa1 ?_));have hz:=g.zone ae2 hzW;have hnz: ¬Zn w.heap.size bg hm b6 bs wv gv pv bg/\ ¬Zn w.heap.size bg hm b6 bs wv gv pv bg/\ ¬Zn w.heap.size bg hm b6 bs wv gv pv hm/\hm≠bg:=⟨fun e=>e.2.1 rfl,fun e=>e.2.1 rfl,fun e=>e.2.2.2.1 rfl,fun e=>g.b.rZ g.mp e.symm⟩;have hlz:w.heap.size<=bg/\ ∀b,b<w.heap.size-> ¬Zn w.heap.size bg hm b6 bs wv gv pv b:=⟨g.lo2.1,fun b hb e=>by have:=e.1;omega⟩;refine au (L9 (kind:=k) (soft:=false) g.b g.tr hok hil hk1 (by omega) g.mp g.ed (by simp only [adL];omega) hz hz hnz hlz) rfl ?_;rintro u w5 ⟨ev5,b5,KX,c5,_⟩;have g5:=g.read b5 KX c5;have hne: ∀k,ev.ownBlock=some k->w.heap.size<=k/\k≠b6/\k≠D:=fun k hk=>⟨(g.ed.lt hk).1.1,(g.ed.lt hk).1.2.2.1,g.ed.nl (.mark hD) hk⟩;have g65:=g6.chg c5 fun e=>e.elim (fun e=>g6.pR g.b rfl e) fun e=>(hne _ e).2.1 rfl;have hD5:=(c5.block _ hDl fun e=>e.elim (fun e=>by omega) fun e=>(hne _ e).2.2 rfl).trans hD;have n5:New w w5:=(Chg.trans nW.any c5 fun k _ e=>e).toNew fun k hk e=>by
     rcases e with e|e
     ·omega
     ·have:=(hne k e).1;omega
    have ajW:=(Array.getElem?_eq_some_iff.1 hD5).1;clear hne hz hnz hlz c5 b5 KX;refine qq2 ?_;refine ah (u:=pT bg) rfl (g65.cell (o:=0) rfl) ?_;(repeat' (refine aa1 ?_));have hz:=g5.zone g65.lt n5.size;have hnz: ¬Zn w.heap.size bg hm b6 bs wv gv pv bg/\ ¬Zn w.heap.size bg hm b6 bs wv gv pv bg/\ ¬Zn w.heap.size bg hm b6 bs wv gv pv hm/\hm≠bg:=⟨fun e=>e.2.1 rfl,fun e=>e.2.1 rfl,fun e=>e.2.2.2.1 rfl,fun e=>g.b.rZ g.mp e.symm⟩;have hlz:w.heap.size<=bg/\ ∀b,b<w.heap.size-> ¬Zn w.heap.size bg hm b6 bs wv gv pv b:=⟨g.lo2.1,fun b hb e=>by have:=e.1;omega⟩;have anX:=GV hok hil k false;refine au (L9 (kind:=k) (soft:=true) g5.b g5.tr hok hil hk1 (by omega) g5.mp g5.ed (by simp only [adL];omega) hz hz hnz hlz) rfl ?_;rintro u w6 ⟨ev6,b6',WU,c6,_⟩;have g7:=g5.read b6' WU c6;have hne: ∀k,ev5.ownBlock=some k->w.heap.size<=k/\k≠b6/\k≠D:=fun k hk=>⟨(g5.ed.lt hk).1.1,(g5.ed.lt hk).1.2.2.1,g5.ed.nl (.mark hD5) hk⟩;have g67:=g65.chg c6 fun e=>e.elim (fun e=>g65.pR g5.b rfl e) fun e=>(hne _ e).2.1 rfl;have hD7:=(c6.block _ ajW fun e=>e.elim (fun e=>by omega) fun e=>(hne _ e).2.2 rfl).trans hD5;have n7:New w w6:=(Chg.trans n5.any c6 fun k _ e=>e).toNew fun k hk e=>by
     rcases e with e|e
     ·omega
     ·have:=(hne k e).1;omega
    clear hne hz hnz hlz c6 b6' WU g5 g65 hD5 n5;refine qq4 ?_;refine jA rfl rfl ?_;rw [show (k:Int)+1=((k+1:Nat):Int) from rfl,w8 (by omega)];refine qq0 ?_;refine aA (k+1,ev6) (sl rfl) ⟨by dsimp only;omega,by dsimp only;omega,?_,g67,n7,hD7⟩ (by dsimp only;omega);dsimp only;rw [TI hk1 (by omega)];simpa using g7
   ·have hes:(abS i).flatMap (BK t)++Ai t i k=(abS (i+1)).flatMap (BK t):=by
     have:k=6:=by omega
     subst this;rw [arz,arl];simp [BK,Ai]
    rw [hes] at g;have hb2:bs.length=t.length:=by have:=congrArg aq0 hbs;simpa using this
    have hpi:=vM hok (i:=i) (by omega) hil;have hne0:bs≠ []:=by intro e;rw [e] at hb2;simp at hb2;omega
    obtain ⟨wg,wc,hwv,hwl,ae3,hob⟩:=g.wa.row.blk hne0;obtain ⟨x,hx⟩:=pz bs (k:=i) (by omega);subst hwv;refine aX rfl (by kernel_rfl) (fun w'=>New W w') (Chg.drew _ _) ?_;intro w5 n5;refine aa0 (ax (u:=pT bg) rfl (fun w' hw=>(g6.chg hw id).cell (o:=0) rfl) (af ?_));refine tJ ?_;refine aa0 (ax (u:=.slice (some ⟨wg,0,none⟩) bs.length wc) rfl (fun w' hw=>(g.b.chg hw id).cell (o:=3) rfl) (af ?_));(repeat' (refine aa0 (aa3 (af ?_))));refine aa0 (aY g.tr (fun w' hw=>hw.keep) rfl rfl (by omega) (IJ hil) fun b o cs hl hR hat=>af ?_);obtain ⟨pv1,rfl,_⟩:=hR;(repeat' (refine aa0 (aa6 (af ?_))));refine aa0 (ax (u:=vi (par t i)) rfl (fun w' hw=>by rw [<-hpi.2];exact (hat w' hw).get 0 rfl) (af ?_));clear hat;refine aH rfl (bF (R:=Wk.one viN) (Pe:=NoB) (y:=par t i) qQ rfl rfl rfl rfl (by omega) (by omega) fun v6 w6 o6 n6 s6 e6=>?_);have n56:=n5.trans n6;refine ak ⟨rfl,n56,?_⟩;refine aa0 (aa8 (af ?_));refine Wt.last rfl (dR (f:=(·.1:xC->Value)) (q:=(v6,[par t i])) (j:=i) (cap:=wc) (g.wa.row.new (oH _) n56) rfl (by omega) (by show Value.pointer (some ⟨wg,0+(i:Int).toNat*1,none⟩)=_;simp) rfl rfl (by obtain ⟨_,_,rfl,_⟩:=o6.form;rfl) fun w7 o7 c7=>?_);refine ak ?_;have hz5:=n5.size;have g7:=g.want hx (x':=(v6,[par t i])) (w1:=w6) (o6.mono (pq _) (fun b _ e=>by have h9:w5.heap.size<=b:=e;omega) i3) n56.any (.inr fun k hk=>by have h9:w5.heap.size<=k:=(o6.lt hk).1;omega) o7 c7;have c07:Chg (fun k=>k=wg) W w7:=Chg.trans n56.any c7 fun k _ e=>by cases e;rfl
    have hwD:wg≠D:=g.wa.row.nl (.mark hD) rfl;have hw6:wg≠b6:=g.wa.row.pR g6 rfl rfl;refine qq4 ?_;refine aA (i+1,ev,bs.set i (v6,[par t i])) (sl rfl) ⟨by dsimp only;omega,?_,g7,g6.chg c07 (fun e=>hw6 e.symm),(Chg.trans (M:=fun k=>k=wg) nW.any c07 fun k _ e=>e).tN,(c07.block _ hDl (fun e=>hwD e.symm)).trans hD⟩ (by dsimp only;omega);show arx _ (bs.set i _)=_;rw [arB,show arx (·.2) bs=_ from hbs,Dw hil];apply aqb;intro j _;by_cases e1:j=i
    ·rw [if_pos e1,if_pos (by omega)];unfold DK;rw [if_pos (by omega),e1]
    ·rw [if_neg e1];by_cases e2:j<i
     ·rw [if_pos e2,if_pos (by omega)]
     ·rw [if_neg e2,if_neg (by omega)]
   ·have hes:(abS i).flatMap (BK t)++Ai t i k=(abS (i+1)).flatMap (BK t):=by
     have:k=6:=by omega
     subst this;rw [arz,arl];simp [BK,Ai]
    rw [hes] at g;refine aA (i+1,ev,bs) (sl rfl) ⟨by dsimp only;omega,?_,g,g6,nW,hD⟩ (by dsimp only;omega);have hi0:i=0:=by omega
    show arx _ bs=_;rw [show arx (·.2) bs=_ from hbs];apply aqb;intro j _;dsimp only;rw [hi0,if_neg (by omega)];by_cases e2:j<0+1
    ·rw [if_pos e2];unfold DK;rw [if_neg (by omega)]
    ·rw [if_neg e2]
  ·obtain rfl:i=t.length:=by omega
   have hed:(abS t.length).flatMap (BK t)=pK t:=rfl;rw [hed] at g;have hel:=vT hok t.length (aat _);rw [hed] at hel;have ae4:bs.map (·.2)=(abS t.length).map fun j=>DK t j++((pK t).take 0).filterMap (xO j):=by rw [show arx (·.2) bs=_ from hbs];apply aqb;intro j hj;rw [if_pos (by simpa using hj)];simp
   obtain ⟨ea,ec,rfl,_,_⟩:=g.ed.form;refine ah (u:=pT bg) rfl (g6.cell (o:=0) rfl) ?_;refine qq5 ?_;refine ah (u:=.slice ea (pK t).length ec) rfl (g.b.cell (o:=2) rfl) ?_;refine qq6 ?_;clear hbs;refine aC (σ:=Nat×List xC×List Bool) (fun q=>[(6,pT b6),(130,.slice ea (pK t).length ec),(131,vi (pK t).length),(132,vi q.1)]) (fun q W=>q.1<=(pK t).length/\q.2.1.map (·.2)=((abS t.length).map fun j=>DK t j++((pK t).take q.1).filterMap (xO j))/\q.2.2.length=t.length/\GrA w.heap.size bg hm b6 t (sG t) (pK t) q.2.1 q.2.2 (qx t) (.slice a t.length cap) (.slice ea (pK t).length ec) wv gv pv W/\Bk W b6 140 [pT bg]/\New w W/\W.heap[D]? =some (.deferred (some []))) (fun q=>(pK t).length-q.1) (0,bs,apW t.length false) (sl rfl) ⟨aoZ _,ae4,by simp,g,g6,nW,hD⟩ ?_;clear g g6 nW hD ae4;rintro ⟨k,bs,gs⟩ G5 W ⟨hk,hbs,hgl,g,g6,nW,hD⟩;dsimp only at hk hbs hgl g g6 nW hD;simp only [ql];have hDl:=(Array.getElem?_eq_some_iff.1 hD).1;have hzW:=nW.size;(repeat' (first|refine qq2 ?_|refine aa2 (fun _=>?_) (fun _=>?_)))
   ·obtain ⟨e,he⟩:=pz (pK t) (k:=k) (by omega);have hlt:=uU e (apD he);have hb2:bs.length=t.length:=by have:=congrArg aq0 hbs;simpa using this
    refine aO (g.ed.rd qI.mo) rfl rfl (by omega) he fun b o cs hl hR hat=>?_;obtain ⟨av,rfl,hav⟩:=hR;obtain ⟨aa,ac,rfl,_,_⟩:=hav.form;refine aS hat rfl rfl ?_;clear hat;refine Wl.alloc fun w5 b5 n5 s5=>?_;refine aK (new:=edC e (.slice aa e.args.length ac)) b5 rfl rfl rfl rfl zl6 P9 fun w6 b6' c6 s6=>?_;replace b6':Bk w6 W.heap.size 100 (edC e (.slice aa e.args.length ac)):=b6';have n6:New W w6:=(Chg.trans n5.any c6 i3).tN
    clear b5 n5 c6 hav;have g':=g.new n6;have g66:=g6.chg n6 id;have n06:=New.trans nW n6;have hD6:w6.heap[D]? =some (.deferred (some [])):=(n6.block _ hDl id).trans hD;have ae5:=(Array.getElem?_eq_some_iff.1 hD6).1;have hxl:=b6'.lt;clear g g6;have hst: ∀j,DK t j++((pK t).take (k+1)).filterMap (xO j)=(DK t j++((pK t).take k).filterMap (xO j))++(xO j e).toList:=fun j=>by rw [take_snoc he,List.filterMap_append,adI];congr 2
    have hno:(∀j,xO j e=none)->bs.map (·.2)=(abS t.length).map fun j=>DK t j++((pK t).take (k+1)).filterMap (xO j):=fun hh=>by rw [hbs];apply aqb;intro j _;rw [hst,hh];simp
    refine qq2 ?_;refine ah (u:=.bool e.soft) rfl (b6'.cell (o:=3) rfl) ?_;refine qq8 ?_;cases hso:e.soft
    ·refine qq4 ?_;refine ah (u:=vi (qC e.dst)) rfl (b6'.cell (o:=1) rfl) ?_;cases hds:e.dst with
     |none=>
      rw [show qC none=(-1:Int) from rfl];have hno':=hno fun j=>by unfold xO;rw [hds];split<;>rfl
      have hne0:gs≠ []:=by intro e;rw [e] at hgl;simp at hgl;omega
      obtain ⟨gg,gc,hgv,hgw,anY,hob⟩:=g'.ga.blk hne0;subst hgv;(repeat' (first|refine qq1 ?_|(refine aa2 (fun _=>?_) (fun _=>?_)<;>(first|(exfalso;omega)|skip))));refine aX rfl (by kernel_rfl) (fun w'=>New w6 w') (Chg.drew _ _) ?_;intro w7 n7;refine aa0 (ax (u:=pT bg) rfl (fun w' hw=>(g66.chg hw id).cell (o:=0) rfl) (af ?_));refine tJ ?_;refine aa0 (ax (u:=.slice (some ⟨gg,0,none⟩) gs.length gc) rfl (fun w' hw=>(g'.b.chg hw id).cell (o:=4) rfl) (af ?_));(repeat' (refine aa0 (aa6 (af ?_))));refine aa0 (ax (u:=vi e.src) rfl (fun w' hw=>(b6'.chg hw id).cell (o:=0) rfl) (af ?_));refine aa0 (aa8 (af ?_));refine Wt.last rfl (dR (f:=vbo) (q:=true) (j:=e.src) (cap:=gc) (g'.ga.new (oJ _) n7) rfl (by omega) (by show Value.pointer (some ⟨gg,0+(e.src:Int).toNat*1,none⟩)=_;simp) rfl rfl rfl fun w8 o8 c8=>?_);refine ak ?_;have g8:=(g'.new n7).gap o8 c8;have c68:Chg (fun k=>k=gg) w6 w8:=Chg.trans n7.any c8 fun k _ e=>by cases e;rfl
      have hwD:gg≠D:=g'.ga.nl (.mark hD6) rfl;have hw6:gg≠b6:=g'.ga.pR g66 rfl rfl;refine qq4 ?_;exact aA (k+1,bs,gs.set e.src true) (sl rfl) ⟨by dsimp only;omega,hno',by simpa using hgl,g8,g66.chg c68 (fun e=>hw6 e.symm),(Chg.trans (M:=fun k=>k=gg) n06.any c68 fun k _ e=>e).tN,(c68.block _ ae5 (fun e=>hwD e.symm)).trans hD6⟩ (by dsimp only;omega)
     |some d=>
      rw [show qC (some d)=(d:Int) from rfl];have hne0:bs≠ []:=by intro e;rw [e] at hb2;simp at hb2;omega
      obtain ⟨wg,wc,hwv,hwl,ae3,hob⟩:=g'.wa.row.blk hne0;obtain ⟨⟨xv,xl⟩,hx⟩:=pz bs (k:=e.src) (by omega);have hxo:=g'.wa.el _ (apD hx);dsimp only at hxo;obtain ⟨xa,xc,rfl,abg,Y4⟩:=hxo.form;have Y5:xl=DK t e.src++((pK t).take k).filterMap (xO e.src):=by have h1:=congrArg (fun l=>l[e.src]?) hbs;simp only [apF,hx,aq3 hlt.1,adJ,Option.some.injEq] at h1;exact h1
      have ae6:xl.length<=10000000:=by
       rw [Y5,adL];have h1:(DK t e.src).length<=1:=by unfold DK;split<;>simp
       have h2:=arV (xO e.src) ((pK t).take k);have h3:((pK t).take k).length<=(pK t).length:=by rw [apb];omega
       omega
      subst hwv;(repeat' (first|refine qq8 ?_|(refine aa2 (fun _=>?_) (fun _=>?_)<;>(first|(exfalso;omega)|skip))));refine aX rfl (by kernel_rfl) (fun w'=>Chg (fun j=>(Value.slice xa xl.length xc).ownBlock=some j) w6 w') (Chg.drew _ _) ?_;intro w7 n7;have h6': ∀w',Chg (fun j=>(Value.slice xa xl.length xc).ownBlock=some j) w6 w'->Bk w' b6 140 [pT bg]:=fun w' c=>g66.chg c fun e=>hxo.pR g66 rfl e rfl;have hg': ∀w',Chg (fun j=>(Value.slice xa xl.length xc).ownBlock=some j) w6 w'->Bk w' bg 145 (grC (.slice a t.length cap) hm (.slice ea (pK t).length ec) (.slice (some ⟨wg,0,none⟩) bs.length wc) gv pv):=fun w' c=>g'.b.chg c fun e=>hxo.pR g'.b rfl e rfl;have hx': ∀w',Chg (fun j=>(Value.slice xa xl.length xc).ownBlock=some j) w6 w'->Bk w' W.heap.size 100 (edC e (.slice aa e.args.length ac)):=fun w' c=>b6'.chg c fun e=>hxo.pR b6' rfl e rfl;refine aa0 (ax (u:=pT bg) rfl (fun w' hw=>(h6' w' hw).cell (o:=0) rfl) (af ?_));refine tJ ?_;refine aa0 (ax (u:=.slice (some ⟨wg,0,none⟩) bs.length wc) rfl (fun w' hw=>(hg' w' hw).cell (o:=3) rfl) (af ?_));(repeat' (refine aa0 (aa6 (af ?_))));refine aa0 (ax (u:=vi e.src) rfl (fun w' hw=>(hx' w' hw).cell (o:=0) rfl) (af ?_));refine aa0 (ax (u:=pT bg) rfl (fun w' hw=>(h6' w' hw).cell (o:=0) rfl) (af ?_));refine tJ ?_;refine aa0 (ax (u:=.slice (some ⟨wg,0,none⟩) bs.length wc) rfl (fun w' hw=>(hg' w' hw).cell (o:=3) rfl) (af ?_));(repeat' (refine aa0 (aa6 (af ?_))));refine aa0 (ax (u:=vi e.src) rfl (fun w' hw=>(hx' w' hw).cell (o:=0) rfl) (af ?_));refine aa0 (aa8 (af ?_));have hrow: ∀w',Chg (fun j=>(Value.slice xa xl.length xc).ownBlock=some j) w6 w'->w'.cell? ⟨wg,0+(e.src:Int).toNat*1,none⟩=some (.slice xa xl.length xc):=fun w' c=>by have h9:=(g'.wa.row.chg (oH _) c fun j hj e=>g'.wa.wG _ (apD hx) j e hj).at rfl rfl hx;have:=h9.get 0 rfl;simpa using this
      refine aa0 (ax (u:=.slice xa xl.length xc) rfl hrow (af ?_));(repeat' (refine aa0 (aa6 (af ?_))));refine aa0 (ax (u:=vi d) rfl (fun w' hw=>by have:=(hx' w' hw).cell (o:=1) (u:=vi (qC e.dst)) rfl;rw [hds] at this;exact this) (af ?_));refine aH rfl (bF (R:=Wk.one viN) (Pe:=NoB) (y:=d) qQ rfl rfl rfl rfl (by omega) (by omega) fun v8 w8 o8 n8 s8 e8=>?_);have n78:=n7.trans n8;refine ak ⟨rfl,n78.any,?_⟩;refine aH rfl (bI qQ (hxo.new (oJ _) n78) (o8.rd qQ.mo) (fun y cs hy=>hy) rfl rfl (by omega) (by simp only [maxLen,apm];omega) (by simp only [apm];omega) fun v9 w9 o9 c9 lie _=>?_);have c69:Chg (fun j=>(Value.slice xa xl.length xc).ownBlock=some j) w6 w9:=Chg.trans n78.any c9 i3;refine ak ⟨rfl,c69,?_⟩;refine aa0 (aa8 (af ?_));have ajX:=n78.size;refine Wt.last rfl (dR (f:=(·.1:xC->Value)) (q:=(v9,xl++ [d])) (j:=e.src) (cap:=wc) (g'.wa.row.chg (oH _) c69 fun j hj e=>g'.wa.wG _ (apD hx) j e hj) rfl (by omega) (by show Value.pointer (some ⟨wg,0+(e.src:Int).toNat*1,none⟩)=_;simp) rfl rfl (by obtain ⟨_,_,rfl,_⟩:=o9.form;rfl) fun w10 o10 c10=>?_);refine ak ?_;have NZ:v9.ownBlock=(Value.slice xa xl.length xc).ownBlock∨ ∀k,v9.ownBlock=some k->w6.heap.size<=k:=lie.imp id fun h9 k hk=>by have:=h9 k hk;omega
      have g10:=g'.want hx (x':=(v9,xl++ [d])) (w1:=w9) (o9.mono (pq _) (fun b _ e=>by rcases e with e|e;exact e;omega) i3) c69 NZ o10 c10;have GX:Chg (fun j=>(Value.slice xa xl.length xc).ownBlock=some j∨j=wg) w6 w10:=Chg.trans (c69.mono fun k _ e=>Or.inl e) c10 fun k _ e=>by cases e;exact .inr rfl
      have hwD:wg≠D:=g'.wa.row.nl (.mark hD6) rfl;have hw6:wg≠b6:=g'.wa.row.pR g66 rfl rfl;have hxD: ∀j,(Value.slice xa xl.length xc).ownBlock=some j->j≠D/\j≠b6/\w.heap.size<=j:=fun j hj=>⟨hxo.nl (.mark hD6) hj,hxo.pR g66 rfl hj,(hxo.lt hj).1⟩;refine qq4 ?_;refine aA (k+1,bs.set e.src (v9,xl++ [d]),gs) (sl rfl) ⟨by dsimp only;omega,?_,hgl,g10,g66.chg GX (fun e=>e.elim (fun e=>(hxD _ e).2.1 rfl) fun e=>hw6 e.symm),(Chg.trans (M:=fun j=>(Value.slice xa xl.length xc).ownBlock=some j∨j=wg) n06.any GX fun k _ e=>e).toNew fun k hk e=>by rcases e with e|e;(have:=(hxD k e).2.2;omega);omega,(GX.block _ ae5 (fun e=>e.elim (fun e=>(hxD _ e).1 rfl) fun e=>hwD e.symm)).trans hD6⟩ (by dsimp only;omega);show arx _ (bs.set e.src _)=_;rw [arB,hbs,Dw hlt.1];apply aqb;intro j _;dsimp only;rw [hst j];by_cases e1:j=e.src
      ·rw [if_pos e1,Y5,e1];unfold xO;rw [if_pos ⟨rfl,hso⟩,hds];rfl
      ·rw [if_neg e1];unfold xO;rw [if_neg (fun h=>e1 h.1.symm)];simp
    ·have hno':=hno fun j=>by unfold xO;rw [if_neg (fun h=>by rw [hso] at h;cases h.2)]
     refine qq3 ?_;exact aA (k+1,bs,gs) (sl rfl) ⟨by dsimp only;omega,hno',hgl,g',g66,n06,hD6⟩ (by dsimp only;omega)
   ·obtain rfl:k=(pK t).length:=by omega
    rw [apZ] at hbs;refine ah (u:=pT bg) rfl (g6.cell (o:=0) rfl) ?_;refine qq6 ?_;refine Qdn.e ?_;refine gB (by simp) hD ?_;have hnD:NoC W D:=.mark hD;refine dL (v:=.tuple #[pT bg,vi 0]) (rO rfl (qy rfl) (qy rfl)) ⟨_,rfl,⟨bg,hm,.slice ea (pK t).length ec,wv,gv,pv,gs,bs,rfl,?_,hbs,hgl⟩,nW.put _ (by omega)⟩;exact (g.put _ hnD (by omega) (by omega)).aeX
 ·exact fun _ h=>h.elim
 ·exact fun _ _ h=>h.elim
open Classical in
noncomputable def FO (W:Nat->List Nat) (n i:Nat):List Bool:=(abS n).map fun k=>decide (Rch W i k)
theorem QE (W:Nat->List Nat) (n i:Nat):(FO W n i).length=n:=by simp [FO]
theorem CS {W:Nat->List Nat} {n i k:Nat} (hk:k<n): ∃b,(FO W n i)[k]? =some b/\(b=true↔Rch W i k):=by
 unfold FO;refine ⟨_,by rw [apF,aq3 hk];rfl,?_⟩;simp
structure Mrk (W:Nat->List Nat) (i:Nat) (ks:List Nat) (S S':List Bool):Prop where
 len:S'.length=S.length
 mo: ∀k:Nat,S[k]? =some true->S'[k]? =some true
 snd: ∀k:Nat,S'[k]? =some true->S[k]? =some true∨Rch W i k
 all: ∀k∈ks,S'[k]? =some true
 cl: ∀k:Nat,S'[k]? =some true->S[k]? =some true∨ ∀m∈W k,S'[m]? =some true
theorem kT (W:Nat->List Nat) (i:Nat) (S:List Bool):Mrk W i [] S S:=⟨rfl,fun _ h=>h,fun _ h=>.inl h,by simp,fun _ h=>.inl h⟩
theorem Mrk.skip {W:Nat->List Nat} {i k:Nat} {ks:List Nat} {S S':List Bool} (h:Mrk W i ks S S') (hk:S'[k]? =some true):Mrk W i (ks++ [k]) S S':=
 ⟨h.len,h.mo,h.snd,fun m hm=>by
   rcases List.mem_append.1 hm with hm|hm
   ·exact h.all m hm
   ·rw [List.mem_singleton.1 hm];exact hk,h.cl⟩
theorem Mrk.step {W:Nat->List Nat} {i k:Nat} {ks:List Nat} {S S1 S2:List Bool} (h:Mrk W i ks S S1) (hk:k∈W i) (hl:k<S1.length) (h2:Mrk W k (W k) (S1.set k true) S2):Mrk W i (ks++ [k]) S S2:=by
 have hset: ∀m:Nat,(S1.set k true)[m]? =some true↔m=k∨S1[m]? =some true:=fun m=>by
  rw [apo];by_cases e:k=m
  ·subst e;simp [hl]
  ·rw [if_neg e];constructor
   ·exact .inr
   ·rintro (e2|e2)
    ·exact absurd e2.symm e
    ·exact e2
 have mo2: ∀m:Nat,S1[m]? =some true->S2[m]? =some true:=fun m hm=>h2.mo m ((hset m).2 (.inr hm));have hk2:S2[k]? =some true:=h2.mo k ((hset k).2 (.inl rfl));refine ⟨by rw [h2.len,aqY,h.len],fun m hm=>mo2 m (h.mo m hm),fun m hm=>?_,fun m hm=>?_,fun m hm=>?_⟩
 ·rcases h2.snd m hm with e|e
  ·rcases (hset m).1 e with rfl|e
   ·exact .inr (.one hk)
   ·exact h.snd m e
  ·exact .inr (Rch.trans (.one hk) e)
 ·rcases List.mem_append.1 hm with hm|hm
  ·exact mo2 m (h.all m hm)
  ·rw [List.mem_singleton.1 hm];exact hk2
 ·rcases h2.cl m hm with e|e
  ·rcases (hset m).1 e with rfl|e
   ·exact .inr h2.all
   ·rcases h.cl m e with e2|e2
    ·exact .inl e2
    ·exact .inr fun q hq=>mo2 q (e2 q hq)
  ·exact .inr e
theorem Mrk.full {W:Nat->List Nat} {i n:Nat} {S':List Bool} (h:Mrk W i (W i) (apW n false) S'):S'=FO W n i:=by
 have hf: ∀k:Nat,(apW n false)[k]? ≠some true:=fun k e=>by rw [arJ] at e;split at e<;>cases e
 have hin: ∀k,Rch W i k->S'[k]? =some true:=by
  intro k hk;induction hk with
  |one h1=>exact h.all _ h1
  |more _ h1 ih=>exact (h.cl _ ih).resolve_left (hf _) _ h1
 have hl:S'.length=n:=by rw [h.len];simp
 apply ao6;intro k;by_cases hk:k<n
 ·obtain ⟨b,e,hb⟩:=CS (W:=W) (i:=i) hk;rw [e];obtain ⟨c,hc⟩:=pz S' (k:=k) (by omega);rw [hc];congr 1;cases c<;>cases b
  ·rfl
  ·have:=hin k (hb.1 rfl);rw [hc] at this;cases this
  ·have:=(h.snd k hc).resolve_left (hf k);have:=hb.2 this;cases this
  ·rfl
 ·rw [aoS (by omega),aoS (by rw [QE];omega)]
def opn (S:List Bool):Nat:=S.count false
theorem Vq {S:List Bool} {k:Nat} (h:S[k]? =some false):opn (S.set k true)+1=opn S:=by
 unfold opn;obtain ⟨hl,e⟩:=List.getElem?_eq_some_iff.1 h;have h1:=arT (a:=true) (b:=false) hl;have h2:0<S.count false:=List.count_pos_iff.2 (apD h);rw [h1,e];simp;omega
theorem Mrk.opn {W:Nat->List Nat} {i:Nat} {ks:List Nat} {S S':List Bool} (h:Mrk W i ks S S'):opn S'<=opn S:=by
 unfold Go.Proofs.YtfbnfhhmiiahnaaGreatDoor.opn;have key: ∀(S S':List Bool),S'.length=S.length->(∀k:Nat,S[k]? =some true->S'[k]? =some true)->S'.count false<=S.count false:=by
  intro S;induction S with
  |nil=>intro S' h1 _;rw [aoP h1];simp
  |cons b r ih=>
   intro S' h1 h2;cases S' with
   |nil=>simp at h1
   |cons c r'=>
    have:=ih r' (by simpa using h1) (fun k hk=>by have:=h2 (k+1) (by simpa using hk);simpa using this);rw [arH,arH];cases b<;>cases c<;>simp<;>try omega
    have:=h2 0 rfl;simp at this
 exact key S S' h.len h.mo
structure Rc (W0:World) (bg b1 b2 b3:Nat) (sv:Value) (W:World):Prop where
 n:New W0 W
 v1:Bk W b1 140 [pT bg]
 v2:Bk W b2 44 [sv]
 v3:Bk W b3 117 [.func (.func 99) #[] #[pT b1,pT b2,pT b3]]
theorem Rc.chg {W0 W W':World} {bg b1 b2 b3:Nat} {sv:Value} {S:List Bool} {Pb:Nat->Prop} (h:Rc W0 bg b1 b2 b3 sv W) (own:oP (Wk.one vbo) 4 1 Pb NoB W sv S) (hlo: ∀k,sv.ownBlock=some k->W0.heap.size<=k) (c:Chg (fun k=>sv.ownBlock=some k) W W'):Rc W0 bg b1 b2 b3 sv W':=
 ⟨(Chg.trans h.n.any c fun k _ e=>e).toNew fun k hk e=>by have:=hlo k e;omega,h.v1.chg c fun e=>own.pR h.v1 rfl e rfl,h.v2.chg c fun e=>own.pR h.v2 rfl e rfl,h.v3.chg c fun e=>own.pR h.v3 rfl e rfl⟩
theorem QG {lo bg hm b6 b1 b2 b3:Nat} {t:List Nd} {m:List (Nat×Nat)} {es:List Ed} {bs:List xC} {gs:List Bool} {ps:List Nm} {lv ev wv gv pv sv:Value} {W0:World} {Wn:Nat->List Nat}
 (g0:GrA lo bg hm b6 t m es bs gs ps lv ev wv gv pv W0) (hW:bs.map (·.2)=(abS t.length).map Wn) (hIn: ∀i,i<t.length-> ∀k∈Wn i,k<t.length) (hlo: ∀k,sv.ownBlock=some k->W0.heap.size<=k):
 ∀(N:Nat) (w:World) (S:List Bool) (i:Nat),opn S<=N->i<t.length->S.length=t.length->Rc W0 bg b1 b2 b3 sv w->oP (Wk.one vbo) 4 1 (fun b=>W0.heap.size<=b) NoB w sv S->
  Calls prog 99 #[vi i,pT b1,pT b2,pT b3] w (Ret fun _ w'=> ∃S',Mrk Wn i (Wn i) S S'/\oP (Wk.one vbo) 4 1 (fun b=>W0.heap.size<=b) NoB w' sv S'/\Chg (fun k=>sv.ownBlock=some k) w w'):=by
 intro N;induction N using aqj with
 |ind N IH=>
  intro w S i hN hi hS rc own;have hb2:bs.length=t.length:=by have:=congrArg aq0 hW;simpa using this
  obtain ⟨⟨xv,xl⟩,hx⟩:=pz bs (k:=i) (by omega);have hxl:xl=Wn i:=by have h1:=congrArg (fun l=>l[i]?) hW;simp only [apF,hx,aq3 hi,adJ,Option.some.injEq] at h1;exact h1
  subst hxl;have hxo:=g0.wa.el _ (apD hx);dsimp only at hxo;obtain ⟨xa,xc,rfl,abg,Y4⟩:=hxo.form;simp only [maxLen] at Y4;obtain ⟨wg,wc,hwv,hwl,ae3,hob⟩:=g0.wa.row.blk (by intro e;rw [e] at hb2;simp at hb2;omega);subst hwv;have g:=g0.new rc.n;refine oI func99 rfl ntmps99 rfl ?_;refine qq0 ?_;refine ah (u:=pT bg) rfl (rc.v1.cell (o:=0) rfl) ?_;refine qq5 ?_;refine ah (u:=.slice (some ⟨wg,0,none⟩) bs.length wc) rfl (g.b.cell (o:=3) rfl) ?_;(repeat' (refine aa1 ?_));refine dB rfl rfl (by omega) (by omega) ?_;have hrow:w.cell? ⟨wg,0+(i:Int).toNat*1,none⟩=some (.slice xa (Wn i).length xc):=by have:=(g.wa.row.at rfl rfl hx).get 0 rfl;simpa using this
  refine ah (u:=.slice xa (Wn i).length xc) rfl hrow ?_;refine qq6 ?_;refine aC (σ:=Nat×List Bool) (fun q=>[(1,pT b1),(2,pT b2),(3,pT b3),(13,.slice xa (Wn i).length xc),(14,vi (Wn i).length),(15,vi q.1)]) (fun q W=>q.1<=(Wn i).length/\Mrk Wn i ((Wn i).take q.1) S q.2/\oP (Wk.one vbo) 4 1 (fun b=>W0.heap.size<=b) NoB W sv q.2/\Rc W0 bg b1 b2 b3 sv W/\Chg (fun k=>sv.ownBlock=some k) w W) (fun q=>(Wn i).length-q.1) (0,S) (sl rfl) ⟨aoZ _,kT _ _ _,own,rc,aB _ _⟩ ?_;rintro ⟨j,S1⟩ G W ⟨hj,hM,BO,rc1,c1⟩;dsimp only at hj hM BO rc1 c1;simp only [ql];have hl1:S1.length=t.length:=by rw [hM.len];exact hS
  obtain ⟨sg,scp,hsv,hsl,hsl2,anZ⟩:=BO.blk (by intro e;rw [e] at hl1;simp at hl1;omega);(repeat' (first|refine qq2 ?_|refine aa2 (fun _=>?_) (fun _=>?_)))
  ·obtain ⟨k,hk⟩:=pz (Wn i) (k:=j) (by omega);have hkm:=apD hk;have hkl:=hIn i hi k hkm;have hxW:=(hxo.new (oJ _) rc1.n).rd qQ.mo;refine bC hxW rfl rfl (by omega) hk fun b o hcell=>?_;refine ah (u:=vi k) rfl hcell ?_;refine qq1 ?_;refine ah (u:=sv) rfl (rc1.v2.cell (o:=0) rfl) ?_;(repeat' (refine aa1 ?_));obtain ⟨mb,hmb⟩:=pz S1 (k:=k) (by omega);refine bC (BO.rd GU.mo) rfl rfl (by omega) hmb fun b o hcell=>?_;refine ah (u:=.bool mb) rfl hcell ?_;cases mb
   ·refine qq4 ?_;refine ah (u:=sv) rfl (rc1.v2.cell (o:=0) rfl) ?_;(repeat' (refine aa1 ?_));rw [hl1] at hsv;refine dB (b:=sg) (off:=0) (l:=t.length) (cap:=scp) hsv rfl (by omega) (by omega) ?_;refine dR (f:=vbo) (q:=true) (j:=k) (cap:=scp) BO (by rw [hl1];exact hsv) (by omega) (by show Value.pointer (some ⟨sg,0+(k:Int).toNat*1,none⟩)=_;simp) rfl rfl rfl fun w2 o2 c2=>?_;have rc2:=rc1.chg BO hlo c2;refine qq2 ?_;refine ah (u:=.func (.func 99) #[] #[pT b1,pT b2,pT b3]) rfl (rc2.v3.cell (o:=0) rfl) ?_;(repeat' (refine aa1 ?_));have hop:=Vq hmb;have hop1:=hM.opn;refine bU (dst:=some 29) rfl (IH (opn (S1.set k true)) (by omega) w2 (S1.set k true) k (aat _) hkl (by rw [aqY];exact hl1) rc2 o2) rfl ?_;rintro u w3 ⟨S3,hM3,o3,c3⟩;simp only [xH];have rc3:=rc2.chg o2 hlo c3;refine qq4 ?_;refine aA (j+1,S3) (sl rfl) ⟨by dsimp only;omega,?_,o3,rc3,Chg.trans (Chg.trans c1 c2 i3) c3 i3⟩ (by dsimp only;omega);dsimp only;rw [take_snoc hk];exact hM.step hkm (by omega) hM3
   ·refine qq4 ?_;refine aA (j+1,S1) (sl rfl) ⟨by dsimp only;omega,?_,BO,rc1,c1⟩ (by dsimp only;omega);dsimp only;rw [take_snoc hk];exact hM.skip hmb
  ·obtain rfl:j=(Wn i).length:=by omega
   rw [apZ] at hM;exact dh rfl ⟨_,rfl,S1,hM,BO,c1⟩
section
variable {lo bg hm b6:Nat} {t:List Nd} {m:List (Nat×Nat)} {es:List Ed} {bs:List xC} {gs:List Bool} {ps:List Nm} {lv ev wv gv pv:Value} {W:World} {Wn:Nat->List Nat}
theorem Ko {i:Nat} (g:GrA lo bg hm b6 t m es bs gs ps lv ev wv gv pv W) (hok:pM t=true) (hW:bs.map (·.2)=(abS t.length).map Wn) (hIn: ∀i,i<t.length-> ∀k∈Wn i,k<t.length) (hi:i<t.length):
 Calls prog 75 #[pT bg,vi i] W (Ret fun r w'=>oP (Wk.one vbo) 4 1 (fun b=>W.heap.size<=b) NoB w' r (FO Wn t.length i)/\New W w'):=by
 have hlen:=qo hok;obtain ⟨la,lc,rfl,_,_⟩:=g.tr.form;refine oI func75 rfl ntmps75 rfl ?_;refine qq0 ?_;refine Wl.box rfl fun w1 b1 n1 s1=>?_;replace b1:Bk w1 W.heap.size 140 [pT bg]:=b1;refine qq1 ?_;refine ah (u:=pT bg) rfl (b1.cell (o:=0) rfl) ?_;refine qq5 ?_;refine ah (u:=.slice la t.length lc) rfl ((g.new n1).b.cell (o:=0) rfl) ?_;(repeat' (refine cu rfl ?_));refine fF (f:=vbo) (y0:=false) (Pe:=NoB) rfl rfl rfl (by omega) (by omega) (by omega) fun sv w2 o2 n2=>?_;rw [ao3] at o2;obtain ⟨sa,sc,rfl,_,_⟩:=o2.form;refine Wl.alloc fun w3 b3 n3 s3=>?_;have hz1:=n1.size;have hz2:=n2.size;refine aJ (u:=.slice sa (apW t.length false).length sc) b3 rfl (show (0:Nat)<1 by omega) (by rw [arC];rfl) rfl fun w4 b4 c4=>?_;replace b4:Bk w4 w2.heap.size 44 [.slice sa (apW t.length false).length sc]:=b4;have n24:New w2 w4:=(Chg.trans n3.any c4 i3).tN
 have hz4:=n24.size;refine qq2 ?_;refine Wl.alloc fun w5 b5 n5 s5=>?_;replace b5:Bk w5 w4.heap.size 117 [.nilFunc]:=b5;refine qq2 ?_;refine dw (f1:=[]) (c1:=[pT W.heap.size,pT w2.heap.size,pT w4.heap.size]) rfl rfl ?_;refine aJ (u:=.func (.func 99) #[] #[pT W.heap.size,pT w2.heap.size,pT w4.heap.size]) b5 rfl (show (0:Nat)<1 by omega) rfl rfl fun w6 b6' c6=>?_;replace b6':Bk w6 w4.heap.size 117 [.func (.func 99) #[] #[pT W.heap.size,pT w2.heap.size,pT w4.heap.size]]:=b6';have n46:New w4 w6:=(Chg.trans n5.any c6 i3).tN
 have n26:=New.trans n24 n46;have rc:Rc W bg W.heap.size w2.heap.size w4.heap.size (.slice sa (apW t.length false).length sc) w6:=⟨New.trans (New.trans n1 n2) n26,b1.chg (New.trans n2 n26) id,b4.chg n46 id,b6'⟩;have o6:=o2.new (oJ _) n26;refine qq2 ?_;refine ah (u:=.func (.func 99) #[] #[pT W.heap.size,pT w2.heap.size,pT w4.heap.size]) rfl (rc.v3.cell (o:=0) rfl) ?_;(repeat' (refine aa1 ?_));refine bU (dst:=some 16) rfl (QG (Wn:=Wn) g hW hIn (fun k hk=>by have h9:w1.heap.size<=k:=(o6.lt hk).1;omega) _ w6 (apW t.length false) i (aat _) hi (by simp) rc (o6.mono (pq _) (fun b _ e=>by have h9:w1.heap.size<=b:=e;omega) i3)) rfl ?_;rintro u w7 ⟨S',hM,o7,c7⟩;simp only [xH];have rc7:=rc.chg o6 (fun k hk=>by have h9:w1.heap.size<=k:=(o6.lt hk).1;omega) c7;refine qq2 ?_;refine ah (u:=.slice sa (apW t.length false).length sc) rfl (rc7.v2.cell (o:=0) rfl) ?_;refine qq6 ?_;have:=hM.full;subst this;exact ay rfl rfl ⟨_,rfl,o7,rc7.n⟩
abbrev TJ:=Value×List Bool
abbrev brC:TJ->List Value:=fun x=>[x.1]
abbrev BLs (lo:Nat) (w:World) (v:Value) (rs:List TJ):Prop:=LLs brC (·.1) (·.2) vbo 44 4 1 (fun b=>lo<=b) w v rs
theorem Y6 (g:GrA lo bg hm b6 t m es bs gs ps lv ev wv gv pv W) (hok:pM t=true) (hW:bs.map (·.2)=(abS t.length).map Wn) (hIn: ∀i,i<t.length-> ∀k∈Wn i,k<t.length):
 Calls prog 117 #[pT bg] W (Ret fun r w'=>(∃rs,BLs W.heap.size w' r rs/\rs.map (·.2)=(abS t.length).map (FO Wn t.length))/\New W w'):=by
 have hlen:=qo hok;have hpos:=uM hok;obtain ⟨la,lc,rfl,_,_⟩:=g.tr.form;refine oI func117 rfl ntmps117 rfl ?_;refine qq4 ?_;refine ah (u:=.slice la t.length lc) rfl (g.b.cell (o:=0) rfl) ?_;(repeat' (refine cu rfl ?_));refine fF (f:=(·.1:TJ->Value)) (y0:=(.slice none 0 0,[])) (Pe:=NoB) rfl rfl rfl (by omega) (by omega) (by omega) fun sv w1 o1 n1=>?_;rw [ao3] at o1;obtain ⟨sg,sc,hsv,_,_,hob⟩:=o1.blk (by intro e;rw [arI] at e;omega);rw [arC] at hsv;subst hsv;have L0:BLs W.heap.size w1 (.slice (some ⟨sg,0,none⟩) t.length sc) (apW t.length (.slice none 0 0,[])):=⟨o1,fun b hb=>(by rw [(List.mem_replicate.1 hb).2];exact aN),fun b hb=>(by rw [(List.mem_replicate.1 hb).2];intro k e;cases e),fun i j b c _ hb _=>(by rw [(List.mem_replicate.1 (apD hb)).2];intro k e;cases e)⟩;have e0:(apW t.length ((.slice none 0 0,[]):TJ)).map (·.2)=(abS t.length).map fun j=>if j<0 then FO Wn t.length j else []:=by
  rw [arU];apply ao6;intro j;rw [arJ,apF];by_cases hj:j<t.length
  ·rw [if_pos hj,aq3 hj];rfl
  ·rw [if_neg hj,aoS (by simpa using hj)];rfl
 refine qq4 ?_;refine aC (σ:=Nat×List TJ) (fun q=>[(0,pT bg),(3,.slice (some ⟨sg,0,none⟩) t.length sc),(12,vi t.length),(13,vi q.1)]) (fun q w'=>q.1<=t.length/\BLs W.heap.size w' (.slice (some ⟨sg,0,none⟩) t.length sc) q.2/\q.2.map (·.2)=((abS t.length).map fun j=>if j<q.1 then FO Wn t.length j else [])/\New W w') (fun q=>t.length-q.1) (0,apW t.length (.slice none 0 0,[])) (sl rfl) ⟨aoZ _,L0,e0,n1⟩ ?_;rintro ⟨i,rs⟩ G w2 ⟨hi,L2,e2,n2⟩;dsimp only at hi L2 e2 n2;simp only [ql];have hrl:rs.length=t.length:=by have:=congrArg aq0 e2;simpa using this
 (repeat' (first|refine qq2 ?_|refine aa2 (fun _=>?_) (fun _=>?_)))
 ·have hil:i<t.length:=by omega
  refine au (Ko (g.new n2) hok hW hIn hil) rfl ?_;rintro rv w3 ⟨o3,n3⟩;obtain ⟨ra,rc,hrv,_,_⟩:=o3.form;obtain ⟨x,hx⟩:=pz rs (k:=i) (by omega);refine dB rfl rfl (by omega) (by omega) ?_;have hz2:=n2.size;refine dR (f:=(·.1:TJ->Value)) (q:=(rv,FO Wn t.length i)) (j:=i) (cap:=sc) (L2.row.new (oH _) n3) (by rw [hrl]) (by omega) (by show Value.pointer (some ⟨sg,0+(i:Int).toNat*1,none⟩)=_;simp) rfl rfl (by rw [hrv];rfl) fun w4 o4 c4=>?_;have L4:=L2.set hx (b':=(rv,FO Wn t.length i)) (w1:=w3) (o3.mono (pq _) (fun b _ e=>by have h9:w2.heap.size<=b:=e;omega) i3) n3.any (.inr fun k hk=>(o3.lt hk).1) o4 c4;have hsg:W.heap.size<=sg:=(L2.row.lt rfl).1;refine qq4 ?_;refine aA (i+1,rs.set i (rv,FO Wn t.length i)) (sl rfl) ⟨by dsimp only;omega,L4,?_,Chg.trans (New.trans n2 n3) c4 fun k hk e=>by have h9:W.heap.size<=k:=(L2.row.lt e).1;omega⟩ (by dsimp only;omega);dsimp only;rw [arB,e2,Dw hil];apply aqb;intro j _;by_cases e1:j=i
  ·rw [if_pos e1,if_pos (by omega),e1]
  ·rw [if_neg e1];by_cases e3:j<i
   ·rw [if_pos e3,if_pos (by omega)]
   ·rw [if_neg e3,if_neg (by omega)]
 ·obtain rfl:i=t.length:=by omega
  refine ay rfl rfl ⟨_,rfl,⟨rs,L2,?_⟩,n2⟩;rw [e2];apply aqb;intro j hj;rw [if_pos (by simpa using hj)]
theorem Y7 (pt:Nat->Nm) (a b:Nat):Fg (pt a) (pt b)=sH (fun _=>0) pt a b:=by
 unfold Fg sH;rw [if_neg (arW 0),if_neg (arW 0)]
theorem N7 {b2 a c:Nat} {w:World} (g:GrA lo bg hm b6 t m es bs gs (qx t) lv ev wv gv pv w) (h2:Bk w b2 140 [pT bg]) (ha:a<t.length) (hc:c<t.length) (hlen:t.length<=512):
 Calls prog 163 #[vi a,vi c,pT b2] w (Ret fun r w'=>r=vi (sH (fun _=>0) (pX t) a c)/\Grw w w'):=by
 have hpl:=wU t;obtain ⟨pa,pc,rfl,_,_⟩:=g.pa.form;have hrd:=g.pa.rd qU.mo;refine oI func163 rfl ntmps163 rfl ?_;refine qq1 ?_;refine iy [0,1,2,3,4,5,6,7,8,9,10,11,12,13] [14,15] rfl (by kernel_rfl) (by simp only [pick,aq4,aq5];rfl) (by simp only [pick,aq4,aq5];rfl) (Grw w) (Grw.drew w) ?_;refine ax (u:=pT bg) rfl (fun w' hw=>(h2.chg hw.new id).cell (o:=0) rfl) ?_;refine qq7 ?_;refine ax (u:=.slice pa (qx t).length pc) rfl (fun w' hw=>(g.b.chg hw.new id).cell (o:=5) rfl) ?_;(repeat' (refine aa3 ?_));refine dD (y:=pX t a) hrd (fun w' hw=>hw.new.keep) rfl rfl (by omega) (uo ha) fun bb off hcell=>?_;refine ax (u:=vs (pX t a)) rfl hcell ?_;refine ax (u:=pT bg) rfl (fun w' hw=>(h2.chg hw.new id).cell (o:=0) rfl) ?_;refine qq7 ?_;refine ax (u:=.slice pa (qx t).length pc) rfl (fun w' hw=>(g.b.chg hw.new id).cell (o:=5) rfl) ?_;(repeat' (refine aa3 ?_));refine dD (y:=pX t c) hrd (fun w' hw=>hw.new.keep) rfl rfl (by omega) (uo hc) fun bb off hcell=>?_;refine ax (u:=vs (pX t c)) rfl hcell ?_;refine qq7 ?_;refine dH ?_;refine au (xW (a:=pX t a) (b:=pX t c)) rfl ?_;rintro _ _ ⟨rfl,rfl⟩;refine ak ⟨rfl,Grw.drew w,?_⟩;refine Wch.last ?_;refine qq6 ?_;exact ay rfl rfl ⟨_,rfl,by rw [<-Y7];rfl,Grw.drew w⟩
theorem QH {Ps:Nat->Prop} {v:Value} {some_:List Nat} (g:GrA lo bg hm b6 t m es bs gs (qx t) lv ev wv gv pv W) (hok:pM t=true) (hs:RdS (Wk.one viN) 1 Ps W v some_) (hin: ∀k∈some_,k<t.length) (hsl:some_.length<=100000):
 Calls prog 142 #[pT bg,v] W (Ret fun r w'=>oP (Wk.one viN) 3 1 (fun b=>W.heap.size<=b) NoB w' r (some_.mergeSort fun x y=> !decide (sH (fun _=>0) (pX t) y x<0))/\New W w'):=by
 have hlen:=qo hok;refine oI func142 rfl ntmps142 rfl ?_;refine qq0 ?_;refine Wl.box rfl fun w1 b1 n1 s1=>?_;replace b1:Bk w1 W.heap.size 140 [pT bg]:=b1;refine qq2 ?_;refine au (Ij (hs.keep (pF _) n1.keep) (by omega)) rfl ?_;rintro cv w2 ⟨o2,n2⟩;have n02:=New.trans n1 n2;have b2:=b1.chg n2 id;have hz1:=n1.size;refine qq2 ?_;refine dw (f1:=[]) (c1:=[pT W.heap.size]) rfl rfl ?_;refine au (Ej (g:=163) (cb:= #[pT W.heap.size]) (lv:=fun _=>0) (pt:=pX t) o2 (fun a ha b hb e=>GI hok (hin a ha) (hin b hb) e) (by omega) fun w' hw a ha b hb=>?_) rfl ?_
 ·have nW:New W w':=(Chg.trans n02.any hw fun k _ e=>e).toNew fun k hk e=>by have h9:w1.heap.size<=k:=(o2.lt e).1;omega
  refine (N7 (g.new nW) (b2.chg hw fun e=>o2.pR b2 rfl e rfl) (hin a ha) (hin b hb) hlen).mono ?_;rintro _ w'' ⟨_,rfl,rfl,hg⟩;exact ⟨rfl,hg⟩
 rintro _ w3 ⟨o3,c3⟩;refine qq5 ?_;exact ay rfl rfl ⟨_,rfl,o3.mono (pq _) (fun b _ e=>by have h9:w1.heap.size<=b:=e;omega) i3,(Chg.trans n02.any c3 fun k _ e=>e).toNew fun k hk e=>by have h9:w1.heap.size<=k:=(o2.lt e).1;omega⟩
theorem TK (g:GrA lo bg hm b6 t m es bs gs (qx t) lv ev wv gv pv W) (hok:pM t=true):
 Calls prog 118 #[pT bg] W (Ret fun r w'=>oP (Wk.one viN) 3 1 (fun b=>W.heap.size<=b) NoB w' r (qw t)/\New W w'):=by
 have hlen:=qo hok;have hpos:=uM hok;obtain ⟨la,lc,rfl,_,_⟩:=g.tr.form;refine oI func118 rfl ntmps118 rfl ?_;refine qq4 ?_;refine ah (u:=.slice la t.length lc) rfl (g.b.cell (o:=0) rfl) ?_;(repeat' (refine cu rfl ?_));refine fF (f:=viN) (y0:=0) (Pe:=NoB) rfl rfl rfl (by omega) (by omega) (by omega) fun sv w1 o1 n1=>?_;rw [ao3] at o1;obtain ⟨sg,sc,hsv,hsg,_,hob⟩:=o1.blk (by intro e;rw [arI] at e;omega);rw [arC] at hsv;subst hsv;refine qq4 ?_;refine aC (σ:=Nat) (fun i=>[(0,pT bg),(3,.slice (some ⟨sg,0,none⟩) t.length sc),(12,vi t.length),(13,vi i)]) (fun i w'=>i<=t.length/\oP (Wk.one viN) 3 1 (fun b=>W.heap.size<=b) NoB w' (.slice (some ⟨sg,0,none⟩) t.length sc) (abS i++apW (t.length-i) 0)/\New W w') (fun i=>t.length-i) 0 (sl rfl) ⟨aoZ _,by simpa using o1,n1⟩ ?_;rintro i G w2 ⟨hi,o2,n2⟩;simp only [ql];have hll:(abS i++apW (t.length-i) 0).length=t.length:=by simp;omega
 (repeat' (first|refine qq2 ?_|refine aa2 (fun _=>?_) (fun _=>?_)))
 ·refine dB rfl rfl (by omega) (by omega) ?_;refine dR (f:=viN) (q:=i) (j:=i) (cap:=sc) o2 (by rw [hll]) (by omega) (by show Value.pointer (some ⟨sg,0+(i:Int).toNat*1,none⟩)=_;simp) rfl rfl rfl fun w3 o3 c3=>?_;refine qq4 ?_;refine aA (i+1) (sl rfl) ⟨by omega,?_,Chg.trans n2 c3 fun k hk e=>by have h9:W.heap.size<=k:=(o2.lt e).1;omega⟩ (by omega);have hset:(abS i++apW (t.length-i) 0).set i i=abS (i+1)++apW (t.length-(i+1)) 0:=by rw [show t.length-i=(t.length-(i+1))+1 by omega,arN,ao5 _ _ (by simp),arz];simp
  rw [hset] at o3;exact o3
 ·obtain rfl:i=t.length:=by omega
  rw [aq7,arO,aqJ] at o2;refine au (QH (g.new n2) hok (o2.rd qQ.mo) (fun k hk=>by simpa using hk) (by simp;omega)) rfl ?_;rintro rv w3 ⟨o3,n3⟩;have hz2:=n2.size;refine qq6 ?_;exact ay rfl rfl ⟨_,rfl,o3.mono (pq _) (fun b _ e=>by have h9:w2.heap.size<=b:=e;omega) i3,New.trans n2 n3⟩
end
theorem Kq {Pb:Nat->Prop} {w:World} {v:Value} {t:List Nd} (h:RdS rNd 3 Pb w v t) (hok:pM t=true):
 Calls prog 26 #[v] w (Ret fun r w'=>(∃q,r=.tuple #[q,vi 0]/\RdS rEd 6 (fun b=>w.heap.size<=b) w' q (pK t))/\New w w'):=by
 refine oI func26 rfl ntmps26 rfl ?_;refine qq2 ?_;refine au (Bo h hok) rfl ?_;rintro _ w1 ⟨⟨bg,hm,ev,wv,gv,pv,gs,bs,rfl,g,hb,_⟩,n1⟩;(repeat' (first|refine qq4 ?_|(refine aa4 (fun _=>?_) (fun _=>?_)<;>(first|(exfalso;omega)|skip))));refine ah (u:=ev) rfl (g.b.cell (o:=2) rfl) ?_;refine qq6 ?_;exact aG rfl rfl rfl ⟨_,rfl,⟨ev,rfl,(g.ed.rd qI.mo).mono rH fun b _ e=>e.elim (fun e=>e.1) fun e=>e.1⟩,n1⟩
theorem Wk.LLs.at {Pb:Nat->Prop} {w:World} {g l c i n:Nat} {rs:List TJ} {Wn:Nat->List Nat} (L:LLs brC (·.1) (·.2) vbo 44 4 1 Pb w (.slice (some ⟨g,0,none⟩) l c) rs) (e:rs.map (·.2)=(abS n).map (FO Wn n)) (hi:i<n):
 ∃a c',w.cell? ⟨g,0+(i:Int).toNat*1,none⟩=some (.slice a n c')/\RdS (Wk.one vbo) 1 Pb w (.slice a n c') (FO Wn n i):=by
 have hl:rs.length=n:=by have:=congrArg aq0 e;simpa using this
 obtain ⟨⟨xv,xl⟩,hx⟩:=pz rs (k:=i) (by omega);have h1:=congrArg (fun l=>l[i]?) e;simp only [apF,hx,aq3 hi,adJ,Option.some.injEq] at h1;subst h1;have ho:=L.el _ (apD hx);dsimp only at ho;obtain ⟨a,c',rfl,_,_⟩:=ho.form;rw [QE] at*;refine ⟨a,c',?_,?_⟩
 ·have:=(L.row.at rfl rfl hx).get 0 rfl;simpa using this
 ·exact (ho.rd GU.mo).mono GU.mo fun b _ e=>e.resolve_right id
theorem Ez {t:List Nd} {k:Nat}:k∈qw t↔k<t.length:=by
 unfold qw;rw [arL,aoV]
theorem TL (t:List Nd):(qw t).length=t.length:=by unfold qw;rw [ard,arE]
theorem MH {t:List Nd} (hok:pM t=true): ∀i,i<t.length-> ∀k∈qB t i,k<t.length:=by
 intro i hi k hk;rw [MG] at hk;rcases List.mem_append.1 hk with hk|hk
 ·unfold DK at hk;split at hk
  ·simp at hk;subst hk;have:=vM hok (i:=i) (by omega) hi;omega
  ·simp at hk
 ·obtain ⟨e,he,hd⟩:=List.mem_filterMap.1 hk;unfold xO at hd;split at hd
  ·exact (uU e he).2 k hd
  ·cases hd
open Classical in
noncomputable def ru (W:Nat->List Nat) (i k:Nat):Bool:=decide (Rch W i k/\Rch W k i)
open Classical in
theorem QI {W:Nat->List Nat} {i k:Nat}:ru W i k=true↔Rch W i k/\Rch W k i:=by unfold ru;exact decide_eq_true_iff
open Classical in
theorem FP (W:Nat->List Nat) (order seen:List Nat) (i:Nat) (r:List Nat):ul W order seen (i::r)=if i∈seen∨ ¬Rch W i i then ul W order seen r else order.filter (ru W i)::ul W order (seen++order.filter (ru W i)) r:=by
 rw [ul];rfl
def GY (seen:List Nat) (D:List Bool) (n:Nat):Prop:=D.length=n/\ ∀k,k<n->D[k]? =some (seen.contains k)
theorem GY.set {seen:List Nat} {D:List Bool} {n k:Nat} (h:GY seen D n) (hk:k<n):GY (seen++ [k]) (D.set k true) n:=by
 refine ⟨by rw [aqY];exact h.1,fun j hj=>?_⟩;have hl:=h.1;rw [apo];by_cases e:k=j
 ·subst e;rw [if_pos rfl,if_pos (by omega)];simp
 ·rw [if_neg e,h.2 j hj];congr 1;simp;intro e2;exact absurd e2.symm e
def rW:Rel xC:=fun _ _ x cs=>cs=[x.1]/\x.1.oneCell'=true
theorem ab6:rF rW 1:=⟨fun _ _ _ _ _ _ h=>h,fun _ _ _ _ _ _ h=>h,fun _ _ x cs ⟨e,h⟩ _ c hc=>by subst e;simp at hc;subst hc;exact h⟩
theorem Wk.LLs.ajY {e te:TypeId} {Pb:Nat->Prop} {w:World} {v:Value} {rs:List xC} (L:LLs wrC (·.1) (·.2) viN te e 1 Pb w v rs):oP rW te 1 Pb NoB w v rs:=by
 obtain ⟨cs,hoc,he⟩:=L.row;refine ⟨cs,hoc,fun i x hx=>⟨he i x hx,?_⟩⟩;obtain ⟨a,c,e,_⟩:=(L.el x (apD hx)).form;rw [show x.1=_ from e];rfl
theorem Wk.oP.ajZ {te:TypeId} {Pb:Nat->Prop} {w:World} {v:Value} {rs:List xC} (h:oP rW te 1 Pb NoB w v rs):oP (flat wrC) te 1 Pb NoB w v rs:=by
 obtain ⟨cs,hoc,he⟩:=h;exact ⟨cs,hoc,fun i x hx=>(he i x hx).1⟩
abbrev RgL (lo:Nat) (w:World) (v:Value) (rs:List xC):Prop:=LLs wrC (·.1) (·.2) viN 65 3 1 (fun b=>lo<=b) w v rs
theorem TM {Pb:Nat->Prop} {w:World} {v:Value} {t:List Nd} (h:RdS rNd 3 Pb w v t) (hok:pM t=true):
 Calls prog 87 #[v] w (Ret fun r w'=>(∃q rs,r=.tuple #[q,vi 0]/\RgL w.heap.size w' q rs/\rs.map (·.2)=uD t)/\New w w'):=by
 have hlen:=qo hok;have hpos:=uM hok;have hIn:=MH hok;obtain ⟨a,cap,rfl,_,_⟩:=h.form;refine oI func87 rfl ntmps87 rfl ?_;refine qq2 ?_;refine au (Bo h hok) rfl ?_;rintro _ w1 ⟨⟨bg,hm,ev,wv,gv,pv,gs,bs,rfl,g,hbs,_⟩,n1⟩;(repeat' (first|refine qq4 ?_|(refine aa4 (fun _=>?_) (fun _=>?_)<;>(first|(exfalso;omega)|skip))));refine au (Y6 g hok hbs hIn) rfl ?_;rintro av w2 ⟨⟨rs,LR,hrs⟩,n2⟩;have hrl:rs.length=t.length:=by have:=congrArg aq0 hrs;simpa using this
 obtain ⟨rg,rc,hav,_,hrg,an0⟩:=LR.row.blk (by intro e;rw [e] at hrl;simp at hrl;omega);rw [hrl] at hav;subst hav;refine qq2 ?_;refine fF (f:=vbo) (y0:=false) (Pe:=NoB) rfl rfl rfl (by omega) (by omega) (by omega) fun dv w3 o3 n3=>?_;rw [ao3] at o3;obtain ⟨dg,dc,hdv,hdg,_,an1⟩:=o3.blk (by intro e;rw [arI] at e;omega);rw [arC] at hdv;subst hdv;have g3:=(g.new n2).new n3;refine qq2 ?_;refine au (TK g3 hok) rfl ?_;rintro ov w4 ⟨o4,n4⟩;have hel:=TL t;obtain ⟨oa,oc,rfl,_,_⟩:=o4.form;have LR4:=((LR.mono (Pb':=fun b=>w1.heap.size<=b/\b<w2.heap.size) fun b hb e=>⟨e,hb⟩).new n3).new n4;have d4:=o3.new (oJ _) n4;have n04:=New.trans (New.trans n1 n2) (New.trans n3 n4);have hz1:=n1.size;have hz2:=n2.size;have hz3:=n3.size;have hz4:=n4.size;have hdl:=(d4.lt rfl).2;have an2:w2.heap.size<=dg:=hdg;refine qq4 ?_;refine aC (σ:=Nat×List Nat×List Bool×Value×List xC) (fun q=>[(6,.slice (some ⟨rg,0,none⟩) t.length rc),(7,.slice (some ⟨dg,0,none⟩) t.length dc),(8,q.2.2.2.1),(9,.slice oa (qw t).length oc),(30,.slice oa (qw t).length oc),(31,vi (qw t).length),(32,vi q.1)]) (fun q W=>q.1<=(qw t).length/\uD t=q.2.2.2.2.map (·.2)++ul (qB t) (qw t) q.2.1 ((qw t).drop q.1)/\q.2.2.2.2.length<=q.1/\GY q.2.1 q.2.2.1 t.length/\oP (Wk.one vbo) 4 1 (fun b=>w2.heap.size<=b) NoB W (.slice (some ⟨dg,0,none⟩) t.length dc) q.2.2.1/\RgL w4.heap.size W q.2.2.2.1 q.2.2.2.2/\Chg (fun k=>k=dg) w4 W) (fun q=>(qw t).length-q.1) (0,[],apW t.length false,.slice none 0 0,[]) (sl rfl) ⟨aoZ _,rfl,by simp,⟨by simp,fun k hk=>by rw [arJ,if_pos hk];rfl⟩,d4,jk,aB _ _⟩ ?_;rintro ⟨i,seen,D,vo,acc⟩ G W ⟨hi,hR,hal,hD,od,LA,cW⟩;dsimp only at hi hR hal hD od LA cW;simp only [ql];have nW:New w W:=(Chg.trans n04.any cW fun k _ e=>e).tN
 have hzW:=cW.size;have LRW:=LR4.chg cW fun k hk e=>by omega
 have oW:=o4.chg (oJ _) cW fun k hk e=>by have h9:w3.heap.size<=k:=(o4.lt hk).1;omega
 have hDl:=hD.1;obtain ⟨va,vc,rfl,_,_⟩:=LA.row.form;(repeat' (first|refine qq2 ?_|refine aa2 (fun _=>?_) (fun _=>?_)))
 ·obtain ⟨x,hx⟩:=pz (qw t) (k:=i) (by omega);have hxl:=Ez.1 (apD hx);rw [drop_cons hx,FP] at hR;refine bC (oW.rd qQ.mo) rfl rfl (by omega) hx fun b o hcell=>?_;refine ah (u:=vi x) rfl hcell ?_;refine qq2 ?_;have hdx:=hD.2 x hxl;refine bC (od.rd GU.mo) rfl rfl (by omega) hdx fun b o hcell=>?_;refine ah (u:=.bool (seen.contains x)) rfl hcell ?_;obtain ⟨ra,rcc,hrow,hrd⟩:=LRW.at hrs hxl;obtain ⟨bxx,aj0,hbi⟩:=CS (W:=qB t) (i:=x) hxl;cases hsn:seen.contains x
  ·have aj1:x∉seen:=fun e=>by rw [List.contains_iff_mem.2 e] at hsn;cases hsn
   refine qq5 ?_;refine dB rfl rfl (by omega) (by omega) ?_;refine aQ rfl rfl ?_;refine ah (u:=.slice ra t.length rcc) rfl hrow ?_;refine qq5 ?_;refine bC hrd rfl rfl (by omega) aj0 fun b o hcell=>?_;refine aQ rfl rfl ?_;refine ah (u:=.bool bxx) rfl hcell ?_;cases hbv:bxx
   ·rw [if_pos (.inr fun e=>by rw [hbv] at hbi;have:=hbi.2 e;cases this)] at hR;refine qq3 ?_;exact aA (i+1,seen,D,_,acc) (sl rfl) ⟨by dsimp only;omega,hR,by dsimp only;omega,hD,od,LA,cW⟩ (by dsimp only;omega)
   ·rw [if_neg (fun e=>e.elim aj1 fun e=>e (hbi.1 hbv))] at hR;refine qq4 ?_;refine aC (σ:=Nat×List Bool×Value) (fun q=>[(6,.slice (some ⟨rg,0,none⟩) t.length rc),(7,.slice (some ⟨dg,0,none⟩) t.length dc),(8,.slice va acc.length vc),(9,.slice oa (qw t).length oc),(11,vi x),(12,q.2.2),(30,.slice oa (qw t).length oc),(31,vi (qw t).length),(32,vi i),(50,.slice oa (qw t).length oc),(51,vi (qw t).length),(52,vi q.1)]) (fun q W'=>q.1<=(qw t).length/\GY (seen++((qw t).take q.1).filter (ru (qB t) x)) q.2.1 t.length/\oP (Wk.one vbo) 4 1 (fun b=>w2.heap.size<=b) NoB W' (.slice (some ⟨dg,0,none⟩) t.length dc) q.2.1/\oP (Wk.one viN) 3 1 (fun b=>W.heap.size<=b) NoB W' q.2.2 (((qw t).take q.1).filter (ru (qB t) x))/\Chg (fun k=>k=dg) W W') (fun q=>(qw t).length-q.1) (0,D,.slice none 0 0) (sl rfl) ⟨aoZ _,by simpa using hD,od,aN,aB _ _⟩ ?_;rintro ⟨j,D2,rv⟩ G2 W2 ⟨hj,hD2,od2,or2,c2⟩;dsimp only at hj hD2 od2 or2 c2;simp only [ql];have Y8:=hD2.1;have an3:=c2.size;have LR2:=LRW.chg c2 fun k hk e=>by omega
    have o2:=oW.chg (oJ _) c2 fun k hk e=>by have h9:w3.heap.size<=k:=(o4.lt hk).1;omega
    obtain ⟨pa,pc,rfl,_,_⟩:=or2.form;have hfl:(((qw t).take j).filter (ru (qB t) x)).length<=512:=by
     have h1:=arD (ru (qB t) x) ((qw t).take j);have h2:((qw t).take j).length<=(qw t).length:=by rw [apb];omega
     omega
    (repeat' (first|refine qq2 ?_|refine aa2 (fun _=>?_) (fun _=>?_)))
    ·obtain ⟨y,hy⟩:=pz (qw t) (k:=j) (by omega);have hyl:=Ez.1 (apD hy);have hstep:((qw t).take (j+1)).filter (ru (qB t) x)=((qw t).take j).filter (ru (qB t) x)++if ru (qB t) x y=true then [y] else []:=by rw [take_snoc hy,arF];congr 1;cases hr:ru (qB t) x y<;>simp [hr]
     refine bC (o2.rd qQ.mo) rfl rfl (by omega) hy fun b o hcell=>?_;refine ah (u:=vi y) rfl hcell ?_;refine qq2 ?_;obtain ⟨ra1,rc1,hrow1,QJ⟩:=LR2.at hrs hxl;obtain ⟨b1,hb1,ac0⟩:=CS (W:=qB t) (i:=x) hyl;obtain ⟨ra2,rc2,hrow2,aj2⟩:=LR2.at hrs hyl;obtain ⟨b2,hb2,ac1⟩:=CS (W:=qB t) (i:=y) hxl;refine dB rfl rfl (by omega) (by omega) ?_;refine ah (u:=.slice ra1 t.length rc1) rfl hrow1 ?_;(repeat' (refine aa1 ?_));refine bC QJ rfl rfl (by omega) hb1 fun b o hcell=>?_;refine ah (u:=.bool b1) rfl hcell ?_;have ab7:ru (qB t) x y=false-> ∀(G':Fr),(j+1<=(qw t).length/\GY (seen++((qw t).take (j+1)).filter (ru (qB t) x)) D2 t.length/\oP (Wk.one vbo) 4 1 (fun b=>w2.heap.size<=b) NoB W2 (.slice (some ⟨dg,0,none⟩) t.length dc) D2/\oP (Wk.one viN) 3 1 (fun b=>W.heap.size<=b) NoB W2 (.slice pa (((qw t).take j).filter (ru (qB t) x)).length pc) (((qw t).take (j+1)).filter (ru (qB t) x))/\Chg (fun k=>k=dg) W W2):=fun hr _=>by rw [hstep,hr,if_neg (by decide),aqJ];exact ⟨by omega,hD2,od2,or2,c2⟩
     cases hv1:b1
     ·have hr:ru (qB t) x y=false:=by unfold ru;rw [decide_eq_false_iff_not];rintro ⟨q1,_⟩;rw [hv1] at ac0;have:=ac0.2 q1;cases this
      refine qq4 ?_;exact aA (j+1,D2,_) (sl rfl) (ab7 hr G2) (by dsimp only;omega)
     ·refine qq5 ?_;refine dB rfl rfl (by omega) (by omega) ?_;refine aQ rfl rfl ?_;refine ah (u:=.slice ra2 t.length rc2) rfl hrow2 ?_;refine qq5 ?_;refine bC aj2 rfl rfl (by omega) hb2 fun b o hcell=>?_;refine aQ rfl rfl ?_;refine ah (u:=.bool b2) rfl hcell ?_;cases hv2:b2
      ·have hr:ru (qB t) x y=false:=by unfold ru;rw [decide_eq_false_iff_not];rintro ⟨_,q1⟩;rw [hv2] at ac1;have:=ac1.2 q1;cases this
       refine qq4 ?_;exact aA (j+1,D2,_) (sl rfl) (ab7 hr G2) (by dsimp only;omega)
      ·have hr:ru (qB t) x y=true:=by exact QI.2 ⟨ac0.1 hv1,ac1.1 hv2⟩
       rw [hr,if_pos rfl] at hstep;refine qq5 ?_;refine bZ (R:=Wk.one viN) (y:=y) qQ or2 rfl rfl rfl rfl rfl (by omega) (by omega) (by simp only [maxLen];omega) (by omega) rfl rfl fun v3 w5 p o5 c5 lie=>?_;have od5:=od2.chg (oJ _) c5 fun k hk e=>by have h8:W.heap.size<=k:=(or2.lt e).1;have h9:=(od.lt hk).2;omega
       refine qq0 ?_;refine dB rfl rfl (by omega) (by omega) ?_;refine dR (f:=vbo) (q:=true) (j:=y) (cap:=dc) od5 (by rw [Y8]) (by omega) (by show Value.pointer (some ⟨dg,0+(y:Int).toNat*1,none⟩)=_;simp) rfl rfl rfl fun w6 o6 c6=>?_;refine qq4 ?_;have hs3: ∀k,v3.ownBlock=some k->W.heap.size<=k:=fun k hk=>by
        rcases (o5.lt hk).1 with e|e
        ·exact e
        ·omega
       refine aA (j+1,D2.set y true,v3) (sl rfl) ⟨by dsimp only;omega,?_,o6,?_,?_⟩ (by dsimp only;omega)
       ·dsimp only;rw [hstep, <-adI];exact hD2.set hyl
       ·dsimp only;rw [hstep]
        exact (o5.chg (oJ _) c6 fun k hk e=>by have h8:=hs3 k hk;have h7:dg=k:=by injection e
                                               omega).mono qQ.mo (fun b _ e=>by rcases e with e|e;exact e;omega) i3
       ·exact Chg.trans (Chg.trans (M:=fun k=>k=dg∨W.heap.size<=k) (c2.mono fun k _ e=>.inl e) c5 fun k _ e=>.inr (or2.lt e).1) c6 (fun k _ e=>.inl (by injection e with e;exact e.symm)) |>.mono fun k hk e=>e.resolve_right fun e=>by omega
    ·obtain rfl:j=(qw t).length:=by omega
     have htk:(qw t).take (qw t).length=qw t:=apZ;rw [htk] at hD2;have or3:oP (Wk.one viN) 3 1 (fun b=>W.heap.size<=b) NoB W2 (.slice pa (((qw t).take (qw t).length).filter (ru (qB t) x)).length pc) ((qw t).filter (ru (qB t) x)):=by simpa only [htk] using or2
     have LA2:=LA.chg c2 fun k hk e=>by omega
     refine bZ (R:=rW) (y:=(.slice pa (((qw t).take (qw t).length).filter (ru (qB t) x)).length pc,(qw t).filter (ru (qB t) x))) ab6 LA2.ajY rfl rfl rfl rfl ⟨rfl,rfl⟩ (by omega) (by omega) (by simp only [maxLen];omega) (by omega) rfl rfl fun v3 w5 p o5 c5 lie=>?_;have hz5:=c5.size;have L5:=LA2.snoc (b:=(.slice pa (((qw t).take (qw t).length).filter (ru (qB t) x)).length pc,(qw t).filter (ru (qB t) x))) (w':=w5) (v':=v3) ((o5.mono ab6.mo (Pb':=fun b=>w4.heap.size<=b) (fun b _ e=>by rcases e with e|e;exact e;omega) i3).ajZ) c5 lie (or3.mono (pq _) (fun b _ e=>by omega) i3) (fun k h1 h2=>by have h8:W.heap.size<=k:=(or2.lt h1).1;have h9:=(LA.row.lt h2).2;omega) (fun c hc k h1 h2=>by have h8:W.heap.size<=k:=(or2.lt h1).1;have h9:=((LA.el c hc).lt h2).2;omega)
     have od5:=od2.chg (oJ _) c5 fun k hk e=>by have h8:w4.heap.size<=k:=(LA.row.lt e).1;have h7:dg=k:=by injection hk
                                                omega
     refine qq4 ?_;refine aA (i+1,seen++(qw t).filter (ru (qB t) x),D2,v3,acc++ [(.slice pa (((qw t).take (qw t).length).filter (ru (qB t) x)).length pc,(qw t).filter (ru (qB t) x))]) (sl rfl) ⟨by dsimp only;omega,?_,by simp;omega,hD2,od5,L5,?_⟩ (by dsimp only;omega)
     ·dsimp only;rw [hR];simp
     ·exact (Chg.trans (M:=fun k=>k=dg∨w4.heap.size<=k) ((Chg.trans cW c2 i3).mono fun k _ e=>.inl e) c5 fun k _ e=>.inr (LA.row.lt e).1).mono fun k hk e=>e.resolve_right fun e=>by omega
  ·rw [if_pos (.inl (List.contains_iff_mem.1 hsn))] at hR;refine qq3 ?_;exact aA (i+1,seen,D,_,acc) (sl rfl) ⟨by dsimp only;omega,hR,by dsimp only;omega,hD,od,LA,cW⟩ (by dsimp only;omega)
 ·obtain rfl:i=(qw t).length:=by omega
  rw [aqi] at hR;have hR:uD t=acc.map (·.2):=by simpa [ul] using hR
  exact aG rfl rfl rfl ⟨_,rfl,⟨_,acc,rfl,LA.mono fun b _ e=>by omega,hR.symm⟩,nW⟩
end Go.Proofs.YtfbnfhhmiiahnaaGreatDoor
namespace Go.Proofs.YtfbnfhhmiiahnaaGreatDoor
open Go Wk Sy
open Go.RowKit (Below)
attribute [local irreducible] Go.Calls
def thM (th:List Bool) (i:Nat):Bool:=(th[i]?).getD false
theorem Vr {th:List Bool} {i:Nat} (h:i<th.length):th[i]? =some (thM th i):=by unfold thM;rw [adK h];rfl
theorem TN {Pb:Nat->Prop} {w:World} {b n:Nat} {v:Value} {th:List Bool} {x:SE} (h:Bk w b 44 [v]) (hs:RdS (Wk.one vbo) 1 Pb w v th) (hn:th.length=n) (h1:x.1.1.src<n) (h2: ∀d,x.1.1.dst=some d->d<n):
 Calls prog 72 #[.agg (seC x).toArray,.pointer (some ⟨b,0,none⟩)] w (Ret fun r w'=>r=.bool (!uY (thM th) x.1.1)/\New w w'):=by
 obtain ⟨a,cap,rfl,hc1,hc2⟩:=hs.form;simp only [maxLen] at hc2;refine oI func72 rfl ntmps72 rfl ?_;refine qq0 ?_;refine Wl.box rfl fun w1 b1 n1 s1=>?_;replace b1:Bk w1 w.heap.size 100 (seC x):=b1;replace h:=h.chg n1 id;replace hs:=hs.keep (pF _) n1.keep;obtain ⟨⟨⟨src,dst,kind,soft,place,args⟩,sv⟩,ix⟩:=x;dsimp only at h1 h2 b1;unfold uY;dsimp only;refine qq2 ?_;refine ah (u:=.bool soft) rfl (b1.cell (o:=3) rfl) ?_;cases soft
 ·refine qq4 ?_;exact ay rfl rfl ⟨_,rfl,rfl,n1⟩
 refine qq5 ?_;refine ah (u:=.slice a th.length cap) rfl (h.cell (o:=0) rfl) ?_;refine qq5 ?_;refine ah (u:=vi src) rfl (b1.cell (o:=0) rfl) ?_;(repeat' (refine aQ rfl rfl ?_));refine bC hs rfl rfl (by omega) (Vr (by omega)) fun bb off hcell=>?_;refine aQ rfl rfl ?_;refine ah (u:=.bool (thM th src)) rfl hcell ?_;cases thM th src
 ·refine qq4 ?_;exact ay rfl rfl ⟨_,rfl,rfl,n1⟩
 refine qq5 ?_;refine ah (u:=vi (qC dst)) rfl (b1.cell (o:=1) rfl) ?_;cases dst with
 |none=>rw [show qC none= -1 from rfl];(repeat' (first|refine qq4 ?_|(refine aa2 (fun _=>?_) (fun _=>?_)<;>(first|(exfalso;omega)|skip))));exact ay rfl rfl ⟨_,rfl,rfl,n1⟩
 |some d=>
  rw [show qC (some d)=(d:Int) from rfl];have hd:=h2 d rfl;(repeat' (first|refine qq5 ?_|(refine aa2 (fun _=>?_) (fun _=>?_)<;>(first|(exfalso;omega)|skip))));refine ah (u:=.slice a th.length cap) rfl (h.cell (o:=0) rfl) ?_;refine qq5 ?_;refine ah (u:=vi d) rfl (b1.cell (o:=1) rfl) ?_;(repeat' (refine aQ rfl rfl ?_));refine bC hs rfl rfl (by omega) (Vr (by omega)) fun bb off hcell=>?_;refine aQ rfl rfl ?_;refine ah (u:=.bool (thM th d)) rfl hcell ?_;have sh: ∀(q:Bool),(!(thM th d&&decide (d≠src)))=q->Value.bool q=Value.bool (!(true&&(true&&(thM th d&&decide (d≠src))))):=fun q e=>by rw [<-e];rfl
  cases hv:thM th d
  ·refine qq4 ?_;exact ay rfl rfl ⟨_,rfl,sh true (by rw [hv];rfl),n1⟩
  refine qq5 ?_;refine ah (u:=vi d) rfl (b1.cell (o:=1) rfl) ?_;refine qq5 ?_;refine ah (u:=vi src) rfl (b1.cell (o:=0) rfl) ?_;(repeat' (first|refine qq4 ?_|refine bH rfl rfl (fun _=>?_) (fun _=>?_)))
  ·obtain rfl:d=src:=by omega
   exact ay rfl rfl ⟨_,rfl,sh true (by simp),n1⟩
  ·have hne:d≠src:=by omega
   exact ay rfl rfl ⟨_,rfl,sh false (by rw [hv];simp [hne]),n1⟩
theorem Y9 {a b:List UInt8}:Fg a b<0↔a<b:=by
 unfold Fg;by_cases h:a<b
 ·rw [if_pos h];simp [h]
 ·rw [if_neg h];by_cases h2:b<a
  ·rw [if_pos h2];simp [h]
  ·rw [if_neg h2];simp [h]
section
variable {Pp:Nat->Prop} {t:List Nd} {bg hm b2:Nat} {lv ev wv gv pv:Value}
theorem TP {w:World} {x y:SE} (hb:Bk w bg 145 (grC lv hm ev wv gv pv)) (hp:RdS (Wk.one vs) 1 Pp w pv (qx t)) (h2:Bk w b2 140 [pT bg]) (hx:x.1.1.src<t.length) (hy:y.1.1.src<t.length) (hlen:t.length<=512):
 Calls prog 74 #[.agg (seC x).toArray,.agg (seC y).toArray,pT b2] w (Ret fun r w'=>r=vi (Fg (pX t x.1.1.src) (pX t y.1.1.src))/\New w w'):=by
 have hpl:=wU t;obtain ⟨pa,pc,rfl,_,_⟩:=hp.form;refine oI func74 rfl ntmps74 rfl ?_;refine qq0 ?_;refine Wl.box rfl fun w1 b1 n1 s1=>?_;replace b1:Bk w1 w.heap.size 100 (seC x):=b1;refine Wl.box rfl fun w3 b3 n3 s3=>?_;replace b3:Bk w3 w1.heap.size 100 (seC y):=b3;have n03:=New.trans n1 n3;replace b1:=b1.chg n3 id;replace hb:=hb.chg n03 id;replace h2:=h2.chg n03 id;replace hp:=hp.keep (pF _) n03.keep;refine qq1 ?_;refine iy [0,1,2,3,4,5,6,7,8,9,10,11,12,13,14,15] [16,17] rfl (by kernel_rfl) (by simp only [pick,aq4,aq5];rfl) (by simp only [pick,aq4,aq5];rfl) (Grw w3) (Grw.drew w3) ?_;refine ax (u:=pT bg) rfl (fun w' hw=>(h2.chg hw.new id).cell (o:=0) rfl) ?_;refine qq7 ?_;refine ax (u:=.slice pa (qx t).length pc) rfl (fun w' hw=>(hb.chg hw.new id).cell (o:=5) rfl) ?_;(repeat' (refine aa6 ?_));refine ax (u:=vi x.1.1.src) rfl (fun w' hw=>(b1.chg hw.new id).cell (o:=0) rfl) ?_;refine dD (y:=pX t x.1.1.src) hp (fun w' hw=>hw.new.keep) rfl rfl (by omega) (uo hx) fun bb off hcell=>?_;refine ax (u:=vs (pX t x.1.1.src)) rfl hcell ?_;refine ax (u:=pT bg) rfl (fun w' hw=>(h2.chg hw.new id).cell (o:=0) rfl) ?_;refine qq7 ?_;refine ax (u:=.slice pa (qx t).length pc) rfl (fun w' hw=>(hb.chg hw.new id).cell (o:=5) rfl) ?_;(repeat' (refine aa6 ?_));refine ax (u:=vi y.1.1.src) rfl (fun w' hw=>(b3.chg hw.new id).cell (o:=0) rfl) ?_;refine dD (y:=pX t y.1.1.src) hp (fun w' hw=>hw.new.keep) rfl rfl (by omega) (uo hy) fun bb off hcell=>?_;refine ax (u:=vs (pX t y.1.1.src)) rfl hcell ?_;refine qq7 ?_;refine dH ?_;refine au (xW (a:=pX t x.1.1.src) (b:=pX t y.1.1.src)) rfl ?_;rintro _ _ ⟨rfl,rfl⟩;refine ak ⟨rfl,Grw.drew w3,?_⟩;refine Wch.last ?_;refine qq6 ?_;exact ay rfl rfl ⟨_,rfl,rfl,New.trans n03 (Grw.drew w3).new⟩
theorem Xc {w:World} {g:Nat} (hb:Bk w bg 145 (grC lv hm ev wv gv pv)) (hp:RdS (Wk.one vs) 1 Pp w pv (qx t)) (h2:Bk w b2 140 [pT bg]) (hlen:t.length<=512) (e1:bg≠g) (e2:b2≠g) (e3: ¬Pp g):
 GH 74 #[pT b2] (fun x=>pX t x.1.1.src) (fun x=>x.1.1.src<t.length) g w:=by
 intro w' c x y hx hy;refine (TP (hb.chg c fun e=>e1 e) (hp.keep (pF _) (c.keep fun k _ hk e=>by subst e;exact e3 hk)) (h2.chg c fun e=>e2 e) hx hy hlen).mono ?_;rintro _ w'' ⟨_,rfl,rfl,n⟩;exact ⟨_,rfl,⟨_,rfl,Y9⟩,n⟩
end
noncomputable def Kr (t:List Nd) (there:Nat->Bool):List Ed×List Ed:=uP (qB t) (((pK t).filter (uY there)).mergeSort fun x y=> !decide (pX t y.src<pX t x.src))
section
variable {cf:FuncId} {cc:Array Value} [hcf:oN prog cf]
theorem Ld {w:World} {a:Option Addr} {cap:Nat}:Calls prog 131 #[.slice a 0 cap,vi 0,vi 0,.func (.func cf) #[] cc] w (Ret fun _ w'=>New w w'):=by
 refine oI func131 rfl ntmps131 rfl ?_;refine qq4 ?_;refine aC (σ:=Unit) (fun _=>[(2,vi 0),(8,vi 1)]) (fun _ W=>New w W) (fun _=>0) () (sl rfl) (aB _ _) ?_;rintro _ G W n;simp only [ql];(repeat' (first|refine qq8 ?_|(refine aa2 (fun _=>?_) (fun _=>?_)<;>(first|(exfalso;omega)|skip))));exact dh rfl ⟨_,rfl,n⟩
theorem TQ {w:World} {a:Option Addr} {cap:Nat}:Calls prog 98 #[.slice a 0 cap,vi 0,.func (.func cf) #[] cc] w (Ret fun _ w'=>New w w'):=by
 refine oI func98 rfl ntmps98 rfl ?_;refine qq4 ?_;refine aC (σ:=Unit) (fun _=>[(0,.slice a 0 cap),(1,vi 0),(2,.func (.func cf) #[] cc),(6,vi 20),(7,vi 0),(8,vi 20)]) (fun _ W=>New w W) (fun _=>0) () (sl rfl) (aB _ _) ?_;rintro _ G W n;simp only [ql];(repeat' (first|refine qq8 ?_|(refine dW rfl rfl (fun _=>?_) (fun _=>?_)<;>(first|(exfalso;omega)|skip))));refine au (Ld (cf:=cf) (cc:=cc) (w:=W) (a:=a) (cap:=cap)) rfl ?_;rintro u w2 n2;refine qq8 ?_;refine aC (σ:=Unit) (fun _=>[(1,vi 0),(6,vi 20)]) (fun _ W=>New w W) (fun _=>0) () (sl rfl) (New.trans n n2) ?_;rintro _ G W n;simp only [ql];(repeat' (first|refine qq8 ?_|(refine aa2 (fun _=>?_) (fun _=>?_)<;>(first|(exfalso;omega)|skip))));exact dh rfl ⟨_,rfl,n⟩
theorem Kt {w:World} {a:Option Addr} {cap:Nat}:Calls prog 73 #[.slice a 0 cap,.func (.func cf) #[] cc] w (Ret fun _ w'=>New w w'):=by
 refine oI func73 rfl ntmps73 rfl ?_;refine qq0 ?_;refine au (TQ (cf:=cf) (cc:=cc) (w:=w) (a:=a) (cap:=cap)) rfl ?_;rintro u w2 n2;refine qq0 ?_;exact dh rfl ⟨_,rfl,n2⟩
theorem N8 {Pb:Nat->Prop} {w:World} {v:Value} {D0:List SE} {key:SE->Nm} {Pd:SE->Prop} (hix:D0.Pairwise fun x y=>x.2<y.2) (own:sO Pb w v D0) (hP: ∀y∈D0,Pd y) (hc: ∀g,v.ownBlock=some g->GH cf cc key Pd g w) (hl:D0.length<=400000000):
 Calls prog 73 #[v,.func (.func cf) #[] cc] w (Ret fun _ w'=> ∃E,E.Perm D0/\Srt (ltE key) E/\sO Pb w' v E/\Chg (fun k=>v.ownBlock=some k) w w'):=by
 by_cases h0:D0=[]
 ·subst h0;obtain ⟨a,cap,rfl,_,_⟩:=own.form;refine Kt.mono ?_;rintro _ w' ⟨_,rfl,n⟩;exact ⟨_,rfl,[],List.Perm.refl _,by simp,own.new (oH seC) n,n.any⟩
 ·obtain ⟨g,cap,rfl,_,_,hob⟩:=own.blk h0;refine (IV hix rfl own hP (hc g hob) hl).mono ?_;rintro _ w' ⟨_,rfl,E,h1,h2,o,c⟩;exact ⟨_,rfl,E,h1,h2,o,c.mono fun k _ e=>by rw [hob,e]⟩
end
section
variable {lo bg hm b6:Nat} {t:List Nd} {m:List (Nat×Nat)} {es:List Ed} {bs:List xC} {gs:List Bool} {ps:List Nm} {lv ev wv gv pv:Value} {W W':World}
theorem GrA.used {Pu:Nat->Prop} {uv:Value} {U:List SE} (g:GrA lo bg hm b6 t m es bs gs ps lv ev wv gv pv W) (u:sO Pu W uv U) (hu: ∀k,uv.ownBlock=some k->lo<=k) (c:Chg (fun k=>uv.ownBlock=some k) W W')
 (own:oP rEd 100 6 (Zn lo bg hm b6 bs wv gv pv) (Zn lo bg hm b6 bs wv gv pv) W' ev es):GrA lo bg hm b6 t m es bs gs ps lv ev wv gv pv W':=
 ⟨g.b.chg c fun e=>u.pR g.b rfl e rfl,g.tr.keep pU (c.keep fun k _ h1 e=>by have:=hu k e;omega),g.mp.chg c (fun e=>u.rZ g.mp e rfl),own,
  ⟨g.wa.row.chg (oH _) c fun k hk e=>g.wa.row.tK u rfl k hk e,fun x hx=>(g.wa.el x hx).chg (oJ _) c fun k hk e=>(g.wa.el x hx).tK u rfl k hk e,g.wa.wG,g.wa.sep⟩,g.ga.chg (oJ _) c (fun k hk e=>g.ga.tK u rfl k hk e),g.pa.chg (oJ _) c (fun k hk e=>g.pa.tK u rfl k hk e),g.lo2⟩
end
structure SfI (lo bg hm:Nat) (t:List Nd) (E:List SE) (bs0:List xC) (lv ev wv gv pv av:Value) (b7 N0:Nat) (bs:List xC) (Wn:Nat->List Nat) (gs:List Bool) (uv dv:Value) (U D:List SE) (W:World):Prop where
 g:GrA lo bg hm bg t (sG t) (pK t) bs gs (qx t) lv ev wv gv pv W
 b7:Bk W b7 140 [pT bg]
 ed:oP rEd 100 6 (fun b=>Zn lo bg hm bg bs0 wv gv pv b/\b<N0) (fun b=>Zn lo bg hm bg bs0 wv gv pv b/\b<N0) W ev (pK t)
 inc: ∀x∈bs, ∀k,x.1.ownBlock=some k->(∃y∈bs0,y.1.ownBlock=some k)∨N0<=k
 hbs:bs.map (·.2)=(abS t.length).map Wn
 hin: ∀j,j<t.length-> ∀k∈Wn j,k<t.length
 able:sO (fun b=>lo<=b/\b<N0) W av E
 us:sO (fun b=>N0<=b) W uv U
 dr:sO (fun b=>N0<=b) W dv D
 sep:Sep uv dv
 args: ∀x∈E,RdS (Wk.one Be) 1 (fun b=>Zn lo bg hm bg bs0 wv gv pv b/\b<N0) W (svV x.1.2) x.1.1.args
 uin: ∀x,x∈U∨x∈D->x∈E
 z:N0<=W.heap.size
 hlo:lo<=N0
section
variable {lo bg hm:Nat} {t:List Nd} {E:List SE} {bs0:List xC} {lv ev wv gv pv av:Value} {b7 N0:Nat} {bs:List xC} {Wn:Nat->List Nat} {gs:List Bool} {uv dv:Value} {U D:List SE} {W W':World}
theorem SfI.new (s:SfI lo bg hm t E bs0 lv ev wv gv pv av b7 N0 bs Wn gs uv dv U D W) (n:New W W'):SfI lo bg hm t E bs0 lv ev wv gv pv av b7 N0 bs Wn gs uv dv U D W':=
 ⟨s.g.new n,s.b7.chg n id,s.ed.xA qI n i3 (fun _ _ _ e=>e),s.inc,s.hbs,s.hin,s.able.new (oH seC) n,s.us.new (oH seC) n,s.dr.new (oH seC) n,s.sep,fun x hx=>(s.args x hx).keep (pF _) n.keep,s.uin,aru s.z n.size,s.hlo⟩
theorem SfI.zn (s:SfI lo bg hm t E bs0 lv ev wv gv pv av b7 N0 bs Wn gs uv dv U D W): ∀b,(Zn lo bg hm bg bs0 wv gv pv b/\b<N0)->Zn lo bg hm bg bs wv gv pv b:=by
 rintro b ⟨⟨z1,z2,z3,z0,z4,z5,z6⟩,z7⟩;refine ⟨z1,z2,z3,z0,z4,fun x hx e=>?_,z6⟩;rcases s.inc x hx b e with ⟨y,hy,e2⟩|h
 ·exact z5 y hy e2
 ·omega
theorem SfI.drop1 (s:SfI lo bg hm t E bs0 lv ev wv gv pv av b7 N0 bs Wn gs uv dv U D W) {x:SE} (hx:x∈E) {dv':Value} (o:sO (fun b=>N0<=b) W' dv' (D++ [x])) (c:Chg (fun k=>dv.ownBlock=some k) W W') (lie:dv'.ownBlock=dv.ownBlock∨ ∀k,dv'.ownBlock=some k->W.heap.size<=k):
 SfI lo bg hm t E bs0 lv ev wv gv pv av b7 N0 bs Wn gs uv dv' U (D++ [x]) W':=by
 have hd: ∀k,dv.ownBlock=some k->N0<=k:=fun k hk=>(s.dr.lt hk).1;have hed:=s.ed.xA qI c (fun k hk e=>by have h1:=(s.ed.lt hk).1.2;have:=hd k e;omega) (fun k hk _ e=>by have:=hk.2;have:=hd k e;omega);refine ⟨s.g.used s.dr (fun k hk=>aru s.hlo (hd k hk)) c (hed.mono rH (fun b _=>s.zn b) (fun b _=>s.zn b)),s.b7.chg c fun e=>s.dr.pR s.b7 rfl e rfl,hed,s.inc,s.hbs,s.hin,s.able.chg (oH seC) c (fun k hk e=>by have h1:=(s.able.lt hk).1.2;have:=hd k e;omega),s.us.chg (oH seC) c (fun k hk e=>s.sep k hk e),o,fun k hk e=>?_,fun y hy=>(s.args y hy).keep (pF _) (c.keep fun k _ hk e=>by have:=hk.2;have:=hd k e;omega),?_,aru s.z c.size,s.hlo⟩
 ·rcases lie with l|l
  ·rw [l] at e;exact s.sep k hk e
  ·have:=l k e;have:=(s.us.lt hk).2;omega
 ·intro y hy;rcases hy with hy|hy
  ·exact s.uin y (.inl hy)
  ·rcases List.mem_append.1 hy with hy|hy
   ·exact s.uin y (.inr hy)
   ·rw [List.mem_singleton.1 hy];exact hx
theorem SfI.aj3 (s:SfI lo bg hm t E bs0 lv ev wv gv pv av b7 N0 bs Wn gs uv dv U D W) {x:SE} (hx:x∈E) {uv':Value} (o:sO (fun b=>N0<=b) W' uv' (U++ [x])) (c:Chg (fun k=>uv.ownBlock=some k) W W') (lie:uv'.ownBlock=uv.ownBlock∨ ∀k,uv'.ownBlock=some k->W.heap.size<=k):
 SfI lo bg hm t E bs0 lv ev wv gv pv av b7 N0 bs Wn gs uv' dv (U++ [x]) D W':=by
 have hd: ∀k,uv.ownBlock=some k->N0<=k:=fun k hk=>(s.us.lt hk).1;have hed:=s.ed.xA qI c (fun k hk e=>by have h1:=(s.ed.lt hk).1.2;have:=hd k e;omega) (fun k hk _ e=>by have:=hk.2;have:=hd k e;omega);refine ⟨s.g.used s.us (fun k hk=>aru s.hlo (hd k hk)) c (hed.mono rH (fun b _=>s.zn b) (fun b _=>s.zn b)),s.b7.chg c fun e=>s.us.pR s.b7 rfl e rfl,hed,s.inc,s.hbs,s.hin,s.able.chg (oH seC) c (fun k hk e=>by have h1:=(s.able.lt hk).1.2;have:=hd k e;omega),o,s.dr.chg (oH seC) c (fun k hk e=>s.sep k e hk),fun k hk e=>?_,fun y hy=>(s.args y hy).keep (pF _) (c.keep fun k _ hk e=>by have:=hk.2;have:=hd k e;omega),?_,aru s.z c.size,s.hlo⟩
 ·rcases lie with l|l
  ·rw [l] at hk;exact s.sep k hk e
  ·have:=l k hk;have:=(s.dr.lt e).2;omega
 ·intro y hy;rcases hy with hy|hy
  ·rcases List.mem_append.1 hy with hy|hy
   ·exact s.uin y (.inl hy)
   ·rw [List.mem_singleton.1 hy];exact hx
  ·exact s.uin y (.inr hy)
theorem SfI.Za (s:SfI lo bg hm t E bs0 lv ev wv gv pv av b7 N0 bs Wn gs uv dv U D W) {i d:Nat} {x x':xC} {w1:World} (hi:bs[i]? =some x) (hx2:x'.2=Wn i++ [d]) (hd:d<t.length) (ho:oP (Wk.one viN) 3 1 (fun b=>lo<=b) NoB w1 x'.1 x'.2) (c1:Chg (fun k=>x.1.ownBlock=some k) W w1)
 (lie:x'.1.ownBlock=x.1.ownBlock∨ ∀k,x'.1.ownBlock=some k->W.heap.size<=k) (hr:oP (flat wrC) 65 1 (fun b=>lo<=b) NoB W' wv (bs.set i x')) (c2:Chg (fun k=>wv.ownBlock=some k) w1 W') (hwv: ∀k,wv.ownBlock=some k->k<N0):
 SfI lo bg hm t E bs0 lv ev wv gv pv av b7 N0 (bs.set i x') (fun j=>if j=i then Wn i++ [d] else Wn j) gs uv dv U D W':=by
 have hx:=apD hi;have hxo:=s.g.wa.el x hx;have hrow:=s.g.wa.row;have c:Chg (fun k=>x.1.ownBlock=some k∨wv.ownBlock=some k) W W':=Chg.trans (c1.mono fun k _ e=>.inl e) c2 fun k _ e=>.inr e;have hil:i<t.length:=by have h1:=congrArg aq0 s.hbs;have h2:=(List.getElem?_eq_some_iff.1 hi).1;simp only [aqt,arE] at h1;omega
 have hz: ∀k,(Zn lo bg hm bg bs0 wv gv pv k/\k<N0)-> ¬(x.1.ownBlock=some k∨wv.ownBlock=some k):=by
  rintro k ⟨h1,h2⟩ (e|e)
  ·rcases s.inc x hx k e with ⟨y,hy,e2⟩|h
   ·exact h1.2.2.2.2.2.1 y hy e2
   ·omega
  ·exact h1.2.2.2.2.1 e
 refine ⟨s.g.want hi ho c1 lie hr c2,s.b7.chg c fun e=>e.elim (fun e=>hxo.pR s.b7 rfl e rfl) fun e=>hrow.pR s.b7 rfl e rfl,s.ed.xA qI c (fun k hk e=>hz k (s.ed.lt hk).1 e) (fun k hk _ e=>hz k hk e),?_,?_,?_, s.able.chg (oH seC) c (fun k hk e=>e.elim (fun e=>s.able.tK hxo rfl k hk e) fun e=>s.able.tK hrow rfl k hk e),s.us.chg (oH seC) c (fun k hk e=>e.elim (fun e=>s.us.tK hxo rfl k hk e) fun e=>s.us.tK hrow rfl k hk e),s.dr.chg (oH seC) c (fun k hk e=>e.elim (fun e=>s.dr.tK hxo rfl k hk e) fun e=>s.dr.tK hrow rfl k hk e),s.sep, fun y hy=>(s.args y hy).keep (pF _) (c.keep fun k _ hk e=>hz k hk e),s.uin,aru s.z c.size,s.hlo⟩
 ·intro y hy k e;rcases arM hy with hy|rfl
  ·exact s.inc y hy k e
  ·rcases lie with l|l
   ·rw [l] at e;exact s.inc x hx k e
   ·exact .inr (aru s.z (l k e))
 ·rw [arB,s.hbs,Dw hil,hx2]
 ·intro j hj k hk;split at hk
  ·rcases List.mem_append.1 hk with hk|hk
   ·exact s.hin i hil k hk
   ·rw [List.mem_singleton.1 hk];exact hd
  ·exact s.hin j hj k hk
end
theorem Xd {Pb Pt:Nat->Prop} {w:World} {v tv:Value} {t:List Nd} {th:List Bool} (h:RdS rNd 3 Pb w v t) (ht:RdS (Wk.one vbo) 1 Pt w tv th) (hok:pM t=true) (hl:th.length=t.length):
 Calls prog 43 #[v,tv] w (Ret fun r w'=>(∃q1 q2,r=.tuple #[q1,q2,vi 0]/\RdS rEd 6 (fun b=>w.heap.size<=b) w' q1 (Kr t (thM th)).1/\RdS rEd 6 (fun b=>w.heap.size<=b) w' q2 (Kr t (thM th)).2)/\New w w'):=by
 have hlen:=qo hok;have hpos:=uM hok;have hIn:=MH hok;have hE:(pK t).length<=10240*t.length:=vT hok t.length (aat _);obtain ⟨a,cap,rfl,_,_⟩:=h.form;obtain ⟨ta,ae7,rfl,_,_⟩:=ht.form;replace ht:=ht.mono (Pb':=fun k=>k<w.heap.size) (pq _) fun k hk _=>hk;refine oI func43 rfl ntmps43 rfl ?_;refine qq0 ?_;refine Wl.box rfl fun w1 b3 n1 s1=>?_;replace b3:Bk w1 w.heap.size 44 [.slice ta th.length ae7]:=b3;refine qq2 ?_;refine au (Bo (h.keep pU n1.keep) hok) rfl ?_;rintro _ w2 ⟨⟨bg,hm,ev,wv,gv,pv,gs,bs,rfl,g,hbs,hgl⟩,n2⟩;have hz1:=n1.size;have hz2:=n2.size;refine qq5 ?_;refine Wl.alloc fun w3 b7 n3 s3=>?_;refine aJ (u:=pT bg) b7 rfl (show (0:Nat)<1 by omega) rfl rfl fun w4 b7' c4=>?_;replace b7':Bk w4 w2.heap.size 140 [pT bg]:=b7';have n24:New w2 w4:=(Chg.trans n3.any c4 i3).tN
 have n04:=New.trans (New.trans n1 n2) n24;have g4:=g.new n24;have b34:=b3.chg (New.trans n2 n24) id;clear b7 c4 g b3;obtain ⟨ea,ec,rfl,_,_⟩:=g4.ed.form;(repeat' (first|refine qq4 ?_|(refine aa4 (fun _=>?_) (fun _=>?_)<;>(first|(exfalso;omega)|skip))));refine ah (u:=.slice ta th.length ae7) rfl (b34.cell (o:=0) rfl) ?_;(repeat' (first|refine qq2 ?_|(refine aa4 (fun _=>?_) (fun _=>?_)<;>(first|(exfalso;omega)|skip))));refine ah (u:=pT bg) rfl (b7'.cell (o:=0) rfl) ?_;refine qq5 ?_;refine ah (u:=.slice ea (pK t).length ec) rfl (g4.b.cell (o:=2) rfl) ?_;obtain ⟨D0,hD0,hDx,rdD,hDa⟩:=aeU (g4.ed.rd qI.mo);have an4:D0.length=(pK t).length:=by rw [<-hD0,aqt]
 have hix:D0.Pairwise fun x y=>x.2<y.2:=by
  have:(D0.map (·.2)).Pairwise (· < ·):=by rw [hDx];exact apr
  exact List.pairwise_map.1 this
 refine au (Qy rdD (by omega)) rfl ?_;rintro cv w5 ⟨o5,n5⟩;have hz4:=n24.size;have hz5:=n5.size;refine dw (f1:=[]) (c1:=[pT w.heap.size]) rfl rfl ?_;have hsrc: ∀x∈D0,x.1.1.src<t.length/\ ∀d,x.1.1.dst=some d->d<t.length:=fun x hx=>uU x.1.1 (by rw [<-hD0];exact List.mem_map_of_mem hx);have b35:=b34.chg n5 id;have hcv: ∀k,cv.ownBlock=some k->w4.heap.size<=k:=fun k hk=>(o5.lt hk).1;have n05:=New.trans n04 n5;have aj6:=n04.size;have h3l:=b34.lt;have hz3:w.heap.size<w4.heap.size:=h3l;refine au (GL (p:=fun x=> !uY (thM th) x.1.1) o5 (fun y w' hy c=>?_)) rfl ?_
 ·exact TN (b35.chg c fun e=>by have:=hcv _ e;omega) ((ht.keep (pF _) n05.keep).keep (pF _) (c.keep fun k _ hP e=>by have:=hcv k e;omega)) hl (hsrc y hy).1 (hsrc y hy).2
 rintro av w6 ⟨o6,hav,c6⟩;have n46:New w4 w6:=(Chg.trans n5.any c6 i3).toNew fun k hk e=>by have:=hcv k e;omega
 have hAm:(D0.filter fun y=> !(!uY (thM th) y.1.1)).map (·.1.1)=(pK t).filter (uY (thM th)):=by rw [<-hD0,List.filter_map];congr 1;apply List.filter_congr;intro y _;simp
 have hAs:(D0.filter fun y=> !(!uY (thM th) y.1.1)).Sublist D0:=ao8;have hAx:=hix.sublist hAs;have hAl:=hAs.length_le;have hAu: ∀y∈D0.filter (fun y=> !(!uY (thM th) y.1.1)),uY (thM th) y.1.1=true:=fun y hy=>by simpa using (List.mem_filter.1 hy).2
 generalize hA:(D0.filter fun y=> !(!uY (thM th) y.1.1))=A at*;refine qq2 ?_;refine dw (f1:=[]) (c1:=[pT w2.heap.size]) rfl rfl ?_;have hp4:=(g4.pa.rd qU.mo).mono (Pb':=fun k=>k<w4.heap.size) (pq _) fun k hk _=>hk;have aeJ:=g4.b.lt;have ae8:=b7'.lt;have abh: ∀k,av.ownBlock=some k->w4.heap.size<=k:=fun k hk=>hcv k (hav k hk);refine au (N8 (key:=fun x=>pX t x.1.1.src) (Pd:=fun x=>x.1.1.src<t.length) hAx o6 (fun y hy=>(hsrc y (hAs.subset hy)).1) (fun g hg=>Xc (g4.b.chg n46 id) (hp4.keep (pF _) n46.keep) (b7'.chg n46 id) hlen (fun e=>by have:=abh g hg;omega) (fun e=>by have:=abh g hg;omega) (fun e=>by have:=abh g hg;omega)) (by omega)) rfl ?_;rintro u w7 ⟨E,hEp,hEs,o7,c7⟩;have n47:New w4 w7:=(Chg.trans n46.any c7 i3).toNew fun k hk e=>by have:=abh k e;omega
 have n07:=New.trans n04 n47;have an5:=n47.size;have hEm:=Tz (pX t) hAx hEp hEs;rw [hAm] at hEm;have hsm:Kr t (thM th)=uP (qB t) (E.map (·.1.1)):=by unfold Kr;rw [hEm]
 have hEA: ∀x∈E,x∈D0/\uY (thM th) x.1.1=true:=fun x hx=>⟨hAs.subset (hEp.mem_iff.1 hx),hAu x (hEp.mem_iff.1 hx)⟩;have hEl:E.length<=5300000:=by rw [hEp.length_eq];omega
 have aj7: ∀k,wv.ownBlock=some k->k<w7.heap.size:=fun k hk=>by have:=(g4.wa.row.lt hk).2;omega
 have s0:SfI w1.heap.size bg hm t E bs (.slice a t.length cap) (.slice ea (pK t).length ec) wv gv pv av w2.heap.size w7.heap.size bs (qB t) gs (.slice none 0 0) (.slice none 0 0) [] [] w7:=by refine ⟨g4.new n47,b7'.chg n47 id,((g4.new n47).ed).mono rH (fun b hb e=>⟨e,hb⟩) (fun b hb e=>⟨e,hb⟩),fun x hx k e=>.inl ⟨x,hx,e⟩,hbs,hIn,o7.mono (oU seC) (fun b hb e=>⟨by have h9:w4.heap.size<=b:=e;omega,hb⟩) i3,aN,aN,fun k e=>(by cases e),fun x hx=>((hDa x (hEA x hx).1).keep (pF _) n47.keep).mono (pq _) fun b hb e=>⟨e.elim id id,hb⟩,by simp,aat _,by omega⟩
 have hwl: ∀j,(qB t j).length<=6000000:=fun j=>by
  rw [MG,adL];have h1:(DK t j).length<=1:=by unfold DK;split<;>simp
  have h2:=arV (xO j) (pK t);omega
 clear hDa hp4 hix hDx rdD hAx hAm hAs hAl hAu hEp hEs hEm o5 c6 o6 c7 g4 b7' b34 b35 n5 n46 hD0 hA;obtain ⟨aa,ac,rfl,_,_⟩:=o7.form;clear o7;refine qq4 ?_;refine aC (σ:=Nat×List xC×(Nat->List Nat)×Value×Value×List SE×List SE) (fun q=>[(4,q.2.2.2.1),(5,q.2.2.2.2.1),(7,pT w2.heap.size),(34,.slice aa E.length ac),(35,vi E.length),(36,vi q.1)]) (fun q W=>q.1<=E.length/\SfI w1.heap.size bg hm t E bs (.slice a t.length cap) (.slice ea (pK t).length ec) wv gv pv (.slice aa E.length ac) w2.heap.size w7.heap.size q.2.1 q.2.2.1 gs q.2.2.2.1 q.2.2.2.2.1 q.2.2.2.2.2.1 q.2.2.2.2.2.2 W/\uP (qB t) (E.map (·.1.1))=(q.2.2.2.2.2.1.map (·.1.1)++(uP q.2.2.1 ((E.drop q.1).map (·.1.1))).1,q.2.2.2.2.2.2.map (·.1.1)++(uP q.2.2.1 ((E.drop q.1).map (·.1.1))).2)/\(∀j,(q.2.2.1 j).length<=6000000+q.1)/\q.2.2.2.2.2.1.length+q.2.2.2.2.2.2.length=q.1/\New w W) (fun q=>E.length-q.1) (0,bs,qB t,.slice none 0 0,.slice none 0 0,[],[]) (sl rfl) ⟨aoZ _,s0,rfl,hwl,rfl,n07⟩ ?_;clear s0;rintro ⟨i,bs',Wn,uv,dv,U,D⟩ G W ⟨hi,s,hsg,Zb,hul,nW⟩;dsimp only at hi s hsg Zb hul nW;simp only [ql];have hzW:=nW.size;(repeat' (first|refine qq2 ?_|refine aa2 (fun _=>?_) (fun _=>?_)))
 ·obtain ⟨x,hx⟩:=pz E (k:=i) (by omega);have hxE:=apD hx;obtain ⟨hxD,hxm⟩:=hEA x hxE;obtain ⟨hxs,hxd⟩:=hsrc x hxD;obtain ⟨d,hd⟩: ∃d,x.1.1.dst=some d:=by
   cases e:x.1.1.dst with
   |none=>unfold uY at hxm;rw [e] at hxm;simp at hxm
   |some d=>exact ⟨d,rfl⟩
  have hdl:=hxd d hd;rw [drop_cons hx,List.map_cons,uP,hd,Option.getD_some] at hsg;refine aO (s.able.rd (oU seC)) rfl rfl (by omega) hx fun b o cs hl2 hR hat=>?_;obtain rfl:cs=seC x:=hR;refine aS hat rfl rfl ?_;refine Wl.alloc fun w8 b8 n8 s8=>?_;refine aK (new:=seC x) b8 rfl rfl rfl rfl zl6 (IQ x) fun w9 b9 c9 s9=>?_;replace b9:Bk w9 W.heap.size 100 (seC x):=b9;have n9:New W w9:=(Chg.trans n8.any c9 i3).tN
  clear b8 n8 c9 hat;have S9:=s.new n9;have n09:=New.trans nW n9;have huW: ∀k,uv.ownBlock=some k->k<W.heap.size:=fun k hk=>(s.us.lt hk).2;clear s nW;refine qq1 ?_;refine iy [0,1,2,4,5] [3,6,7] rfl (by kernel_rfl) (by simp only [pick,aq4,aq5];rfl) (by simp only [pick,aq4,aq5];rfl) (fun w'=>New w9 w') (Chg.drew _ _) ?_;refine ax (u:=pT bg) rfl (fun w' hw=>(S9.b7.chg hw id).cell (o:=0) rfl) ?_;(repeat' (refine aa6 ?_));refine ax (u:=vi d) rfl (fun w' hw=>by have:=(b9.chg hw id).cell (o:=1) (u:=vi (qC x.1.1.dst)) rfl;rw [hd] at this;exact this) ?_;(repeat' (refine aa6 ?_));refine ax (u:=vi x.1.1.src) rfl (fun w' hw=>(b9.chg hw id).cell (o:=0) rfl) ?_;refine qq7 ?_;have n10:New w9 w9.drew:=Chg.drew _ _;refine dH ?_;refine au (Ko (S9.g.new n10) hok S9.hbs S9.hin hdl) rfl ?_;rintro rv w11 ⟨orv,n11⟩;have GZ:=New.trans n10 n11;refine ak ⟨rfl,GZ,?_⟩;obtain ⟨ra,rc,rfl,_,_⟩:=orv.form;obtain ⟨bb,hbb,hbr⟩:=CS (W:=Wn) (i:=d) hxs;refine dH ?_;refine bC (orv.rd GU.mo) rfl rfl (by omega) hbb fun b o hcell=>?_;refine ak ⟨rfl,GZ,?_⟩;refine Wch.last ?_;refine ah (u:=.bool bb) rfl hcell ?_;have S11:=S9.new GZ;have b11:=b9.chg GZ id;have TR:=New.trans n09 GZ;have Tn:=GZ.size;have hz9:=n9.size;have hzN:=S11.z;have hNl:w.heap.size<=w7.heap.size:=n07.size;clear orv hcell b9 S9 n9 n10 n11;obtain ⟨ua,uc,rfl,_,_⟩:=S11.us.form;obtain ⟨da,dc,rfl,_,_⟩:=S11.dr.form;cases hb:bb
  ·have hnr: ¬Rch Wn d x.1.1.src:=fun e=>by have:=hbr.2 e;rw [hb] at this;cases this
   rw [if_neg hnr] at hsg;refine qq2 ?_;refine bD b11 rfl rfl ?_;refine bZ (R:=flat seC) (y:=x) Ti S11.us rfl rfl rfl rfl rfl (by omega) (by omega) (by simp only [maxLen];omega) (by omega) rfl rfl fun v2 w12 p o12 c12 lie=>?_;have ani:=b11.lt;have abj:=o12.mono (Pb':=fun b=>w7.heap.size<=b) (oU seC) (fun b _ e=>by rcases e with e|e;exact e;omega) i3;have S12:=S11.aj3 hxE abj c12 lie;have b12:=b11.chg c12 (fun e=>by have:=huW _ e;omega);have n12:New w w12:=(Chg.trans TR.any c12 i3).toNew fun k hk e=>by have:=(S11.us.lt e).1;omega
   have an6:v2.ownBlock=v2.ownBlock:=rfl;clear o12 abj c12 lie S11 b11 TR;have ae9:bs'.length=t.length:=by have h1:=congrArg aq0 S12.hbs;simpa using h1
   have hne0:bs'≠ []:=by intro e;rw [e] at ae9;simp at ae9;omega
   obtain ⟨wg,wc,hwv,an7,an8,hob⟩:=S12.g.wa.row.blk hne0;obtain ⟨⟨xv,xl⟩,hxr⟩:=pz bs' (k:=x.1.1.src) (by omega);have hxo:=S12.g.wa.el _ (apD hxr);dsimp only at hxo;obtain ⟨xa,xc,rfl,abg,Y4⟩:=hxo.form;have Y5:xl=Wn x.1.1.src:=by have h1:=congrArg (fun l=>l[x.1.1.src]?) S12.hbs;simp only [apF,hxr,aq3 hxs,adJ,Option.some.injEq] at h1;exact h1
   have ae6:xl.length<=6000000+i:=by rw [Y5];exact Zb _
   subst hwv;obtain ⟨va,vc,rfl,_,_⟩:=S12.us.form;refine qq8 ?_;refine aX rfl (by kernel_rfl) (fun w'=>Chg (fun j=>(Value.slice xa xl.length xc).ownBlock=some j) w12 w') (Chg.drew _ _) ?_;intro w17 n17;have h6': ∀w',Chg (fun j=>(Value.slice xa xl.length xc).ownBlock=some j) w12 w'->Bk w' w2.heap.size 140 [pT bg]:=fun w' c=>S12.b7.chg c fun e=>hxo.pR S12.b7 rfl e rfl;have hg': ∀w',Chg (fun j=>(Value.slice xa xl.length xc).ownBlock=some j) w12 w'->Bk w' bg 145 (grC (.slice a t.length cap) hm (.slice ea (pK t).length ec) (.slice (some ⟨wg,0,none⟩) bs'.length wc) gv pv):=fun w' c=>S12.g.b.chg c fun e=>hxo.pR S12.g.b rfl e rfl;have hx': ∀w',Chg (fun j=>(Value.slice xa xl.length xc).ownBlock=some j) w12 w'->Bk w' W.heap.size 100 (seC x):=fun w' c=>b12.chg c fun e=>hxo.pR b12 rfl e rfl;refine aa0 (ax (u:=pT bg) rfl (fun w' hw=>(h6' w' hw).cell (o:=0) rfl) (af ?_));refine tJ ?_;refine aa0 (ax (u:=.slice (some ⟨wg,0,none⟩) bs'.length wc) rfl (fun w' hw=>(hg' w' hw).cell (o:=3) rfl) (af ?_));(repeat' (refine aa0 (aa6 (af ?_))));refine aa0 (ax (u:=vi x.1.1.src) rfl (fun w' hw=>(hx' w' hw).cell (o:=0) rfl) (af ?_));refine aa0 (ax (u:=pT bg) rfl (fun w' hw=>(h6' w' hw).cell (o:=0) rfl) (af ?_));refine tJ ?_;refine aa0 (ax (u:=.slice (some ⟨wg,0,none⟩) bs'.length wc) rfl (fun w' hw=>(hg' w' hw).cell (o:=3) rfl) (af ?_));(repeat' (refine aa0 (aa6 (af ?_))));refine aa0 (ax (u:=vi x.1.1.src) rfl (fun w' hw=>(hx' w' hw).cell (o:=0) rfl) (af ?_));refine aa0 (aa8 (af ?_));have hrow: ∀w',Chg (fun j=>(Value.slice xa xl.length xc).ownBlock=some j) w12 w'->w'.cell? ⟨wg,0+(x.1.1.src:Int).toNat*1,none⟩=some (.slice xa xl.length xc):=fun w' c=>by have h9:=(S12.g.wa.row.chg (oH _) c fun j hj e=>S12.g.wa.wG _ (apD hxr) j e hj).at rfl rfl hxr;have:=h9.get 0 rfl;simpa using this
   refine aa0 (ax (u:=.slice xa xl.length xc) rfl hrow (af ?_));(repeat' (refine aa0 (aa6 (af ?_))));refine aa0 (ax (u:=vi d) rfl (fun w' hw=>by have:=(hx' w' hw).cell (o:=1) (u:=vi (qC x.1.1.dst)) rfl;rw [hd] at this;exact this) (af ?_));refine aH rfl (bF (R:=Wk.one viN) (Pe:=NoB) (y:=d) qQ rfl rfl rfl rfl (by omega) (by omega) fun v8 w18 o8 n8 s8 e8=>?_);have n78:=n17.trans n8;refine ak ⟨rfl,n78.any,?_⟩;refine aH rfl (bI qQ (hxo.new (oJ _) n78) (o8.rd qQ.mo) (fun y cs hy=>hy) rfl rfl (by omega) (by simp only [maxLen,apm];omega) (by simp only [apm];omega) fun v9 w19 o9 c9 lie _=>?_);have c69:Chg (fun j=>(Value.slice xa xl.length xc).ownBlock=some j) w12 w19:=Chg.trans n78.any c9 i3;refine ak ⟨rfl,c69,?_⟩;refine aa0 (aa8 (af ?_));have ajX:=n78.size;have YP:=n12.size;have anj:=S12.z;refine Wt.last rfl (dR (f:=(·.1:xC->Value)) (q:=(v9,xl++ [d])) (j:=x.1.1.src) (cap:=wc) (S12.g.wa.row.chg (oH _) c69 fun j hj e=>S12.g.wa.wG _ (apD hxr) j e hj) rfl (by omega) (by show Value.pointer (some ⟨wg,0+(x.1.1.src:Int).toNat*1,none⟩)=_;simp) rfl rfl (by obtain ⟨_,_,rfl,_⟩:=o9.form;rfl) fun w20 o10 c10=>?_);refine ak ?_;have NZ:v9.ownBlock=(Value.slice xa xl.length xc).ownBlock∨ ∀k,v9.ownBlock=some k->w12.heap.size<=k:=lie.imp id fun h9 k hk=>by have:=h9 k hk;omega
   have S20:=S12.Za hxr (x':=(v9,xl++ [d])) (w1:=w19) (by rw [Y5]) hdl (o9.mono (pq _) (fun b _ e=>by rcases e with e|e;exact e;omega) i3) c69 NZ o10 c10 aj7;have GX:Chg (fun j=>(Value.slice xa xl.length xc).ownBlock=some j∨j=wg) w12 w20:=Chg.trans (c69.mono fun k _ e=>Or.inl e) c10 fun k _ e=>by cases e;exact .inr rfl
   have n20:New w w20:=(Chg.trans (M:=fun j=>(Value.slice xa xl.length xc).ownBlock=some j∨j=wg) n12.any GX fun k _ e=>e).toNew fun k hk e=>by rcases e with e|e;(have:=(hxo.lt e).1;omega);omega
   have hfe:(fun j=>if j=x.1.1.src then Wn j++ [d] else Wn j)=fun j=>if j=x.1.1.src then Wn x.1.1.src++ [d] else Wn j:=by
    funext j;by_cases e:j=x.1.1.src
    ·rw [if_pos e,if_pos e,e]
    ·rw [if_neg e,if_neg e]
   refine qq4 ?_;refine aA (i+1,bs'.set x.1.1.src (v9,xl++ [d]),(fun j=>if j=x.1.1.src then Wn x.1.1.src++ [d] else Wn j),_,_,U++ [x],D) (sl rfl) ⟨by dsimp only;omega,S20,?_,fun j=>?_,by dsimp only;rw [adL,apm];omega,n20⟩ (by dsimp only;omega)
   ·dsimp only;rw [hsg, <-hfe];simp
   ·dsimp only;split
    ·rw [adL,apm];have:=Zb x.1.1.src;omega
    ·have:=Zb j;omega
  ·have hnr:Rch Wn d x.1.1.src:=hbr.1 hb;rw [if_pos hnr] at hsg;refine qq4 ?_;refine bD b11 rfl rfl ?_;refine bZ (R:=flat seC) (y:=x) Ti S11.dr rfl rfl rfl rfl rfl (by omega) (by omega) (by simp only [maxLen];omega) (by omega) rfl rfl fun v2 w12 p o12 c12 lie=>?_;have abj:=o12.mono (Pb':=fun b=>w7.heap.size<=b) (oU seC) (fun b _ e=>by rcases e with e|e;exact e;omega) i3;have S12:=S11.drop1 hxE abj c12 lie;have n12:New w w12:=(Chg.trans TR.any c12 i3).toNew fun k hk e=>by have:=(S11.dr.lt e).1;omega
   refine qq8 ?_;refine aA (i+1,bs',Wn,.slice ua U.length uc,v2,U,D++ [x]) (sl rfl) ⟨by dsimp only;omega,S12,?_,fun j=>by dsimp only;have:=Zb j;omega,by dsimp only;rw [adL,apm];omega,n12⟩ (by dsimp only;omega);dsimp only;rw [hsg];simp
 ·obtain rfl:i=E.length:=by omega
  rw [aqi,List.map_nil,uP,aqJ,aqJ] at hsg;refine cZ rfl rfl rfl rfl ⟨_,rfl,⟨uv,dv,rfl,?_,?_⟩,nW⟩
  ·rw [hsm,hsg];exact ab4 (s.us.rd (oU seC)) (fun b hb=>by rcases hb with hb|hb;omega;exact hb.elim) fun y hy=>(s.args y (s.uin y (.inl hy))).mono (pq _) fun b _ hb=>by have:=hb.1.1;omega
  ·rw [hsm,hsg];exact ab4 (s.dr.rd (oU seC)) (fun b hb=>by rcases hb with hb|hb;omega;exact hb.elim) fun y hy=>(s.args y (s.uin y (.inr hy))).mono (pq _) fun b _ hb=>by have:=hb.1.1;omega
end Go.Proofs.YtfbnfhhmiiahnaaGreatDoor
namespace Go.Proofs.YtfbnfhhmiiahnaaGreatDoor
open Go Wk
structure Giv where
 tree:List Nd
 cards:List Cd
 fails:List Nm
 gone:List Nm
structure Bn where
 path:Nm
 device:Bool
 level:Int
 reason:Nat
 card:Option Nat
 why:Int
 wants:List Nat
deriving Inhabited
def su (t:List Nd) (i:Nat):Bool:=decide (0<i)&&(onM t i&& !Eh t i)
def CU (t:List Nd) (i:Nat):List Nat:=(pK t).filterMap fun e=>if e.src=i/\e.soft=false/\su t i=true then e.dst else none
def wC (g:Giv) (i:Nat):Option Nat:=(E8 g.tree i++ [0]).find? fun k=>g.gone.contains (pX g.tree k)
def Ku (rs:List Rfs) (i:Nat):Option Int:=rs.foldl (fun a r=>if r.node=i then some r.by_ else a) none
def Kv (rs:List (List Nat)) (i:Nat):Option Nat:=rs.foldl (fun a l=>if i∈l then some (l.headD 0) else a) none
noncomputable def firstM (g:Giv) (i:Nat):Nat×Int:=
 let t:=g.tree;let d:=su t i
 if onM t i=false then (1, -1)
 else if d=true/\sD g.cards t i=none then (2, -1)
 else match (if d=true then Ku (rX g.cards t).2 i else none) with
  |some b=>(3,b)
  |none=>if d=true/\(∃e∈pK t,e.src=i/\e.soft=false/\e.dst=none) then (4, -1)
   else match (if d=true then Kv (uD t) i else none) with
    |some k=>(5,(k:Int))
    |none=>match wC g i with
     |some k=>(6,(k:Int))
     |none=>(0, -1)
noncomputable def Aj (g:Giv) (i:Nat):Bn:=
 let c:=if su g.tree i=true then sD g.cards g.tree i else none
 {path:=pX g.tree i,device:=su g.tree i,level:=match c with|some k=>(g.cards.getD k default).level|none=>0,
  reason:=(firstM g i).1,card:=c,why:=(firstM g i).2,wants:=(if 0<i then [par g.tree i] else [])++CU g.tree i}
def qJ (N:Nat->Bn) (n:Nat):List Nat:=((abS n).filter fun i=>decide ((N i).reason=0)).mergeSort fun x y=> !decide (sH (fun i=>(N i).level) (fun i=>(N i).path) y x<0)
abbrev St:=Nat->Nat
def sW (N:Nat->Bn) (S:St):Option Nat->List Nat->Option Nat
 |best,[]=>best
 |best,n::r=>sW N S (if S n≠1/\(∀j,best=some j->(N n).path<(N j).path) then some n else best) r
def uf (N:Nat->Bn) (S:St) (i:Nat):Option Nat:=sW N S none (N i).wants
def sS (N:Nat->Bn) (fl:Nm->Bool) (S:St) (i:Nat):Option St:=
 if (N i).reason=0/\S i=0/\uf N S i=none then some (fun k=>if k=i then (if (N i).device&&fl (N i).path then 2 else 1) else S k) else none
structure Rnd where
 tried:List Nat
 waits:List (Nat×Nat)
deriving DecidableEq,Inhabited
def qi (N:Nat->Bn) (fl:Nm->Bool):List Nat->St->Rnd×St
 | [],S=>(⟨[],[]⟩,S)
 |i::r,S=>if S i≠0 then qi N fl r S else match sS N fl S i with
  |some S'=>let q:=qi N fl r S';(⟨i::q.1.tried,q.1.waits⟩,q.2)
  |none=>let q:=qi N fl r S;(⟨q.1.tried,(i,(uf N S i).getD 0)::q.1.waits⟩,q.2)
def doneGo (N:Nat->Bn) (fl:Nm->Bool) (order:List Nat):Nat->St->List Rnd×St
 |0,S=>([],S)
 |f+1,S=>
  let q:=qi N fl order S;let hd:=if q.1.tried=[]/\q.1.waits=[] then [] else [q.1]
  if q.1.tried=[] then (hd,q.2) else let p:=doneGo N fl order f q.2;(hd++p.1,p.2)
def S0:St:=fun _=>0
def wL (N:Nat->Bn) (fl:Nm->Bool) (n:Nat):List Rnd×St:=doneGo N fl (qJ N n) (n+1) S0
def rowOf (N:Nat->Bn) (S:St) (i:Nat):Nat×Option Nat×Int:=
 if (N i).reason≠0∨S i=1 then ((N i).reason,(N i).card,(N i).why)
 else if S i=2 then (7,(N i).card,(N i).why)
 else (8,(N i).card,match uf N S i with|some k=>(k:Int)|none=> -1)
inductive Bnd (N:Nat->Bn) (fl:Nm->Bool):Nat->Prop
 |mk (i:Nat):(N i).reason=0->((N i).device&&fl (N i).path)=false->(∀n,n∈(N i).wants->Bnd N fl n)->Bnd N fl i
def Fld (N:Nat->Bn) (fl:Nm->Bool) (i:Nat):Prop:=(N i).reason=0/\((N i).device&&fl (N i).path)=true/\ ∀n∈(N i).wants,Bnd N fl n
theorem Bnd.inv {N:Nat->Bn} {fl:Nm->Bool} {i:Nat} (h:Bnd N fl i):(N i).reason=0/\((N i).device&&fl (N i).path)=false/\ ∀n∈(N i).wants,Bnd N fl n:=by
 cases h with|mk _ h1 h2 h3=>exact ⟨h1,h2,h3⟩
theorem FQ {N:Nat->Bn} {S:St}: ∀(l:List Nat) (b:Option Nat),sW N S b l=none↔b=none/\ ∀n∈l,S n=1
 | [],b=>by simp [sW]
 |n::r,b=>by
  rw [sW,FQ r];constructor
  ·rintro ⟨h1,h2⟩;split at h1
   ·cases h1
   ·rename_i hc
    subst h1;refine ⟨rfl,fun m hm=>?_⟩;rcases List.mem_cons.1 hm with rfl|hm
    ·exact arG fun e=>hc ⟨e,fun j hj=>by cases hj⟩
    ·exact h2 m hm
  ·rintro ⟨rfl,h⟩;refine ⟨if_neg fun e=>e.1 (h n arK),fun m hm=>h m (aqd _ hm)⟩
theorem QK {N:Nat->Bn} {S:St} {i:Nat}:uf N S i=none↔ ∀n∈(N i).wants,S n=1:=by
 unfold uf;rw [FQ];simp
theorem Iq {N:Nat->Bn} {S:St}: ∀(l:List Nat) (b:Option Nat) (k:Nat),sW N S b l=some k->b=some k∨(k∈l/\S k≠1)
 | [],b,k,h=>.inl h
 |n::r,b,k,h=>by
  rw [sW] at h;rcases Iq r _ k h with e|⟨e1,e2⟩
  ·split at e
   ·rename_i hc;cases e;exact .inr ⟨arK,hc.1⟩
   ·exact .inl e
  ·exact .inr ⟨aqd _ e1,e2⟩
theorem TT {N:Nat->Bn} {S:St} {i k:Nat} (h:uf N S i=some k):k∈(N i).wants/\S k≠1:=by
 rcases Iq _ _ _ h with e|e
 ·cases e
 ·exact e
structure Vld (N:Nat->Bn) (fl:Nm->Bool) (S:St):Prop where
 le: ∀i,S i<=2
 b: ∀i,S i=1->Bnd N fl i
 f: ∀i,S i=2->Fld N fl i
theorem aj8 {N:Nat->Bn} {fl:Nm->Bool}:Vld N fl S0:=⟨fun _=>aoZ _,fun i h=>(by cases h),fun i h=>(by cases h)⟩
theorem Vld.look {N:Nat->Bn} {fl:Nm->Bool} {S S':St} {i:Nat} (v:Vld N fl S) (h:sS N fl S i=some S'):Vld N fl S':=by
 unfold sS at h;split at h
 ·rename_i hc
  cases h;obtain ⟨h1,h2,h3⟩:=hc;rw [QK] at h3;have hw: ∀n∈(N i).wants,Bnd N fl n:=fun n hn=>v.b n (h3 n hn);refine ⟨fun k=>?_,fun k hk=>?_,fun k hk=>?_⟩
  ·show (if k=i then _ else _)<=2;split
   ·split<;>omega
   ·exact v.le k
  ·split at hk
   ·rename_i e;subst e
    split at hk
    ·cases hk
    ·rename_i e;exact .mk _ h1 (by simpa using e) hw
   ·exact v.b k hk
  ·split at hk
   ·rename_i e;subst e
    split at hk
    ·rename_i e;exact ⟨h1,e,hw⟩
    ·cases hk
   ·exact v.f k hk
 ·cases h
def Fin (N:Nat->Bn) (n:Nat) (S:St):Prop:= ∀i,i<n->(N i).reason=0->S i=0-> ∃k∈(N i).wants,S k≠1
def InN (N:Nat->Bn) (n:Nat):Prop:= ∀i,i<n-> ∀k∈(N i).wants,k<n
theorem Fin.bnd {N:Nat->Bn} {fl:Nm->Bool} {S:St} {n:Nat} (v:Vld N fl S) (f:Fin N n S) (hn:InN N n) {i:Nat} (h:Bnd N fl i):i<n->S i=1:=by
 induction h with
 |mk i h1 h2 h3 ih=>
  intro hi;have h4:=v.le i;by_cases e1:S i=1
  ·exact e1
  ·by_cases e2:S i=2
   ·have:=(v.f i e2).2.1;rw [h2] at this;cases this
   ·obtain ⟨k,hk,e⟩:=f i hi h1 (by omega);exact absurd (ih k hk (hn i hi k hk)) e
def Kw (S:St) (l:List Nat):Nat:=(l.filter fun i=>decide (S i=0)).length
theorem QL {N:Nat->Bn} {fl:Nm->Bool} {S S':St} {i:Nat} (h:sS N fl S i=some S'):S i=0/\S' i≠0/\(∀k,S k≠0->S' k=S k)/\(∀k,k≠i->S' k=S k):=by
 unfold sS at h;split at h
 ·rename_i hc
  cases h;refine ⟨hc.2.1,?_,fun k hk=>?_,fun k hk=>if_neg hk⟩
  ·dsimp only;rw [if_pos rfl];split<;>decide
  ·dsimp only;rw [if_neg];intro e;subst e;exact hk hc.2.1
 ·cases h
theorem wY {N:Nat->Bn} {fl:Nm->Bool}: ∀(l:List Nat) (S:St),(∀k,S k≠0->(qi N fl l S).2 k=S k)/\(∀k,k∉l->(qi N fl l S).2 k=S k)/\(Vld N fl S->Vld N fl (qi N fl l S).2)/\
 ((qi N fl l S).1.tried=[]->(qi N fl l S).2=S/\ ∀i∈l,S i=0->sS N fl S i=none)/\(∀i∈(qi N fl l S).1.tried,i∈l/\S i=0/\(qi N fl l S).2 i≠0)
 | [],S=>⟨fun _ _=>rfl,fun _ _=>rfl,id,fun _=>⟨rfl,fun i h=>by simp at h⟩,fun i h=>by simp [qi] at h⟩
 |i::r,S=>by
  rw [qi];split
  ·rename_i h0
   obtain ⟨a,b,c,d,e⟩:=wY (N:=N) (fl:=fl) r S;refine ⟨a,fun k hk=>b k fun e=>hk (aqd _ e),c,fun h=>⟨(d h).1,fun k hk hs=>?_⟩,fun k hk=>⟨aqd _ (e k hk).1,(e k hk).2⟩⟩;rcases List.mem_cons.1 hk with rfl|hk
   ·exact absurd hs h0
   ·exact (d h).2 k hk hs
  ·rename_i h0
   have h0:S i=0:=arG h0;cases hl:sS N fl S i with
   |some S'=>
    obtain ⟨k1,k2,k3,k4⟩:=QL hl;obtain ⟨a,b,c,d,e⟩:=wY (N:=N) (fl:=fl) r S';dsimp only;refine ⟨fun k hk=>(a k (by rw [k3 k hk];exact hk)).trans (k3 k hk),fun k hk=>?_,fun v=>c (v.look hl),fun h=>(by cases h),fun k hk=>?_⟩
    ·exact (b k fun e=>hk (aqd _ e)).trans (k4 k fun e=>hk (e▸arK))
    ·rcases List.mem_cons.1 hk with rfl|hk
     ·exact ⟨arK,h0,by rw [a k k2];exact k2⟩
     ·obtain ⟨e1,e2,e3⟩:=e k hk;refine ⟨aqd _ e1,?_,e3⟩;exact arG fun hs=>hs ((k3 k hs).symm.trans e2)
   |none=>
    obtain ⟨a,b,c,d,e⟩:=wY (N:=N) (fl:=fl) r S;dsimp only;refine ⟨a,fun k hk=>b k fun e=>hk (aqd _ e),c,fun h=>⟨(d h).1,fun k hk hs=>?_⟩,fun k hk=>⟨aqd _ (e k hk).1,(e k hk).2⟩⟩;rcases List.mem_cons.1 hk with rfl|hk
    ·exact hl
    ·exact (d h).2 k hk hs
theorem Zc {S S':St} {l:List Nat} (h: ∀k,S k≠0->S' k=S k) {i:Nat} (hi:i∈l) (h0:S i=0) (h1:S' i≠0):Kw S' l<Kw S l:=by
 unfold Kw;rw [<-arX, <-arX];induction l with
 |nil=>simp at hi
 |cons x r ih=>
  rw [arY,arY];have hle:arZ (fun i=>decide (S' i=0)) r<=arZ (fun i=>decide (S i=0)) r:=by apply List.countP_mono_left;intro k _ hk;rw [decide_eq_true_eq] at hk ⊢;exact arG fun e=>e ((h k e).symm.trans hk)
  rcases List.mem_cons.1 hi with rfl|hi
  ·rw [decide_eq_true h0,decide_eq_false h1,if_neg (by decide),if_pos rfl];omega
  ·have:=ih hi;have h2:(if decide (S' x=0)=true then 1 else 0)<=(if decide (S x=0)=true then 1 else 0):=by
    by_cases e:S x=0
    ·rw [decide_eq_true e,if_pos rfl];split<;>decide
    ·rw [decide_eq_false e,decide_eq_false (by rw [h x e];exact e)];exact aat _
   exact Nat.add_lt_add_of_lt_of_le this h2
theorem Ky {N:Nat->Bn} {fl:Nm->Bool} {order:List Nat}: ∀(f:Nat) (S:St),Vld N fl S->Kw S order<f->Vld N fl (doneGo N fl order f S).2/\(∀i∈order,(doneGo N fl order f S).2 i=0->sS N fl (doneGo N fl order f S).2 i=none)
 |0,S,_,h=>by omega
 |f+1,S,v,h=>by
  obtain ⟨a,b,c,d,e⟩:=wY (N:=N) (fl:=fl) order S;rw [doneGo];dsimp only;split
  ·rename_i ht
   dsimp only;refine ⟨c v,fun i hi h0=>?_⟩;rw [(d ht).1] at h0 ⊢;exact (d ht).2 i hi h0
  ·rename_i ht
   obtain ⟨i,hi⟩:=List.exists_mem_of_ne_nil _ ht;obtain ⟨e1,e2,e3⟩:=e i hi;exact Ky f _ (c v) (by have:=Zc a e1 e2 e3;omega)
theorem QM {N:Nat->Bn} {n i:Nat}:i∈qJ N n↔i<n/\(N i).reason=0:=by
 unfold qJ;rw [arL,aoW,aoV,decide_eq_true_eq]
theorem QN (N:Nat->Bn) (n:Nat):(qJ N n).length<=n:=by
 unfold qJ;rw [ard];have:=arD (fun i=>decide ((N i).reason=0)) (abS n)
 rwa [arE] at this
theorem Xe {N:Nat->Bn} {fl:Nm->Bool} {S:St} {n:Nat} (h: ∀i∈qJ N n,S i=0->sS N fl S i=none):Fin N n S:=by
 intro i hi hr h0;have:=h i (QM.2 ⟨hi,hr⟩) h0;unfold sS at this;split at this
 ·cases this
 ·rename_i hc
  have hw:uf N S i≠none:=fun e=>hc ⟨hr,h0,e⟩;cases hk:uf N S i with
  |none=>exact absurd hk hw
  |some k=>exact ⟨k,TT hk⟩
theorem MI (N:Nat->Bn) (fl:Nm->Bool) (n:Nat):Vld N fl (wL N fl n).2/\Fin N n (wL N fl n).2:=by
 unfold wL;have hl:Kw S0 (qJ N n)<n+1:=by
  have h1:=QN N n;have:Kw S0 (qJ N n)<=(qJ N n).length:=by unfold Kw;exact arD _ _
  omega
 obtain ⟨v,h⟩:=Ky (n+1) S0 aj8 hl;exact ⟨v,Xe h⟩
theorem QO {N:Nat->Bn} {S:St} {i:Nat}:(rowOf N S i).1=0↔(N i).reason=0/\S i=1:=by
 unfold rowOf;split
 ·rename_i h
  dsimp only;constructor
  ·intro e;exact ⟨e,h.resolve_left fun q=>q e⟩
  ·exact fun e=>e.1
 ·rename_i h
  rw [not_or,Decidable.not_not] at h;split
  ·simp;intro _;omega
  ·simp;intro _;exact h.2
end Go.Proofs.YtfbnfhhmiiahnaaGreatDoor
namespace Go.Proofs.YtfbnfhhmiiahnaaGreatDoor
open Go Wk
open Go.RowKit (Below)
attribute [local irreducible] Go.Calls
abbrev Le (L:List (Nm×Int)):List (Value×Value):=L.map fun p=>(vs p.1,vi p.2)
structure Cnt (l:List Nm) (L:List (Nm×Int)):Prop where
 nd:(L.map (·.1)).Nodup
 mem: ∀p∈L,1<=p.2/\p.2<=l.length/\p.1∈l
 all: ∀s∈l, ∃c,(s,c)∈L
theorem N9 {s:Nm} (h:s.length<=100000000): ∃q,keyOf prog 9 (vs s)=some q:=
 ⟨_,WideMaps.keyOf_string_mk underlying9 (by simp only [ByteArray.size,ao4,maxLen];omega)⟩
theorem FT {Pb:Nat->Prop} {w:World} {v:Value} {xs:List Nm} (h:RdS (Wk.one vs) 1 Pb w v xs) (hs: ∀x∈xs,x.length<=100000000):
 Calls prog 57 #[v] w (Ret fun r w'=>(∃b L,r=.map (some b)/\w.heap.size<=b/\sK prog 9 w' b (Le L)/\Cnt xs L)/\New w w'):=by
 obtain ⟨a,cap,rfl,hc1,hc2⟩:=h.form;simp only [maxLen] at hc2;refine oI func57 rfl ntmps57 rfl ?_;refine qq1 ?_;refine fZ (k:=9) fun w1 m1 n1 s1=>?_;generalize hbm:w.heap.size=bm at m1;refine qq4 ?_;refine aC (σ:=Nat×List (Nm×Int)) (fun s=>[(3,.map (some bm)),(7,.slice a xs.length cap),(8,vi xs.length),(9,vi s.1)]) (fun s W=>s.1<=xs.length/\Cnt (xs.take s.1) s.2/\sK prog 9 W bm (Le s.2)/\New w W) (fun s=>xs.length-s.1) (0,[]) (sl rfl) ⟨aoZ _,⟨by simp,by simp,by simp⟩,m1,n1⟩ ?_;rintro ⟨i,L⟩ G W ⟨hi,hC,mW,nW⟩;dsimp only at hi hC mW nW;simp only [ql];(repeat' (first|refine qq2 ?_|refine aa2 (fun _=>?_) (fun _=>?_)))
 ·obtain ⟨s,hx⟩:=pz xs (k:=i) (by omega);refine bC (h.keep (pF _) nW.keep) rfl rfl (by omega) hx fun b o hcell=>?_;refine ah (u:=vs s) rfl hcell ?_;refine qq0 ?_;obtain ⟨q,hq⟩:=N9 (hs s (apD hx));have hlen:(xs.take i).length=i:=by rw [apb];omega
  refine jb (Maps.string_keyed underlying9) mW hq rfl rfl ?_;rintro r (hr|⟨rfl,hr⟩)
  ·obtain ⟨⟨s',c⟩,hm,e⟩:=List.mem_map.1 hr;simp only [Prod.mk.injEq] at e;obtain ⟨e1,rfl⟩:=e;obtain rfl:=yA e1;have hb:=hC.mem _ hm;dsimp only at hb;(repeat' (refine Wl.add rfl rfl (by omega) (by omega) ?_));refine kL (v0:=vi c) (u:=vi (c+1)) (Maps.string_keyed underlying9) mW hq hr rfl rfl rfl fun w2 j v2 hj m2 c2 s2=>?_;rw [apF] at hj;obtain ⟨⟨s2',c2'⟩,hj1,hj2⟩:=Option.map_eq_some_iff.1 hj;simp only [Prod.mk.injEq] at hj2;obtain rfl:=yA hj2.1;have hset:(Le L).set j (vs s2',vi (c+1))=Le (L.set j (s2',c+1)):=by unfold Le;rw [arB]
   rw [hset] at m2;refine qq4 ?_;have hjl:=(List.getElem?_eq_some_iff.1 hj1).1;refine aA (i+1,L.set j (s2',c+1)) (sl rfl) ⟨by dsimp only;omega,⟨?_,fun p hp=>?_,fun t ht=>?_⟩,m2,Chg.trans nW c2 fun k hk e=>by omega⟩ (by dsimp only;omega)
   ·rw [arB];have:(L.map (·.1)).set j s2'=L.map (·.1):=by
     apply ao6;intro m;rw [apo];split
     ·rename_i e;subst e
      rw [if_pos (by simpa using hjl),apF,hj1];rfl
     ·rfl
    rw [this];exact hC.nd
   ·rw [take_snoc hx,adL,hlen];rcases arM hp with hp|rfl
    ·have:=hC.mem p hp;rw [hlen] at this;exact ⟨this.1,by simp;omega,ap0 _ this.2.2⟩
    ·rw [hlen] at hb;exact ⟨by dsimp only;omega,by simp;omega,by simp⟩
   ·rw [take_snoc hx] at ht;have hin:t=s2'∨t∈xs.take i:=by
     rcases List.mem_append.1 ht with ht|ht
     ·exact .inr ht
     ·exact .inl (List.mem_singleton.1 ht)
    by_cases e:t=s2'
    ·subst e;exact ⟨c+1,List.mem_set hjl _⟩
    ·obtain ⟨d,hd⟩:=hC.all t (hin.resolve_left e);obtain ⟨m,hm'⟩:=List.mem_iff_getElem?.1 hd;refine ⟨d,List.mem_iff_getElem?.2 ⟨m,?_⟩⟩;rw [List.getElem?_set_ne]
     ·exact hm'
     ·rintro rfl;rw [hj1] at hm';cases hm';exact e rfl
  ·(repeat' (refine Wl.add rfl rfl (by omega) (by omega) ?_));refine iq (u:=vi 1) (Maps.string_keyed underlying9) mW hq hr rfl rfl rfl fun w2 m2 c2 s2=>?_;refine qq4 ?_;refine aA (i+1,L++ [(s,1)]) (sl rfl) ⟨by dsimp only;omega,⟨?_,fun p hp=>?_,fun t ht=>?_⟩,by simpa [Le] using m2,Chg.trans nW c2 fun k hk e=>by omega⟩ (by dsimp only;omega)
   ·rw [aqn,List.nodup_append];refine ⟨hC.nd,by simp,fun x hx y hy=>?_⟩;obtain ⟨p,hp,rfl⟩:=List.mem_map.1 hx;simp at hy;subst hy;intro e;exact hr (vs p.1,vi p.2) (List.mem_map.2 ⟨p,hp,rfl⟩) (by rw [e])
   ·rw [take_snoc hx,adL,hlen];rcases List.mem_append.1 hp with hp|hp
    ·have:=hC.mem p hp;rw [hlen] at this;exact ⟨this.1,by simp;omega,ap0 _ this.2.2⟩
    ·rw [List.mem_singleton.1 hp];exact ⟨Int.le_refl 1,by simp;omega,by simp⟩
   ·rw [take_snoc hx] at ht;rcases List.mem_append.1 ht with ht|ht
    ·obtain ⟨d,hd⟩:=hC.all t ht;exact ⟨d,ap0 _ hd⟩
    ·rw [List.mem_singleton.1 ht];exact ⟨1,by simp⟩
 ·obtain rfl:i=xs.length:=by omega
  rw [apZ] at hC;exact ay rfl rfl ⟨_,rfl,⟨bm,L,rfl,by omega,mW,hC⟩,nW⟩
end Go.Proofs.YtfbnfhhmiiahnaaGreatDoor
