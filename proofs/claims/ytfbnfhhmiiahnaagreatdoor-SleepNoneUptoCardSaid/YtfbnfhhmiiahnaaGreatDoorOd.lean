/-
  Texts of this claim, one behind the other: Sz, Rf, Rg, Rn, Rs, Rh, D3, Ds, Ru, D4, D5, D6, D7, D8, S9, SA, SB, B8, BM, E1, E2, E3, E4, E5, E6, E7, E8, E9.
-/
import Derived.Test.YtfbnfhhmiiahnaaGreatDoorOc
import Derived.RangeFuncFrom
import Derived.RangeFuncLeaves
import Derived.CallsIn
import Derived.TacticsIn
import Derived.RangeFuncSeq
import Derived.RangeFuncNested
import Derived.OrdersIn
set_option linter.all false
set_option maxHeartbeats 16000000
set_option maxRecDepth 8000
open List renaming range → ab8,replicate → aok,mem_of_getElem? → aop,length_singleton → anM,getElem?_map → an3,length_append → am7,getElem?_range → aoT,getD_eq_getElem?_getD → an7,getElem?_eq_getElem → anv,length → apq,getElem?_cons_succ → apl,getElem?_cons_zero → apm,mem_cons_of_mem → aoC,length_take → anD,getElem?_set → anO,map → apU,map_congr_left → aoA,length_set → apn,map_set → apW,count_cons → apY,range_succ → apQ,ext_getElem? → anC,getElem?_eq_none → anl,take_length → aon,drop_length → aoG,append_nil → aoS,length_cons → anJ,mem_or_eq_of_mem_set → apZ,getElem?_replicate → ap0,length_replicate → ap1,length_range → apP,mem_cons_self → ap2,flatMap_append → apI,replicate_eq_nil_iff → ap3,length_filter_le → apO,length_map → aoR,mem_append_left → ap4,lt_trans → apd,mergeSort_perm → ap5,foldl_cons → aoK,eq_nil_iff_forall_not_mem → aos,count_set → ap9,size_toArray → anu,map_replicate → aqa,append_assoc → adK,length_filterMap_le → aqb,mem_mergeSort → aqd,mem_range → ano,length_mergeSort → apu,map_cons → acd,countP_eq_length_filter → aqe,countP_cons → aqf,countP → aqg,map_append → aoN
open Nat renaming zero_le → anq,le_trans → apR,zero_add → ace,le_refl → aap,lt_or_ge → apS,beq → ank,ne_of_beq_eq_false → anA,le_of_ble_eq_true → ap6,strongRecOn → aoI
open Array renaming getD_eq_getD_getElem? → ab9,getElem?_eq_getElem → aaX,getElem?_setIfInBounds_ne → apT,getElem?_eq_none → apV,replicate → anp,getElem?_replicate → anB,getElem?_toList → aoQ,size_setIfInBounds → ap8
open Int renaming toNat_natCast → ant,lt_irrefl → aqc
open Bool renaming and_eq_true → ann,false_or → aow
open Decidable renaming byContradiction → apX
open Option renaming map_some → am6,getD_some → ao0,bind_some → ap7
open Go.Proofs.Tryz
namespace Go.Proofs.YtfbnfhhmiiahnaaGreatDoor
open Go Wk Sy
section
theorem IQ {α:Type} {a b:α}: ∀ {S:List α},S.Nodup->[a,b].Sublist S->[b,a].Sublist S->False
 | [],_,h,_=>by cases h
 |x::r,hn,h1,h2=>by
  have hx:=(List.nodup_cons.1 hn).1;have hr:=(List.nodup_cons.1 hn).2;cases h1 with
  |cons _ h1=>
   cases h2 with
   |cons _ h2=>exact IQ hr h1 h2
   |cons_cons _ h2=>exact hx (h1.subset (by simp))
  |cons_cons _ h1=>
   cases h2 with
   |cons _ h2=>exact hx (h2.subset (by simp))
   |cons_cons _ h2=>exact hx (h1.subset (by simp))
theorem TN: ∀ {D:List SE},(D.Pairwise fun x y=>x.2<y.2)-> ∀ {x y},x∈D->y∈D->x.2<y.2->[x,y].Sublist D
 | [],_,x,y,h,_,_=>by cases h
 |d::r,hp,x,y,hx,hy,hlt=>by
  obtain ⟨h1,h2⟩:=List.pairwise_cons.1 hp;rcases List.mem_cons.1 hx with ex|hx
  ·rcases List.mem_cons.1 hy with ey|hy
   ·rw [ex,ey] at hlt;omega
   ·rw [ex];exact List.Sublist.cons_cons _ (List.singleton_sublist.2 hy)
  ·rcases List.mem_cons.1 hy with ey|hy
   ·have:=h1 x hx;rw [ey] at hlt;omega
   ·exact List.Sublist.cons _ (TN h2 hx hy hlt)
variable {key:SE->Nm}
abbrev leE (key:SE->Nm) (x y:SE):Bool:= !cpE key y x
theorem Xy: ∀x y z:SE,leE key x y=true->leE key y z=true->leE key x z=true:=by
 intro x y z h1 h2;unfold leE cpE at*;simp only [Bool.not_eq_true',decide_eq_false_iff_not] at*;intro h;by_cases e:key z<key y
 ·exact h2 e
 ·by_cases e2:key y=key z
  ·rw [e2] at h1;exact h1 h
  ·exact h1 (apd (EU e (fun e3=>e2 e3.symm)) h)
theorem TP: ∀x y:SE,(leE key x y||leE key y x)=true:=by
 intro x y;unfold leE cpE;by_cases e:key y<key x
 ·have: ¬key x<key y:=fun h=>List.lt_irrefl _ (apd e h);simp [this]
 ·simp [e]
theorem QW {D0:List SE} (hix:D0.Pairwise fun x y=>x.2<y.2):Srt (ltE key) (D0.mergeSort (leE key)):=by
 have hp:=ap5 D0 (leE key);have hs:=List.pairwise_mergeSort (le:=leE key) Xy TP D0;have hd:D0.Nodup:=hix.imp fun h e=>by rw [e] at h;omega
 have hn:(D0.mergeSort (leE key)).Nodup:=hp.nodup_iff.2 hd;have hi:((D0.mergeSort (leE key)).map (·.2)).Nodup:=(hp.map _).nodup_iff.2 (List.pairwise_map.2 (hix.imp fun h e=>by omega));refine List.pairwise_iff_forall_sublist.2 fun {a b} hab=>?_;have hle:=List.pairwise_iff_forall_sublist.1 hs hab;have hkn: ¬key b<key a:=by unfold leE cpE at hle;simpa using hle
 have ha:=hp.mem_iff.1 (hab.subset (by simp:a∈ [a,b]));have hb:=hp.mem_iff.1 (hab.subset (by simp:b∈ [a,b]));by_cases hlt:key a<key b
 ·exact .inl hlt
 have hke:key a=key b:=apX fun e=>hlt (EU hkn fun e2=>e e2.symm);refine .inr ⟨hke,?_⟩;have hne:a.2≠b.2:=by have:=hi.sublist (hab.map (·.2));simp at this;exact this
 by_cases h2:a.2<b.2
 ·exact h2
 ·have hba:=TN hix hb ha (by omega);have:=List.pair_sublist_mergeSort (le:=leE key) Xy TP (by unfold leE cpE;simp [hlt]) hba;exact (IQ hn hab this).elim
theorem QX {D0 E:List SE} (pt:Nat->Nm) (hix:D0.Pairwise fun x y=>x.2<y.2) (hp:E.Perm D0) (hs:Srt (ltE fun x=>pt x.1.1.src) E):E.map (·.1.1)=(D0.map (·.1.1)).mergeSort fun x y=> !decide (pt y.src<pt x.src):=by
 have h:=YO (abb fun x=>pt x.1.1.src) (hp.trans (ap5 D0 (leE fun x=>pt x.1.1.src)).symm) hs (QW hix);rw [h];exact List.map_mergeSort (fun a _ b _=>rfl)
end
end Go.Proofs.YtfbnfhhmiiahnaaGreatDoor
namespace Go.Proofs.YtfbnfhhmiiahnaaGreatDoor.Wk
open Go Go.RowKit
abbrev FR:Option Nat->Fence
 |none=>Fence.wide
 |some r=>Fence.wide.inRound r
def Dq (l:List Oper):Bool:=l.all fun o=>match o.op with| .defer _=>false|_=>true
section
variable {P:Program} {r:Option Nat}
theorem Ku {o:Oper} {a:Act} {next next':Act->World->Prop} {Q:Exit->Act->World->Prop} {res:Result Next} (hn: ∀a w,next a w->next' a w) (h:o.upon P a next Q res):o.uponIn (FR r) 0 P a next' Q res:=by
 cases r<;>cases res with
 |ok v w=>
  cases v with
  |value v=>exact hn _ _ h
  |skip=>exact hn _ _ h
  |defer d=>exact hn _ _ h
  |enter f args=>
   refine ⟨fun _=>by simp [FR,Fence.wide] at*,?_⟩;refine CallsIn.mono (show CallsIn Fence.wide 0 P f args w _ from (callsIn_wide (n:=0)).2 h) ?_;intro e w' he;cases e with
   |returned v=>exact hn _ _ he
   |panicked c=>exact he
   |outgrown=>exact he
  |row row args=>refine ⟨fun _=>by simp [FR,Fence.wide] at*,?_⟩;intro c cs _;obtain ⟨v,w',hr,hs⟩:=h c cs;exact ⟨v,w',hn _ _ hr,stepsIn_wide.2 hs⟩
  |_=>exact h.elim
 |halt e w=>cases e<;>exact h
theorem BL {ops:Array Oper} {Q:Exit->Act->World->Prop} (hout: ¬LetsOut Q): ∀(l:List Oper),Dq l=true-> ∀a w,wpList P ops Q l a w->wpListIn (FR r) 0 P ops Q l a w
 | [],_,_,_,h=>h
 |o::l,hl,a,w,h=>by
  unfold Dq at hl;rw [List.all_cons,ann] at hl;have ih:=BL (ops:=ops) hout l hl.2;have ho: ∀c,o.op≠ .defer c:=fun c e=>by have:=hl.1;rw [e] at this;cases this
  unfold wpList at h;unfold wpListIn;have Xz: ∀f,(FR r).fn f:=by cases r<;>exact fun _=>trivial
  split
  ·rename_i hw
   rw [if_pos hw] at h;rcases h with h|⟨_,h⟩
   ·refine ⟨fun f _=>Xz f,?_⟩;rw [Oper.semAt_eq _ _ _ ho];exact Ku ih h
   ·exact absurd h hout
  ·rename_i hw
   rw [if_neg hw] at h;exact ⟨fun f _=>Xz f,ih _ _ h⟩
end
def Wr (P:Program) (n:Nat) (r:Option Nat) (Q:Po) (c:Code) (F:Fr) (w:World):Prop:=c.wpIn (FR r) 0 P (QA n [] Q) (act n [] F) w
def Qsr (P:Program) (n:Nat) (r:Option Nat) (b:Code) (Q:Po):Po
 | .normal,F,w=>Wr P n r Q b F w
 |e,F,w=>Q e F w
section
variable {P:Program} {n:Nat} {r:Option Nat} {Q:Po} {F:Fr} {w:World}
theorem dh {a b:Code} (h:Wr P n r (Qsr P n r b Q) a F w):Wr P n r Q (.seq a b) F w:=by
 refine wpIn_seq (wpIn_mono h ?_);rintro e a' w' ⟨F',rfl,hq⟩;cases e<;>first|exact hq|exact ⟨F',rfl,hq⟩
theorem bI {id:Nat} {l:List Oper} (hl:Dq l=true) (hQ: ∀F w, ¬Q .outgrown F w) (h:Wl P n [] Q l l F w):Wr P n r Q (.region id l.toArray false) F w:=by
 unfold Wl at h;exact wpIn_region_lit (BL (fun hx=>by obtain ⟨a,w,F',_,hq⟩:=hx;exact hQ F' w hq) l hl _ _ h)
theorem Wr.block {id:Nat} {c:Code} (h:Wr P n r (pW id Q) c F w):Wr P n r Q (.block id c) F w:=by
 refine wpIn_block (wpIn_mono h ?_);rintro e a' w' ⟨F',rfl,hq⟩;unfold pW at hq;cases e with
 |exit j=>
  simp only at hq;simp only [Exit.inBlock];split<;>rename_i hj
  ·rw [if_pos hj] at hq;exact ⟨F',rfl,hq⟩
  ·rw [if_neg hj] at hq;exact ⟨F',rfl,hq⟩
 |_=>exact ⟨F',rfl,hq⟩
theorem Wr.skip (h:Q .normal F w):Wr P n r Q .skip F w:=wpIn_skip ⟨F,rfl,h⟩
theorem iG {id:Nat} (h:Q (.exit id) F w):Wr P n r Q (.exit id) F w:=wpIn_exit ⟨F,rfl,h⟩
theorem jo (h:Q .ret F w):Wr P n r Q .ret F w:=wpIn_ret ⟨F,rfl,h⟩
theorem dY {c:Operand} {x y:Code} (hc:ev n F c=.bool true) (h:Wr P n r Q x F w):Wr P n r Q (.cond c x y) F w:=wpIn_cond_true (vU.trans hc) h
theorem dZ {c:Operand} {x y:Code} (hc:ev n F c=.bool false) (h:Wr P n r Q y F w):Wr P n r Q (.cond c x y) F w:=wpIn_cond_false (vU.trans hc) h
theorem bM {b:Code} (h:Wr P n r Q b F w):Qsr P n r b Q .normal F w:=h
theorem iH {b:Code} {id:Nat} (h:Q (.exit id) F w):Qsr P n r b Q (.exit id) F w:=h
theorem jq {b:Code} (h:Q .ret F w):Qsr P n r b Q .ret F w:=h
theorem Qsr.out {b:Code} (h: ∀F w, ¬Q .outgrown F w): ∀F w, ¬Qsr P n r b Q .outgrown F w:=h
theorem pW.out {id:Nat} (h: ∀F w, ¬Q .outgrown F w): ∀F w, ¬pW id Q .outgrown F w:=by unfold pW;exact h
end
section
variable {P:Program} {n:Nat} {r:Option Nat} {ops:Array Oper} {Q:Exit->Act->World->Prop}
structure Qap (F:Fence) (P:Program) (ops:Array Oper) (Q Q1:Exit->Act->World->Prop) (l2:List Oper):Prop where
 nm: ∀a w,Q1 .normal a w->wpListIn F 0 P ops Q l2 a w
 pn: ∀c a w,Q1 (.panic c) a w->Q (.panic c) a w
 out:LetsOut Q1->LetsOut Q
theorem QY {F:Fence} {o:Oper} {l2:List Oper} {Q1:Exit->Act->World->Prop} (q:Qap F P ops Q Q1 l2) {a:Act} {K K':Act->World->Prop} (hK: ∀a w,K a w->K' a w) {res:Result Next} (h:o.uponIn F 0 P a K Q1 res):o.uponIn F 0 P a K' Q res:=by
 cases res with
 |ok v w=>
  cases v with
  |value v=>exact hK _ _ h
  |skip=>exact hK _ _ h
  |defer d=>exact hK _ _ h
  |enter f args=>
   refine ⟨h.1,h.2.mono fun e w' he=>?_⟩;cases e with
   |returned v=>exact hK _ _ he
   |panicked c=>exact q.pn _ _ _ he
   |outgrown=>exact q.out he
  |row row args=>exact ⟨h.1,h.2.mono fun v w' he=>hK _ _ he⟩
  |round l f tmps asg bd=>
   refine ⟨h.1,h.2.mono fun e w' he=>?_⟩;cases e with
   |returned v=>exact hK _ _ he
   |panicked c=>exact q.pn _ _ _ he
   |outgrown=>exact q.out he
  |_=>exact h.elim
 |halt e w=>
  cases e with
  |panic v=>exact q.pn _ _ _ h
  |_=>exact h
theorem Dt {F:Fence} {l2:List Oper} {Q1:Exit->Act->World->Prop} (q:Qap F P ops Q Q1 l2): ∀(l1:List Oper) (a:Act) (w:World),wpListIn F 0 P ops Q1 l1 a w->wpListIn F 0 P ops Q (l1++l2) a w
 | [],_,_,h=>q.nm _ _ h
 |o::l1,a,w,h=>by
  rw [List.cons_append];unfold wpListIn at h ⊢;split
  ·rename_i hw
   rw [if_pos hw] at h;exact ⟨h.1,QY q (fun a w=>Dt q l1 a w) h.2⟩
  ·rename_i hw
   rw [if_neg hw] at h;exact ⟨h.1,Dt q l1 _ _ h.2⟩
end
theorem Qfn.out {P:Program} {n:Nat} {fn:Func} {R:Ending->World->Prop} (h: ∀w, ¬R .outgrown w): ∀F w, ¬Qfn P n fn R .outgrown F w:=by unfold Qfn;exact fun _ w=>h w
attribute [irreducible] Wr Qsr
abbrev Pd:=Exit->List Deferred->Fr->World->Prop
def QD (n:Nat) (Q:Pd):Exit->Act->World->Prop:=fun e a w=> ∃ds F,a=act n ds F/\Q e ds F w
def Wd (P:Program) (n:Nat) (Q:Pd) (c:Code) (ds:List Deferred) (F:Fr) (w:World):Prop:=c.wp P (QD n Q) (act n ds F) w
def Qds (P:Program) (n:Nat) (b:Code) (Q:Pd):Pd
 | .normal,ds,F,w=>Wd P n Q b ds F w
 |e,ds,F,w=>Q e ds F w
def Qdb (id:Nat) (Q:Pd):Pd
 | .exit j,ds,F,w=>if j=id then Q .normal ds F w else Q (.exit j) ds F w
 |e,ds,F,w=>Q e ds F w
def Qdn (Q:Pd) (ds:List Deferred):Po:=fun e F w=>Q e ds F w
section
variable {P:Program} {n:Nat} {ds:List Deferred} {Q:Pd} {F:Fr} {w:World}
theorem fZ {c:Code} (h:Wc P n ds (Qdn Q ds) c F w):Wd P n Q c ds F w:=by
 unfold Wc at h;refine wp_mono h ?_;rintro e a w ⟨F',rfl,hq⟩;exact ⟨ds,F',rfl,hq⟩
theorem dO {a b:Code} (h:Wd P n (Qds P n b Q) a ds F w):Wd P n Q (.seq a b) ds F w:=by
 refine wp_seq (wp_mono h ?_);rintro e a' w' ⟨ds',F',rfl,hq⟩;cases e<;>first|exact hq|exact ⟨ds',F',rfl,hq⟩
theorem Wd.block {id:Nat} {c:Code} (h:Wd P n (Qdb id Q) c ds F w):Wd P n Q (.block id c) ds F w:=by
 refine wp_block (wp_mono h ?_);rintro e a' w' ⟨ds',F',rfl,hq⟩;unfold Qdb at hq;cases e with
 |exit j=>
  simp only at hq;simp only [Exit.inBlock];split<;>rename_i hj
  ·rw [if_pos hj] at hq;exact ⟨ds',F',rfl,hq⟩
  ·rw [if_neg hj] at hq;exact ⟨ds',F',rfl,hq⟩
 |_=>exact ⟨ds',F',rfl,hq⟩
theorem eu {id:Nat} {l:List Oper} (h:Wl P n ds (Qdn Q ds) l l F w):Wd P n Q (.region id l.toArray false) ds F w:=fZ (aQ h)
theorem Wd.skip (h:Q .normal ds F w):Wd P n Q .skip ds F w:=wp_skip ⟨ds,F,rfl,h⟩
theorem gG (h:Q .ret ds F w):Wd P n Q .ret ds F w:=wp_ret ⟨ds,F,rfl,h⟩
theorem Qdn.e {e:Exit} (h:Q e ds F w):Qdn Q ds e F w:=h
theorem di {b:Code} (h:Wd P n Q b ds F w):Qds P n b Q .normal ds F w:=h
theorem gB {b:Code} (h:Q .ret ds F w):Qds P n b Q .ret ds F w:=h
theorem fH {id:Nat} (h:Q .normal ds F w):Qdb id Q .normal ds F w:=h
theorem Qdb.ret {id:Nat} (h:Q .ret ds F w):Qdb id Q .ret ds F w:=h
theorem Qdb.hit {id:Nat} (h:Q .normal ds F w):Qdb id Q (.exit id) ds F w:=by simp only [Qdb,if_pos];exact h
theorem gy {c:Operand} {x y:Code} (hc:ev n F c=.bool true) (h:Wd P n Q x ds F w):Wd P n Q (.cond c x y) ds F w:=wp_cond_true (vU.trans hc) h
theorem iI {c:Operand} {x y:Code} (hc:ev n F c=.bool false) (h:Wd P n Q y ds F w):Wd P n Q (.cond c x y) ds F w:=wp_cond_false (vU.trans hc) h
def Lv (P:Program) (n:Nat) (fn:Func) (R:Ending->World->Prop) (ds:List Deferred) (F:Fr) (u:FrameMode) (w:World):Prop:=LeavesInM Fence.wide 0 P fn (arr n F) R ds u w
def Qdf (P:Program) (n:Nat) (fn:Func) (R:Ending->World->Prop):Pd
 | .normal,ds,F,w| .ret,ds,F,w=>Lv P n fn R ds F .returning w
 | .panic chain,ds,F,w=>Lv P n fn R ds F (.panicking chain) w
 | .outgrown,_,_,w=>R .outgrown w
 |_,_,_,_=>False
theorem tZ {f:FuncId} {fn:Func} {c:Code} {l:List Value} {R:Ending->World->Prop} (hf:P.funcs[f]? =some fn) (hb:fn.body=some c) (hn:fn.ntmps=n)
 (hl:Nat.ble l.length n=true) (h:Wd P n (Qdf P n fn R) c [] (Hg l) w):Calls P f l.toArray w R:=by
 refine (callsIn_wide (n:=0)).1 (callsIn_of_wp_marks (F:=Fence.wide) hf hb trivial (wpIn_wide.2 ?_) rfl);rw [hn,CJ l n (ap6 hl)];refine wp_mono h ?_;rintro e a w ⟨ds,F,rfl,hq⟩;cases e<;>exact hq
theorem gq {fn:Func} {R:Ending->World->Prop} {D:Nat} {u:FrameMode} (hu:u≠ .run) (hD:w.heap[D]? =some (.deferred (some []))) (h:Lv P n fn R ds F u (w.putObj D (.deferred none))):
 Lv P n fn R ({target:=.collected D,args:= #[]}::ds) F u w:=⟨hu,.inl ⟨D,_,rfl,run_takeDeferred hD,h⟩⟩
theorem dG {fn:Func} {R:Ending->World->Prop} {v:Value} (h:(results fn (arr n F)).run P w=.ok v w) (k:R (.returned v) w):Lv P n fn R [] F .returning w:=⟨_,h,k⟩
end
def Qrd (L D:Nat) (W0:World) (I:World->Prop) (Ix:Code->World->Prop):Po
 | .normal,_,W=>W.heap[L]? =W0.heap[L]? /\W.heap[D]? =W0.heap[D]? /\I W
 | .ret,_,W=>W.heap[L]? =W0.heap[L]? /\W.heap[D]? =W0.heap[D]? /\Ix .ret W
 | .exit id,_,W=>W.heap[L]? =W0.heap[L]? /\W.heap[D]? =W0.heap[D]? /\Ix (.exit id) W
 |_,_,_=>False
def Qas (K:Fr->World->Prop):Po
 | .normal,F,W=>K F W
 |_,_,_=>False
theorem Qrd.out {L D:Nat} {W0:World} {I:World->Prop} {Ix:Code->World->Prop}: ∀F w, ¬Qrd L D W0 I Ix .outgrown F w:=fun _ _ h=>h
theorem Qas.out {K:Fr->World->Prop}: ∀F w, ¬Qas K .outgrown F w:=fun _ _ h=>h
section
variable {P:Program} {n:Nat} {r:Option Nat} {Q:Po} {F:Fr} {w:World}
theorem jr {σ:Type} (S:σ->List (Nat×Value)) (I:σ->World->Prop) (μ:σ->Nat) (s0:σ) {c:Code}
 (hF:agrees F (S s0)) (h0:I s0 w) (step: ∀s G w,I s w->Wr P n r (nR S I μ s Q) c (pq G (S s)) w):Wr P n r Q (.loop c) F w:=by
 unfold Wr at*;let J:Act->World->Nat->Prop:=fun a w m=> ∃s F,a=act n [] F/\agrees F (S s)/\I s w/\μ s=m;refine wpIn_loop (fun a w=> ∃m,J a w m) (fun a w=>least (J a w)) ⟨_,s0,F,rfl,hF,h0,rfl⟩ ?_;intro a w hJ;obtain ⟨⟨s,F,ha,h1,h2,h3⟩,_⟩:=zu hJ;subst ha;have:=step s F w h2;rw [oV h1] at this;refine wpIn_mono this ?_;rintro e a' w' ⟨F',rfl,hq⟩;unfold nR at hq;cases e with
 |normal=>obtain ⟨s',h1',h2',h3'⟩:=hq;have hJ':J (act n [] F') w' (μ s'):=⟨s',F',rfl,h1',h2',rfl⟩;refine ⟨⟨_,hJ'⟩,?_⟩;have:=(zu ⟨_,hJ'⟩).2 _ hJ';omega
 |_=>exact ⟨F',rfl,hq⟩
theorem nR.out {σ:Type} {S:σ->List (Nat×Value)} {I:σ->World->Prop} {μ:σ->Nat} {s:σ} (h: ∀F w, ¬Q .outgrown F w): ∀F w, ¬nR S I μ s Q .outgrown F w:=by unfold nR;exact h
end
attribute [irreducible] Wd Qds Qdb Lv
def Zo (F:Fr) (ps:Array Nat) (xs:Array Value):Fr:=(ps.toList.zip xs.toList).foldl (fun F p=>upd F p.1 p.2) F
theorem XA {n:Nat} (ps:Array Nat) (xs:Array Value) (F:Fr):((ps.zip xs).foldl (fun tmps (t,a)=>tmps.setIfInBounds t a) (arr n F))=arr n (Zo F ps xs):=by
 rw [<-Array.foldl_toList,Array.toList_zip];unfold Zo;generalize ps.toList.zip xs.toList=l;induction l generalizing F with
 |nil=>rfl
 |cons p l ih=>rw [aoK,aoK, <-ih];congr 1;simp [SH]
def TQ (P:Program) (gf:FuncId) (lb:Array Value) (N:Nat) (x:Nat->Array Value) (Rd:World->Prop):Prop:=
 ∀(l:Nat) (J:Nat->World->Prop) (Jx:World->Prop) (W:World),(∀k W,J k W->Rd W)->(∀k W W',J k W->New W W'->J k W')->
  (∀k W,k<N->J k W->YieldAt Fence.wide 0 P l (x k) W fun e W'=>(e=.returned (.bool true)/\J (k+1) W')∨(e=.returned (.bool false)/\Jx W'))->
  J 0 W->CallsIn Fence.wide 0 P gf (#[.func (.yield l) #[] #[]]++lb) W fun e W'=>(∃v,e=.returned v)/\(J N W'∨Jx W')
section
variable {P:Program} {n:Nat} {ds:List Deferred} {Q:Pd} {F:Fr} {w:World}
theorem gZ {g:Operand} {ps:Array Nat} {assign body:Code} {gf:Nat} {lb:Array Value} {N:Nat} {x:Nat->Array Value} {Rd:World->Prop}
 (hg:ev n F g=.func (.func gf) #[] lb) (eg: ∀args w,(callFunc gf args).run P w=.ok (.enter gf args) w) (it:TQ P gf lb N x Rd) (hsz: ∀k,(x k).size=ps.size)
 (I:Nat->World->Prop) (Ix:Code->World->Prop)
 (hRd: ∀k W,I k W->Rd W)
 (sN: ∀k W W',I k W->New W W'->I k W')
 (sI: ∀k W r r',I k W->W.heap[w.heap.size+1]? =some (.loop r)->I k (W.putObj (w.heap.size+1) (.loop r')))
 (sX: ∀c W r r',Ix c W->W.heap[w.heap.size+1]? =some (.loop r)->Ix c (W.putObj (w.heap.size+1) (.loop r')))
 (h0: ∀r,I 0 ((w.alloc (.deferred (some []))).alloc (.loop r)))
 (abg: ∀k W r,k<N->I k W->W.heap[w.heap.size+1]? =some (.loop r)->W.heap[w.heap.size]? =some (.deferred (some []))->
   Wr P n (some (w.heap.size+1)) (Qas fun F' W'=>New W W'/\ ∀r',Wr P n (some (w.heap.size+1)) (Qrd (w.heap.size+1) w.heap.size (W'.putObj (w.heap.size+1) (.loop r')) (I (k+1)) Ix) body F' (W'.putObj (w.heap.size+1) (.loop r'))) assign (Zo F ps (x k)) W)
 (hdone: ∀W,I N W->W.heap[w.heap.size]? =some (.deferred (some []))->Q .normal ({target:=.collected w.heap.size,args:= #[]}::ds) F W)
 (hret: ∀W,Ix .ret W->W.heap[w.heap.size]? =some (.deferred (some []))->Q .ret ({target:=.collected w.heap.size,args:= #[]}::ds) F W)
 (adr: ∀id W,Ix (.exit id) W->W.heap[w.heap.size]? =some (.deferred (some []))->Q (.exit id) ({target:=.collected w.heap.size,args:= #[]}::ds) F W):
 Wd P n Q (.rangeFunc g ps assign body) ds F w:=by
 unfold Wd;refine (wpIn_wide (n:=0)).1 (wpIn_rangeFunc ?_);intro fn _;obtain ⟨rec,hrec⟩: ∃rec:LoopState->Option Code->Loop,rec=fun st pe=>{state:=st,pending:=pe,fn,tmps:=arr n F,params:=ps,assign,body,defers:=w.heap.size}:=⟨_,rfl⟩;obtain ⟨W1,hW1⟩: ∃W1,(w.alloc (.deferred (some []))).alloc (.loop (rec .ready none))=W1:=⟨_,rfl⟩;have hL1:W1.heap[w.heap.size+1]? =some (.loop (rec .ready none)):=by rw [<-hW1];have:=World.alloc_heap_new (w.alloc (.deferred (some []))) (.loop (rec .ready none));rwa [World.size_alloc] at this
 have hK1:W1.heap[w.heap.size]? =some (.deferred (some [])):=by rw [<-hW1];exact (Below.heap_alloc _ _ _ (by simp)).trans (World.alloc_heap_new w _)
 have hI1:I 0 W1:=by rw [<-hW1];exact h0 _
 refine ⟨w.heap.size+1,[{target:=.collected w.heap.size,args:= #[]}],W1,{target:=.fn (.func gf) lb,args:= #[.func (.yield (w.heap.size+1)) #[] #[]]},W1,gf, #[.func (.yield (w.heap.size+1)) #[] #[]]++lb,W1,?_,?_,?_,?_,fun h=>by simp [Fence.wide] at h,?_⟩
 ·rw [<-hW1,hrec];exact run_enterLoop_outer _ _ _ _ _
 ·simp only [resolve,vU,hg];simp [go_sem]
 ·exact fun _ _=>trivial
 ·simp [invoke,go_sem,eg]
 ·refine (it (w.heap.size+1) (fun k W=>I k W/\W.heap[w.heap.size+1]? =some (.loop (rec .ready none))/\W.heap[w.heap.size]? =some (.deferred (some []))) (fun W=> ∃c,(c=.ret∨ ∃id,c=.exit id)/\Ix c W/\W.heap[w.heap.size+1]? =some (.loop (rec .done (some c)))/\W.heap[w.heap.size]? =some (.deferred (some []))) W1 (fun k W h=>hRd k W h.1) (fun k W W' h n=>⟨sN k W W' h.1 n,(n.block _ (Array.getElem?_eq_some_iff.1 h.2.1).1 id).trans h.2.1,(n.block _ (Array.getElem?_eq_some_iff.1 h.2.2).1 id).trans h.2.2⟩) ?_ ⟨hI1,hL1,hK1⟩).mono ?_
  ·
   rintro k W hk ⟨hi,hl,hd⟩;have hlt:w.heap.size+1<W.heap.size:=(Array.getElem?_eq_some_iff.1 hl).1;have hy:=run_yield (P:=P) (args:=(x k)) hl (by rw [hrec];exact hsz k);rw [hrec] at hy;have hz:((ps.zip (x k)).foldl (fun tmps (t,a)=>tmps.setIfInBounds t a) (arr n F))=arr n (Zo F ps (x k)):=by exact XA ps (x k) F
   refine ⟨fn,_,assign,body,hy,roundIn_of_wpIn (F:=Fence.wide) (n:=0) trivial ?_⟩;dsimp only;rw [hz];have hA:=abg k W _ hk hi hl hd;unfold Wr at hA;refine wpIn_mono hA ?_;rintro e a w1 ⟨F',rfl,hq⟩;cases e with
   |normal=>
    obtain ⟨hn,hq⟩:=hq;have hl':=(hn.block _ hlt id).trans hl;have hd':=(hn.block _ (Nat.lt_of_succ_lt hlt) id).trans hd;have hlt':w.heap.size+1<w1.heap.size:=(Array.getElem?_eq_some_iff.1 hl').1;refine ⟨_,run_beginRound hl' (by rw [hrec]),?_⟩;have hl2:(w1.putObj (w.heap.size+1) (.loop {rec .ready none with state:=.busy})).heap[w.heap.size+1]? =some (.loop {rec .ready none with state:=.busy}):=World.putObj_heap_same hlt';have hd2:(w1.putObj (w.heap.size+1) (.loop {rec .ready none with state:=.busy})).heap[w.heap.size]? =some (.deferred (some [])):=(World.putObj_heap_other (by omega)).trans hd';have hB:=hq {rec .ready none with state:=.busy};unfold Wr at hB;refine wpIn_mono hB ?_
    have fin: ∀(jump:Option Code) (W3:World),W3.heap[w.heap.size+1]? =some (.loop {rec .ready none with state:=.busy})->W3.heap[w.heap.size]? =some (.deferred (some []))->
     (Instr.endRound (w.heap.size+1) jump).run P W3=.ok (.bool jump.isNone) (W3.putObj (w.heap.size+1) (.loop (rec (if jump.isNone then .ready else .done) jump)))/\
     (W3.putObj (w.heap.size+1) (.loop (rec (if jump.isNone then .ready else .done) jump))).heap[w.heap.size+1]? =some (.loop (rec (if jump.isNone then .ready else .done) jump))/\
     (W3.putObj (w.heap.size+1) (.loop (rec (if jump.isNone then .ready else .done) jump))).heap[w.heap.size]? =some (.deferred (some [])):=fun jump W3 h3 h4=>by
     have:=run_endRound (P:=P) jump h3;rw [hrec] at this ⊢;exact ⟨this,World.putObj_heap_same (Array.getElem?_eq_some_iff.1 h3).1,(World.putObj_heap_other (by omega)).trans h4⟩
    rintro e a3 W3 ⟨F3,rfl,hq3⟩;cases e with
    |normal=>obtain ⟨h3,h4,h5⟩:=hq3;obtain ⟨hr,hl4,hk4⟩:=fin none W3 (h3.trans hl2) (h4.trans hd2);exact ⟨_,_,hr,.inl ⟨rfl,sI _ _ _ _ h5 (h3.trans hl2),hl4,hk4⟩⟩
    |ret=>obtain ⟨h3,h4,h5⟩:=hq3;obtain ⟨hr,hl4,hk4⟩:=fin (some .ret) W3 (h3.trans hl2) (h4.trans hd2);exact ⟨_,_,hr,.inr ⟨rfl,.ret,.inl rfl,sX _ _ _ _ h5 (h3.trans hl2),hl4,hk4⟩⟩
    |exit id=>obtain ⟨h3,h4,h5⟩:=hq3;obtain ⟨hr,hl4,hk4⟩:=fin (some (.exit id)) W3 (h3.trans hl2) (h4.trans hd2);exact ⟨_,_,hr,.inr ⟨rfl,.exit id,.inr ⟨id,rfl⟩,sX _ _ _ _ h5 (h3.trans hl2),hl4,hk4⟩⟩
    |goto t=>exact hq3.elim
    |panic ch=>exact hq3.elim
    |outgrown=>exact hq3.elim
   |exit id=>exact hq.elim
   |goto t=>exact hq.elim
   |ret=>exact hq.elim
   |panic ch=>exact hq.elim
   |outgrown=>exact hq.elim
  ·
   rintro e W2 ⟨⟨v,rfl⟩,(⟨hi,hl,hk⟩|⟨c,hc,hi,hl,hk⟩)⟩
   ·refine ⟨none,_,by have:=run_endLoop (P:=P) hl (by rw [hrec];simp);rw [hrec] at this;exact this,?_⟩;exact ⟨_,_,rfl,hdone _ (sI _ _ _ _ hi hl) ((World.putObj_heap_other (by omega)).trans hk)⟩
   ·refine ⟨some c,_,by have:=run_endLoop (P:=P) hl (by rw [hrec];simp);rw [hrec] at this;exact this,?_⟩;rcases hc with rfl|⟨id,rfl⟩
    ·exact wpIn_ret ⟨_,_,rfl,hret _ (sX _ _ _ _ hi hl) ((World.putObj_heap_other (by omega)).trans hk)⟩
    ·exact wpIn_exit ⟨_,_,rfl,adr _ _ (sX _ _ _ _ hi hl) ((World.putObj_heap_other (by omega)).trans hk)⟩
end
theorem jw {P:Program} {n:Nat} {r:Option Nat} {Q:Po} {F:Fr} {w:World} {id:Nat} {l1 l2 l:List Oper} {d:Nat} {g x x2:Operand} {ts:Array TypeId} {ty:TypeId} {pos:String} {aft:Array Edge}
 (hl:l=l1++⟨some d,.call {callee:=.value g,args:= #[x,x2],argTypes:=ts},ty,pos,aft,none⟩::l2) (h1:Dq l1=true) (h2:Dq l2=true) (hQ: ∀F w, ¬Q .outgrown F w)
 (h:Wl P n [] (fun e F' w'=>e=.normal/\ ∃L v v2,ev n F' g=.func (.yield L) #[] #[]/\ev n F' x=v/\ev n F' x2=v2/\YieldAt Fence.wide 0 P L #[v,v2] w' fun e w''=> ∃u,e=.returned u/\Wl P n [] Q l l2 (upd F' d u) w'') l l1 F w):
 Wr P n r Q (.region id l.toArray false) F w:=by
 unfold Wr;unfold Wl at h;refine wpIn_region_lit ?_;have hout: ¬LetsOut (QA n [] Q):=fun hx=>by obtain ⟨a,w,F',_,hq⟩:=hx;exact hQ F' w hq
 have key: ∀a w,wpListIn (FR r) 0 P l.toArray (QA n [] Q) (l1++⟨some d,.call {callee:=.value g,args:= #[x,x2],argTypes:=ts},ty,pos,aft,none⟩::l2) a w->wpListIn (FR r) 0 P l.toArray (QA n [] Q) l a w:=by intro a w h';rw [<-hl] at h';exact h'
 refine key _ _ (Dt ⟨?_,?_,?_⟩ l1 _ _ (BL (fun hx=>?_) l1 h1 _ _ h))
 rotate_left
 ·rintro c a w ⟨F',_,hq,_⟩;cases hq
 ·rintro ⟨a,w,F',_,hq,_⟩;cases hq
 ·obtain ⟨a,w,F',_,hq,_⟩:=hx;cases hq
 ·rintro a w' ⟨F',rfl,_,L,v,v2,hg,hx,hx2,fn,tmps,asg,bd,hy,hR⟩;show wpListIn (FR r) 0 P l.toArray (QA n [] Q) (_::l2) _ w';unfold wpListIn;split
  rotate_left
  ·rename_i hw;exact absurd rfl hw
  refine ⟨fun f _=>by cases r<;>trivial,?_⟩;have e:(execOp (ev n F') ⟨some d,.call {callee:=.value g,args:= #[x,x2],argTypes:=ts},ty,pos,aft,none⟩).run P w'=.ok (.round L fn tmps asg bd) w':=by simp only [execOp,resolve,hg,Deferred.ofValue,Sem.run_bind,Sem.run_pure,Result.andThen_ok,invoke];simpa [hx,hx2] using hy
  rw [Oper.semAt_eq _ _ _ (fun c h=>by cases h),wY,e,Oper.uponIn_round];refine ⟨fun h=>by cases r<;>simp [FR,Fence.wide] at h,RoundIn.mono (show RoundIn (FR r) (0-1) P L fn tmps asg bd w' _ by cases r<;>exact hR) ?_⟩;rintro _ w'' ⟨u,rfl,hw⟩;show wpListIn (FR r) 0 P l.toArray (QA n [] Q) l2 _ w'';rw [xU];exact BL hout l2 h2 _ _ hw
def NoC (w:World) (L:Nat):Prop:= ∃o,w.heap[L]? =some o/\o.isCells=false
theorem NoC.loop {w:World} {L:Nat} {r:Loop} (h:w.heap[L]? =some (.loop r)):NoC w L:=⟨_,h,rfl⟩
theorem NoC.mark {w:World} {D:Nat} {l:Option (List Deferred)} (h:w.heap[D]? =some (.deferred l)):NoC w D:=⟨_,h,rfl⟩
theorem NoC.lt {w:World} {L:Nat} (h:NoC w L):L<w.heap.size:=by obtain ⟨o,h,_⟩:=h;exact (Array.getElem?_eq_some_iff.1 h).1
theorem Bk.nl {w:World} {b L:Nat} {T:TypeId} {cs:List Value} (h:Bk w b T cs) (hL:NoC w L):b≠L:=by
 rintro rfl;obtain ⟨o,h1,h2⟩:=hL;have:=h1.symm.trans h;cases this;cases h2
theorem nP.nl {α:Type} {R:Rel α} {e:TypeId} {sz:Nat} {Pb Pe:Nat->Prop} {w:World} {v:Value} {xs:List α} {L:Nat} (h:nP R e sz Pb Pe w v xs) (hL:NoC w L) {k:Nat} (hk:v.ownBlock=some k):k≠L:=by
 obtain ⟨cs,⟨_,h⟩,_⟩:=h;rcases h with ⟨rfl,_⟩|⟨g,cap,cur,rfl,_,hg,_⟩
 ·cases hk
 ·rintro rfl;have:g=k:=by simpa [Value.ownBlock] using hk
  subst this;obtain ⟨o,h1,h2⟩:=hL;have:=h1.symm.trans hg;cases this;cases h2
theorem Chg.putObj (w:World) (L:Nat) (o:Obj):Chg (fun k=>k=L) w (w.putObj L o):=
 ⟨rfl,rfl,rfl,by simp,fun k _ hk=>World.putObj_heap_other hk⟩
theorem Bk.put {w:World} {b L:Nat} {T:TypeId} {cs:List Value} (o:Obj) (h:Bk w b T cs) (hL:NoC w L):Bk (w.putObj L o) b T cs:=h.chg (Chg.putObj w L o) (h.nl hL)
theorem nP.put {α:Type} {R:Rel α} {e:TypeId} {sz:Nat} {Pb Pe:Nat->Prop} {w:World} {v:Value} {xs:List α} {L:Nat} (o:Obj) (hR:Plain R) (h:nP R e sz Pb Pe w v xs) (hL:NoC w L):nP R e sz Pb Pe (w.putObj L o) v xs:=
 h.chg hR (Chg.putObj w L o) fun _ hk=>h.nl hL hk
theorem Chg.put {M:Nat->Prop} {w0 w:World} {L:Nat} (o:Obj) (h:Chg M w0 w) (hL:w0.heap.size<=L):Chg M w0 (w.putObj L o):=
 Chg.trans h (Chg.putObj w L o) fun k hk e=>by omega
theorem Keep.put {Pb:Nat->Prop} {w:World} {L:Nat} (o:Obj) (h: ¬Pb L):Keep Pb w (w.putObj L o):=fun b hb _=>World.putObj_heap_other fun e=>h (e▸hb)
theorem ru.put {P:Program} {k:TypeId} {w:World} {b L:Nat} {l:List (Value×Value)} (o:Obj) (h:ru P k w b l) (hL:L≠b):ru P k (w.putObj L o) b l:=h.chg (Chg.putObj w L o) fun e=>hL e.symm
theorem ig {w:World} (r:Obj) (r':Obj):New w ((w.alloc r).alloc r'):=Chg.trans (Chg.alloc _ _ _) (Chg.alloc _ _ _) i3
end Go.Proofs.YtfbnfhhmiiahnaaGreatDoor.Wk
namespace Go.Proofs.YtfbnfhhmiiahnaaGreatDoor
open Go Wk
open Go.RowKit (Below)
attribute [local irreducible] Go.Calls
theorem jy {P:Program} {n:Nat} {w:World} {f:FuncId} {fn:Func} {c:Code} {l:List Value} {R:Ending->World->Prop} (hf:P.funcs[f]? =some fn) (hb:fn.body=some c) (hn:fn.ntmps=n)
 (hl:Nat.ble l.length n=true) (h:Wr P n none (Qfn P n fn R) c (Hg l) w):CallsIn Fence.wide 0 P f l.toArray w R:=by
 refine callsIn_of_wp hf hb trivial ?_ rfl;rw [hn,CJ l n (ap6 hl)];unfold Wr at h;refine wpIn_mono h ?_;rintro e a w ⟨F,rfl,hq⟩;unfold Qfn at hq;cases e<;>first|exact ⟨rfl,hq⟩|exact hq
theorem Wk.YieldAt.mono {P:Program} {l:Nat} {args:Array Value} {W:World} {R R':Ending->World->Prop} (h:YieldAt Fence.wide 0 P l args W R) (hR: ∀e w,R e w->R' e w):YieldAt Fence.wide 0 P l args W R':=by
 obtain ⟨fn,tmps,asg,bd,h1,h2⟩:=h;exact ⟨fn,tmps,asg,bd,h1,h2.mono hR⟩
abbrev pT (b:Nat):Value:=.pointer (some ⟨b,0,none⟩)
def pK (t:List Nd):List Nm:=(ab8 t.length).map (oI t)
theorem vP (t:List Nd):(pK t).length=t.length:=by simp [pK]
theorem sQ {t:List Nd} {k:Nat} (hk:k<t.length):(pK t)[k]? =some (oI t k):=by
 unfold pK;rw [an3,aoT hk];rfl
def SqW (Pb:Nat->Prop) (bs:Nat) (v:Value) (l:List Nm) (W:World):Prop:=Bk W bs 24 [v]/\RdS (Wk.one vs) 1 Pb W v l
theorem SqW.new {Pb:Nat->Prop} {bs:Nat} {v:Value} {l:List Nm} {W W':World} (h:SqW Pb bs v l W) (n:New W W'):SqW Pb bs v l W':=⟨h.1.chg n id,h.2.keep (nZ _) n.keep⟩
theorem SqW.put {Pb:Nat->Prop} {bs L:Nat} {v:Value} {l:List Nm} {W:World} (o:Obj) (h:SqW Pb bs v l W) (hL:NoC W L) (hP: ¬Pb L):SqW Pb bs v l (W.putObj L o):=⟨h.1.put o hL,h.2.keep (nZ _) (Keep.put o hP)⟩
theorem SqW.chg {Pb M:Nat->Prop} {bs:Nat} {v:Value} {l:List Nm} {W W':World} (h:SqW Pb bs v l W) (c:Chg M W W') (hb: ¬M bs) (hP: ∀k,Pb k-> ¬M k):SqW Pb bs v l W':=⟨h.1.chg c hb,h.2.keep (nZ _) (c.keep fun k _ hk=>hP k hk)⟩
theorem iter_walk {Pb:Nat->Prop} {bs:Nat} {v:Value} {l:List Nm}:TQ prog 46 #[pT bs] l.length (fun k=> #[vs (l.getD k []),vi k]) (SqW Pb bs v l):=by
 intro L J Jx W hRd hN hY h0;obtain ⟨hb,hr⟩:=hRd _ _ h0;obtain ⟨a,cp,rfl,hc1,hc2⟩:=hr.form;simp only [maxLen] at hc2;show CallsIn Fence.wide 0 prog _ ([.func (.yield L) #[] #[],pT bs]:List Value).toArray W _;refine jy func46 rfl ntmps46 rfl ?_;(repeat' (first|refine dh ?_|refine bI rfl (by repeat' (first|exact Qfn.out (by rintro _ ⟨⟨_,e⟩,_⟩;cases e)|exact Qrd.out|exact Qas.out|refine Qsr.out ?_|refine nR.out ?_|refine Qsc.out ?_|refine pW.out ?_)) ?_));refine ah rfl (hb.cell (o:=0) rfl) ?_;(repeat' (first|refine aa1 ?_|refine ai ?_|refine bU rfl ?_|refine bM ?_|refine Wr.block ?_));refine jr (σ:=Nat) (fun k=>[(0,.func (.yield L) #[] #[]),(5,.slice a l.length cp),(6,vi l.length),(7,vi k)]) (fun k W'=>k<=l.length/\J k W') (fun k=>l.length-k) 0 (sl rfl) ⟨anq _,h0⟩ ?_;rintro k G W1 ⟨hk,hJ⟩;obtain ⟨hb1,hr1⟩:=hRd _ _ hJ;simp only [pq];(repeat' (first|refine aa1 ?_|refine ai ?_|refine bM ?_|refine dh ?_|refine bI rfl (by repeat' (first|exact Qfn.out (by rintro _ ⟨⟨_,e⟩,_⟩;cases e)|exact Qrd.out|exact Qas.out|refine Qsr.out ?_|refine nR.out ?_|refine Qsc.out ?_|refine pW.out ?_)) ?_|refine Wr.block ?_|refine Wr.skip ?_|refine iG ?_|refine iH ?_|refine dJ ?_|refine dQ ?_|refine dY rfl ?_|refine dZ rfl ?_|refine aa2 (fun _=>?_) (fun _=>?_)))
 ·obtain ⟨y,hy⟩:=nT l (k:=k) (by omega);refine aZ hr1 rfl rfl (by omega) hy fun bb o hcell=>?_;refine ah (u:=vs y) rfl hcell ?_;(repeat' (first|refine aa7 ?_|refine ai ?_|refine bM ?_|refine dh ?_));refine jw (l1:=[_,_,_]) (l2:=[_]) rfl rfl rfl (by repeat' (first|exact Qfn.out (by rintro _ ⟨⟨_,e⟩,_⟩;cases e)|exact Qrd.out|exact Qas.out|refine Qsr.out ?_|refine nR.out ?_|refine Qsc.out ?_|refine pW.out ?_)) ?_;(repeat' (first|refine aa1 ?_|refine ai ?_));refine ⟨rfl,L,vs y,vi k,rfl,rfl,rfl,?_⟩;have hg:l.getD k []=y:=by rw [an7,hy];rfl
  have hy2:=hY k W1 (by omega) hJ;dsimp only at hy2;rw [hg] at hy2;refine Wk.YieldAt.mono hy2 ?_;rintro e W4 (⟨rfl,hJ4⟩|⟨rfl,hJ4⟩)
  ·refine ⟨_,rfl,?_⟩;(repeat' (first|refine aa1 ?_|refine ai ?_|refine dw rfl ?_|refine bM ?_|refine bI rfl (by repeat' (first|exact Qfn.out (by rintro _ ⟨⟨_,e⟩,_⟩;cases e)|exact Qrd.out|exact Qas.out|refine Qsr.out ?_|refine nR.out ?_|refine Qsc.out ?_|refine pW.out ?_)) ?_|refine Wr.skip ?_|refine dL ?_|refine dZ rfl ?_|refine Wl.add rfl rfl (by omega) (by omega) ?_));exact ax (k+1) (sl rfl) ⟨by omega,hJ4⟩ (by omega)
  ·refine ⟨_,rfl,?_⟩;(repeat' (first|refine ai ?_|refine dw rfl ?_|refine bM ?_|refine jo ?_|refine jq ?_|refine fJ ?_|refine fK ?_|refine dY rfl ?_));exact eX rfl ⟨⟨_,rfl⟩,.inr hJ4⟩
 ·have e:k=l.length:=by omega
  subst e;exact cO rfl ⟨⟨_,rfl⟩,.inl hJ⟩
theorem Fh {Pb:Nat->Prop} {w:World} {v:Value} {l:List Nd} (h:RdS rNd 3 Pb w v l) (hok:og l=true):
 Calls prog 23 #[v] w (Ret fun r w'=>(∃bs sv,r=.func (.func 46) #[] #[pT bs]/\w.heap.size<=bs/\SqW (fun b=>w.heap.size<=b/\b<w'.heap.size) bs sv (pK l) w')/\New w w'):=by
 obtain ⟨a,cap,rfl,hc1,hc2⟩:=h.form;have hlen:=pF hok;replace h:=h.mono (Pb':=fun k=>k<w.heap.size) AQ fun k hk _=>hk;refine nM func23 rfl ntmps23 rfl ?_;refine qq4 ?_;refine Wl.alloc fun w1 b1 n1 s1=>?_;replace b1:Bk w1 w.heap.size 24 [.slice none 0 0]:=b1;refine qq2 ?_;refine aj (vN (h.keep oh n1.keep)) rfl ?_;rintro _ w2 ⟨rfl,n2⟩;unfold F6;rw [if_pos hok];have n02:=New.trans n1 n2;have b2:=b1.chg n2 id;have hz2:=n2.size;have hpl:=vP l;(repeat' (first|refine qq2 ?_|(refine bJ rfl rfl (fun _=>?_) (fun _=>?_)<;>(first|(exfalso;omega)|skip))));refine aA (σ:=Nat×Value) (fun q=>[(0,.slice a l.length cap),(3,pT w.heap.size),(14,.slice a l.length cap),(15,vi l.length),(16,vi q.1)]) (fun q W=>q.1<=l.length/\Bk W w.heap.size 24 [q.2]/\nP (Wk.one vs) 9 1 (fun b=>w.heap.size<b) NoB W q.2 ((pK l).take q.1)/\New w W) (fun q=>l.length-q.1) (0,.slice none 0 0) (sl rfl) ⟨anq _,b2,aI,n02⟩ ?_;rintro ⟨i,u⟩ G W ⟨hi,bW,own,nW⟩;dsimp only at hi bW own nW;simp only [pq];have hzW:=nW.size;have hbl:=bW.lt;obtain ⟨ua,uc,rfl,_,_⟩:=own.form;(repeat' (first|refine qq4 ?_|refine aa2 (fun _=>?_) (fun _=>?_)))
 ·have hx:=sQ (t:=l) (k:=i) (by omega);have hlt:((pK l).take i).length<=512:=by simp only [anD];omega
  have hne: ∀k,(Value.slice ua ((pK l).take i).length uc).ownBlock=some k->w.heap.size<k:=fun k hk=>(own.lt hk).1;refine aV rfl (by kernel_rfl) (fun w'=>Chg (fun k=>(Value.slice ua ((pK l).take i).length uc).ownBlock=some k) W w') (Chg.drew _ _) ?_;intro w3 n3;refine aa0 (au (u:=.slice ua ((pK l).take i).length uc) rfl (fun w' hw=>(bW.chg hw fun e=>by have:=hne _ e;omega).cell (o:=0) rfl) (af ?_));(repeat' (refine aa0 (aa3 (af ?_))));refine aC rfl (aj (JZ (i:=i) ((h.keep oh nW.keep).keep oh n3.keep) hok (by omega)) rfl ?_);rintro _ w4 ⟨rfl,n4⟩;replace n4:=New.trans n3 n4;refine ai ⟨rfl,n4.any,?_⟩;refine aC rfl (bC (R:=Wk.one vs) (y:=oI l i) (Pe:=NoB) rP rfl rfl rfl rfl (by omega) (by omega) fun vt w5 ot n5 s5 Oq=>?_);have n45:=New.trans n4 n5;refine ai ⟨rfl,n45.any,?_⟩;refine aC rfl (bY rP (own.new (nO _) n45) (ot.rd rP.mo) (fun y cs hy=>hy) rfl rfl (by omega) (by simp only [maxLen,anM];omega) (by simp only [anM];omega) fun v6 w6 o6 c6 lie _=>?_);have c36:Chg (fun k=>(Value.slice ua ((pK l).take i).length uc).ownBlock=some k) W w6:=Chg.trans n45.any c6 i3;refine ai ⟨rfl,c36,?_⟩;have b6:=bW.chg c36 fun e=>by have:=hne _ e;omega
  refine Wt.last rfl (aJ (u:=v6) b6 rfl (show (0:Nat)<1 by omega) rfl (by obtain ⟨_,_,rfl,_⟩:=o6.form;rfl) fun w7 b7 c7=>?_);refine ai ?_;have hz5:=n45.size;have hs6: ∀k,v6.ownBlock=some k->w.heap.size<k:=fun k hk=>by
   rcases (o6.lt hk).1 with e|e
   ·exact e
   ·omega
  refine qq6 ?_;refine ax (i+1,v6) (sl rfl) ⟨by dsimp only;omega,b7,?_,Chg.trans (Chg.trans (M:=fun k=>w.heap.size<=k) nW.any c36 fun k _ e=>by have:=hne k e;omega) c7 (fun k _ e=>by omega) |>.tN⟩ (by dsimp only;omega);rw [take_snoc hx];exact (o6.chg (nO _) c7 fun k hk e=>by have:=hs6 k hk;omega).mono rP.mo (fun b _ e=>by rcases e with e|e;exact e;omega) i3
 ·obtain rfl:i=l.length:=by omega
  have e:(pK l).take l.length=pK l:=List.take_of_length_le (by omega);rw [e] at own bW;refine dn (f1:=[]) (c1:=[pT w.heap.size]) rfl rfl ?_;refine qq3 ?_;exact ak rfl rfl ⟨_,rfl,⟨w.heap.size,.slice ua (pK l).length uc,rfl,aap _,bW,(own.rd rP.mo).mono rP.mo fun b hb e=>by rcases e with e|e;(exact ⟨by omega,hb⟩);exact e.elim⟩,nW⟩
end Go.Proofs.YtfbnfhhmiiahnaaGreatDoor
namespace Go.Proofs.YtfbnfhhmiiahnaaGreatDoor.Wk
open Go Go.RowKit
section
variable {P:Program} {n:Nat} {ds:List Deferred} {Q:Po} {F0:Fr} {w0:World} {ops:List Oper}
structure QZ (ops:List Oper) (N:Nat) (Φ:Nat->Value->World->Prop) (F0:Fr) (wb:World) (listed:Array Bool) (F:Fr) (w:World):Prop where
 size:listed.size=ops.length
 last:listed[N]? =some false
 new:New wb w
 done: ∀i:Nat,listed[i]? =some true->Φ i (F (vF ops i)) w
 rest: ∀s:Nat,(∀i:Nat,listed[i]? =some true->vF ops i≠s)->F s=F0 s
 abh: ∀(i:Nat) (o:Oper),listed[i]? =some true->ops[i]? =some o-> ∀e∈o.after,Region.binds .any e=true->listed[e.on]? =some true
def LY (ops:List Oper):Bool:=match ops[ops.length-1]? with
 |some z=>(ab8 (ops.length-1)).all (fun i=>z.after.any fun e=>e.on == i&&Region.binds .any e)&&z.after.all fun e=>e.on<ops.length-1
 |none=>false
def TR (ops:List Oper) (i s:Nat):Bool:=(ops.take (ops.length-1)).all fun o:Oper=>o.dst != some s||o.after.any fun e:Edge=>e.on == i&&Region.binds .any e
theorem Kv: ∀ {l:List Bool} {i j:Nat},i≠j->l[i]? =some false->l[j]? =some false->2<=l.count false
 | [],i,j,_,h,_=>by simp at h
 |b::r,0,0,h,_,_=>absurd rfl h
 |b::r,0,j+1,_,h1,h2=>by simp at h1 h2;subst h1;have:0<r.count false:=List.count_pos_iff.2 (aop h2);rw [apY];simp only [BEq.rfl,if_true];omega
 |b::r,i+1,0,_,h1,h2=>by simp at h1 h2;subst h2;have:0<r.count false:=List.count_pos_iff.2 (aop h1);rw [apY];simp only [BEq.rfl,if_true];omega
 |b::r,i+1,j+1,h,h1,h2=>by have:=Kv (l:=r) (i:=i) (j:=j) (by omega) (by simpa using h1) (by simpa using h2);rw [apY];omega
theorem nG {id:Nat} (Φ:Nat->Value->World->Prop) (hm:P.follows .mixedOrders=true) (h1:Wv (ops.take (ops.length-1))=true) (h2:Z5 (ops.take (ops.length-1))=true) (h3:LY ops=true)
 (hst: ∀i v w w',New w w'->Φ i v w->Φ i v w')
 (step: ∀(i:Nat) (o:Oper),i<ops.length-1->ops[i]? =some o-> ∀F w,New w0 w->(∀j,(o.after.any fun e=>e.on == j&&Region.binds .any e)=true->Φ j (F (vF ops j)) w)->(∀s,TR ops i s=true->F s=F0 s)->
   Wl P n ds (zB Φ w (vF ops i) i F) ops [o] F w)
 (fin: ∀F w z,New w0 w->ops[ops.length-1]? =some z->(∀i,i<ops.length-1->Φ i (F (vF ops i)) w)->(∀s,(∀i,i<ops.length-1->vF ops i≠s)->F s=F0 s)->Wl P n ds (fun e F' w'=>e=.normal/\Q .normal F' w') ops [z] F w):
 Wc P n ds Q (.region id ops.toArray true) F0 w0:=by
 obtain ⟨N,hN⟩: ∃N,ops.length-1=N:=⟨_,rfl⟩;obtain ⟨z,hz⟩: ∃z,ops[N]? =some z:=by
  unfold LY at h3;rw [hN] at h3;cases h:ops[N]? with
  |none=>rw [h] at h3;cases h3
  |some z=>exact ⟨z,rfl⟩
 have hNl:N<ops.length:=(List.getElem?_eq_some_iff.1 hz).1;rw [hN] at h1 h2 step fin;have hzB:(∀i,i<N->(z.after.any fun e=>e.on == i&&Region.binds .any e)=true)/\ ∀e∈z.after,e.on<N:=by unfold LY at h3;rw [hN,hz] at h3;simp only [ann] at h3;refine ⟨fun i hi=>List.all_eq_true.1 h3.1 i (List.mem_range.2 hi),fun e he=>?_⟩;have:=Array.all_eq_true'.1 h3.2 e he;simpa using this
 have htk: ∀i,i<N->(ops.take N)[i]? =ops[i]? :=fun i hi=>by rw [List.getElem?_take,if_pos hi]
 have htl:(ops.take N).length=N:=by rw [anD];omega
 have hdst: ∀i o,i<N->ops[i]? =some o->o.dst=some (vF ops i)/\ ∀e∈o.after,e.on<i:=by
  intro i o hi ho;have:=List.all_eq_true.1 h1 i (List.mem_range.2 (by omega));simp only [htk i hi,ho,ann] at this;refine ⟨?_,fun e he=>?_⟩
  ·simp only [vF,ho,ap7];cases hd:o.dst with
   |none=>rw [hd] at this;simp at this
   |some d=>rfl
  ·have h:=Array.all_eq_true'.1 this.2 e he;simpa using h
 have hne: ∀i j,i<N->j<N->i≠j->vF ops i≠vF ops j:=by intro i j hi hj hij he;have:=List.all_eq_true.1 (List.all_eq_true.1 h2 i (List.mem_range.2 (by omega))) j (List.mem_range.2 (by omega));simp only [Bool.or_eq_true,beq_iff_eq,hij,false_or,bne_iff_ne,ne_eq,htk i hi,htk j hj] at this;apply this;have ei:=(hdst i _ hi (anv (by omega))).1;have ej:=(hdst j _ hj (anv (by omega))).1;rw [anv (by omega),anv (by omega)];simp only [ap7,ei,ej,he]
 unfold Wc;refine wp_region_any hm ?_;have noQ: ∀ {Q':Po},(∀e F w,Q' e F w->e=.normal)-> ∀e a w',e≠ .normal-> ¬QA n ds Q' e a w':=by rintro Q' hQ e a w' he ⟨F',_,h⟩;exact he (hQ _ _ _ h)
 have hmono: ∀ {Q':Po} {i:Nat} {o:Oper} {F:Fr} {w:World} {K K':Act->World->Prop},(∀e F w,Q' e F w->e=.normal)->ops.toArray[i]? =some o->(∀a w,K a w->K' a w)->wpOp P ops.toArray (QA n ds Q') i K (act n ds F) w->wpOp P ops.toArray (QA n ds Q) i K' (act n ds F) w:=by
  intro Q' i o F w K K' hQ ho hK hh;have noQ:=noQ hQ;unfold wpOp at hh ⊢;simp only [ho] at hh ⊢;split
  ·rename_i hw
   rw [if_pos hw] at hh;rcases hh with hh|⟨_,a₀,w₀,hq⟩
   ·refine .inl ?_;unfold Oper.wp at*;generalize (execOp (act n ds F).eval o).run P w=r at*;cases r with
    |ok nx w'=>
     cases nx<;>simp only [Oper.upon] at hh ⊢ <;>
      first
       |exact hK _ _ hh
       |exact Calls.mono hh (fun e w'' he=>by cases e<;>first|exact hK _ _ he|exact absurd he (noQ _ _ _ (by simp))|(obtain ⟨a₀,w₀,hq⟩:=he;exact absurd hq (noQ _ _ _ (by simp))))
       |exact Rows.mono hh (fun _ _ he=>hK _ _ he)
    |halt x w'=>cases x<;>simp only [Oper.upon] at hh ⊢ <;>exact absurd hh (noQ _ _ _ (by simp))
   ·exact absurd hq (noQ _ _ _ (by simp))
  ·rename_i hw
   rw [if_neg hw] at hh;exact hK _ _ hh
 have key: ∀fuel (listed:Array Bool) F w,QZ ops N Φ F0 w0 listed F w->unl listed=fuel+1->wpAny P .any ops.toArray (QA n ds Q) (fuel+1) listed (act n ds F) w:=by
  intro fuel;have TT: ∀(listed:Array Bool) F w,QZ ops N Φ F0 w0 listed F w->Region.ready .any ops.toArray listed≠ []:=by
   intro listed F w hI hr;have hall: ∀i,i<N->listed[i]? =some true:=by
    intro i;induction i using aoI with
    |ind i ih=>
     intro hi;have his:i<listed.size:=by rw [hI.size];omega
     cases hb:listed[i] with
     |true=>rw [aaX his,hb]
     |false=>
      exfalso;have:i∈Region.ready .any ops.toArray listed:=by
       refine mem_ready.2 ⟨?_,ops[i]'(by omega),by simp,fun e he _=>?_⟩
       ·simp [ab9,aaX his,hb]
       ·have:=(hdst i _ hi (anv (by omega))).2 e he;simp [ab9,ih e.on this (by omega)]
      rw [hr] at this;cases this
   have:N∈Region.ready .any ops.toArray listed:=by
    refine mem_ready.2 ⟨?_,z,by simpa using hz,fun e he _=>?_⟩
    ·simp [ab9,hI.last]
    ·simp [ab9,hall e.on (hzB.2 e he)]
   rw [hr] at this;cases this
  induction fuel with
  |zero=>
   intro listed F w hI hu;refine ⟨fun hr=>absurd hr (TT listed F w hI),fun i hi=>?_⟩;obtain ⟨h0,o,ho,Q5⟩:=mem_ready.1 hi;have ho':ops[i]? =some o:=by simpa using ho
   have hil:i<ops.length:=(List.getElem?_eq_some_iff.1 ho').1;have his:i<listed.size:=by rw [hI.size];exact hil
   have hli:listed[i]=false:=by simpa [ab9,aaX his] using h0
   have hlt: ∀e∈o.after,Region.binds .any e=true->listed[e.on]? =some true:=by
    intro e he hb;have h:=Q5 e he hb;rcases apS e.on listed.size with h'|h'
    ·simp [ab9,aaX h'] at h;rw [aaX h',h]
    ·simp [ab9,apV h'] at h
   have hlN: ∀k,listed[k]? =some true->k<N:=fun k hk=>by
    have hkl:k<ops.length:=by
     rcases apS k ops.length with h|h
     ·exact h
     ·rw [apV (by rw [hI.size];exact h)] at hk;cases hk
    rcases apS k N with h|h
    ·exact h
    ·obtain rfl:k=N:=by omega
     rw [hI.last] at hk;cases hk
   rcases apS i N with hiN|hiN
   ·have hs:=step i o hiN ho' F w hI.new (fun j hj=>by obtain ⟨e,he,hb⟩:=Array.any_eq_true'.1 hj;simp only [ann,beq_iff_eq] at hb;exact hI.done j (hb.1▸hlt e he hb.2)) (fun s hs=>hI.rest s fun k hk he=>by have hkN:=hlN k hk;have hok:=anv (l:=ops) (i:=k) (by omega);have hmem:ops[k]'(by omega)∈ops.take N:=List.mem_iff_getElem?.2 ⟨k,by rw [htk k hkN];exact hok⟩;unfold TR at hs;rw [hN] at hs;have h3:=List.all_eq_true.1 hs _ hmem;rw [(hdst k _ hkN hok).1,he] at h3;simp only [bne_self_eq_false,aow] at h3;obtain ⟨e,hee,hb⟩:=Array.any_eq_true'.1 h3;simp only [ann,beq_iff_eq] at hb;have:=hI.abh k _ hk hok e hee hb.2;rw [hb.1,aaX his,hli] at this;cases this);have hwp:wpOp P ops.toArray (QA n ds (zB Φ w (vF ops i) i F)) i (fun a w'=>QA n ds (zB Φ w (vF ops i) i F) .normal a w') (act n ds F) w:=by have hs2:=hs;unfold Wl wpList at hs2;unfold wpOp;simp only [ho];exact hs2
    refine hmono (fun _ _ _ h=>h.1) ho ?_ hwp;rintro a w' ⟨F',rfl,_,v,rfl,hn,hΦ⟩;exfalso;have h2:2<=listed.toList.count false:=by
     have e1:listed.toList[i]? =some false:=by rw [aoQ,aaX his,hli]
     have e2:listed.toList[N]? =some false:=by rw [aoQ];exact hI.last
     exact Kv (by omega) e1 e2
    unfold unl at hu;omega
   ·obtain rfl:i=N:=by omega
    rw [hz] at ho';cases ho';have hall: ∀k,k<i->listed[k]? =some true:=fun k hk=>by obtain ⟨e,he,hb⟩:=Array.any_eq_true'.1 (hzB.1 k hk);simp only [ann,beq_iff_eq] at hb;exact hb.1▸hlt e he hb.2
    have hs:=fin F w z hI.new hz (fun k hk=>hI.done k (hall k hk)) (fun s hs=>hI.rest s fun k hk=>hs k (hlN k hk));have hwp:wpOp P ops.toArray (QA n ds (fun e F' w'=>e=.normal/\Q .normal F' w')) i (fun a w'=>QA n ds (fun e F' w'=>e=.normal/\Q .normal F' w') .normal a w') (act n ds F) w:=by have hs2:=hs;unfold Wl wpList at hs2;unfold wpOp;simp only [ho];exact hs2
    refine hmono (fun _ _ _ h=>h.1) ho ?_ hwp;rintro a w' ⟨F',rfl,_,hQ⟩;have hdone: ∀k,k<(listed.setIfInBounds i true).size->(listed.setIfInBounds i true)[k]? =some true:=fun k hk=>by
     rw [ap8,hI.size] at hk;by_cases hki:k=i
     ·subst hki;simp [his]
     ·rw [apT (Ne.symm hki)];exact hall k (by omega)
    have hr:Region.ready .any ops.toArray (listed.setIfInBounds i true)=[]:=by
     rw [aos];intro k hk;have h0:=(mem_ready.1 hk).1;rcases apS k (listed.setIfInBounds i true).size with h|h
     ·have:=hdone k h;simp [ab9,this] at h0
     ·simp [ab9,apV h] at h0
    exact ⟨hr,F',rfl,hQ⟩
  |succ fuel ih=>
   intro listed F w hI hu;refine ⟨fun hr=>absurd hr (TT listed F w hI),fun i hi=>?_⟩;obtain ⟨h0,o,ho,Q5⟩:=mem_ready.1 hi;have ho':ops[i]? =some o:=by simpa using ho
   have hil:i<ops.length:=(List.getElem?_eq_some_iff.1 ho').1;have his:i<listed.size:=by rw [hI.size];exact hil
   have hli:listed[i]=false:=by simpa [ab9,aaX his] using h0
   have hlt: ∀e∈o.after,Region.binds .any e=true->listed[e.on]? =some true:=by
    intro e he hb;have h:=Q5 e he hb;rcases apS e.on listed.size with h'|h'
    ·simp [ab9,aaX h'] at h;rw [aaX h',h]
    ·simp [ab9,apV h'] at h
   have hlN: ∀k,listed[k]? =some true->k<N:=fun k hk=>by
    have hkl:k<ops.length:=by
     rcases apS k ops.length with h|h
     ·exact h
     ·rw [apV (by rw [hI.size];exact h)] at hk;cases hk
    rcases apS k N with h|h
    ·exact h
    ·obtain rfl:k=N:=by omega
     rw [hI.last] at hk;cases hk
   rcases apS i N with hiN|hiN
   ·have hs:=step i o hiN ho' F w hI.new (fun j hj=>by obtain ⟨e,he,hb⟩:=Array.any_eq_true'.1 hj;simp only [ann,beq_iff_eq] at hb;exact hI.done j (hb.1▸hlt e he hb.2)) (fun s hs=>hI.rest s fun k hk he=>by have hkN:=hlN k hk;have hok:=anv (l:=ops) (i:=k) (by omega);have hmem:ops[k]'(by omega)∈ops.take N:=List.mem_iff_getElem?.2 ⟨k,by rw [htk k hkN];exact hok⟩;unfold TR at hs;rw [hN] at hs;have h3:=List.all_eq_true.1 hs _ hmem;rw [(hdst k _ hkN hok).1,he] at h3;simp only [bne_self_eq_false,aow] at h3;obtain ⟨e,hee,hb⟩:=Array.any_eq_true'.1 h3;simp only [ann,beq_iff_eq] at hb;have:=hI.abh k _ hk hok e hee hb.2;rw [hb.1,aaX his,hli] at this;cases this);have hwp:wpOp P ops.toArray (QA n ds (zB Φ w (vF ops i) i F)) i (fun a w'=>QA n ds (zB Φ w (vF ops i) i F) .normal a w') (act n ds F) w:=by have hs2:=hs;unfold Wl wpList at hs2;unfold wpOp;simp only [ho];exact hs2
    refine hmono (fun _ _ _ h=>h.1) ho ?_ hwp;rintro a w' ⟨F',rfl,_,v,rfl,hn,hΦ⟩;refine ih _ _ _ ⟨by simpa using hI.size,by rw [apT (by omega)];exact hI.last,New.trans hI.new hn,fun j hj=>?_,fun s hs=>?_,fun j oj hj hoj e he hb=>?_⟩ ?_
    ·by_cases hji:j=i
     ·subst hji;rw [Aw,if_pos rfl];exact hΦ
     ·rw [apT (Ne.symm hji)] at hj;rw [Aw,if_neg (hne j i (hlN j hj) hiN hji)];exact hst _ _ _ _ hn (hI.done j hj)
    ·have:=hs i (by simp [his]);rw [Aw,if_neg (Ne.symm this)];exact hI.rest s fun j hj=>hs j (by
      by_cases hji:j=i
      ·subst hji;simp [his]
      ·rw [apT (Ne.symm hji)];exact hj)
    ·by_cases hei:e.on=i
     ·rw [hei];simp [his]
     ·rw [apT (Ne.symm hei)];by_cases hji:j=i
      ·subst hji;rw [ho'] at hoj;cases hoj;exact hlt e he hb
      ·rw [apT (Ne.symm hji)] at hj;exact hI.abh j oj hj hoj e he hb
    ·unfold unl at hu ⊢;rw [Array.toList_setIfInBounds,ap9 (by simpa using his)];simp [hli,hu]
   ·obtain rfl:i=N:=by omega
    rw [hz] at ho';cases ho';have hall: ∀k,k<i->listed[k]? =some true:=fun k hk=>by obtain ⟨e,he,hb⟩:=Array.any_eq_true'.1 (hzB.1 k hk);simp only [ann,beq_iff_eq] at hb;exact hb.1▸hlt e he hb.2
    have hs:=fin F w z hI.new hz (fun k hk=>hI.done k (hall k hk)) (fun s hs=>hI.rest s fun k hk=>hs k (hlN k hk));have hwp:wpOp P ops.toArray (QA n ds (fun e F' w'=>e=.normal/\Q .normal F' w')) i (fun a w'=>QA n ds (fun e F' w'=>e=.normal/\Q .normal F' w') .normal a w') (act n ds F) w:=by have hs2:=hs;unfold Wl wpList at hs2;unfold wpOp;simp only [ho];exact hs2
    refine hmono (fun _ _ _ h=>h.1) ho ?_ hwp;rintro a w' ⟨F',rfl,_,hQ⟩;have hdone: ∀k,k<(listed.setIfInBounds i true).size->(listed.setIfInBounds i true)[k]? =some true:=fun k hk=>by
     rw [ap8,hI.size] at hk;by_cases hki:k=i
     ·subst hki;simp [his]
     ·rw [apT (Ne.symm hki)];exact hall k (by omega)
    have hr:Region.ready .any ops.toArray (listed.setIfInBounds i true)=[]:=by
     rw [aos];intro k hk;have h0:=(mem_ready.1 hk).1;rcases apS k (listed.setIfInBounds i true).size with h|h
     ·have:=hdone k h;simp [ab9,this] at h0
     ·simp [ab9,apV h] at h0
    exact ⟨fun _=>⟨F',rfl,hQ⟩,fun k hk=>by rw [hr] at hk;cases hk⟩
 have hI0:QZ ops N Φ F0 w0 (anp ops.length false) F0 w0.drew:= ⟨by simp,by rw [anB,if_pos hNl],Chg.drew _ _,fun i hi=>(by rw [anB] at hi;split at hi<;>cases hi),fun s _=>rfl,fun i o hi=>(by rw [anB] at hi;split at hi<;>cases hi)⟩;have:=key (ops.length-1) _ _ _ hI0 (by simp [unl];omega);have e1:ops.toArray.size=ops.length-1+1:=by simp;omega
 have e2:anp ops.toArray.size false=anp ops.length false:=by simp
 rw [e2,e1];exact this
def aaj (P:Program) (n:Nat) (ds:List Deferred) (Φ:Nat->Value->World->Prop) (ops:List Oper) (F0:Fr) (w0:World) (i:Nat) (o:Oper):Prop:=
 ∀F w,New w0 w->(∀j,(o.after.any fun e=>e.on == j&&Region.binds .any e)=true->Φ j (F (vF ops j)) w)->(∀s,TR ops i s=true->F s=F0 s)->
    Wl P n ds (zB Φ w (vF ops i) i F) ops [o] F w
def IV (P:Program) (n:Nat) (ds:List Deferred) (Φ:Nat->Value->World->Prop) (ops:List Oper) (F0:Fr) (w0:World):Nat->List Oper->Prop
 |_,[]=>True
 |_,[_]=>True
 |i,o::o2::r=>aaj P n ds Φ ops F0 w0 i o/\IV P n ds Φ ops F0 w0 (i+1) (o2::r)
theorem IV.get {Φ:Nat->Value->World->Prop}: ∀ {l:List Oper} {k:Nat},IV P n ds Φ ops F0 w0 k l-> ∀(i:Nat) (o:Oper),i<l.length-1->l[i]? =some o->aaj P n ds Φ ops F0 w0 (k+i) o
 | [],_,_,i,o,_,h=>by simp at h
 | [_],_,_,i,o,hi,_=>by simp at hi
 |o'::o2::r,k,hs,0,o,_,h=>by simp at h;subst h;exact hs.1
 |o'::o2::r,k,hs,i+1,o,hi,h=>by have:=IV.get hs.2 i o (by simp only [anJ] at hi ⊢;omega) (by simpa using h);rw [Nat.add_right_comm] at this;exact this
theorem nH {id:Nat} (Φ:Nat->Value->World->Prop) (hm:P.follows .mixedOrders=true) (h1:Wv (ops.take (ops.length-1))=true) (h2:Z5 (ops.take (ops.length-1))=true) (h3:LY ops=true)
 (hst: ∀i v w w',New w w'->Φ i v w->Φ i v w') (step:IV P n ds Φ ops F0 w0 0 ops)
 (fin: ∀F w z,New w0 w->ops[ops.length-1]? =some z->(∀i,i<ops.length-1->Φ i (F (vF ops i)) w)->(∀s,(∀i,i<ops.length-1->vF ops i≠s)->F s=F0 s)->Wl P n ds (fun e F' w'=>e=.normal/\Q .normal F' w') ops [z] F w):
 Wc P n ds Q (.region id ops.toArray true) F0 w0:=
 nG Φ hm h1 h2 h3 hst (fun i o hi ho=>by have:=step.get i o hi ho;rwa [ace] at this) fin
end
section
variable {P:Program} {r:Option Nat} {md:Region.Mode} {ops:Array Oper} {Q:Exit->Act->World->Prop}
theorem Zp (hout: ¬LetsOut Q) (hpl: ∀(i:Nat) (o:Oper),ops[i]? =some o-> ∀c,o.op≠ .defer c) {i:Nat} {K K':Act->World->Prop} (hK: ∀a w,K a w->K' a w) {a:Act} {w:World} (h:wpOp P ops Q i K a w):wpOpIn (FR r) 0 P ops Q i K' a w:=by
 have Xz: ∀f,(FR r).fn f:=by cases r<;>exact fun _=>trivial
 unfold wpOp at h;unfold wpOpIn;split
 ·rename_i ho
  rw [ho] at h;exact hK _ _ h
 ·rename_i o ho
  simp only [ho] at h;split
  ·rename_i hw
   rw [if_pos hw] at h;rcases h with h|⟨_,h⟩
   ·refine ⟨fun f _=>Xz f,?_⟩;rw [Oper.semAt_eq _ _ _ (hpl i o ho)];exact Ku hK h
   ·exact absurd h hout
  ·rename_i hw
   rw [if_neg hw] at h;exact ⟨fun f _=>Xz f,hK _ _ h⟩
theorem OV (hout: ¬LetsOut Q) (hpl: ∀(i:Nat) (o:Oper),ops[i]? =some o-> ∀c,o.op≠ .defer c): ∀(fuel:Nat) (listed:Array Bool) (a:Act) (w:World),wpAny P md ops Q fuel listed a w->wpAnyIn (FR r) 0 P md ops Q fuel listed a w
 |0,_,_,_,h=>h
 |fuel+1,_,_,_,h=>⟨h.1,fun i hi=>Zp hout hpl (fun a w h'=>OV hout hpl fuel _ a w h') (h.2 i hi)⟩
end
section
variable {P:Program} {n:Nat} {r:Option Nat} {ops:List Oper} {Q:Po} {F:Fr} {w:World}
theorem iq {rid:Nat} (hpl:Dq ops=true) (hQ: ∀F w, ¬Q .outgrown F w) (hm:P.follows .mixedOrders=true) (hB:okT ops.toArray=true) (C:World->Prop) (hC:C w.drew) (h: ∀w',New w w'->Wt P n [] C Q ops ops F w'):Wr P n r Q (.region rid ops.toArray true) F w:=by
 unfold Wr;refine wpIn_region_any hm (OV (fun hx=>by obtain ⟨a,w,F',_,hq⟩:=hx;exact hQ F' w hq) (fun i o ho c e=>?_) _ _ _ _ ?_)
 ·unfold Dq at hpl;have:=List.all_eq_true.1 hpl o (aop (by simpa using ho));rw [e] at this;cases this
 have hleft:left ops.toArray (anp ops.toArray.size false)=(ab8 ops.length).map (0+ ·):=by unfold left;rw [show ((fun x=>0+x):Nat->Nat)=id from funext fun x=>ace x,List.map_id];simp only [anu];refine List.filter_eq_self.2 fun k hk=>?_;have:=List.mem_range.1 hk;simp [ab9,anB,this]
 have h0:Ap ops.toArray (anp ops.toArray.size false):=by intro j o hj;exfalso;simp only [ab9,anB] at hj;split at hj<;>simp at hj
 refine FY (C:=C) hB _ _ _ _ (by simp) (by rw [hleft];simp) h0 (fun _=>hC) ?_;rw [hleft];exact AO ops 0 F w.drew (fun j=>by rw [ace]) (h _ (Chg.drew _ _))
end
end Go.Proofs.YtfbnfhhmiiahnaaGreatDoor.Wk
namespace Go.Proofs.YtfbnfhhmiiahnaaGreatDoor
open Go Wk
open Go.RowKit (Below)
attribute [local irreducible] Go.Calls
theorem Wk.RdS.ais {α:Type} {f:α->Value} {Pb:Nat->Prop} {w:World} {v:Value} {xs:List α} {L:Nat} (o:Obj) (h:RdS (Wk.one f) 1 Pb w v xs) (hL:NoC w L):RdS (Wk.one f) 1 Pb (w.putObj L o) v xs:=by
 rcases h with h|h|⟨b,off,cap,cur,e',fr,hv,hb,hh,r⟩
 ·exact .inl h
 ·exact .inr (.inl h)
 ·refine .inr (.inr ⟨b,off,cap,cur,e',fr,hv,hb,?_,r⟩);rw [World.putObj_heap_other]
  ·exact hh
  ·rintro rfl;obtain ⟨o2,h1,h2⟩:=hL;rw [hh] at h1;cases h1;cases h2
theorem Wk.nP.ads {Pb Pe:Nat->Prop} {w:World} {v:Value} {xs:List Ed} {L:Nat} (o:Obj) (h:nP rEd 100 6 Pb Pe w v xs) (hL:NoC w L):nP rEd 100 6 Pb Pe (w.putObj L o) v xs:=by
 have hk: ∀k,v.ownBlock=some k->k≠L:=fun k hk=>h.nl hL hk;obtain ⟨cs,hoc,he⟩:=h.yQ (Pb':=fun b=>v.ownBlock=some b/\Pb b) fun b hb hP=>⟨hb,hP⟩;refine ⟨cs,(hoc.keep fun b hb _=>World.putObj_heap_other (hk b hb.1)).mono fun b _ hP=>hP.2,fun i x hx=>?_⟩;obtain ⟨av,e,hr⟩:=he i x hx;exact ⟨av,e,Wk.RdS.ais o hr hL⟩
section
variable {P:Program} {α:Type} {R:Rel α} {e:TypeId} {sz:Nat} {Pb Pe:Nat->Prop} {w:World} {v:Value} {xs:List α}
theorem Wk.nP.ty (h:nP R e sz Pb Pe w v xs) {k:Nat} (hk:v.ownBlock=some k): ∃cur,w.heap[k]? =some (.cells cur e (0,0)):=by
 obtain ⟨cs,⟨_,h⟩,_⟩:=h;rcases h with ⟨rfl,_⟩|⟨g,cap,cur,rfl,_,hg,_⟩
 ·cases hk
 ·simp only [Value.ownBlock,Option.some.injEq] at hk;subst hk;exact ⟨cur,hg⟩
theorem Wk.nP.oM (h:nP R e sz Pb Pe w v xs) {b:Nat} {T:TypeId} {cs:List Value} (hb:Bk w b T cs) (ne:ank e T=false) {k:Nat} (hk:v.ownBlock=some k):k≠b:=by
 rintro rfl;obtain ⟨cur,hc⟩:=h.ty hk;have:=hc.symm.trans hb;simp only [Option.some.injEq,Obj.cells.injEq] at this;exact anA ne this.2.1
theorem Wk.nP.qQ (h:nP R e sz Pb Pe w v xs) {b:Nat} {kt:TypeId} {l:List (Value×Value)} (hm:ru P kt w b l) {k:Nat} (hk:v.ownBlock=some k):k≠b:=by
 rintro rfl;obtain ⟨cur,hc⟩:=h.ty hk;obtain ⟨es,cl,h2,_⟩:=hm;cases hc.symm.trans h2
theorem Wk.nP.sV {β:Type} {R':Rel β} {e':TypeId} {sz':Nat} {Qb Qe:Nat->Prop} {u:Value} {ys:List β} (h:nP R e sz Pb Pe w v xs) (h':nP R' e' sz' Qb Qe w u ys) (ne:ank e e'=false):Sep v u:=by
 intro k h1 h2;obtain ⟨c1,e1⟩:=h.ty h1;obtain ⟨c2,e2⟩:=h'.ty h2;have:=e1.symm.trans e2;simp only [Option.some.injEq,Obj.cells.injEq] at this;exact anA ne this.2.1
theorem Wk.Bk.oM {w:World} {b b':Nat} {T T':TypeId} {cs cs':List Value} (h:Bk w b T cs) (h':Bk w b' T' cs') (ne:ank T T'=false):b≠b':=by
 rintro rfl;have:=h.symm.trans h';simp only [Option.some.injEq,Obj.cells.injEq] at this;exact anA ne this.2.1
theorem Wk.Bk.qQ {w:World} {b b':Nat} {T kt:TypeId} {cs:List Value} {l:List (Value×Value)} (h:Bk w b T cs) (hm:ru P kt w b' l):b≠b':=by
 rintro rfl;obtain ⟨es,cl,h2,_⟩:=hm;cases h.symm.trans h2
end
abbrev vbo:Bool->Value:=fun b=>.bool b
theorem Fj:qH (Wk.one vbo) 1:=tN _ fun _=>rfl
abbrev wC:=Value×List Nat
abbrev wrC:wC->List Value:=fun x=>[x.1]
structure Gr0 (lo bg hm b6 n:Nat) (m:List (Nat×Nat)) (ps:List Nm) (lv wv gv pv:Value) (W:World):Prop where
 b:Bk W bg 145 (grC lv hm (.slice none 0 0) wv gv pv)
 v6:Bk W b6 140 [pT bg]
 mp:ru prog 181 W hm (Be m)
 wa:nP (flat wrC) 65 1 (fun b=>lo<=b) NoB W wv (aok n (.slice none 0 0,[]))
 ga:nP (Wk.one vbo) 4 1 (fun b=>lo<=b) NoB W gv (aok n false)
 pa:nP (Wk.one vs) 9 1 (fun b=>lo<=b) NoB W pv ps
 lo2:lo<=bg/\lo<=b6/\lo<=hm
section
variable {lo bg hm b6 n:Nat} {m:List (Nat×Nat)} {ps:List Nm} {lv wv gv pv:Value} {W W':World}
theorem Gr0.new (g:Gr0 lo bg hm b6 n m ps lv wv gv pv W) (c:New W W'):Gr0 lo bg hm b6 n m ps lv wv gv pv W':=
 ⟨g.b.chg c id,g.v6.chg c id,g.mp.chg c id,g.wa.new (nK _) c,g.ga.new (nO _) c,g.pa.new (nO _) c,g.lo2⟩
theorem Gr0.put (g:Gr0 lo bg hm b6 n m ps lv wv gv pv W) {L:Nat} (o:Obj) (hL:NoC W L) (hm':L≠hm):Gr0 lo bg hm b6 n m ps lv wv gv pv (W.putObj L o):=
 ⟨g.b.put o hL,g.v6.put o hL,g.mp.put o hm',g.wa.put o (nK _) hL,g.ga.put o (nO _) hL,g.pa.put o (nO _) hL,g.lo2⟩
theorem Gr0.map (g:Gr0 lo bg hm b6 n m ps lv wv gv pv W) (c:Chg (fun k=>k=hm) W W') {m':List (Nat×Nat)} (h:ru prog 181 W' hm (Be m')):Gr0 lo bg hm b6 n m' ps lv wv gv pv W':=
 ⟨g.b.chg c fun e=>g.b.qQ g.mp e,g.v6.chg c fun e=>g.v6.qQ g.mp e,h,g.wa.chg (nK _) c fun k hk e=>g.wa.qQ g.mp hk e,g.ga.chg (nO _) c fun k hk e=>g.ga.qQ g.mp hk e,g.pa.chg (nO _) c fun k hk e=>g.pa.qQ g.mp hk e,g.lo2⟩
theorem Gr0.path (g:Gr0 lo bg hm b6 n m ps lv wv gv pv W) {w1:World} {pv':Value} {ps':List Nm} (c:Chg (fun k=>pv.ownBlock=some k) W w1) (own:nP (Wk.one vs) 9 1 (fun b=>lo<=b) NoB w1 pv' ps') (b:Bk W' bg 145 (grC lv hm (.slice none 0 0) wv gv pv')) (c2:Chg (fun k=>k=bg) w1 W'):Gr0 lo bg hm b6 n m ps' lv wv gv pv' W':=by
 have v1:=g.v6.chg c fun e=>g.pa.oM g.v6 rfl e rfl;have m1:=g.mp.chg c fun e=>g.pa.qQ g.mp e rfl;have b1:=g.b.chg c fun e=>g.pa.oM g.b rfl e rfl;have wa1:=g.wa.chg (nK _) c fun k hk e=>g.wa.sV g.pa rfl k hk e;have ga1:=g.ga.chg (nO _) c fun k hk e=>g.ga.sV g.pa rfl k hk e;exact ⟨b,v1.chg c2 fun e=>v1.oM b1 rfl e,m1.chg c2 fun e=>b1.qQ m1 e.symm,wa1.chg (nK _) c2 fun k hk e=>wa1.oM b1 rfl hk e,ga1.chg (nO _) c2 fun k hk e=>ga1.oM b1 rfl hk e,own.chg (nO _) c2 fun k hk e=>own.oM b1 rfl hk e,g.lo2⟩
end
def Zn (lo bg hm b6:Nat) (bs:List wC) (wv gv pv:Value) (b:Nat):Prop:=lo<=b/\b≠bg/\b≠b6/\b≠hm/\wv.ownBlock≠some b/\(∀x∈bs,x.1.ownBlock≠some b)/\gv.ownBlock≠some b/\pv.ownBlock≠some b
structure GrA (lo bg hm b6:Nat) (t:List Nd) (m:List (Nat×Nat)) (es:List Ed) (bs:List wC) (gs:List Bool) (ps:List Nm) (lv ev wv gv pv:Value) (W:World):Prop where
 b:Bk W bg 145 (grC lv hm ev wv gv pv)
 tr:RdS rNd 3 (fun k=>k<lo) W lv t
 mp:ru prog 181 W hm (Be m)
 ed:nP rEd 100 6 (Zn lo bg hm b6 bs wv gv pv) (Zn lo bg hm b6 bs wv gv pv) W ev es
 wa:LLs wrC (·.1) (·.2) viN 65 3 1 (fun b=>lo<=b) W wv bs
 ga:nP (Wk.one vbo) 4 1 (fun b=>lo<=b) NoB W gv gs
 pa:nP (Wk.one vs) 9 1 (fun b=>lo<=b) NoB W pv ps
 lo2:lo<=bg/\lo<=hm
section
variable {lo bg hm b6:Nat} {t:List Nd} {m:List (Nat×Nat)} {es:List Ed} {bs:List wC} {gs:List Bool} {ps:List Nm} {lv ev wv gv pv:Value} {W W':World}
theorem GrA.new (g:GrA lo bg hm b6 t m es bs gs ps lv ev wv gv pv W) (c:New W W'):GrA lo bg hm b6 t m es bs gs ps lv ev wv gv pv W':=
 ⟨g.b.chg c id,g.tr.keep oh c.keep,g.mp.chg c id,g.ed.wz qf c i3 (fun _ _ _ e=>e),g.wa.new c,g.ga.new (nO _) c,g.pa.new (nO _) c,g.lo2⟩
theorem GrA.of0 {n:Nat} (g:Gr0 lo bg hm b6 n m ps lv wv gv pv W) (tr:RdS rNd 3 (fun k=>k<lo) W lv t):GrA lo bg hm b6 t m [] (aok n (.slice none 0 0,[])) (aok n false) ps lv (.slice none 0 0) wv gv pv W:=
 ⟨g.b,tr,g.mp,aI,⟨g.wa,fun b hb=>(by rw [(List.mem_replicate.1 hb).2];exact aI),fun b hb=>(by rw [(List.mem_replicate.1 hb).2];intro k e;cases e),fun i j b c _ hb _=>(by rw [(List.mem_replicate.1 (aop hb)).2];intro k e;cases e)⟩,g.ga,g.pa,⟨g.lo2.1,g.lo2.2.2⟩⟩
theorem GrA.put (g:GrA lo bg hm b6 t m es bs gs ps lv ev wv gv pv W) {L:Nat} (o:Obj) (hL:NoC W L) (h1:L≠hm) (h2:lo<=L):GrA lo bg hm b6 t m es bs gs ps lv ev wv gv pv (W.putObj L o):=
 ⟨g.b.put o hL,g.tr.keep oh (Keep.put o (by omega)),g.mp.put o h1,g.ed.ads o hL,⟨g.wa.row.put o (nK _) hL,fun b hb=>(g.wa.el b hb).put o (nO _) hL,g.wa.vz,g.wa.sep⟩,g.ga.put o (nO _) hL,g.pa.put o (nO _) hL,g.lo2⟩
theorem GrA.adt (g:GrA lo bg hm b6 t m es bs gs ps lv ev wv gv pv W):GrA lo bg hm bg t m es bs gs ps lv ev wv gv pv W:=
 ⟨g.b,g.tr,g.mp,g.ed.mono qI (fun b _ e=>⟨e.1,e.2.1,e.2.1,e.2.2.2⟩) (fun b _ e=>⟨e.1,e.2.1,e.2.1,e.2.2.2⟩),g.wa,g.ga,g.pa,g.lo2⟩
theorem GrA.read (g:GrA lo bg hm b6 t m es bs gs ps lv ev wv gv pv W) {ev':Value} {es':List Ed} (b:Bk W' bg 145 (grC lv hm ev' wv gv pv)) (own:nP rEd 100 6 (Zn lo bg hm b6 bs wv gv pv) (Zn lo bg hm b6 bs wv gv pv) W' ev' es') (c:Chg (fun k=>k=bg∨ev.ownBlock=some k) W W'):GrA lo bg hm b6 t m es' bs gs ps lv ev' wv gv pv W':=by
 have hz: ∀k,ev.ownBlock=some k->Zn lo bg hm b6 bs wv gv pv k:=fun k hk=>(g.ed.lt hk).1;refine ⟨b,g.tr.keep oh (c.keep fun k _ h1 e=>?_),g.mp.chg c (fun e=>?_),own,⟨g.wa.row.chg (nK _) c fun k hk e=>?_,fun x hx=>(g.wa.el x hx).chg (nO _) c fun k hk e=>?_,g.wa.vz,g.wa.sep⟩,g.ga.chg (nO _) c (fun k hk e=>?_),g.pa.chg (nO _) c (fun k hk e=>?_),g.lo2⟩
 ·rcases e with e|e
  ·have:=g.lo2.1;omega
  ·have:=(hz k e).1;omega
 ·rcases e with e|e
  ·exact g.b.qQ g.mp e.symm
  ·exact g.ed.qQ g.mp e rfl
 ·rcases e with e|e
  ·exact g.wa.row.oM g.b rfl hk e
  ·exact (hz k e).2.2.2.2.1 hk
 ·rcases e with e|e
  ·exact (g.wa.el x hx).oM g.b rfl hk e
  ·exact (hz k e).2.2.2.2.2.1 x hx hk
 ·rcases e with e|e
  ·exact g.ga.oM g.b rfl hk e
  ·exact (hz k e).2.2.2.2.2.2.1 hk
 ·rcases e with e|e
  ·exact g.pa.oM g.b rfl hk e
  ·exact (hz k e).2.2.2.2.2.2.2 hk
theorem GrA.gap (g:GrA lo bg hm b6 t m es bs gs ps lv ev wv gv pv W) {gs':List Bool} (own:nP (Wk.one vbo) 4 1 (fun b=>lo<=b) NoB W' gv gs') (c:Chg (fun k=>gv.ownBlock=some k) W W'):GrA lo bg hm b6 t m es bs gs' ps lv ev wv gv pv W':=by
 refine ⟨g.b.chg c fun e=>g.ga.oM g.b rfl e rfl,g.tr.keep oh (c.keep fun k _ h1 e=>?_),g.mp.chg c (fun e=>g.ga.qQ g.mp e rfl),g.ed.wz qf c (fun k hk e=>g.ed.sV g.ga rfl k hk e) (fun k hk _ e=>hk.2.2.2.2.2.2.1 e),⟨g.wa.row.chg (nK _) c fun k hk e=>g.wa.row.sV g.ga rfl k hk e,fun x hx=>(g.wa.el x hx).chg (nO _) c fun k hk e=>(g.wa.el x hx).sV g.ga rfl k hk e,g.wa.vz,g.wa.sep⟩,own,g.pa.chg (nO _) c (fun k hk e=>g.pa.sV g.ga rfl k hk e),g.lo2⟩;have h2:lo<=k:=(g.ga.lt e).1;omega
theorem GrA.want (g:GrA lo bg hm b6 t m es bs gs ps lv ev wv gv pv W) {i:Nat} {x x':wC} {w1:World} (hi:bs[i]? =some x) (ho:nP (Wk.one viN) 3 1 (fun b=>lo<=b) NoB w1 x'.1 x'.2) (c1:Chg (fun k=>x.1.ownBlock=some k) W w1)
 (lie:x'.1.ownBlock=x.1.ownBlock∨ ∀k,x'.1.ownBlock=some k->W.heap.size<=k) (hr:nP (flat wrC) 65 1 (fun b=>lo<=b) NoB W' wv (bs.set i x')) (c2:Chg (fun k=>wv.ownBlock=some k) w1 W'):GrA lo bg hm b6 t m es (bs.set i x') gs ps lv ev wv gv pv W':=by
 have hx:=aop hi;have hxo:=g.wa.el x hx;have hwa:=g.wa.set (b':=x') hi ho c1 lie hr c2;have c:Chg (fun k=>x.1.ownBlock=some k∨wv.ownBlock=some k) W W':=Chg.trans (c1.mono fun k _ e=>.inl e) c2 fun k _ e=>.inr e;have hlt: ∀k,(x.1.ownBlock=some k∨wv.ownBlock=some k)->lo<=k:=fun k e=>e.elim (fun e=>(hxo.lt e).1) fun e=>(g.wa.row.lt e).1;refine ⟨g.b.chg c fun e=>e.elim (fun e=>hxo.oM g.b rfl e rfl) fun e=>g.wa.row.oM g.b rfl e rfl,g.tr.keep oh (c.keep fun k _ h1 e=>?_),g.mp.chg c (fun e=>e.elim (fun e=>hxo.qQ g.mp e rfl) fun e=>g.wa.row.qQ g.mp e rfl), ((g.ed.mono (Pb':=fun b=>Zn lo bg hm b6 bs wv gv pv b/\b<W.heap.size) (Pe':=fun b=>Zn lo bg hm b6 bs wv gv pv b/\b<W.heap.size) qI (fun b hb e=>⟨e,hb⟩) (fun b hb e=>⟨e,hb⟩)).wz qf c (fun k hk e=>?_) (fun k hk _ e=>?_)).mono qI (fun b _ e=>?_) (fun b _ e=>?_),hwa,g.ga.chg (nO _) c (fun k hk e=>?_),g.pa.chg (nO _) c (fun k hk e=>?_),g.lo2⟩
 ·have:=hlt k e;omega
 ·exact e.elim (fun e=>g.ed.sV hxo rfl k hk e) fun e=>g.ed.sV g.wa.row rfl k hk e
 ·exact e.elim (fun e=>hk.1.2.2.2.2.2.1 x hx e) fun e=>hk.1.2.2.2.2.1 e
 all_goals first
  |(obtain ⟨⟨z1,z2,z3,z0,z4,z5,z6⟩,z7⟩:=e
    refine ⟨z1,z2,z3,z0,z4,fun y hy e2=>?_,z6⟩;rcases apZ hy with hy|rfl
    ·exact z5 y hy e2
    ·rcases lie with l1|l1
     ·exact z5 x hx (l1▸e2)
     ·have:=l1 b e2;omega)
  |exact e.elim (fun e=>g.ga.sV hxo rfl k hk e) fun e=>g.ga.sV g.wa.row rfl k hk e
  |exact e.elim (fun e=>g.pa.sV hxo rfl k hk e) fun e=>g.pa.sV g.wa.row rfl k hk e
theorem GrA.zone (g:GrA lo bg hm b6 t m es bs gs ps lv ev wv gv pv W) (h6:b6<W.heap.size) (hlo:lo<=W.heap.size): ∀b,W.heap.size<=b->Zn lo bg hm b6 bs wv gv pv b:=fun b hb=>by
 have h1:=g.b.lt;have h2:=g.mp.lt;exact ⟨by omega,by omega,by omega,by omega,fun e=>by have:=(g.wa.row.lt e).2;omega,fun x hx e=>by have:=((g.wa.el x hx).lt e).2;omega,fun e=>by have:=(g.ga.lt e).2;omega,fun e=>by have:=(g.pa.lt e).2;omega⟩
end
def Q7 (lv:Value) (n lo:Nat) (i:Nat) (v:Value) (w:World):Prop:=match i with
 |0=>v=lv
 |1=> ∃b,v=.map (some b)/\lo<=b/\ru prog 181 w b []
 |2=>v=lv
 |3=>v=vi n
 |4=>nP (flat wrC) 65 1 (fun b=>lo<=b) NoB w v (aok n (.slice none 0 0,[]))
 |5=>v=lv
 |6=>v=vi n
 |7=>nP (Wk.one vbo) 4 1 (fun b=>lo<=b) NoB w v (aok n false)
 |8=> ∃hm wv gv,v=.agg (grC lv hm (.slice none 0 0) wv gv (.slice none 0 0)).toArray/\lo<=hm/\ru prog 181 w hm []/\nP (flat wrC) 65 1 (fun b=>lo<=b) NoB w wv (aok n (.slice none 0 0,[]))/\nP (Wk.one vbo) 4 1 (fun b=>lo<=b) NoB w gv (aok n false)
 |9=> ∃bg hm wv gv,v=pT bg/\lo<=bg/\Bk w bg 145 (grC lv hm (.slice none 0 0) wv gv (.slice none 0 0))/\lo<=hm/\ru prog 181 w hm []/\nP (flat wrC) 65 1 (fun b=>lo<=b) NoB w wv (aok n (.slice none 0 0,[]))/\nP (Wk.one vbo) 4 1 (fun b=>lo<=b) NoB w gv (aok n false)
 |10=> ∃b,v=pT b/\lo<=b/\Bk w b 140 [.pointer none]
 |_=>True
theorem XD {lv:Value} {n lo:Nat}: ∀i v w w',New w w'->Q7 lv n lo i v w->Q7 lv n lo i v w':=by
 intro i v w w' c h;unfold Q7 at h ⊢;split at h<;>try exact h
 ·obtain ⟨b,e,h1,h2⟩:=h;exact ⟨b,e,h1,h2.chg c id⟩
 ·exact h.new (nK _) c
 ·exact h.new (nO _) c
 ·obtain ⟨hm,wv,gv,e,h1,h2,h3,h4⟩:=h;exact ⟨hm,wv,gv,e,h1,h2.chg c id,h3.new (nK _) c,h4.new (nO _) c⟩
 ·obtain ⟨bg,hm,wv,gv,e,h0,hb,h1,h2,h3,h4⟩:=h;exact ⟨bg,hm,wv,gv,e,h0,hb.chg c id,h1,h2.chg c id,h3.new (nK _) c,h4.new (nO _) c⟩
 ·obtain ⟨b,e,h1,h2⟩:=h;exact ⟨b,e,h1,h2.chg c id⟩
theorem OW {t:List Nd} {m:List (Nat×Nat)} {i:Nat} (hi:i<t.length):wL m i (t.drop i)=wL (if wo (ndA t i)≠0/\m.all (fun p=>decide (p.1≠wo (ndA t i)))=true then m++ [(wo (ndA t i),i)] else m) (i+1) (t.drop (i+1)):=by
 rw [drop_cons (GK hi),wL]
theorem Kw {t:List Nd} {i kind:Nat} {soft:Bool}: ∀(f place:Nat) (c:List Int),(uN t i kind soft f place c).length<=f
 |0,_,_=>by simp [uN]
 |f+1,_,[]=>by simp [uN]
 |f+1,place,x::c=>by
  rw [IJ];split
  ·simp
  ·split
   ·simp
   ·split
    ·simp
    ·have:=Kw (t:=t) (i:=i) (kind:=kind) (soft:=soft) f (place+1) (c.drop ‹Nat›);simp only [anJ];omega
theorem Fp {t:List Nd} (ht:og t=true) {i:Nat} (hi:i<t.length) (kind:Nat) (soft:Bool):(xA t i kind soft).length<=1024:=by
 have hv: ∀nm,((tX t i nm).getD []).length<=1024:=fun nm=>yX ht hi;have key: ∀v:List UInt8,v.length<=1024->(if form 4 v=0 then uN t i kind soft (nums 4 v).length 0 (nums 4 v) else [⟨i,none,kind,soft,0,[]⟩]).length<=1024:=by
  intro v h;split
  ·have h1:=Kw (t:=t) (i:=i) (kind:=kind) (soft:=soft) (nums 4 v).length 0 (nums 4 v);have h2:=Et v;omega
  ·simp
 exact key _ (hv _)
def Ah (t:List Nd) (i:Nat):List Ed:=[1,2,3,4,5].flatMap fun k=>xA t i k false++xA t i k true
def zf (t:List Nd) (i k:Nat):List Ed:=([1,2,3,4,5].take (k-1)).flatMap fun k=>xA t i k false++xA t i k true
theorem Q8 {t:List Nd} {i k:Nat} (h1:1<=k) (h5:k<=5):zf t i (k+1)=zf t i k++xA t i k false++xA t i k true:=by
 have:k=1∨k=2∨k=3∨k=4∨k=5:=by omega
 rcases this with rfl|rfl|rfl|rfl|rfl<;>simp [zf]
theorem Ky {t:List Nd} (ht:og t=true) {i:Nat} (hi:i<t.length): ∀k,(zf t i k).length<=2048*5:=by
 intro k;have h: ∀l:List Nat,(l.flatMap fun k=>xA t i k false++xA t i k true).length<=2048*l.length:=by
  intro l;induction l with
  |nil=>simp
  |cons x r ih=>have h1:=Fp ht hi x false;have h2:=Fp ht hi x true;simp only [List.flatMap_cons,am7,anJ];omega
 have h2:=h ([1,2,3,4,5].take (k-1));have h3:([1,2,3,4,5].take (k-1)).length<=5:=by rw [anD];simp only [anJ,List.length_nil];omega
 unfold zf;omega
theorem uO {t:List Nd} (ht:og t=true): ∀i,i<=t.length->((ab8 i).flatMap (Ah t)).length<=10240*i:=by
 intro i;induction i with
 |zero=>intro _;simp
 |succ i ih=>
  intro hi;have h1:=ih (by omega);have h2:=Ky ht (i:=i) (by omega) 6;rw [apQ,apI,am7];have:([i].flatMap (Ah t)).length=(zf t i 6).length:=by simp [Ah,zf]
  omega
def BX (t:List Nd) (j:Nat):List Nat:=if 0<j then [par t j] else []
def wO (i:Nat) (e:Ed):Option Nat:=if e.src=i/\e.soft=false then e.dst else none
theorem Kz (t:List Nd) (i:Nat):pR t i=BX t i++(nX t).filterMap (wO i):=rfl
theorem BM {α:Type} {n i:Nat} {f:Nat->α} {x:α} (hi:i<n):((ab8 n).map f).set i x=(ab8 n).map fun j=>if j=i then x else f j:=by
 apply anC;intro j;rw [anO];by_cases h:i=j
 ·subst h;rw [if_pos rfl,if_pos (by simpa using hi),an3,aoT hi];simp
 ·rw [if_neg h,an3,an3];by_cases hj:j<n
  ·rw [aoT hj];simp only [am6];rw [if_neg (fun e=>h e.symm)]
  ·rw [anl (by simpa using hj)];rfl
def Vg (w w':World) (r:Value) (lv:Value) (t:List Nd):Prop:= ∃bg hm ev wv gv pv gs bs,r=.tuple #[pT bg,vi 0]/\GrA w.heap.size bg hm bg t (qX t) (nX t) bs gs (pK t) lv ev wv gv pv w'/\bs.map (·.2)=(ab8 t.length).map (pR t)/\gs.length=t.length
theorem zY {Pb:Nat->Prop} {w:World} {v:Value} {t:List Nd} (h:RdS rNd 3 Pb w v t) (hok:og t=true):
 Calls prog 49 #[v] w (Ret fun r w'=>Vg w w' r v t/\New w w'):=by
 obtain ⟨a,cap,rfl,hc1,hc2⟩:=h.form;have hlen:=pF hok;have hpos:=uJ hok;replace h:=h.mono (Pb':=fun k=>k<w.heap.size) AQ fun k hk _=>hk;refine tZ func49 rfl ntmps49 rfl ?_;refine BR ?_;refine aj (vN h) rfl ?_;rintro _ w1 ⟨rfl,n1⟩;unfold F6;rw [if_pos hok];have hz1:=n1.size;(repeat' (first|refine BR ?_|(refine aa4 (fun _=>?_) (fun _=>?_)<;>(first|(exfalso;omega)|skip))));refine fZ ?_
 refine nH (Q7 (.slice a t.length cap) t.length w.heap.size) rfl (by kernel_rfl) (by kernel_rfl) (by kernel_rfl) XD
  ⟨(fun F w' hn hd hf=>iL (ai (eH (ay _ _) (hf 0 rfl)))),
   (fun F w' hn hd hf=>fU (k:=181) fun w2 m2 n2 s2=>ai (eH n2 ⟨_,rfl,apR hz1 hn.size,m2⟩)),
   (fun F w' hn hd hf=>iL (ai (eH (ay _ _) (hf 0 rfl)))),
   (fun F w' hn hd hf=>bU (hd 2 (by kernel_rfl)) (ai (eH (ay _ _) rfl))),
   (fun F w' hn hd hf=>eY (f:=(·.1:wC->Value)) (y0:=(.slice none 0 0,[])) rfl (hd 3 (by kernel_rfl)) (hd 3 (by kernel_rfl)) (by omega) (by omega) (by omega) fun v2 w2 o2 n2=>ai (eH n2 (by rw [ant] at o2;exact o2.mono (Pb':=fun b=>w.heap.size<=b) (nS _) (fun b _ e=>apR (apR hz1 hn.size) e) i3))),
   (fun F w' hn hd hf=>iL (ai (eH (ay _ _) (hf 0 rfl)))),
   (fun F w' hn hd hf=>bU (hd 5 (by kernel_rfl)) (ai (eH (ay _ _) rfl))),
   (fun F w' hn hd hf=>eY (f:=vbo) (y0:=false) rfl (hd 6 (by kernel_rfl)) (hd 6 (by kernel_rfl)) (by omega) (by omega) (by omega) fun v2 w2 o2 n2=>ai (eH n2 (by rw [ant] at o2;exact o2.mono (Pb':=fun b=>w.heap.size<=b) (nV _) (fun b _ e=>apR (apR hz1 hn.size) e) i3))),
   (fun F w' hn hd hf=>by have h0:F 28=.slice a t.length cap:=hd 0 (by kernel_rfl);obtain ⟨hm,h1,h1l,h1m⟩: ∃b,F 29=.map (some b)/\w.heap.size<=b/\ru prog 181 w' b []:=hd 1 (by kernel_rfl);have h4:nP (flat wrC) 65 1 (fun b=>w.heap.size<=b) NoB w' (F 32) (aok t.length (.slice none 0 0,[])):=hd 4 (by kernel_rfl);have h7:nP (Wk.one vbo) 4 1 (fun b=>w.heap.size<=b) NoB w' (F 35) (aok t.length false):=hd 7 (by kernel_rfl);obtain ⟨a4,c4,e4,_,_⟩:=h4.form;obtain ⟨a7,c7,e7,_,_⟩:=h7.form;rw [e4] at h4;rw [e7] at h7;refine aX (ps:=[(0,.tmp 28),(1,.tmp 29),(3,.tmp 32),(4,.tmp 35)]) (parts:=[(0,.slice a t.length cap),(1,.map (some hm)),(3,.slice a4 _ c4),(4,.slice a7 _ c7)]) rfl ?_ (by simp [Value.cells]) (ai (eH (ay _ _) ⟨hm,_,_,rfl,h1l,h1m,h4,h7⟩));show [(0,F 28),(1,F 29),(3,F 32),(4,F 35)]=_;rw [h0,h1,e4,e7]),
   (fun F w' hn hd hf=>by obtain ⟨hm,wv,gv,e,h1,h2,h3,h4⟩:Q7 (.slice a t.length cap) t.length w.heap.size 8 (F 36) w':=hd 8 (by kernel_rfl);exact Wl.box e fun w2 b2 n2 s2=>ai (eH n2 ⟨_,hm,wv,gv,rfl,apR hz1 hn.size,b2,h1,h2.chg n2 id,h3.new (nK _) n2,h4.new (nO _) n2⟩)),
   (fun F w' hn hd hf=>by refine Wl.alloc fun w2 b2 n2 s2=>?_;exact ai (eH n2 ⟨_,rfl,apR hz1 hn.size,b2⟩)),
   trivial⟩ ?_
 intro F w2 z n2 hz hd hf;obtain ⟨bg,hm,wv,gv,e9,h0,hb,h1,h2,h3,h4⟩:Q7 (.slice a t.length cap) t.length w.heap.size 9 (F 37) w2:=hd 9 (by decide);obtain ⟨b6,e10,h6l,h6⟩:Q7 (.slice a t.length cap) t.length w.heap.size 10 (F 6) w2:=hd 10 (by decide);have hF0:F 0=.slice a t.length cap:=hf 0 (by decide);cases hz;refine aJ (u:=pT bg) h6 e10 (show (0:Nat)<1 by omega) e9 rfl fun w3 b3 c3=>?_;replace b3:Bk w3 b6 140 [pT bg]:=b3;refine ai ⟨rfl,?_⟩;have g3:Gr0 w.heap.size bg hm b6 t.length [] [] (.slice a t.length cap) wv gv (.slice none 0 0) w3:=⟨hb.chg c3 fun e=>hb.oM h6 rfl e,b3,h2.chg c3 fun e=>h6.qQ h2 e.symm,h3.chg (nK _) c3 fun k hk e=>h3.oM h6 rfl hk e,h4.chg (nO _) c3 fun k hk e=>h4.oM h6 rfl hk e,aI,h0,h6l,h1⟩;have n03:New w w3:=(Chg.trans (M:=fun k=>k=b6) (New.trans n1 n2).any c3 fun k _ e=>e).tN
 clear hd hf h3 h4 h2 hb h6;have hF:agrees F [(0,.slice a t.length cap),(6,pT b6)]:=⟨hF0,e10,trivial⟩;rw [<-oV hF];simp only [pq];clear hF hF0 e9 e10;generalize hlv:(Value.slice a t.length cap)=lv at*;(repeat' (first|refine aa1 ?_|refine dO ?_|refine di ?_|refine eu ?_));subst hlv;refine aj (Fh (h.keep oh n03.keep) hok) rfl ?_;rintro _ w4 ⟨⟨bq,sv,rfl,hbq,hq⟩,n4⟩;have n04:=New.trans n03 n4;have hz3:=n03.size;have hz4:=n4.size;have adu:=hq.1.lt;have hpl:=vP t;let I:Nat->World->Prop:=fun k W=>New w W/\w4.heap.size<=W.heap.size/\SqW (fun b=>w3.heap.size<=b/\b<w4.heap.size) bq sv (pK t) W/\ ∃pv,Gr0 w.heap.size bg hm b6 t.length [] ((pK t).take k) (.slice a t.length cap) wv gv pv W/\ ∀j,pv.ownBlock=some j->w4.heap.size<=j;have ade:bg<w3.heap.size:=g3.b.lt;have ame:hm<w3.heap.size:=g3.mp.lt;(repeat' (first|refine ai ?_|refine Wd.block ?_|refine di ?_));refine gZ (gf:=46) (lb:= #[pT bq]) rfl (fun args _=>qF inferInstance args) (iter_walk (Pb:=fun b=>w3.heap.size<=b/\b<w4.heap.size) (bs:=bq) (v:=sv) (l:=pK t)) (fun k=>rfl) I (fun _ _=>False) ?_ ?_ ?_ ?_ ?_ ?_ ?_ ?_ ?_
 ·exact fun k W h=>h.2.2.1
 ·rintro k W W' ⟨h1,h2,h3,pv,h4,h5⟩ n;exact ⟨h1.trans n,apR h2 n.size,h3.new n,pv,h4.new n,h5⟩
 ·rintro k W r r' ⟨h1,h2,h3,pv,h4,h5⟩ hL;have z:=n04.size;exact ⟨h1.put _ (by omega),by simpa using h2,h3.put _ (.loop hL) (by omega),pv,h4.put _ (.loop hL) (by omega),h5⟩
 ·exact fun _ _ _ _ h=>h.elim
 ·intro r;have n:=ig (w:=w4) (.deferred (some [])) (.loop r);exact ⟨n04.trans n,n.size,hq.new n,_,(g3.new n4).new n,fun j e=>by cases e⟩
 ·rintro k W r hk ⟨h1,h2,h3,pv,h4,h5⟩ hL hD;have hkt:k<t.length:=by omega
  have hgk:(pK t).getD k []=oI t k:=by rw [an7,sQ hkt];rfl
  show Wr _ _ _ _ _ (upd (upd _ 40 (vs ((pK t).getD k []))) 41 (vi k)) W;rw [hgk];(repeat' (first|refine aa7 ?_|refine ai ?_|refine bI rfl (by repeat' (first|exact Qfn.out (by rintro _ ⟨⟨_,e⟩,_⟩;cases e)|exact Qrd.out|exact Qas.out|refine Qsr.out ?_|refine nR.out ?_|refine Qsc.out ?_|refine pW.out ?_)) ?_));refine ⟨ay _ _,fun r'=>?_⟩;have nL:NoC W (w4.heap.size+1):=.loop hL;have hLt:=nL.lt;have q1:New w (W.putObj (w4.heap.size+1) (.loop r')):=h1.put _ (by omega);have q3:=h3.put (.loop r') nL (by omega);have q4:=h4.put (.loop r') nL (by omega);have qL:NoC (W.putObj (w4.heap.size+1) (.loop r')) (w4.heap.size+1):=.loop (World.putObj_heap_same hLt);have qD:NoC (W.putObj (w4.heap.size+1) (.loop r')) w4.heap.size:=.mark ((World.putObj_heap_other (by omega)).trans hD);generalize W.putObj (w4.heap.size+1) (.loop r')=W3 at*;clear h1 h3 h4;have zW:=q1.size;have zL:=qL.lt;obtain ⟨pa,pc,rfl,_,_⟩:=q4.pa.form;have hpt:((pK t).take k).length=k:=by rw [anD];omega
  (repeat' (refine Wr.block ?_));refine iq rfl (by repeat' (first|exact Qfn.out (by rintro _ ⟨⟨_,e⟩,_⟩;cases e)|exact Qrd.out|exact Qas.out|refine Qsr.out ?_|refine nR.out ?_|refine Qsc.out ?_|refine pW.out ?_)) rfl (by kernel_rfl) (fun W'=>Chg (fun j=>(Value.slice pa ((pK t).take k).length pc).ownBlock=some j) W3 W') (Chg.drew _ _) ?_;intro W4 m4;have JC: ∀W',Chg (fun j=>(Value.slice pa ((pK t).take k).length pc).ownBlock=some j) W3 W'->Bk W' b6 140 [pT bg]:=fun W' c=>q4.v6.chg c fun e=>q4.pa.oM q4.v6 rfl e rfl;have adv: ∀W',Chg (fun j=>(Value.slice pa ((pK t).take k).length pc).ownBlock=some j) W3 W'->Bk W' bg 145 (grC (.slice a t.length cap) hm (.slice none 0 0) wv gv (.slice pa ((pK t).take k).length pc)):=fun W' c=>q4.b.chg c fun e=>q4.pa.oM q4.b rfl e rfl;refine aa0 (au (u:=pT bg) rfl (fun W' c=>(JC W' c).cell (o:=0) rfl) (af ?_));refine aa0 (au (u:=pT bg) rfl (fun W' c=>(JC W' c).cell (o:=0) rfl) (af ?_));(repeat' (first|refine aa0 (dA rfl (af ?_))|refine aa0 (aa6 (af ?_))));refine aa0 (au (u:=.slice pa ((pK t).take k).length pc) rfl (fun W' c=>(adv W' c).cell (o:=5) rfl) (af ?_));(repeat' (refine aa0 (aa3 (af ?_))));refine aC rfl (bC (R:=Wk.one vs) (Pe:=NoB) (y:=oI t k) rP rfl rfl rfl rfl (by omega) (by omega) fun v6 W6 o6 n6 s6 e6=>?_);have m6:=m4.trans n6;refine ai ⟨rfl,m6.any,?_⟩;refine aC rfl (bY (R:=Wk.one vs) rP (q4.pa.new (nO _) m6) (o6.rd rP.mo) (fun y cs hy=>hy) rfl rfl (by omega) (by simp only [maxLen,anM];omega) (by simp only [anM];omega) fun u' W7 o7 c7 lie _=>?_);have c37:Chg (fun j=>(Value.slice pa ((pK t).take k).length pc).ownBlock=some j) W3 W7:=Chg.trans m6.any c7 i3;refine ai ⟨rfl,c37,?_⟩;(repeat' (first|refine aa0 (dA rfl (af ?_))|refine aa0 (aa6 (af ?_))));rw [<-take_snoc (sQ hkt)] at o7;have z6:=m6.size;have o7':=o7.mono (Pb':=fun b=>w.heap.size<=b) (nV _) (fun b _ e=>by rcases e with e|e;exact e;omega) i3;refine Wt.last rfl (aJ (u:=u') (adv W7 c37) rfl (show (5:Nat)<6 by omega) rfl (by obtain ⟨_,_,rfl,_⟩:=o7.form;rfl) fun W8 b8 c8=>?_);refine ai ?_;have g8:=q4.path c37 o7' b8 c8;have z7:=c37.size;have z8:=c8.size;have hown: ∀j,(Value.slice pa ((pK t).take k).length pc).ownBlock=some j->w4.heap.size<=j:=h5;have e38:Chg (fun j=>j=bg∨(Value.slice pa ((pK t).take k).length pc).ownBlock=some j) W3 W8:=Chg.trans (c37.mono fun _ _ e=>.inr e) c8 fun _ _ e=>.inl e;(repeat' (refine dL ?_));refine ⟨e38.block _ qL.lt ?_,e38.block _ qD.lt ?_,Chg.trans q1 e38 fun j hj e=>?_,by omega,q3.chg e38 ?_ ?_,u',g8,?_⟩
  ·rintro (e|e)
   ·omega
   ·exact q4.pa.nl qL e rfl
  ·rintro (e|e)
   ·omega
   ·exact q4.pa.nl qD e rfl
  ·rcases e with e|e
   ·have:=g3.lo2;omega
   ·have:=hown j e;omega
  ·rintro (e|e)
   ·omega
   ·have:=hown _ e;omega
  ·rintro j hj (e|e)
   ·omega
   ·have:=hown _ e;omega
  ·intro j e;rcases lie with l1|l1
   ·exact hown j (l1▸e)
   ·have:=l1 j e;omega
 ·rintro W ⟨h1,h2,h3,pv,h4,h5⟩ hD;rw [aon] at h4;clear hq n4 g3 n04;generalize hD0:w4.heap.size=D at*;clear I;have amf:w.heap.size<=b6:=h4.lo2.2.1;have amg:bg<D:=by omega
  have hmD:hm<D:=by omega
  (repeat' (first|refine di ?_|refine fH ?_));refine fZ ?_;refine aN ?_;refine qq2 ?_;refine aA (σ:=Nat×List (Nat×Nat)) (fun q=>[(0,.slice a t.length cap),(6,pT b6),(52,.slice a t.length cap),(53,vi t.length),(54,vi q.1)]) (fun q W=>q.1<=t.length/\qX t=wL q.2 q.1 (t.drop q.1)/\Gr0 w.heap.size bg hm b6 t.length q.2 (pK t) (.slice a t.length cap) wv gv pv W/\New w W/\W.heap[D]? =some (.deferred (some []))) (fun q=>t.length-q.1) (0,[]) (sl rfl) ⟨anq _,rfl,h4,h1,hD⟩ ?_;clear h4 h1 hD h2 h3;rintro ⟨i,m⟩ G W ⟨hi,hH,g,nW,hD⟩;dsimp only at hi hH g nW hD;simp only [pq];(repeat' (first|refine qq4 ?_|refine aa2 (fun _=>?_) (fun _=>?_)))
  ·have hil:i<t.length:=by omega
   rw [OW hil] at hH;refine aK (h.keep oh nW.keep) rfl rfl (by omega) (GK hil) fun b o cs hl hR hat=>?_;obtain ⟨pvn,rfl,hpv⟩:=hR;obtain ⟨na,nc,rfl,_,_⟩:=hpv.form;refine aS hat rfl rfl ?_;clear hat;refine Wl.alloc fun w5 b5 n5 s5=>?_;(repeat' (refine aa7 ?_));refine aH (new:=[vi (ndA t i).parent,vs (ndA t i).name,.slice na (ndA t i).pz.length nc]) b5 rfl rfl rfl rfl zl3 (by intro c hc;simp at hc;rcases hc with rfl|rfl|rfl<;>rfl) fun w6 b6' c6 s6=>?_;replace b6':Bk w6 W.heap.size 73 [vi (ndA t i).parent,vs (ndA t i).name,.slice na (ndA t i).pz.length nc]:=b6';have n6:New W w6:=(Chg.trans n5.any c6 i3).tN
   clear b5 n5 c6;refine qq2 ?_;refine bK b6' rfl rfl ?_;refine aj (A7 (x:=ndA t i) (nm:=uY) (hpv.keep (oH pC) n6.keep)) rfl ?_;rintro _ w7 ⟨rfl,n7⟩;have n67:=New.trans n6 n7;have ev1: ∀o:Option (List UInt8),Ld o=.tuple #[vs (o.getD []),.bool o.isSome]:=fun o=>by cases o<;>rfl
   rw [ev1];have hvl:((tX t i uY).getD []).length<=1024:=yX hok hil;have hhm:wo (ndA t i)=(Ic ((val (ndA t i).pz uY).getD [])).getD 0:=rfl;generalize hvv:(val (ndA t i).pz uY).getD []=txt at hhm;have hvl:txt.length<=1024:=by rw [<-hvv];exact hvl
   refine qq5 ?_;refine aj (EQ (l:=txt) (by omega)) rfl ?_;rintro _ w8 ⟨rfl,n8⟩;have n68:=New.trans n67 n8;obtain ⟨n,hn,hnl⟩:=Ij txt;have hcm:Ic txt=if (only 0 (form 4 txt) (nums 4 txt)).2=0 then some (only 0 (form 4 txt) (nums 4 txt)).1.toNat else none:=rfl;rw [hn,ant] at hcm;rw [hn];generalize (only 0 (form 4 txt) (nums 4 txt)).2=e8 at hcm;have g8:=g.new n68;have n08:=New.trans nW n68;have hD8:w8.heap[D]? =some (.deferred (some [])):=(n68.block _ (Array.getElem?_eq_some_iff.1 hD).1 id).trans hD;have nx: ∀(w':World) (G':Fr) (m':List (Nat×Nat)),Gr0 w.heap.size bg hm b6 t.length m' (pK t) (.slice a t.length cap) wv gv pv w'->New w w'->w'.heap[D]? =some (.deferred (some []))->qX t=wL m' (i+1) (t.drop (i+1))->(i+1<=t.length/\qX t=wL m' (i+1) (t.drop (i+1))/\Gr0 w.heap.size bg hm b6 t.length m' (pK t) (.slice a t.length cap) wv gv pv w'/\New w w'/\w'.heap[D]? =some (.deferred (some []))):=fun w' _ m' q1 q2 q3 q4=>⟨by omega,q4,q1,q2,q3⟩;refine qq5 ?_;refine ah (u:=pT bg) rfl (g8.v6.cell (o:=0) rfl) ?_;refine qq2 ?_;refine ah (u:=.map (some hm)) rfl (g8.b.cell (o:=1) rfl) ?_;(repeat' (refine aa1 ?_));refine jU kU g8.mp (aaN hnl) rfl rfl (fun r hr=>?_) (fun hr=>?_)
   ·have hno: ¬(m.all (fun p=>decide (p.1≠n))=true):=by intro hall;obtain ⟨p,hp,e⟩:=List.mem_map.1 hr;simp only [Prod.mk.injEq,Value.int.injEq,true_and] at e;have:=List.all_eq_true.1 hall p hp;rw [decide_eq_true_eq] at this;exact this (by omega)
    have hif:(if wo (ndA t i)≠0/\m.all (fun p=>decide (p.1≠wo (ndA t i)))=true then m++ [(wo (ndA t i),i)] else m)=m:=by
     rw [if_neg];rintro ⟨q1,q2⟩;rw [hhm,hcm] at q1 q2;by_cases he:e8=0
     ·rw [if_pos he] at q2;exact hno q2
     ·rw [if_neg he] at q1;exact q1 rfl
    rw [hif] at hH;(repeat' (first|refine qq2 ?_|refine bJ rfl rfl (fun _=>?_) (fun _=>?_)|refine aa4 (fun _=>?_) (fun _=>?_)))
    all_goals exact ax (i+1,m) (sl rfl) (nx _ G m g8 n08 hD8 hH) (by dsimp only;omega)
   ·have hall:m.all (fun p=>decide (p.1≠n))=true:=by rw [List.all_eq_true];intro p hp;have:=hr _ (List.mem_map.2 ⟨p,hp,rfl⟩);simp only [ne_eq,Value.int.injEq,true_and] at this;rw [decide_eq_true_eq];omega
    have hif:(e8=0/\n≠0)∨(if wo (ndA t i)≠0/\m.all (fun p=>decide (p.1≠wo (ndA t i)))=true then m++ [(wo (ndA t i),i)] else m)=m:=by
     by_cases he:e8=0
     ·by_cases hn0:n=0
      ·right;rw [if_neg];rintro ⟨q1,_⟩;rw [hhm,hcm,if_pos he] at q1;exact q1 hn0
      ·exact .inl ⟨he,hn0⟩
     ·right;rw [if_neg];rintro ⟨q1,_⟩;rw [hhm,hcm,if_neg he] at q1;exact q1 rfl
    (repeat' (first|refine qq2 ?_|refine bJ rfl rfl (fun _=>?_) (fun _=>?_)|refine aa4 (fun _=>?_) (fun _=>?_)))
    ·have hput:(if wo (ndA t i)≠0/\m.all (fun p=>decide (p.1≠wo (ndA t i)))=true then m++ [(wo (ndA t i),i)] else m)=m++ [(n,i)]:=by
      have he:wo (ndA t i)=n:=by rw [hhm,hcm,if_pos (by omega)];rfl
      rw [he,if_pos ⟨by omega,hall⟩]
     rw [hput] at hH;refine ah (u:=pT bg) rfl (g8.v6.cell (o:=0) rfl) ?_;refine qq2 ?_;refine ah (u:=.map (some hm)) rfl (g8.b.cell (o:=1) rfl) ?_;(repeat' (refine aa1 ?_));refine gU (u:=vi i) kU g8.mp (aaN hnl) hr rfl rfl rfl fun w9 m9 c9 s9=>?_;have g9:=g8.map c9 (m':=m++ [(n,i)]) (by simpa [Be] using m9);have hlm:=g.lo2.2.2;refine qq6 ?_;exact ax (i+1,m++ [(n,i)]) (sl rfl) (nx _ G _ g9 ((Chg.trans (M:=fun k=>k=hm) n08.any c9 fun k _ e=>e).tN) ((c9.block _ (Array.getElem?_eq_some_iff.1 hD8).1 (by omega)).trans hD8) hH) (by dsimp only;omega)
    all_goals
     rcases hif with hif|hif
     ·exfalso;omega
     ·rw [hif] at hH;exact ax (i+1,m) (sl rfl) (nx _ G m g8 n08 hD8 hH) (by dsimp only;omega)
  obtain rfl:i=t.length:=by omega
  rw [aoG] at hH;obtain rfl:qX t=m:=hH;have ga:=g.mp;have g6:=g.v6;have hlm:=g.lo2.2.2;have gA:=GrA.of0 g (h.keep oh nW.keep);clear ga;let adw:Nat->List wC->Prop:=fun i bs=>bs.map (·.2)=(ab8 t.length).map fun j=>if j<i then BX t j else [];have adx:adw 0 (aok t.length (.slice none 0 0,[])):=by
   show apU _ _=_;rw [aqa];apply anC;intro j;rw [ap0,an3];by_cases hj:j<t.length
   ·rw [if_pos hj,aoT hj];rfl
   ·rw [if_neg hj,anl (by simpa using hj)];rfl
  refine aA (σ:=Nat×Value×List wC) (fun q=>[(0,.slice a t.length cap),(6,pT b6),(95,.slice a t.length cap),(96,vi t.length),(97,vi q.1)]) (fun q W=>q.1<=t.length/\adw q.1 q.2.2/\GrA w.heap.size bg hm b6 t (qX t) ((ab8 q.1).flatMap (Ah t)) q.2.2 (aok t.length false) (pK t) (.slice a t.length cap) q.2.1 wv gv pv W/\Bk W b6 140 [pT bg]/\New w W/\W.heap[D]? =some (.deferred (some []))) (fun q=>t.length-q.1) (0,.slice none 0 0,aok t.length (.slice none 0 0,[])) (sl rfl) ⟨anq _,adx,gA,g6,nW,hD⟩ ?_;clear g gA g6 nW hD adx;rintro ⟨i,ev,bs⟩ G3 W ⟨hi,hbs,g,g6,nW,hD⟩;dsimp only at hi hbs g g6 nW hD;simp only [pq];(repeat' (first|refine qq4 ?_|refine aa2 (fun _=>?_) (fun _=>?_)))
  ·have hil:i<t.length:=by omega
   refine aA (σ:=Nat×Value) (fun q=>[(0,.slice a t.length cap),(6,pT b6),(16,vi i),(17,.int .u8 q.1),(95,.slice a t.length cap),(96,vi t.length),(97,vi i)]) (fun q W=>1<=q.1/\q.1<=6/\GrA w.heap.size bg hm b6 t (qX t) ((ab8 i).flatMap (Ah t)++zf t i q.1) bs (aok t.length false) (pK t) (.slice a t.length cap) q.2 wv gv pv W/\Bk W b6 140 [pT bg]/\New w W/\W.heap[D]? =some (.deferred (some []))) (fun q=>6-q.1) (1,ev) (sl rfl) ⟨aap _,by dsimp only;omega,by simpa [zf] using g,g6,nW,hD⟩ ?_;clear g g6 nW hD;rintro ⟨k,ev⟩ G4 W ⟨hk1,hk6,g,g6,nW,hD⟩;dsimp only at hk1 hk6 g g6 nW hD;simp only [pq];have hDl:=(Array.getElem?_eq_some_iff.1 hD).1;have ady:=g6.lt;have hzW:=nW.size;have amh:=uO hok i (by omega);have aaY:=Ky hok hil k;(repeat' (first|refine qq6 ?_|refine dR rfl rfl (fun _=>?_) (fun _=>?_)|refine aT rfl rfl (fun _=>?_) (fun _=>?_)))
   ·refine ah (u:=pT bg) rfl (g6.cell (o:=0) rfl) ?_;(repeat' (refine aa1 ?_));have hz:=g.zone ady hzW;have hnz: ¬Zn w.heap.size bg hm b6 bs wv gv pv bg/\ ¬Zn w.heap.size bg hm b6 bs wv gv pv bg/\ ¬Zn w.heap.size bg hm b6 bs wv gv pv hm/\hm≠bg:=⟨fun e=>e.2.1 rfl,fun e=>e.2.1 rfl,fun e=>e.2.2.2.1 rfl,fun e=>g.b.qQ g.mp e.symm⟩;have hlz:w.heap.size<=bg/\ ∀b,b<w.heap.size-> ¬Zn w.heap.size bg hm b6 bs wv gv pv b:=⟨g.lo2.1,fun b hb e=>by have:=e.1;omega⟩;refine aj (Kq (kind:=k) (soft:=false) g.b g.tr hok hil hk1 (by omega) g.mp g.ed (by simp only [am7];omega) hz hz hnz hlz) rfl ?_;rintro u w5 ⟨ev5,b5,Jy,c5,_⟩;have g5:=g.read b5 Jy c5;have hne: ∀k,ev.ownBlock=some k->w.heap.size<=k/\k≠b6/\k≠D:=fun k hk=>⟨(g.ed.lt hk).1.1,(g.ed.lt hk).1.2.2.1,g.ed.nl (.mark hD) hk⟩;have g65:=g6.chg c5 fun e=>e.elim (fun e=>g6.oM g.b rfl e) fun e=>(hne _ e).2.1 rfl;have hD5:=(c5.block _ hDl fun e=>e.elim (fun e=>by omega) fun e=>(hne _ e).2.2 rfl).trans hD;have n5:New w w5:=(Chg.trans nW.any c5 fun k _ e=>e).toNew fun k hk e=>by
     rcases e with e|e
     ·omega
     ·have:=(hne k e).1;omega
    have ait:=(Array.getElem?_eq_some_iff.1 hD5).1;clear hne hz hnz hlz c5 b5 Jy;refine qq4 ?_;refine ah (u:=pT bg) rfl (g65.cell (o:=0) rfl) ?_;(repeat' (refine aa1 ?_));have hz:=g5.zone g65.lt n5.size;have hnz: ¬Zn w.heap.size bg hm b6 bs wv gv pv bg/\ ¬Zn w.heap.size bg hm b6 bs wv gv pv bg/\ ¬Zn w.heap.size bg hm b6 bs wv gv pv hm/\hm≠bg:=⟨fun e=>e.2.1 rfl,fun e=>e.2.1 rfl,fun e=>e.2.2.2.1 rfl,fun e=>g.b.qQ g.mp e.symm⟩;have hlz:w.heap.size<=bg/\ ∀b,b<w.heap.size-> ¬Zn w.heap.size bg hm b6 bs wv gv pv b:=⟨g.lo2.1,fun b hb e=>by have:=e.1;omega⟩;have ami:=Fp hok hil k false;refine aj (Kq (kind:=k) (soft:=true) g5.b g5.tr hok hil hk1 (by omega) g5.mp g5.ed (by simp only [am7];omega) hz hz hnz hlz) rfl ?_;rintro u w6 ⟨ev6,b6',U8,c6,_⟩;have g7:=g5.read b6' U8 c6;have hne: ∀k,ev5.ownBlock=some k->w.heap.size<=k/\k≠b6/\k≠D:=fun k hk=>⟨(g5.ed.lt hk).1.1,(g5.ed.lt hk).1.2.2.1,g5.ed.nl (.mark hD5) hk⟩;have g67:=g65.chg c6 fun e=>e.elim (fun e=>g65.oM g5.b rfl e) fun e=>(hne _ e).2.1 rfl;have hD7:=(c6.block _ ait fun e=>e.elim (fun e=>by omega) fun e=>(hne _ e).2.2 rfl).trans hD5;have n7:New w w6:=(Chg.trans n5.any c6 fun k _ e=>e).toNew fun k hk e=>by
     rcases e with e|e
     ·omega
     ·have:=(hne k e).1;omega
    clear hne hz hnz hlz c6 b6' U8 g5 g65 hD5 n5;refine qq6 ?_;refine jf rfl rfl ?_;rw [show (k:Int)+1=((k+1:Nat):Int) from rfl,w8 (by omega)];refine qq6 ?_;refine ax (k+1,ev6) (sl rfl) ⟨by dsimp only;omega,by dsimp only;omega,?_,g67,n7,hD7⟩ (by dsimp only;omega);dsimp only;rw [Q8 hk1 (by omega)];simpa using g7
   ·have hes:(ab8 i).flatMap (Ah t)++zf t i k=(ab8 (i+1)).flatMap (Ah t):=by
     have:k=6:=by omega
     subst this;rw [apQ,apI];simp [Ah,zf]
    rw [hes] at g;have hb2:bs.length=t.length:=by have:=congrArg apq hbs;simpa using this
    have hpi:=uK hok (i:=i) (by omega) hil;have hne0:bs≠ []:=by intro e;rw [e] at hb2;simp at hb2;omega
    obtain ⟨wg,wc,hwv,hwl,adz,hob⟩:=g.wa.row.blk hne0;obtain ⟨x,hx⟩:=nT bs (k:=i) (by omega);subst hwv;refine aV rfl (by kernel_rfl) (fun w'=>New W w') (Chg.drew _ _) ?_;intro w5 n5;refine aa0 (au (u:=pT bg) rfl (fun w' hw=>(g6.chg hw id).cell (o:=0) rfl) (af ?_));refine rX ?_;refine aa0 (au (u:=.slice (some ⟨wg,0,none⟩) bs.length wc) rfl (fun w' hw=>(g.b.chg hw id).cell (o:=3) rfl) (af ?_));(repeat' (refine aa0 (aa3 (af ?_))));refine aa0 (bQ g.tr (fun w' hw=>hw.keep) rfl rfl (by omega) (GK hil) fun b o cs hl hR hat=>af ?_);obtain ⟨pv1,rfl,_⟩:=hR;(repeat' (refine aa0 (aa6 (af ?_))));refine aa0 (au (u:=vi (par t i)) rfl (fun w' hw=>by rw [<-hpi.2];exact (hat w' hw).get 0 rfl) (af ?_));clear hat;refine aC rfl (bC (R:=Wk.one viN) (Pe:=NoB) (y:=par t i) qw rfl rfl rfl rfl (by omega) (by omega) fun v6 w6 o6 n6 s6 e6=>?_);have n56:=n5.trans n6;refine ai ⟨rfl,n56,?_⟩;refine aa0 (aa8 (af ?_));refine Wt.last rfl (dS (f:=(·.1:wC->Value)) (q:=(v6,[par t i])) (j:=i) (cap:=wc) (g.wa.row.new (nK _) n56) rfl (by omega) (by show Value.pointer (some ⟨wg,0+(i:Int).toNat*1,none⟩)=_;simp) rfl rfl (by obtain ⟨_,_,rfl,_⟩:=o6.form;rfl) fun w7 o7 c7=>?_);refine ai ?_;have hz5:=n5.size;have g7:=g.want hx (x':=(v6,[par t i])) (w1:=w6) (o6.mono (nV _) (fun b _ e=>by have h9:w5.heap.size<=b:=e;omega) i3) n56.any (.inr fun k hk=>by have h9:w5.heap.size<=k:=(o6.lt hk).1;omega) o7 c7;have c07:Chg (fun k=>k=wg) W w7:=Chg.trans n56.any c7 fun k _ e=>by cases e;rfl
    have hwD:wg≠D:=g.wa.row.nl (.mark hD) rfl;have hw6:wg≠b6:=g.wa.row.oM g6 rfl rfl;refine qq6 ?_;refine ax (i+1,ev,bs.set i (v6,[par t i])) (sl rfl) ⟨by dsimp only;omega,?_,g7,g6.chg c07 (fun e=>hw6 e.symm),(Chg.trans (M:=fun k=>k=wg) nW.any c07 fun k _ e=>e).tN,(c07.block _ hDl (fun e=>hwD e.symm)).trans hD⟩ (by dsimp only;omega);show apU _ (bs.set i _)=_;rw [apW,show apU (·.2) bs=_ from hbs,BM hil];apply aoA;intro j _;by_cases e1:j=i
    ·rw [if_pos e1,if_pos (by omega)];unfold BX;rw [if_pos (by omega),e1]
    ·rw [if_neg e1];by_cases e2:j<i
     ·rw [if_pos e2,if_pos (by omega)]
     ·rw [if_neg e2,if_neg (by omega)]
   ·have hes:(ab8 i).flatMap (Ah t)++zf t i k=(ab8 (i+1)).flatMap (Ah t):=by
     have:k=6:=by omega
     subst this;rw [apQ,apI];simp [Ah,zf]
    rw [hes] at g;refine ax (i+1,ev,bs) (sl rfl) ⟨by dsimp only;omega,?_,g,g6,nW,hD⟩ (by dsimp only;omega);have hi0:i=0:=by omega
    show apU _ bs=_;rw [show apU (·.2) bs=_ from hbs];apply aoA;intro j _;dsimp only;rw [hi0,if_neg (by omega)];by_cases e2:j<0+1
    ·rw [if_pos e2];unfold BX;rw [if_neg (by omega)]
    ·rw [if_neg e2]
  ·obtain rfl:i=t.length:=by omega
   have hed:(ab8 t.length).flatMap (Ah t)=nX t:=rfl;rw [hed] at g;have hel:=uO hok t.length (aap _);rw [hed] at hel;have adA:bs.map (·.2)=(ab8 t.length).map fun j=>BX t j++((nX t).take 0).filterMap (wO j):=by rw [show apU (·.2) bs=_ from hbs];apply aoA;intro j hj;rw [if_pos (by simpa using hj)];simp
   obtain ⟨ea,ec,rfl,_,_⟩:=g.ed.form;refine ah (u:=pT bg) rfl (g6.cell (o:=0) rfl) ?_;refine qq2 ?_;refine ah (u:=.slice ea (nX t).length ec) rfl (g.b.cell (o:=2) rfl) ?_;refine qq4 ?_;clear hbs;refine aA (σ:=Nat×List wC×List Bool) (fun q=>[(6,pT b6),(130,.slice ea (nX t).length ec),(131,vi (nX t).length),(132,vi q.1)]) (fun q W=>q.1<=(nX t).length/\q.2.1.map (·.2)=((ab8 t.length).map fun j=>BX t j++((nX t).take q.1).filterMap (wO j))/\q.2.2.length=t.length/\GrA w.heap.size bg hm b6 t (qX t) (nX t) q.2.1 q.2.2 (pK t) (.slice a t.length cap) (.slice ea (nX t).length ec) wv gv pv W/\Bk W b6 140 [pT bg]/\New w W/\W.heap[D]? =some (.deferred (some []))) (fun q=>(nX t).length-q.1) (0,bs,aok t.length false) (sl rfl) ⟨anq _,adA,by simp,g,g6,nW,hD⟩ ?_;clear g g6 nW hD adA;rintro ⟨k,bs,gs⟩ G5 W ⟨hk,hbs,hgl,g,g6,nW,hD⟩;dsimp only at hk hbs hgl g g6 nW hD;simp only [pq];have hDl:=(Array.getElem?_eq_some_iff.1 hD).1;have hzW:=nW.size;(repeat' (first|refine qq4 ?_|refine aa2 (fun _=>?_) (fun _=>?_)))
   ·obtain ⟨e,he⟩:=nT (nX t) (k:=k) (by omega);have hlt:=ug e (aop he);have hb2:bs.length=t.length:=by have:=congrArg apq hbs;simpa using this
    refine aK (g.ed.rd qf.mo) rfl rfl (by omega) he fun b o cs hl hR hat=>?_;obtain ⟨av,rfl,hav⟩:=hR;obtain ⟨aa,ac,rfl,_,_⟩:=hav.form;refine aS hat rfl rfl ?_;clear hat;refine Wl.alloc fun w5 b5 n5 s5=>?_;refine aH (new:=edC e (.slice aa e.args.length ac)) b5 rfl rfl rfl rfl zl6 Ot fun w6 b6' c6 s6=>?_;replace b6':Bk w6 W.heap.size 100 (edC e (.slice aa e.args.length ac)):=b6';have n6:New W w6:=(Chg.trans n5.any c6 i3).tN
    clear b5 n5 c6 hav;have g':=g.new n6;have g66:=g6.chg n6 id;have n06:=New.trans nW n6;have hD6:w6.heap[D]? =some (.deferred (some [])):=(n6.block _ hDl id).trans hD;have adB:=(Array.getElem?_eq_some_iff.1 hD6).1;have hxl:=b6'.lt;clear g g6;have hst: ∀j,BX t j++((nX t).take (k+1)).filterMap (wO j)=(BX t j++((nX t).take k).filterMap (wO j))++(wO j e).toList:=fun j=>by rw [take_snoc he,List.filterMap_append,adK];congr 2
    have hno:(∀j,wO j e=none)->bs.map (·.2)=(ab8 t.length).map fun j=>BX t j++((nX t).take (k+1)).filterMap (wO j):=fun hh=>by rw [hbs];apply aoA;intro j _;rw [hst,hh];simp
    refine qq2 ?_;refine ah (u:=.bool e.soft) rfl (b6'.cell (o:=3) rfl) ?_;refine qq6 ?_;cases hso:e.soft
    ·refine qq2 ?_;refine ah (u:=vi (pU e.dst)) rfl (b6'.cell (o:=1) rfl) ?_;cases hds:e.dst with
     |none=>
      rw [show pU none=(-1:Int) from rfl];have hno':=hno fun j=>by unfold wO;rw [hds];split<;>rfl
      have hne0:gs≠ []:=by intro e;rw [e] at hgl;simp at hgl;omega
      obtain ⟨gg,gc,hgv,hgw,amj,hob⟩:=g'.ga.blk hne0;subst hgv;(repeat' (first|refine qq4 ?_|(refine aa2 (fun _=>?_) (fun _=>?_)<;>(first|(exfalso;omega)|skip))));refine aV rfl (by kernel_rfl) (fun w'=>New w6 w') (Chg.drew _ _) ?_;intro w7 n7;refine aa0 (au (u:=pT bg) rfl (fun w' hw=>(g66.chg hw id).cell (o:=0) rfl) (af ?_));refine rX ?_;refine aa0 (au (u:=.slice (some ⟨gg,0,none⟩) gs.length gc) rfl (fun w' hw=>(g'.b.chg hw id).cell (o:=4) rfl) (af ?_));(repeat' (refine aa0 (aa6 (af ?_))));refine aa0 (au (u:=vi e.src) rfl (fun w' hw=>(b6'.chg hw id).cell (o:=0) rfl) (af ?_));refine aa0 (aa8 (af ?_));refine Wt.last rfl (dS (f:=vbo) (q:=true) (j:=e.src) (cap:=gc) (g'.ga.new (nO _) n7) rfl (by omega) (by show Value.pointer (some ⟨gg,0+(e.src:Int).toNat*1,none⟩)=_;simp) rfl rfl rfl fun w8 o8 c8=>?_);refine ai ?_;have g8:=(g'.new n7).gap o8 c8;have c68:Chg (fun k=>k=gg) w6 w8:=Chg.trans n7.any c8 fun k _ e=>by cases e;rfl
      have hwD:gg≠D:=g'.ga.nl (.mark hD6) rfl;have hw6:gg≠b6:=g'.ga.oM g66 rfl rfl;refine qq6 ?_;exact ax (k+1,bs,gs.set e.src true) (sl rfl) ⟨by dsimp only;omega,hno',by simpa using hgl,g8,g66.chg c68 (fun e=>hw6 e.symm),(Chg.trans (M:=fun k=>k=gg) n06.any c68 fun k _ e=>e).tN,(c68.block _ adB (fun e=>hwD e.symm)).trans hD6⟩ (by dsimp only;omega)
     |some d=>
      rw [show pU (some d)=(d:Int) from rfl];have hne0:bs≠ []:=by intro e;rw [e] at hb2;simp at hb2;omega
      obtain ⟨wg,wc,hwv,hwl,adz,hob⟩:=g'.wa.row.blk hne0;obtain ⟨⟨xv,xl⟩,hx⟩:=nT bs (k:=e.src) (by omega);have hxo:=g'.wa.el _ (aop hx);dsimp only at hxo;obtain ⟨xa,xc,rfl,adC,abj⟩:=hxo.form;have XE:xl=BX t e.src++((nX t).take k).filterMap (wO e.src):=by have h1:=congrArg (fun l=>l[e.src]?) hbs;simp only [an3,hx,aoT hlt.1,am6,Option.some.injEq] at h1;exact h1
      have adD:xl.length<=10000000:=by
       rw [XE,am7];have h1:(BX t e.src).length<=1:=by unfold BX;split<;>simp
       have h2:=aqb (wO e.src) ((nX t).take k);have h3:((nX t).take k).length<=(nX t).length:=by rw [anD];omega
       omega
      subst hwv;(repeat' (first|refine qq6 ?_|(refine aa2 (fun _=>?_) (fun _=>?_)<;>(first|(exfalso;omega)|skip))));refine aV rfl (by kernel_rfl) (fun w'=>Chg (fun j=>(Value.slice xa xl.length xc).ownBlock=some j) w6 w') (Chg.drew _ _) ?_;intro w7 n7;have h6': ∀w',Chg (fun j=>(Value.slice xa xl.length xc).ownBlock=some j) w6 w'->Bk w' b6 140 [pT bg]:=fun w' c=>g66.chg c fun e=>hxo.oM g66 rfl e rfl;have hg': ∀w',Chg (fun j=>(Value.slice xa xl.length xc).ownBlock=some j) w6 w'->Bk w' bg 145 (grC (.slice a t.length cap) hm (.slice ea (nX t).length ec) (.slice (some ⟨wg,0,none⟩) bs.length wc) gv pv):=fun w' c=>g'.b.chg c fun e=>hxo.oM g'.b rfl e rfl;have hx': ∀w',Chg (fun j=>(Value.slice xa xl.length xc).ownBlock=some j) w6 w'->Bk w' W.heap.size 100 (edC e (.slice aa e.args.length ac)):=fun w' c=>b6'.chg c fun e=>hxo.oM b6' rfl e rfl;refine aa0 (au (u:=pT bg) rfl (fun w' hw=>(h6' w' hw).cell (o:=0) rfl) (af ?_));refine rX ?_;refine aa0 (au (u:=.slice (some ⟨wg,0,none⟩) bs.length wc) rfl (fun w' hw=>(hg' w' hw).cell (o:=3) rfl) (af ?_));(repeat' (refine aa0 (aa6 (af ?_))));refine aa0 (au (u:=vi e.src) rfl (fun w' hw=>(hx' w' hw).cell (o:=0) rfl) (af ?_));refine aa0 (au (u:=pT bg) rfl (fun w' hw=>(h6' w' hw).cell (o:=0) rfl) (af ?_));refine rX ?_;refine aa0 (au (u:=.slice (some ⟨wg,0,none⟩) bs.length wc) rfl (fun w' hw=>(hg' w' hw).cell (o:=3) rfl) (af ?_));(repeat' (refine aa0 (aa6 (af ?_))));refine aa0 (au (u:=vi e.src) rfl (fun w' hw=>(hx' w' hw).cell (o:=0) rfl) (af ?_));refine aa0 (aa8 (af ?_));have hrow: ∀w',Chg (fun j=>(Value.slice xa xl.length xc).ownBlock=some j) w6 w'->w'.cell? ⟨wg,0+(e.src:Int).toNat*1,none⟩=some (.slice xa xl.length xc):=fun w' c=>by have h9:=(g'.wa.row.chg (nK _) c fun j hj e=>g'.wa.vz _ (aop hx) j e hj).at rfl rfl hx;have:=h9.get 0 rfl;simpa using this
      refine aa0 (au (u:=.slice xa xl.length xc) rfl hrow (af ?_));(repeat' (refine aa0 (aa6 (af ?_))));refine aa0 (au (u:=vi d) rfl (fun w' hw=>by have:=(hx' w' hw).cell (o:=1) (u:=vi (pU e.dst)) rfl;rw [hds] at this;exact this) (af ?_));refine aC rfl (bC (R:=Wk.one viN) (Pe:=NoB) (y:=d) qw rfl rfl rfl rfl (by omega) (by omega) fun v8 w8 o8 n8 s8 e8=>?_);have n78:=n7.trans n8;refine ai ⟨rfl,n78.any,?_⟩;refine aC rfl (bY qw (hxo.new (nO _) n78) (o8.rd qw.mo) (fun y cs hy=>hy) rfl rfl (by omega) (by simp only [maxLen,anM];omega) (by simp only [anM];omega) fun v9 w9 o9 c9 lie _=>?_);have c69:Chg (fun j=>(Value.slice xa xl.length xc).ownBlock=some j) w6 w9:=Chg.trans n78.any c9 i3;refine ai ⟨rfl,c69,?_⟩;refine aa0 (aa8 (af ?_));have aiu:=n78.size;refine Wt.last rfl (dS (f:=(·.1:wC->Value)) (q:=(v9,xl++ [d])) (j:=e.src) (cap:=wc) (g'.wa.row.chg (nK _) c69 fun j hj e=>g'.wa.vz _ (aop hx) j e hj) rfl (by omega) (by show Value.pointer (some ⟨wg,0+(e.src:Int).toNat*1,none⟩)=_;simp) rfl rfl (by obtain ⟨_,_,rfl,_⟩:=o9.form;rfl) fun w10 o10 c10=>?_);refine ai ?_;have LZ:v9.ownBlock=(Value.slice xa xl.length xc).ownBlock∨ ∀k,v9.ownBlock=some k->w6.heap.size<=k:=lie.imp id fun h9 k hk=>by have:=h9 k hk;omega
      have g10:=g'.want hx (x':=(v9,xl++ [d])) (w1:=w9) (o9.mono (nV _) (fun b _ e=>by rcases e with e|e;exact e;omega) i3) c69 LZ o10 c10;have Fq:Chg (fun j=>(Value.slice xa xl.length xc).ownBlock=some j∨j=wg) w6 w10:=Chg.trans (c69.mono fun k _ e=>Or.inl e) c10 fun k _ e=>by cases e;exact .inr rfl
      have hwD:wg≠D:=g'.wa.row.nl (.mark hD6) rfl;have hw6:wg≠b6:=g'.wa.row.oM g66 rfl rfl;have hxD: ∀j,(Value.slice xa xl.length xc).ownBlock=some j->j≠D/\j≠b6/\w.heap.size<=j:=fun j hj=>⟨hxo.nl (.mark hD6) hj,hxo.oM g66 rfl hj,(hxo.lt hj).1⟩;refine qq6 ?_;refine ax (k+1,bs.set e.src (v9,xl++ [d]),gs) (sl rfl) ⟨by dsimp only;omega,?_,hgl,g10,g66.chg Fq (fun e=>e.elim (fun e=>(hxD _ e).2.1 rfl) fun e=>hw6 e.symm),(Chg.trans (M:=fun j=>(Value.slice xa xl.length xc).ownBlock=some j∨j=wg) n06.any Fq fun k _ e=>e).toNew fun k hk e=>by rcases e with e|e;(have:=(hxD k e).2.2;omega);omega,(Fq.block _ adB (fun e=>e.elim (fun e=>(hxD _ e).1 rfl) fun e=>hwD e.symm)).trans hD6⟩ (by dsimp only;omega);show apU _ (bs.set e.src _)=_;rw [apW,hbs,BM hlt.1];apply aoA;intro j _;dsimp only;rw [hst j];by_cases e1:j=e.src
      ·rw [if_pos e1,XE,e1];unfold wO;rw [if_pos ⟨rfl,hso⟩,hds];rfl
      ·rw [if_neg e1];unfold wO;rw [if_neg (fun h=>e1 h.1.symm)];simp
    ·have hno':=hno fun j=>by unfold wO;rw [if_neg (fun h=>by rw [hso] at h;cases h.2)]
     refine qq2 ?_;exact ax (k+1,bs,gs) (sl rfl) ⟨by dsimp only;omega,hno',hgl,g',g66,n06,hD6⟩ (by dsimp only;omega)
   ·obtain rfl:k=(nX t).length:=by omega
    rw [aon] at hbs;refine ah (u:=pT bg) rfl (g6.cell (o:=0) rfl) ?_;refine qq3 ?_;refine Qdn.e ?_;refine gq (by simp) hD ?_;have hnD:NoC W D:=.mark hD;refine dG (v:=.tuple #[pT bg,vi 0]) (qB rfl (pJ rfl) (pJ rfl)) ⟨_,rfl,⟨bg,hm,.slice ea (nX t).length ec,wv,gv,pv,gs,bs,rfl,?_,hbs,hgl⟩,nW.put _ (by omega)⟩;exact (g.put _ hnD (by omega) (by omega)).adt
 ·exact fun _ h=>h.elim
 ·exact fun _ _ h=>h.elim
open Classical in
noncomputable def Ey (W:Nat->List Nat) (n i:Nat):List Bool:=(ab8 n).map fun k=>decide (Rch W i k)
theorem OX (W:Nat->List Nat) (n i:Nat):(Ey W n i).length=n:=by simp [Ey]
theorem Bf {W:Nat->List Nat} {n i k:Nat} (hk:k<n): ∃b,(Ey W n i)[k]? =some b/\(b=true↔Rch W i k):=by
 unfold Ey;refine ⟨_,by rw [an3,aoT hk];rfl,?_⟩;simp
structure Mrk (W:Nat->List Nat) (i:Nat) (ks:List Nat) (S S':List Bool):Prop where
 len:S'.length=S.length
 mo: ∀k:Nat,S[k]? =some true->S'[k]? =some true
 snd: ∀k:Nat,S'[k]? =some true->S[k]? =some true∨Rch W i k
 all: ∀k∈ks,S'[k]? =some true
 cl: ∀k:Nat,S'[k]? =some true->S[k]? =some true∨ ∀m∈W k,S'[m]? =some true
theorem kz (W:Nat->List Nat) (i:Nat) (S:List Bool):Mrk W i [] S S:=⟨rfl,fun _ h=>h,fun _ h=>.inl h,by simp,fun _ h=>.inl h⟩
theorem Mrk.skip {W:Nat->List Nat} {i k:Nat} {ks:List Nat} {S S':List Bool} (h:Mrk W i ks S S') (hk:S'[k]? =some true):Mrk W i (ks++ [k]) S S':=
 ⟨h.len,h.mo,h.snd,fun m hm=>by
   rcases List.mem_append.1 hm with hm|hm
   ·exact h.all m hm
   ·rw [List.mem_singleton.1 hm];exact hk,h.cl⟩
theorem Mrk.step {W:Nat->List Nat} {i k:Nat} {ks:List Nat} {S S1 S2:List Bool} (h:Mrk W i ks S S1) (hk:k∈W i) (hl:k<S1.length) (h2:Mrk W k (W k) (S1.set k true) S2):Mrk W i (ks++ [k]) S S2:=by
 have hset: ∀m:Nat,(S1.set k true)[m]? =some true↔m=k∨S1[m]? =some true:=fun m=>by
  rw [anO];by_cases e:k=m
  ·subst e;simp [hl]
  ·rw [if_neg e];constructor
   ·exact .inr
   ·rintro (e2|e2)
    ·exact absurd e2.symm e
    ·exact e2
 have mo2: ∀m:Nat,S1[m]? =some true->S2[m]? =some true:=fun m hm=>h2.mo m ((hset m).2 (.inr hm));have hk2:S2[k]? =some true:=h2.mo k ((hset k).2 (.inl rfl));refine ⟨by rw [h2.len,apn,h.len],fun m hm=>mo2 m (h.mo m hm),fun m hm=>?_,fun m hm=>?_,fun m hm=>?_⟩
 ·rcases h2.snd m hm with e|e
  ·rcases (hset m).1 e with rfl|e
   ·exact .inr (.one hk)
   ·exact h.snd m e
  ·exact .inr (Rch.trans (.one hk) e)
 ·rcases List.mem_append.1 hm with hm|hm
  ·exact mo2 m (h.all m hm)
  ·rw [List.mem_singleton.1 hm];exact hk2
 ·rcases h2.cl m hm with e|e
  ·rcases (hset m).1 e with rfl|e
   ·exact .inr h2.all
   ·rcases h.cl m e with e2|e2
    ·exact .inl e2
    ·exact .inr fun q hq=>mo2 q (e2 q hq)
  ·exact .inr e
theorem Mrk.full {W:Nat->List Nat} {i n:Nat} {S':List Bool} (h:Mrk W i (W i) (aok n false) S'):S'=Ey W n i:=by
 have hf: ∀k:Nat,(aok n false)[k]? ≠some true:=fun k e=>by rw [ap0] at e;split at e<;>cases e
 have hin: ∀k,Rch W i k->S'[k]? =some true:=by
  intro k hk;induction hk with
  |one h1=>exact h.all _ h1
  |more _ h1 ih=>exact (h.cl _ ih).resolve_left (hf _) _ h1
 have hl:S'.length=n:=by rw [h.len];simp
 apply anC;intro k;by_cases hk:k<n
 ·obtain ⟨b,e,hb⟩:=Bf (W:=W) (i:=i) hk;rw [e];obtain ⟨c,hc⟩:=nT S' (k:=k) (by omega);rw [hc];congr 1;cases c<;>cases b
  ·rfl
  ·have:=hin k (hb.1 rfl);rw [hc] at this;cases this
  ·have:=(h.snd k hc).resolve_left (hf k);have:=hb.2 this;cases this
  ·rfl
 ·rw [anl (by omega),anl (by rw [OX];omega)]
def opn (S:List Bool):Nat:=S.count false
theorem TU {S:List Bool} {k:Nat} (h:S[k]? =some false):opn (S.set k true)+1=opn S:=by
 unfold opn;obtain ⟨hl,e⟩:=List.getElem?_eq_some_iff.1 h;have h1:=ap9 (a:=true) (b:=false) hl;have h2:0<S.count false:=List.count_pos_iff.2 (aop h);rw [h1,e];simp;omega
theorem Mrk.opn {W:Nat->List Nat} {i:Nat} {ks:List Nat} {S S':List Bool} (h:Mrk W i ks S S'):opn S'<=opn S:=by
 unfold Go.Proofs.YtfbnfhhmiiahnaaGreatDoor.opn;have key: ∀(S S':List Bool),S'.length=S.length->(∀k:Nat,S[k]? =some true->S'[k]? =some true)->S'.count false<=S.count false:=by
  intro S;induction S with
  |nil=>intro S' h1 _;rw [List.eq_nil_of_length_eq_zero h1];simp
  |cons b r ih=>
   intro S' h1 h2;cases S' with
   |nil=>simp at h1
   |cons c r'=>
    have:=ih r' (by simpa using h1) (fun k hk=>by have:=h2 (k+1) (by simpa using hk);simpa using this);rw [apY,apY];cases b<;>cases c<;>simp<;>try omega
    have:=h2 0 rfl;simp at this
 exact key S S' h.len h.mo
structure Rc (W0:World) (bg b1 b2 b3:Nat) (sv:Value) (W:World):Prop where
 n:New W0 W
 v1:Bk W b1 140 [pT bg]
 v2:Bk W b2 44 [sv]
 v3:Bk W b3 117 [.func (.func 99) #[] #[pT b1,pT b2,pT b3]]
theorem Rc.chg {W0 W W':World} {bg b1 b2 b3:Nat} {sv:Value} {S:List Bool} {Pb:Nat->Prop} (h:Rc W0 bg b1 b2 b3 sv W) (own:nP (Wk.one vbo) 4 1 Pb NoB W sv S) (hlo: ∀k,sv.ownBlock=some k->W0.heap.size<=k) (c:Chg (fun k=>sv.ownBlock=some k) W W'):Rc W0 bg b1 b2 b3 sv W':=
 ⟨(Chg.trans h.n.any c fun k _ e=>e).toNew fun k hk e=>by have:=hlo k e;omega,h.v1.chg c fun e=>own.oM h.v1 rfl e rfl,h.v2.chg c fun e=>own.oM h.v2 rfl e rfl,h.v3.chg c fun e=>own.oM h.v3 rfl e rfl⟩
theorem OY {lo bg hm b6 b1 b2 b3:Nat} {t:List Nd} {m:List (Nat×Nat)} {es:List Ed} {bs:List wC} {gs:List Bool} {ps:List Nm} {lv ev wv gv pv sv:Value} {W0:World} {Wn:Nat->List Nat}
 (g0:GrA lo bg hm b6 t m es bs gs ps lv ev wv gv pv W0) (hW:bs.map (·.2)=(ab8 t.length).map Wn) (hIn: ∀i,i<t.length-> ∀k∈Wn i,k<t.length) (hlo: ∀k,sv.ownBlock=some k->W0.heap.size<=k):
 ∀(N:Nat) (w:World) (S:List Bool) (i:Nat),opn S<=N->i<t.length->S.length=t.length->Rc W0 bg b1 b2 b3 sv w->nP (Wk.one vbo) 4 1 (fun b=>W0.heap.size<=b) NoB w sv S->
  Calls prog 99 #[vi i,pT b1,pT b2,pT b3] w (Ret fun _ w'=> ∃S',Mrk Wn i (Wn i) S S'/\nP (Wk.one vbo) 4 1 (fun b=>W0.heap.size<=b) NoB w' sv S'/\Chg (fun k=>sv.ownBlock=some k) w w'):=by
 intro N;induction N using aoI with
 |ind N IH=>
  intro w S i hN hi hS rc own;have hb2:bs.length=t.length:=by have:=congrArg apq hW;simpa using this
  obtain ⟨⟨xv,xl⟩,hx⟩:=nT bs (k:=i) (by omega);have hxl:xl=Wn i:=by have h1:=congrArg (fun l=>l[i]?) hW;simp only [an3,hx,aoT hi,am6,Option.some.injEq] at h1;exact h1
  subst hxl;have hxo:=g0.wa.el _ (aop hx);dsimp only at hxo;obtain ⟨xa,xc,rfl,adC,abj⟩:=hxo.form;simp only [maxLen] at abj;obtain ⟨wg,wc,hwv,hwl,adz,hob⟩:=g0.wa.row.blk (by intro e;rw [e] at hb2;simp at hb2;omega);subst hwv;have g:=g0.new rc.n;refine nM func99 rfl ntmps99 rfl ?_;refine qq4 ?_;refine ah (u:=pT bg) rfl (rc.v1.cell (o:=0) rfl) ?_;refine qq2 ?_;refine ah (u:=.slice (some ⟨wg,0,none⟩) bs.length wc) rfl (g.b.cell (o:=3) rfl) ?_;(repeat' (refine aa1 ?_));refine dB rfl rfl (by omega) (by omega) ?_;have hrow:w.cell? ⟨wg,0+(i:Int).toNat*1,none⟩=some (.slice xa (Wn i).length xc):=by have:=(g.wa.row.at rfl rfl hx).get 0 rfl;simpa using this
  refine ah (u:=.slice xa (Wn i).length xc) rfl hrow ?_;refine qq4 ?_;refine aA (σ:=Nat×List Bool) (fun q=>[(1,pT b1),(2,pT b2),(3,pT b3),(13,.slice xa (Wn i).length xc),(14,vi (Wn i).length),(15,vi q.1)]) (fun q W=>q.1<=(Wn i).length/\Mrk Wn i ((Wn i).take q.1) S q.2/\nP (Wk.one vbo) 4 1 (fun b=>W0.heap.size<=b) NoB W sv q.2/\Rc W0 bg b1 b2 b3 sv W/\Chg (fun k=>sv.ownBlock=some k) w W) (fun q=>(Wn i).length-q.1) (0,S) (sl rfl) ⟨anq _,kz _ _ _,own,rc,ay _ _⟩ ?_;rintro ⟨j,S1⟩ G W ⟨hj,hM,Ar,rc1,c1⟩;dsimp only at hj hM Ar rc1 c1;simp only [pq];have hl1:S1.length=t.length:=by rw [hM.len];exact hS
  obtain ⟨sg,scp,hsv,hsl,hsl2,amk⟩:=Ar.blk (by intro e;rw [e] at hl1;simp at hl1;omega);(repeat' (first|refine qq4 ?_|refine aa2 (fun _=>?_) (fun _=>?_)))
  ·obtain ⟨k,hk⟩:=nT (Wn i) (k:=j) (by omega);have hkm:=aop hk;have hkl:=hIn i hi k hkm;have hxW:=(hxo.new (nO _) rc1.n).rd qw.mo;refine aZ hxW rfl rfl (by omega) hk fun b o hcell=>?_;refine ah (u:=vi k) rfl hcell ?_;refine qq4 ?_;refine ah (u:=sv) rfl (rc1.v2.cell (o:=0) rfl) ?_;(repeat' (refine aa1 ?_));obtain ⟨mb,hmb⟩:=nT S1 (k:=k) (by omega);refine aZ (Ar.rd Fj.mo) rfl rfl (by omega) hmb fun b o hcell=>?_;refine ah (u:=.bool mb) rfl hcell ?_;cases mb
   ·refine qq5 ?_;refine ah (u:=sv) rfl (rc1.v2.cell (o:=0) rfl) ?_;(repeat' (refine aa1 ?_));rw [hl1] at hsv;refine dB (b:=sg) (off:=0) (l:=t.length) (cap:=scp) hsv rfl (by omega) (by omega) ?_;refine dS (f:=vbo) (q:=true) (j:=k) (cap:=scp) Ar (by rw [hl1];exact hsv) (by omega) (by show Value.pointer (some ⟨sg,0+(k:Int).toNat*1,none⟩)=_;simp) rfl rfl rfl fun w2 o2 c2=>?_;have rc2:=rc1.chg Ar hlo c2;refine qq4 ?_;refine ah (u:=.func (.func 99) #[] #[pT b1,pT b2,pT b3]) rfl (rc2.v3.cell (o:=0) rfl) ?_;(repeat' (refine aa1 ?_));have hop:=TU hmb;have hop1:=hM.opn;refine bP (dst:=some 29) rfl (IH (opn (S1.set k true)) (by omega) w2 (S1.set k true) k (aap _) hkl (by rw [apn];exact hl1) rc2 o2) rfl ?_;rintro u w3 ⟨S3,hM3,o3,c3⟩;simp only [wI];have rc3:=rc2.chg o2 hlo c3;refine qq6 ?_;refine ax (j+1,S3) (sl rfl) ⟨by dsimp only;omega,?_,o3,rc3,Chg.trans (Chg.trans c1 c2 i3) c3 i3⟩ (by dsimp only;omega);dsimp only;rw [take_snoc hk];exact hM.step hkm (by omega) hM3
   ·refine qq2 ?_;refine ax (j+1,S1) (sl rfl) ⟨by dsimp only;omega,?_,Ar,rc1,c1⟩ (by dsimp only;omega);dsimp only;rw [take_snoc hk];exact hM.skip hmb
  ·obtain rfl:j=(Wn i).length:=by omega
   rw [aon] at hM;exact cO rfl ⟨_,rfl,S1,hM,Ar,c1⟩
section
variable {lo bg hm b6:Nat} {t:List Nd} {m:List (Nat×Nat)} {es:List Ed} {bs:List wC} {gs:List Bool} {ps:List Nm} {lv ev wv gv pv:Value} {W:World} {Wn:Nat->List Nat}
theorem IW {i:Nat} (g:GrA lo bg hm b6 t m es bs gs ps lv ev wv gv pv W) (hok:og t=true) (hW:bs.map (·.2)=(ab8 t.length).map Wn) (hIn: ∀i,i<t.length-> ∀k∈Wn i,k<t.length) (hi:i<t.length):
 Calls prog 75 #[pT bg,vi i] W (Ret fun r w'=>nP (Wk.one vbo) 4 1 (fun b=>W.heap.size<=b) NoB w' r (Ey Wn t.length i)/\New W w'):=by
 have hlen:=pF hok;obtain ⟨la,lc,rfl,_,_⟩:=g.tr.form;refine nM func75 rfl ntmps75 rfl ?_;refine qq4 ?_;refine Wl.box rfl fun w1 b1 n1 s1=>?_;replace b1:Bk w1 W.heap.size 140 [pT bg]:=b1;refine qq4 ?_;refine ah (u:=pT bg) rfl (b1.cell (o:=0) rfl) ?_;refine qq2 ?_;refine ah (u:=.slice la t.length lc) rfl ((g.new n1).b.cell (o:=0) rfl) ?_;(repeat' (refine bU rfl ?_));refine eY (f:=vbo) (y0:=false) (Pe:=NoB) rfl rfl rfl (by omega) (by omega) (by omega) fun sv w2 o2 n2=>?_;rw [ant] at o2;obtain ⟨sa,sc,rfl,_,_⟩:=o2.form;refine Wl.alloc fun w3 b3 n3 s3=>?_;have hz1:=n1.size;have hz2:=n2.size;refine aJ (u:=.slice sa (aok t.length false).length sc) b3 rfl (show (0:Nat)<1 by omega) (by rw [ap1];rfl) rfl fun w4 b4 c4=>?_;replace b4:Bk w4 w2.heap.size 44 [.slice sa (aok t.length false).length sc]:=b4;have n24:New w2 w4:=(Chg.trans n3.any c4 i3).tN
 have hz4:=n24.size;refine qq2 ?_;refine Wl.alloc fun w5 b5 n5 s5=>?_;replace b5:Bk w5 w4.heap.size 117 [.nilFunc]:=b5;refine qq2 ?_;refine dn (f1:=[]) (c1:=[pT W.heap.size,pT w2.heap.size,pT w4.heap.size]) rfl rfl ?_;refine aJ (u:=.func (.func 99) #[] #[pT W.heap.size,pT w2.heap.size,pT w4.heap.size]) b5 rfl (show (0:Nat)<1 by omega) rfl rfl fun w6 b6' c6=>?_;replace b6':Bk w6 w4.heap.size 117 [.func (.func 99) #[] #[pT W.heap.size,pT w2.heap.size,pT w4.heap.size]]:=b6';have n46:New w4 w6:=(Chg.trans n5.any c6 i3).tN
 have n26:=New.trans n24 n46;have rc:Rc W bg W.heap.size w2.heap.size w4.heap.size (.slice sa (aok t.length false).length sc) w6:=⟨New.trans (New.trans n1 n2) n26,b1.chg (New.trans n2 n26) id,b4.chg n46 id,b6'⟩;have o6:=o2.new (nO _) n26;refine qq2 ?_;refine ah (u:=.func (.func 99) #[] #[pT W.heap.size,pT w2.heap.size,pT w4.heap.size]) rfl (rc.v3.cell (o:=0) rfl) ?_;(repeat' (refine aa1 ?_));refine bP (dst:=some 16) rfl (OY (Wn:=Wn) g hW hIn (fun k hk=>by have h9:w1.heap.size<=k:=(o6.lt hk).1;omega) _ w6 (aok t.length false) i (aap _) hi (by simp) rc (o6.mono (nV _) (fun b _ e=>by have h9:w1.heap.size<=b:=e;omega) i3)) rfl ?_;rintro u w7 ⟨S',hM,o7,c7⟩;simp only [wI];have rc7:=rc.chg o6 (fun k hk=>by have h9:w1.heap.size<=k:=(o6.lt hk).1;omega) c7;refine qq2 ?_;refine ah (u:=.slice sa (aok t.length false).length sc) rfl (rc7.v2.cell (o:=0) rfl) ?_;refine qq3 ?_;have:=hM.full;subst this;exact ak rfl rfl ⟨_,rfl,o7,rc7.n⟩
abbrev Q9:=Value×List Bool
abbrev brC:Q9->List Value:=fun x=>[x.1]
abbrev BLs (lo:Nat) (w:World) (v:Value) (rs:List Q9):Prop:=LLs brC (·.1) (·.2) vbo 44 4 1 (fun b=>lo<=b) w v rs
theorem XF (g:GrA lo bg hm b6 t m es bs gs ps lv ev wv gv pv W) (hok:og t=true) (hW:bs.map (·.2)=(ab8 t.length).map Wn) (hIn: ∀i,i<t.length-> ∀k∈Wn i,k<t.length):
 Calls prog 117 #[pT bg] W (Ret fun r w'=>(∃rs,BLs W.heap.size w' r rs/\rs.map (·.2)=(ab8 t.length).map (Ey Wn t.length))/\New W w'):=by
 have hlen:=pF hok;have hpos:=uJ hok;obtain ⟨la,lc,rfl,_,_⟩:=g.tr.form;refine nM func117 rfl ntmps117 rfl ?_;refine qq2 ?_;refine ah (u:=.slice la t.length lc) rfl (g.b.cell (o:=0) rfl) ?_;(repeat' (refine bU rfl ?_));refine eY (f:=(·.1:Q9->Value)) (y0:=(.slice none 0 0,[])) (Pe:=NoB) rfl rfl rfl (by omega) (by omega) (by omega) fun sv w1 o1 n1=>?_;rw [ant] at o1;obtain ⟨sg,sc,hsv,_,_,hob⟩:=o1.blk (by intro e;rw [ap3] at e;omega);rw [ap1] at hsv;subst hsv;have L0:BLs W.heap.size w1 (.slice (some ⟨sg,0,none⟩) t.length sc) (aok t.length (.slice none 0 0,[])):=⟨o1,fun b hb=>(by rw [(List.mem_replicate.1 hb).2];exact aI),fun b hb=>(by rw [(List.mem_replicate.1 hb).2];intro k e;cases e),fun i j b c _ hb _=>(by rw [(List.mem_replicate.1 (aop hb)).2];intro k e;cases e)⟩;have e0:(aok t.length ((.slice none 0 0,[]):Q9)).map (·.2)=(ab8 t.length).map fun j=>if j<0 then Ey Wn t.length j else []:=by
  rw [aqa];apply anC;intro j;rw [ap0,an3];by_cases hj:j<t.length
  ·rw [if_pos hj,aoT hj];rfl
  ·rw [if_neg hj,anl (by simpa using hj)];rfl
 refine qq2 ?_;refine aA (σ:=Nat×List Q9) (fun q=>[(0,pT bg),(3,.slice (some ⟨sg,0,none⟩) t.length sc),(12,vi t.length),(13,vi q.1)]) (fun q w'=>q.1<=t.length/\BLs W.heap.size w' (.slice (some ⟨sg,0,none⟩) t.length sc) q.2/\q.2.map (·.2)=((ab8 t.length).map fun j=>if j<q.1 then Ey Wn t.length j else [])/\New W w') (fun q=>t.length-q.1) (0,aok t.length (.slice none 0 0,[])) (sl rfl) ⟨anq _,L0,e0,n1⟩ ?_;rintro ⟨i,rs⟩ G w2 ⟨hi,L2,e2,n2⟩;dsimp only at hi L2 e2 n2;simp only [pq];have hrl:rs.length=t.length:=by have:=congrArg apq e2;simpa using this
 (repeat' (first|refine qq4 ?_|refine aa2 (fun _=>?_) (fun _=>?_)))
 ·have hil:i<t.length:=by omega
  refine aj (IW (g.new n2) hok hW hIn hil) rfl ?_;rintro rv w3 ⟨o3,n3⟩;obtain ⟨ra,rc,hrv,_,_⟩:=o3.form;obtain ⟨x,hx⟩:=nT rs (k:=i) (by omega);refine dB rfl rfl (by omega) (by omega) ?_;have hz2:=n2.size;refine dS (f:=(·.1:Q9->Value)) (q:=(rv,Ey Wn t.length i)) (j:=i) (cap:=sc) (L2.row.new (nK _) n3) (by rw [hrl]) (by omega) (by show Value.pointer (some ⟨sg,0+(i:Int).toNat*1,none⟩)=_;simp) rfl rfl (by rw [hrv];rfl) fun w4 o4 c4=>?_;have L4:=L2.set hx (b':=(rv,Ey Wn t.length i)) (w1:=w3) (o3.mono (nV _) (fun b _ e=>by have h9:w2.heap.size<=b:=e;omega) i3) n3.any (.inr fun k hk=>(o3.lt hk).1) o4 c4;have hsg:W.heap.size<=sg:=(L2.row.lt rfl).1;refine qq6 ?_;refine ax (i+1,rs.set i (rv,Ey Wn t.length i)) (sl rfl) ⟨by dsimp only;omega,L4,?_,Chg.trans (New.trans n2 n3) c4 fun k hk e=>by have h9:W.heap.size<=k:=(L2.row.lt e).1;omega⟩ (by dsimp only;omega);dsimp only;rw [apW,e2,BM hil];apply aoA;intro j _;by_cases e1:j=i
  ·rw [if_pos e1,if_pos (by omega),e1]
  ·rw [if_neg e1];by_cases e3:j<i
   ·rw [if_pos e3,if_pos (by omega)]
   ·rw [if_neg e3,if_neg (by omega)]
 ·obtain rfl:i=t.length:=by omega
  refine ak rfl rfl ⟨_,rfl,⟨rs,L2,?_⟩,n2⟩;rw [e2];apply aoA;intro j hj;rw [if_pos (by simpa using hj)]
theorem XG (pt:Nat->Nm) (a b:Nat):Ec (pt a) (pt b)=qY (fun _=>0) pt a b:=by
 unfold Ec qY;rw [if_neg (aqc 0),if_neg (aqc 0)]
theorem L6 {b2 a c:Nat} {w:World} (g:GrA lo bg hm b6 t m es bs gs (pK t) lv ev wv gv pv w) (h2:Bk w b2 140 [pT bg]) (ha:a<t.length) (hc:c<t.length) (hlen:t.length<=512):
 Calls prog 163 #[vi a,vi c,pT b2] w (Ret fun r w'=>r=vi (qY (fun _=>0) (oI t) a c)/\Grw w w'):=by
 have hpl:=vP t;obtain ⟨pa,pc,rfl,_,_⟩:=g.pa.form;have hrd:=g.pa.rd rP.mo;refine nM func163 rfl ntmps163 rfl ?_;refine qq4 ?_;refine gY [0,1,2,3,4,5,6,7,8,9,10,11,12,13] [14,15] rfl (by kernel_rfl) (by simp only [pick,apl,apm];rfl) (by simp only [pick,apl,apm];rfl) (Grw w) (Grw.drew w) ?_;refine au (u:=pT bg) rfl (fun w' hw=>(h2.chg hw.new id).cell (o:=0) rfl) ?_;(repeat' (first|refine dA rfl ?_|refine aa6 ?_));refine au (u:=.slice pa (pK t).length pc) rfl (fun w' hw=>(g.b.chg hw.new id).cell (o:=5) rfl) ?_;(repeat' (refine aa3 ?_));refine dD (y:=oI t a) hrd (fun w' hw=>hw.new.keep) rfl rfl (by omega) (sQ ha) fun bb off hcell=>?_;refine au (u:=vs (oI t a)) rfl hcell ?_;refine au (u:=pT bg) rfl (fun w' hw=>(h2.chg hw.new id).cell (o:=0) rfl) ?_;(repeat' (first|refine dA rfl ?_|refine aa6 ?_));refine au (u:=.slice pa (pK t).length pc) rfl (fun w' hw=>(g.b.chg hw.new id).cell (o:=5) rfl) ?_;(repeat' (refine aa3 ?_));refine dD (y:=oI t c) hrd (fun w' hw=>hw.new.keep) rfl rfl (by omega) (sQ hc) fun bb off hcell=>?_;refine au (u:=vs (oI t c)) rfl hcell ?_;(repeat' (refine af ?_));refine dI ?_;refine aj (wS (a:=oI t a) (b:=oI t c)) rfl ?_;rintro _ _ ⟨rfl,rfl⟩;refine ai ⟨rfl,Grw.drew w,?_⟩;refine Wch.last ?_;refine qq3 ?_;exact ak rfl rfl ⟨_,rfl,by rw [<-XG];rfl,Grw.drew w⟩
theorem OZ {Ps:Nat->Prop} {v:Value} {some_:List Nat} (g:GrA lo bg hm b6 t m es bs gs (pK t) lv ev wv gv pv W) (hok:og t=true) (hs:RdS (Wk.one viN) 1 Ps W v some_) (hin: ∀k∈some_,k<t.length) (hsl:some_.length<=100000):
 Calls prog 142 #[pT bg,v] W (Ret fun r w'=>nP (Wk.one viN) 3 1 (fun b=>W.heap.size<=b) NoB w' r (some_.mergeSort fun x y=> !decide (qY (fun _=>0) (oI t) y x<0))/\New W w'):=by
 have hlen:=pF hok;refine nM func142 rfl ntmps142 rfl ?_;refine qq4 ?_;refine Wl.box rfl fun w1 b1 n1 s1=>?_;replace b1:Bk w1 W.heap.size 140 [pT bg]:=b1;refine qq4 ?_;refine aj (Ov (hs.keep (nZ _) n1.keep) (by omega)) rfl ?_;rintro cv w2 ⟨o2,n2⟩;have n02:=New.trans n1 n2;have b2:=b1.chg n2 id;have hz1:=n1.size;refine qq4 ?_;refine dn (f1:=[]) (c1:=[pT W.heap.size]) rfl rfl ?_;refine aj (Df (g:=163) (cb:= #[pT W.heap.size]) (lv:=fun _=>0) (pt:=oI t) o2 (fun a ha b hb e=>Fb hok (hin a ha) (hin b hb) e) (by omega) fun w' hw a ha b hb=>?_) rfl ?_
 ·have nW:New W w':=(Chg.trans n02.any hw fun k _ e=>e).toNew fun k hk e=>by have h9:w1.heap.size<=k:=(o2.lt e).1;omega
  refine (L6 (g.new nW) (b2.chg hw fun e=>o2.oM b2 rfl e rfl) (hin a ha) (hin b hb) hlen).mono ?_;rintro _ w'' ⟨_,rfl,rfl,hg⟩;exact ⟨rfl,hg⟩
 rintro _ w3 ⟨o3,c3⟩;refine qq5 ?_;exact ak rfl rfl ⟨_,rfl,o3.mono (nV _) (fun b _ e=>by have h9:w1.heap.size<=b:=e;omega) i3,(Chg.trans n02.any c3 fun k _ e=>e).toNew fun k hk e=>by have h9:w1.heap.size<=k:=(o2.lt e).1;omega⟩
theorem Rf (g:GrA lo bg hm b6 t m es bs gs (pK t) lv ev wv gv pv W) (hok:og t=true):
 Calls prog 118 #[pT bg] W (Ret fun r w'=>nP (Wk.one viN) 3 1 (fun b=>W.heap.size<=b) NoB w' r (pI t)/\New W w'):=by
 have hlen:=pF hok;have hpos:=uJ hok;obtain ⟨la,lc,rfl,_,_⟩:=g.tr.form;refine nM func118 rfl ntmps118 rfl ?_;refine qq2 ?_;refine ah (u:=.slice la t.length lc) rfl (g.b.cell (o:=0) rfl) ?_;(repeat' (refine bU rfl ?_));refine eY (f:=viN) (y0:=0) (Pe:=NoB) rfl rfl rfl (by omega) (by omega) (by omega) fun sv w1 o1 n1=>?_;rw [ant] at o1;obtain ⟨sg,sc,hsv,hsg,_,hob⟩:=o1.blk (by intro e;rw [ap3] at e;omega);rw [ap1] at hsv;subst hsv;refine qq2 ?_;refine aA (σ:=Nat) (fun i=>[(0,pT bg),(3,.slice (some ⟨sg,0,none⟩) t.length sc),(12,vi t.length),(13,vi i)]) (fun i w'=>i<=t.length/\nP (Wk.one viN) 3 1 (fun b=>W.heap.size<=b) NoB w' (.slice (some ⟨sg,0,none⟩) t.length sc) (ab8 i++aok (t.length-i) 0)/\New W w') (fun i=>t.length-i) 0 (sl rfl) ⟨anq _,by simpa using o1,n1⟩ ?_;rintro i G w2 ⟨hi,o2,n2⟩;simp only [pq];have hll:(ab8 i++aok (t.length-i) 0).length=t.length:=by simp;omega
 (repeat' (first|refine qq4 ?_|refine aa2 (fun _=>?_) (fun _=>?_)))
 ·refine dB rfl rfl (by omega) (by omega) ?_;refine dS (f:=viN) (q:=i) (j:=i) (cap:=sc) o2 (by rw [hll]) (by omega) (by show Value.pointer (some ⟨sg,0+(i:Int).toNat*1,none⟩)=_;simp) rfl rfl rfl fun w3 o3 c3=>?_;refine qq6 ?_;refine ax (i+1) (sl rfl) ⟨by omega,?_,Chg.trans n2 c3 fun k hk e=>by have h9:W.heap.size<=k:=(o2.lt e).1;omega⟩ (by omega);have hset:(ab8 i++aok (t.length-i) 0).set i i=ab8 (i+1)++aok (t.length-(i+1)) 0:=by rw [show t.length-i=(t.length-(i+1))+1 by omega,List.replicate_succ,List.set_append_right _ _ (by simp),apQ];simp
  rw [hset] at o3;exact o3
 ·obtain rfl:i=t.length:=by omega
  rw [Nat.sub_self,List.replicate_zero,aoS] at o2;refine aj (OZ (g.new n2) hok (o2.rd qw.mo) (fun k hk=>by simpa using hk) (by simp;omega)) rfl ?_;rintro rv w3 ⟨o3,n3⟩;have hz2:=n2.size;refine qq3 ?_;exact ak rfl rfl ⟨_,rfl,o3.mono (nV _) (fun b _ e=>by have h9:w2.heap.size<=b:=e;omega) i3,New.trans n2 n3⟩
end
theorem IX {Pb:Nat->Prop} {w:World} {v:Value} {t:List Nd} (h:RdS rNd 3 Pb w v t) (hok:og t=true):
 Calls prog 26 #[v] w (Ret fun r w'=>(∃q,r=.tuple #[q,vi 0]/\RdS rEd 6 (fun b=>w.heap.size<=b) w' q (nX t))/\New w w'):=by
 refine nM func26 rfl ntmps26 rfl ?_;refine qq4 ?_;refine aj (zY h hok) rfl ?_;rintro _ w1 ⟨⟨bg,hm,ev,wv,gv,pv,gs,bs,rfl,g,hb,_⟩,n1⟩;(repeat' (first|refine qq2 ?_|(refine aa4 (fun _=>?_) (fun _=>?_)<;>(first|(exfalso;omega)|skip))));refine ah (u:=ev) rfl (g.b.cell (o:=2) rfl) ?_;refine qq3 ?_;exact aB rfl rfl rfl ⟨_,rfl,⟨ev,rfl,(g.ed.rd qf.mo).mono qI fun b _ e=>e.elim (fun e=>e.1) fun e=>e.1⟩,n1⟩
theorem Wk.LLs.at {Pb:Nat->Prop} {w:World} {g l c i n:Nat} {rs:List Q9} {Wn:Nat->List Nat} (L:LLs brC (·.1) (·.2) vbo 44 4 1 Pb w (.slice (some ⟨g,0,none⟩) l c) rs) (e:rs.map (·.2)=(ab8 n).map (Ey Wn n)) (hi:i<n):
 ∃a c',w.cell? ⟨g,0+(i:Int).toNat*1,none⟩=some (.slice a n c')/\RdS (Wk.one vbo) 1 Pb w (.slice a n c') (Ey Wn n i):=by
 have hl:rs.length=n:=by have:=congrArg apq e;simpa using this
 obtain ⟨⟨xv,xl⟩,hx⟩:=nT rs (k:=i) (by omega);have h1:=congrArg (fun l=>l[i]?) e;simp only [an3,hx,aoT hi,am6,Option.some.injEq] at h1;subst h1;have ho:=L.el _ (aop hx);dsimp only at ho;obtain ⟨a,c',rfl,_,_⟩:=ho.form;rw [OX] at*;refine ⟨a,c',?_,?_⟩
 ·have:=(L.row.at rfl rfl hx).get 0 rfl;simpa using this
 ·exact (ho.rd Fj.mo).mono Fj.mo fun b _ e=>e.resolve_right id
theorem Du {t:List Nd} {k:Nat}:k∈pI t↔k<t.length:=by
 unfold pI;rw [aqd,ano]
theorem Rh (t:List Nd):(pI t).length=t.length:=by unfold pI;rw [apu,apP]
theorem KA {t:List Nd} (hok:og t=true): ∀i,i<t.length-> ∀k∈pR t i,k<t.length:=by
 intro i hi k hk;rw [Kz] at hk;rcases List.mem_append.1 hk with hk|hk
 ·unfold BX at hk;split at hk
  ·simp at hk;subst hk;have:=uK hok (i:=i) (by omega) hi;omega
  ·simp at hk
 ·obtain ⟨e,he,hd⟩:=List.mem_filterMap.1 hk;unfold wO at hd;split at hd
  ·exact (ug e he).2 k hd
  ·cases hd
open Classical in
noncomputable def qy (W:Nat->List Nat) (i k:Nat):Bool:=decide (Rch W i k/\Rch W k i)
open Classical in
theorem O0 {W:Nat->List Nat} {i k:Nat}:qy W i k=true↔Rch W i k/\Rch W k i:=by unfold qy;exact decide_eq_true_iff
open Classical in
theorem Ez (W:Nat->List Nat) (order seen:List Nat) (i:Nat) (r:List Nat):sK W order seen (i::r)=if i∈seen∨ ¬Rch W i i then sK W order seen r else order.filter (qy W i)::sK W order (seen++order.filter (qy W i)) r:=by
 rw [sK];rfl
def Fv (seen:List Nat) (D:List Bool) (n:Nat):Prop:=D.length=n/\ ∀k,k<n->D[k]? =some (seen.contains k)
theorem Fv.set {seen:List Nat} {D:List Bool} {n k:Nat} (h:Fv seen D n) (hk:k<n):Fv (seen++ [k]) (D.set k true) n:=by
 refine ⟨by rw [apn];exact h.1,fun j hj=>?_⟩;have hl:=h.1;rw [anO];by_cases e:k=j
 ·subst e;rw [if_pos rfl,if_pos (by omega)];simp
 ·rw [if_neg e,h.2 j hj];congr 1;simp;intro e2;exact absurd e2.symm e
def rW:Rel wC:=fun _ _ x cs=>cs=[x.1]/\x.1.oneCell'=true
theorem aak:qH rW 1:=⟨fun _ _ _ _ _ _ h=>h,fun _ _ _ _ _ _ h=>h,fun _ _ x cs ⟨e,h⟩ _ c hc=>by subst e;simp at hc;subst hc;exact h⟩
theorem Wk.LLs.aiv {e te:TypeId} {Pb:Nat->Prop} {w:World} {v:Value} {rs:List wC} (L:LLs wrC (·.1) (·.2) viN te e 1 Pb w v rs):nP rW te 1 Pb NoB w v rs:=by
 obtain ⟨cs,hoc,he⟩:=L.row;refine ⟨cs,hoc,fun i x hx=>⟨he i x hx,?_⟩⟩;obtain ⟨a,c,e,_⟩:=(L.el x (aop hx)).form;rw [show x.1=_ from e];rfl
theorem Wk.nP.aiw {te:TypeId} {Pb:Nat->Prop} {w:World} {v:Value} {rs:List wC} (h:nP rW te 1 Pb NoB w v rs):nP (flat wrC) te 1 Pb NoB w v rs:=by
 obtain ⟨cs,hoc,he⟩:=h;exact ⟨cs,hoc,fun i x hx=>(he i x hx).1⟩
abbrev RgL (lo:Nat) (w:World) (v:Value) (rs:List wC):Prop:=LLs wrC (·.1) (·.2) viN 65 3 1 (fun b=>lo<=b) w v rs
theorem Ri {Pb:Nat->Prop} {w:World} {v:Value} {t:List Nd} (h:RdS rNd 3 Pb w v t) (hok:og t=true):
 Calls prog 87 #[v] w (Ret fun r w'=>(∃q rs,r=.tuple #[q,vi 0]/\RgL w.heap.size w' q rs/\rs.map (·.2)=tC t)/\New w w'):=by
 have hlen:=pF hok;have hpos:=uJ hok;have hIn:=KA hok;obtain ⟨a,cap,rfl,_,_⟩:=h.form;refine nM func87 rfl ntmps87 rfl ?_;refine qq4 ?_;refine aj (zY h hok) rfl ?_;rintro _ w1 ⟨⟨bg,hm,ev,wv,gv,pv,gs,bs,rfl,g,hbs,_⟩,n1⟩;(repeat' (first|refine qq2 ?_|(refine aa4 (fun _=>?_) (fun _=>?_)<;>(first|(exfalso;omega)|skip))));refine aj (XF g hok hbs hIn) rfl ?_;rintro av w2 ⟨⟨rs,LR,hrs⟩,n2⟩;have hrl:rs.length=t.length:=by have:=congrArg apq hrs;simpa using this
 obtain ⟨rg,rc,hav,_,hrg,aml⟩:=LR.row.blk (by intro e;rw [e] at hrl;simp at hrl;omega);rw [hrl] at hav;subst hav;refine qq4 ?_;refine eY (f:=vbo) (y0:=false) (Pe:=NoB) rfl rfl rfl (by omega) (by omega) (by omega) fun dv w3 o3 n3=>?_;rw [ant] at o3;obtain ⟨dg,dc,hdv,hdg,_,amm⟩:=o3.blk (by intro e;rw [ap3] at e;omega);rw [ap1] at hdv;subst hdv;have g3:=(g.new n2).new n3;refine qq4 ?_;refine aj (Rf g3 hok) rfl ?_;rintro ov w4 ⟨o4,n4⟩;have hel:=Rh t;obtain ⟨oa,oc,rfl,_,_⟩:=o4.form;have LR4:=((LR.mono (Pb':=fun b=>w1.heap.size<=b/\b<w2.heap.size) fun b hb e=>⟨e,hb⟩).new n3).new n4;have d4:=o3.new (nO _) n4;have n04:=New.trans (New.trans n1 n2) (New.trans n3 n4);have hz1:=n1.size;have hz2:=n2.size;have hz3:=n3.size;have hz4:=n4.size;have hdl:=(d4.lt rfl).2;have amn:w2.heap.size<=dg:=hdg;refine qq2 ?_;refine aA (σ:=Nat×List Nat×List Bool×Value×List wC) (fun q=>[(6,.slice (some ⟨rg,0,none⟩) t.length rc),(7,.slice (some ⟨dg,0,none⟩) t.length dc),(8,q.2.2.2.1),(9,.slice oa (pI t).length oc),(30,.slice oa (pI t).length oc),(31,vi (pI t).length),(32,vi q.1)]) (fun q W=>q.1<=(pI t).length/\tC t=q.2.2.2.2.map (·.2)++sK (pR t) (pI t) q.2.1 ((pI t).drop q.1)/\q.2.2.2.2.length<=q.1/\Fv q.2.1 q.2.2.1 t.length/\nP (Wk.one vbo) 4 1 (fun b=>w2.heap.size<=b) NoB W (.slice (some ⟨dg,0,none⟩) t.length dc) q.2.2.1/\RgL w4.heap.size W q.2.2.2.1 q.2.2.2.2/\Chg (fun k=>k=dg) w4 W) (fun q=>(pI t).length-q.1) (0,[],aok t.length false,.slice none 0 0,[]) (sl rfl) ⟨anq _,rfl,by simp,⟨by simp,fun k hk=>by rw [ap0,if_pos hk];rfl⟩,d4,iY,ay _ _⟩ ?_;rintro ⟨i,seen,D,vo,acc⟩ G W ⟨hi,hR,hal,hD,od,LA,cW⟩;dsimp only at hi hR hal hD od LA cW;simp only [pq];have nW:New w W:=(Chg.trans n04.any cW fun k _ e=>e).tN
 have hzW:=cW.size;have LRW:=LR4.chg cW fun k hk e=>by omega
 have oW:=o4.chg (nO _) cW fun k hk e=>by have h9:w3.heap.size<=k:=(o4.lt hk).1;omega
 have hDl:=hD.1;obtain ⟨va,vc,rfl,_,_⟩:=LA.row.form;(repeat' (first|refine qq4 ?_|refine aa2 (fun _=>?_) (fun _=>?_)))
 ·obtain ⟨x,hx⟩:=nT (pI t) (k:=i) (by omega);have hxl:=Du.1 (aop hx);rw [drop_cons hx,Ez] at hR;refine aZ (oW.rd qw.mo) rfl rfl (by omega) hx fun b o hcell=>?_;refine ah (u:=vi x) rfl hcell ?_;refine qq4 ?_;have hdx:=hD.2 x hxl;refine aZ (od.rd Fj.mo) rfl rfl (by omega) hdx fun b o hcell=>?_;refine ah (u:=.bool (seen.contains x)) rfl hcell ?_;obtain ⟨ra,rcc,hrow,hrd⟩:=LRW.at hrs hxl;obtain ⟨bxx,aix,hbi⟩:=Bf (W:=pR t) (i:=x) hxl;cases hsn:seen.contains x
  ·have aiy:x∉seen:=fun e=>by rw [List.contains_iff_mem.2 e] at hsn;cases hsn
   refine qq5 ?_;refine dB rfl rfl (by omega) (by omega) ?_;refine aO rfl rfl ?_;refine ah (u:=.slice ra t.length rcc) rfl hrow ?_;refine qq5 ?_;refine aZ hrd rfl rfl (by omega) aix fun b o hcell=>?_;refine aO rfl rfl ?_;refine ah (u:=.bool bxx) rfl hcell ?_;cases hbv:bxx
   ·rw [if_pos (.inr fun e=>by rw [hbv] at hbi;have:=hbi.2 e;cases this)] at hR;(repeat' (first|refine aa1 ?_|refine ai ?_|refine aO rfl rfl ?_|refine xO ?_|refine dw rfl ?_|refine aP ?_|refine aQ ?_|refine dV ?_|refine eG ?_|refine dJ ?_|refine bF rfl ?_|refine Wl.add rfl rfl (by omega) (by omega) ?_));exact ax (i+1,seen,D,_,acc) (sl rfl) ⟨by dsimp only;omega,hR,by dsimp only;omega,hD,od,LA,cW⟩ (by dsimp only;omega)
   ·rw [if_neg (fun e=>e.elim aiy fun e=>e (hbi.1 hbv))] at hR;refine qq2 ?_;refine aA (σ:=Nat×List Bool×Value) (fun q=>[(6,.slice (some ⟨rg,0,none⟩) t.length rc),(7,.slice (some ⟨dg,0,none⟩) t.length dc),(8,.slice va acc.length vc),(9,.slice oa (pI t).length oc),(11,vi x),(12,q.2.2),(30,.slice oa (pI t).length oc),(31,vi (pI t).length),(32,vi i),(50,.slice oa (pI t).length oc),(51,vi (pI t).length),(52,vi q.1)]) (fun q W'=>q.1<=(pI t).length/\Fv (seen++((pI t).take q.1).filter (qy (pR t) x)) q.2.1 t.length/\nP (Wk.one vbo) 4 1 (fun b=>w2.heap.size<=b) NoB W' (.slice (some ⟨dg,0,none⟩) t.length dc) q.2.1/\nP (Wk.one viN) 3 1 (fun b=>W.heap.size<=b) NoB W' q.2.2 (((pI t).take q.1).filter (qy (pR t) x))/\Chg (fun k=>k=dg) W W') (fun q=>(pI t).length-q.1) (0,D,.slice none 0 0) (sl rfl) ⟨anq _,by simpa using hD,od,aI,ay _ _⟩ ?_;rintro ⟨j,D2,rv⟩ G2 W2 ⟨hj,hD2,od2,or2,c2⟩;dsimp only at hj hD2 od2 or2 c2;simp only [pq];have XH:=hD2.1;have amo:=c2.size;have LR2:=LRW.chg c2 fun k hk e=>by omega
    have o2:=oW.chg (nO _) c2 fun k hk e=>by have h9:w3.heap.size<=k:=(o4.lt hk).1;omega
    obtain ⟨pa,pc,rfl,_,_⟩:=or2.form;have hfl:(((pI t).take j).filter (qy (pR t) x)).length<=512:=by
     have h1:=apO (qy (pR t) x) ((pI t).take j);have h2:((pI t).take j).length<=(pI t).length:=by rw [anD];omega
     omega
    (repeat' (first|refine qq4 ?_|refine aa2 (fun _=>?_) (fun _=>?_)))
    ·obtain ⟨y,hy⟩:=nT (pI t) (k:=j) (by omega);have hyl:=Du.1 (aop hy);have hstep:((pI t).take (j+1)).filter (qy (pR t) x)=((pI t).take j).filter (qy (pR t) x)++if qy (pR t) x y=true then [y] else []:=by rw [take_snoc hy,List.filter_append];congr 1;cases hr:qy (pR t) x y<;>simp [hr]
     refine aZ (o2.rd qw.mo) rfl rfl (by omega) hy fun b o hcell=>?_;refine ah (u:=vi y) rfl hcell ?_;refine qq4 ?_;obtain ⟨ra1,rc1,hrow1,O1⟩:=LR2.at hrs hxl;obtain ⟨b1,hb1,abk⟩:=Bf (W:=pR t) (i:=x) hyl;obtain ⟨ra2,rc2,hrow2,aiz⟩:=LR2.at hrs hyl;obtain ⟨b2,hb2,abl⟩:=Bf (W:=pR t) (i:=y) hxl;refine dB rfl rfl (by omega) (by omega) ?_;refine ah (u:=.slice ra1 t.length rc1) rfl hrow1 ?_;(repeat' (refine aa1 ?_));refine aZ O1 rfl rfl (by omega) hb1 fun b o hcell=>?_;refine ah (u:=.bool b1) rfl hcell ?_;have aal:qy (pR t) x y=false-> ∀(G':Fr),(j+1<=(pI t).length/\Fv (seen++((pI t).take (j+1)).filter (qy (pR t) x)) D2 t.length/\nP (Wk.one vbo) 4 1 (fun b=>w2.heap.size<=b) NoB W2 (.slice (some ⟨dg,0,none⟩) t.length dc) D2/\nP (Wk.one viN) 3 1 (fun b=>W.heap.size<=b) NoB W2 (.slice pa (((pI t).take j).filter (qy (pR t) x)).length pc) (((pI t).take (j+1)).filter (qy (pR t) x))/\Chg (fun k=>k=dg) W W2):=fun hr _=>by rw [hstep,hr,if_neg (by decide),aoS];exact ⟨by omega,hD2,od2,or2,c2⟩
     cases hv1:b1
     ·have hr:qy (pR t) x y=false:=by unfold qy;rw [decide_eq_false_iff_not];rintro ⟨q1,_⟩;rw [hv1] at abk;have:=abk.2 q1;cases this
      refine qq2 ?_;exact ax (j+1,D2,_) (sl rfl) (aal hr G2) (by dsimp only;omega)
     ·refine qq5 ?_;refine dB rfl rfl (by omega) (by omega) ?_;refine aO rfl rfl ?_;refine ah (u:=.slice ra2 t.length rc2) rfl hrow2 ?_;refine qq5 ?_;refine aZ aiz rfl rfl (by omega) hb2 fun b o hcell=>?_;refine aO rfl rfl ?_;refine ah (u:=.bool b2) rfl hcell ?_;cases hv2:b2
      ·have hr:qy (pR t) x y=false:=by unfold qy;rw [decide_eq_false_iff_not];rintro ⟨_,q1⟩;rw [hv2] at abl;have:=abl.2 q1;cases this
       refine qq2 ?_;exact ax (j+1,D2,_) (sl rfl) (aal hr G2) (by dsimp only;omega)
      ·have hr:qy (pR t) x y=true:=by exact O0.2 ⟨abk.1 hv1,abl.1 hv2⟩
       rw [hr,if_pos rfl] at hstep;refine qq3 ?_;refine cu (R:=Wk.one viN) (y:=y) qw or2 rfl rfl rfl rfl rfl (by omega) (by omega) (by simp only [maxLen];omega) (by omega) rfl rfl fun v3 w5 p o5 c5 lie=>?_;have od5:=od2.chg (nO _) c5 fun k hk e=>by have h8:W.heap.size<=k:=(or2.lt e).1;have h9:=(od.lt hk).2;omega
       refine qq6 ?_;refine dB rfl rfl (by omega) (by omega) ?_;refine dS (f:=vbo) (q:=true) (j:=y) (cap:=dc) od5 (by rw [XH]) (by omega) (by show Value.pointer (some ⟨dg,0+(y:Int).toNat*1,none⟩)=_;simp) rfl rfl rfl fun w6 o6 c6=>?_;refine qq6 ?_;have hs3: ∀k,v3.ownBlock=some k->W.heap.size<=k:=fun k hk=>by
        rcases (o5.lt hk).1 with e|e
        ·exact e
        ·omega
       refine ax (j+1,D2.set y true,v3) (sl rfl) ⟨by dsimp only;omega,?_,o6,?_,?_⟩ (by dsimp only;omega)
       ·dsimp only;rw [hstep, <-adK];exact hD2.set hyl
       ·dsimp only;rw [hstep]
        exact (o5.chg (nO _) c6 fun k hk e=>by have h8:=hs3 k hk;have h7:dg=k:=by injection e
                                               omega).mono qw.mo (fun b _ e=>by rcases e with e|e;exact e;omega) i3
       ·exact Chg.trans (Chg.trans (M:=fun k=>k=dg∨W.heap.size<=k) (c2.mono fun k _ e=>.inl e) c5 fun k _ e=>.inr (or2.lt e).1) c6 (fun k _ e=>.inl (by injection e with e;exact e.symm)) |>.mono fun k hk e=>e.resolve_right fun e=>by omega
    ·obtain rfl:j=(pI t).length:=by omega
     have htk:(pI t).take (pI t).length=pI t:=aon;rw [htk] at hD2;have or3:nP (Wk.one viN) 3 1 (fun b=>W.heap.size<=b) NoB W2 (.slice pa (((pI t).take (pI t).length).filter (qy (pR t) x)).length pc) ((pI t).filter (qy (pR t) x)):=by simpa only [htk] using or2
     have LA2:=LA.chg c2 fun k hk e=>by omega
     refine cu (R:=rW) (y:=(.slice pa (((pI t).take (pI t).length).filter (qy (pR t) x)).length pc,(pI t).filter (qy (pR t) x))) aak LA2.aiv rfl rfl rfl rfl ⟨rfl,rfl⟩ (by omega) (by omega) (by simp only [maxLen];omega) (by omega) rfl rfl fun v3 w5 p o5 c5 lie=>?_;have hz5:=c5.size;have L5:=LA2.snoc (b:=(.slice pa (((pI t).take (pI t).length).filter (qy (pR t) x)).length pc,(pI t).filter (qy (pR t) x))) (w':=w5) (v':=v3) ((o5.mono aak.mo (Pb':=fun b=>w4.heap.size<=b) (fun b _ e=>by rcases e with e|e;exact e;omega) i3).aiw) c5 lie (or3.mono (nV _) (fun b _ e=>by omega) i3) (fun k h1 h2=>by have h8:W.heap.size<=k:=(or2.lt h1).1;have h9:=(LA.row.lt h2).2;omega) (fun c hc k h1 h2=>by have h8:W.heap.size<=k:=(or2.lt h1).1;have h9:=((LA.el c hc).lt h2).2;omega)
     have od5:=od2.chg (nO _) c5 fun k hk e=>by have h8:w4.heap.size<=k:=(LA.row.lt e).1;have h7:dg=k:=by injection hk
                                                omega
     refine qq6 ?_;refine ax (i+1,seen++(pI t).filter (qy (pR t) x),D2,v3,acc++ [(.slice pa (((pI t).take (pI t).length).filter (qy (pR t) x)).length pc,(pI t).filter (qy (pR t) x))]) (sl rfl) ⟨by dsimp only;omega,?_,by simp;omega,hD2,od5,L5,?_⟩ (by dsimp only;omega)
     ·dsimp only;rw [hR];simp
     ·exact (Chg.trans (M:=fun k=>k=dg∨w4.heap.size<=k) ((Chg.trans cW c2 i3).mono fun k _ e=>.inl e) c5 fun k _ e=>.inr (LA.row.lt e).1).mono fun k hk e=>e.resolve_right fun e=>by omega
  ·rw [if_pos (.inl (List.contains_iff_mem.1 hsn))] at hR;(repeat' (first|refine aa1 ?_|refine ai ?_|refine dH rfl rfl ?_|refine dK rfl (by conv=>{lhs;whnf}) ?_|refine aP ?_|refine aQ ?_|refine dV ?_|refine eG ?_|refine dJ ?_|refine bF rfl ?_|refine Wl.add rfl rfl (by omega) (by omega) ?_));exact ax (i+1,seen,D,_,acc) (sl rfl) ⟨by dsimp only;omega,hR,by dsimp only;omega,hD,od,LA,cW⟩ (by dsimp only;omega)
 ·obtain rfl:i=(pI t).length:=by omega
  rw [aoG] at hR;have hR:tC t=acc.map (·.2):=by simpa [sK] using hR
  exact aB rfl rfl rfl ⟨_,rfl,⟨_,acc,rfl,LA.mono fun b _ e=>by omega,hR.symm⟩,nW⟩
end Go.Proofs.YtfbnfhhmiiahnaaGreatDoor
namespace Go.Proofs.YtfbnfhhmiiahnaaGreatDoor
open Go Wk Sy
open Go.RowKit (Below)
attribute [local irreducible] Go.Calls
def thM (th:List Bool) (i:Nat):Bool:=(th[i]?).getD false
theorem TV {th:List Bool} {i:Nat} (h:i<th.length):th[i]? =some (thM th i):=by unfold thM;rw [anv h];rfl
theorem Rj {Pb:Nat->Prop} {w:World} {b n:Nat} {v:Value} {th:List Bool} {x:SE} (h:Bk w b 44 [v]) (hs:RdS (Wk.one vbo) 1 Pb w v th) (hn:th.length=n) (h1:x.1.1.src<n) (h2: ∀d,x.1.1.dst=some d->d<n):
 Calls prog 72 #[.agg (seC x).toArray,.pointer (some ⟨b,0,none⟩)] w (Ret fun r w'=>r=.bool (!um (thM th) x.1.1)/\New w w'):=by
 obtain ⟨a,cap,rfl,hc1,hc2⟩:=hs.form;simp only [maxLen] at hc2;refine nM func72 rfl ntmps72 rfl ?_;refine qq4 ?_;refine Wl.box rfl fun w1 b1 n1 s1=>?_;replace b1:Bk w1 w.heap.size 100 (seC x):=b1;replace h:=h.chg n1 id;replace hs:=hs.keep (nZ _) n1.keep;obtain ⟨⟨⟨src,dst,kind,soft,place,args⟩,sv⟩,ix⟩:=x;dsimp only at h1 h2 b1;unfold um;dsimp only;refine qq2 ?_;refine ah (u:=.bool soft) rfl (b1.cell (o:=3) rfl) ?_;cases soft
 ·refine qq3 ?_;exact ak rfl rfl ⟨_,rfl,rfl,n1⟩
 refine qq2 ?_;refine ah (u:=.slice a th.length cap) rfl (h.cell (o:=0) rfl) ?_;refine qq2 ?_;refine ah (u:=vi src) rfl (b1.cell (o:=0) rfl) ?_;(repeat' (refine aO rfl rfl ?_));refine aZ hs rfl rfl (by omega) (TV (by omega)) fun bb off hcell=>?_;refine aO rfl rfl ?_;refine ah (u:=.bool (thM th src)) rfl hcell ?_;cases thM th src
 ·refine qq3 ?_;exact ak rfl rfl ⟨_,rfl,rfl,n1⟩
 refine qq2 ?_;refine ah (u:=vi (pU dst)) rfl (b1.cell (o:=1) rfl) ?_;cases dst with
 |none=>rw [show pU none= -1 from rfl];(repeat' (first|refine qq3 ?_|(refine aa2 (fun _=>?_) (fun _=>?_)<;>(first|(exfalso;omega)|skip))));exact ak rfl rfl ⟨_,rfl,rfl,n1⟩
 |some d=>
  rw [show pU (some d)=(d:Int) from rfl];have hd:=h2 d rfl;(repeat' (first|refine qq5 ?_|(refine aa2 (fun _=>?_) (fun _=>?_)<;>(first|(exfalso;omega)|skip))));refine ah (u:=.slice a th.length cap) rfl (h.cell (o:=0) rfl) ?_;refine qq2 ?_;refine ah (u:=vi d) rfl (b1.cell (o:=1) rfl) ?_;(repeat' (refine aO rfl rfl ?_));refine aZ hs rfl rfl (by omega) (TV (by omega)) fun bb off hcell=>?_;refine aO rfl rfl ?_;refine ah (u:=.bool (thM th d)) rfl hcell ?_;have sh: ∀(q:Bool),(!(thM th d&&decide (d≠src)))=q->Value.bool q=Value.bool (!(true&&(true&&(thM th d&&decide (d≠src))))):=fun q e=>by rw [<-e];rfl
  cases hv:thM th d
  ·refine qq3 ?_;exact ak rfl rfl ⟨_,rfl,sh true (by rw [hv];rfl),n1⟩
  refine qq2 ?_;refine ah (u:=vi d) rfl (b1.cell (o:=1) rfl) ?_;refine qq2 ?_;refine ah (u:=vi src) rfl (b1.cell (o:=0) rfl) ?_;(repeat' (first|refine qq3 ?_|refine bJ rfl rfl (fun _=>?_) (fun _=>?_)))
  ·obtain rfl:d=src:=by omega
   exact ak rfl rfl ⟨_,rfl,sh true (by simp),n1⟩
  ·have hne:d≠src:=by omega
   exact ak rfl rfl ⟨_,rfl,sh false (by rw [hv];simp [hne]),n1⟩
theorem XI {a b:List UInt8}:Ec a b<0↔a<b:=by
 unfold Ec;by_cases h:a<b
 ·rw [if_pos h];simp [h]
 ·rw [if_neg h];by_cases h2:b<a
  ·rw [if_pos h2];simp [h]
  ·rw [if_neg h2];simp [h]
section
variable {Pp:Nat->Prop} {t:List Nd} {bg hm b2:Nat} {lv ev wv gv pv:Value}
theorem Rk {w:World} {x y:SE} (hb:Bk w bg 145 (grC lv hm ev wv gv pv)) (hp:RdS (Wk.one vs) 1 Pp w pv (pK t)) (h2:Bk w b2 140 [pT bg]) (hx:x.1.1.src<t.length) (hy:y.1.1.src<t.length) (hlen:t.length<=512):
 Calls prog 74 #[.agg (seC x).toArray,.agg (seC y).toArray,pT b2] w (Ret fun r w'=>r=vi (Ec (oI t x.1.1.src) (oI t y.1.1.src))/\New w w'):=by
 have hpl:=vP t;obtain ⟨pa,pc,rfl,_,_⟩:=hp.form;refine nM func74 rfl ntmps74 rfl ?_;refine qq4 ?_;refine Wl.box rfl fun w1 b1 n1 s1=>?_;replace b1:Bk w1 w.heap.size 100 (seC x):=b1;refine Wl.box rfl fun w3 b3 n3 s3=>?_;replace b3:Bk w3 w1.heap.size 100 (seC y):=b3;have n03:=New.trans n1 n3;replace b1:=b1.chg n3 id;replace hb:=hb.chg n03 id;replace h2:=h2.chg n03 id;replace hp:=hp.keep (nZ _) n03.keep;refine qq4 ?_;refine gY [0,1,2,3,4,5,6,7,8,9,10,11,12,13,14,15] [16,17] rfl (by kernel_rfl) (by simp only [pick,apl,apm];rfl) (by simp only [pick,apl,apm];rfl) (Grw w3) (Grw.drew w3) ?_;refine au (u:=pT bg) rfl (fun w' hw=>(h2.chg hw.new id).cell (o:=0) rfl) ?_;(repeat' (first|refine dA rfl ?_|refine aa6 ?_));refine au (u:=.slice pa (pK t).length pc) rfl (fun w' hw=>(hb.chg hw.new id).cell (o:=5) rfl) ?_;(repeat' (refine aa6 ?_));refine au (u:=vi x.1.1.src) rfl (fun w' hw=>(b1.chg hw.new id).cell (o:=0) rfl) ?_;refine dD (y:=oI t x.1.1.src) hp (fun w' hw=>hw.new.keep) rfl rfl (by omega) (sQ hx) fun bb off hcell=>?_;refine au (u:=vs (oI t x.1.1.src)) rfl hcell ?_;refine au (u:=pT bg) rfl (fun w' hw=>(h2.chg hw.new id).cell (o:=0) rfl) ?_;(repeat' (first|refine dA rfl ?_|refine aa6 ?_));refine au (u:=.slice pa (pK t).length pc) rfl (fun w' hw=>(hb.chg hw.new id).cell (o:=5) rfl) ?_;(repeat' (refine aa6 ?_));refine au (u:=vi y.1.1.src) rfl (fun w' hw=>(b3.chg hw.new id).cell (o:=0) rfl) ?_;refine dD (y:=oI t y.1.1.src) hp (fun w' hw=>hw.new.keep) rfl rfl (by omega) (sQ hy) fun bb off hcell=>?_;refine au (u:=vs (oI t y.1.1.src)) rfl hcell ?_;(repeat' (refine af ?_));refine dI ?_;refine aj (wS (a:=oI t x.1.1.src) (b:=oI t y.1.1.src)) rfl ?_;rintro _ _ ⟨rfl,rfl⟩;refine ai ⟨rfl,Grw.drew w3,?_⟩;refine Wch.last ?_;refine qq3 ?_;exact ak rfl rfl ⟨_,rfl,rfl,New.trans n03 (Grw.drew w3).new⟩
theorem Vh {w:World} {g:Nat} (hb:Bk w bg 145 (grC lv hm ev wv gv pv)) (hp:RdS (Wk.one vs) 1 Pp w pv (pK t)) (h2:Bk w b2 140 [pT bg]) (hlen:t.length<=512) (e1:bg≠g) (e2:b2≠g) (e3: ¬Pp g):
 Fa 74 #[pT b2] (fun x=>oI t x.1.1.src) (fun x=>x.1.1.src<t.length) g w:=by
 intro w' c x y hx hy;refine (Rk (hb.chg c fun e=>e1 e) (hp.keep (nZ _) (c.keep fun k _ hk e=>by subst e;exact e3 hk)) (h2.chg c fun e=>e2 e) hx hy hlen).mono ?_;rintro _ w'' ⟨_,rfl,rfl,n⟩;exact ⟨_,rfl,⟨_,rfl,XI⟩,n⟩
end
noncomputable def IY (t:List Nd) (there:Nat->Bool):List Ed×List Ed:=tY (pR t) (((nX t).filter (um there)).mergeSort fun x y=> !decide (oI t y.src<oI t x.src))
section
variable {cf:FuncId} {cc:Array Value} [hcf:nN prog cf]
theorem JD {w:World} {a:Option Addr} {cap:Nat}:Calls prog 131 #[.slice a 0 cap,vi 0,vi 0,.func (.func cf) #[] cc] w (Ret fun _ w'=>New w w'):=by
 refine nM func131 rfl ntmps131 rfl ?_;refine qq2 ?_;refine aA (σ:=Unit) (fun _=>[(2,vi 0),(8,vi 1)]) (fun _ W=>New w W) (fun _=>0) () (sl rfl) (ay _ _) ?_;rintro _ G W n;simp only [pq];(repeat' (first|refine Hf ?_|(refine aa2 (fun _=>?_) (fun _=>?_)<;>(first|(exfalso;omega)|skip))));exact cO rfl ⟨_,rfl,n⟩
theorem Rl {w:World} {a:Option Addr} {cap:Nat}:Calls prog 98 #[.slice a 0 cap,vi 0,.func (.func cf) #[] cc] w (Ret fun _ w'=>New w w'):=by
 refine nM func98 rfl ntmps98 rfl ?_;refine qq2 ?_;refine aA (σ:=Unit) (fun _=>[(0,.slice a 0 cap),(1,vi 0),(2,.func (.func cf) #[] cc),(6,vi 20),(7,vi 0),(8,vi 20)]) (fun _ W=>New w W) (fun _=>0) () (sl rfl) (ay _ _) ?_;rintro _ G W n;simp only [pq];(repeat' (first|refine Hf ?_|(refine dR rfl rfl (fun _=>?_) (fun _=>?_)<;>(first|(exfalso;omega)|skip))));refine aj (JD (cf:=cf) (cc:=cc) (w:=W) (a:=a) (cap:=cap)) rfl ?_;rintro u w2 n2;refine qq6 ?_;refine aA (σ:=Unit) (fun _=>[(1,vi 0),(6,vi 20)]) (fun _ W=>New w W) (fun _=>0) () (sl rfl) (New.trans n n2) ?_;rintro _ G W n;simp only [pq];(repeat' (first|refine Hf ?_|(refine aa2 (fun _=>?_) (fun _=>?_)<;>(first|(exfalso;omega)|skip))));exact cO rfl ⟨_,rfl,n⟩
theorem IZ {w:World} {a:Option Addr} {cap:Nat}:Calls prog 73 #[.slice a 0 cap,.func (.func cf) #[] cc] w (Ret fun _ w'=>New w w'):=by
 refine nM func73 rfl ntmps73 rfl ?_;(repeat' (first|refine aa1 ?_|refine bU rfl ?_|refine aQ ?_));refine aj (Rl (cf:=cf) (cc:=cc) (w:=w) (a:=a) (cap:=cap)) rfl ?_;rintro u w2 n2;refine qq6 ?_;exact cO rfl ⟨_,rfl,n2⟩
theorem L8 {Pb:Nat->Prop} {w:World} {v:Value} {D0:List SE} {key:SE->Nm} {Pd:SE->Prop} (hix:D0.Pairwise fun x y=>x.2<y.2) (own:rC Pb w v D0) (hP: ∀y∈D0,Pd y) (hc: ∀g,v.ownBlock=some g->Fa cf cc key Pd g w) (hl:D0.length<=400000000):
 Calls prog 73 #[v,.func (.func cf) #[] cc] w (Ret fun _ w'=> ∃E,E.Perm D0/\Srt (ltE key) E/\rC Pb w' v E/\Chg (fun k=>v.ownBlock=some k) w w'):=by
 by_cases h0:D0=[]
 ·subst h0;obtain ⟨a,cap,rfl,_,_⟩:=own.form;refine IZ.mono ?_;rintro _ w' ⟨_,rfl,n⟩;exact ⟨_,rfl,[],List.Perm.refl _,by simp,own.new (nK seC) n,n.any⟩
 ·obtain ⟨g,cap,rfl,_,_,hob⟩:=own.blk h0;refine (GV hix rfl own hP (hc g hob) hl).mono ?_;rintro _ w' ⟨_,rfl,E,h1,h2,o,c⟩;exact ⟨_,rfl,E,h1,h2,o,c.mono fun k _ e=>by rw [hob,e]⟩
end
section
variable {lo bg hm b6:Nat} {t:List Nd} {m:List (Nat×Nat)} {es:List Ed} {bs:List wC} {gs:List Bool} {ps:List Nm} {lv ev wv gv pv:Value} {W W':World}
theorem GrA.used {Pu:Nat->Prop} {uv:Value} {U:List SE} (g:GrA lo bg hm b6 t m es bs gs ps lv ev wv gv pv W) (u:rC Pu W uv U) (hu: ∀k,uv.ownBlock=some k->lo<=k) (c:Chg (fun k=>uv.ownBlock=some k) W W')
 (own:nP rEd 100 6 (Zn lo bg hm b6 bs wv gv pv) (Zn lo bg hm b6 bs wv gv pv) W' ev es):GrA lo bg hm b6 t m es bs gs ps lv ev wv gv pv W':=
 ⟨g.b.chg c fun e=>u.oM g.b rfl e rfl,g.tr.keep oh (c.keep fun k _ h1 e=>by have:=hu k e;omega),g.mp.chg c (fun e=>u.qQ g.mp e rfl),own,
  ⟨g.wa.row.chg (nK _) c fun k hk e=>g.wa.row.sV u rfl k hk e,fun x hx=>(g.wa.el x hx).chg (nO _) c fun k hk e=>(g.wa.el x hx).sV u rfl k hk e,g.wa.vz,g.wa.sep⟩,g.ga.chg (nO _) c (fun k hk e=>g.ga.sV u rfl k hk e),g.pa.chg (nO _) c (fun k hk e=>g.pa.sV u rfl k hk e),g.lo2⟩
end
structure SfI (lo bg hm:Nat) (t:List Nd) (E:List SE) (bs0:List wC) (lv ev wv gv pv av:Value) (b7 N0:Nat) (bs:List wC) (Wn:Nat->List Nat) (gs:List Bool) (uv dv:Value) (U D:List SE) (W:World):Prop where
 g:GrA lo bg hm bg t (qX t) (nX t) bs gs (pK t) lv ev wv gv pv W
 b7:Bk W b7 140 [pT bg]
 ed:nP rEd 100 6 (fun b=>Zn lo bg hm bg bs0 wv gv pv b/\b<N0) (fun b=>Zn lo bg hm bg bs0 wv gv pv b/\b<N0) W ev (nX t)
 inc: ∀x∈bs, ∀k,x.1.ownBlock=some k->(∃y∈bs0,y.1.ownBlock=some k)∨N0<=k
 hbs:bs.map (·.2)=(ab8 t.length).map Wn
 hin: ∀j,j<t.length-> ∀k∈Wn j,k<t.length
 able:rC (fun b=>lo<=b/\b<N0) W av E
 us:rC (fun b=>N0<=b) W uv U
 dr:rC (fun b=>N0<=b) W dv D
 sep:Sep uv dv
 args: ∀x∈E,RdS (Wk.one zQ) 1 (fun b=>Zn lo bg hm bg bs0 wv gv pv b/\b<N0) W (svV x.1.2) x.1.1.args
 uin: ∀x,x∈U∨x∈D->x∈E
 z:N0<=W.heap.size
 hlo:lo<=N0
section
variable {lo bg hm:Nat} {t:List Nd} {E:List SE} {bs0:List wC} {lv ev wv gv pv av:Value} {b7 N0:Nat} {bs:List wC} {Wn:Nat->List Nat} {gs:List Bool} {uv dv:Value} {U D:List SE} {W W':World}
theorem SfI.new (s:SfI lo bg hm t E bs0 lv ev wv gv pv av b7 N0 bs Wn gs uv dv U D W) (n:New W W'):SfI lo bg hm t E bs0 lv ev wv gv pv av b7 N0 bs Wn gs uv dv U D W':=
 ⟨s.g.new n,s.b7.chg n id,s.ed.wz qf n i3 (fun _ _ _ e=>e),s.inc,s.hbs,s.hin,s.able.new (nK seC) n,s.us.new (nK seC) n,s.dr.new (nK seC) n,s.sep,fun x hx=>(s.args x hx).keep (nZ _) n.keep,s.uin,apR s.z n.size,s.hlo⟩
theorem SfI.zn (s:SfI lo bg hm t E bs0 lv ev wv gv pv av b7 N0 bs Wn gs uv dv U D W): ∀b,(Zn lo bg hm bg bs0 wv gv pv b/\b<N0)->Zn lo bg hm bg bs wv gv pv b:=by
 rintro b ⟨⟨z1,z2,z3,z0,z4,z5,z6⟩,z7⟩;refine ⟨z1,z2,z3,z0,z4,fun x hx e=>?_,z6⟩;rcases s.inc x hx b e with ⟨y,hy,e2⟩|h
 ·exact z5 y hy e2
 ·omega
theorem SfI.drop1 (s:SfI lo bg hm t E bs0 lv ev wv gv pv av b7 N0 bs Wn gs uv dv U D W) {x:SE} (hx:x∈E) {dv':Value} (o:rC (fun b=>N0<=b) W' dv' (D++ [x])) (c:Chg (fun k=>dv.ownBlock=some k) W W') (lie:dv'.ownBlock=dv.ownBlock∨ ∀k,dv'.ownBlock=some k->W.heap.size<=k):
 SfI lo bg hm t E bs0 lv ev wv gv pv av b7 N0 bs Wn gs uv dv' U (D++ [x]) W':=by
 have hd: ∀k,dv.ownBlock=some k->N0<=k:=fun k hk=>(s.dr.lt hk).1;have hed:=s.ed.wz qf c (fun k hk e=>by have h1:=(s.ed.lt hk).1.2;have:=hd k e;omega) (fun k hk _ e=>by have:=hk.2;have:=hd k e;omega);refine ⟨s.g.used s.dr (fun k hk=>apR s.hlo (hd k hk)) c (hed.mono qI (fun b _=>s.zn b) (fun b _=>s.zn b)),s.b7.chg c fun e=>s.dr.oM s.b7 rfl e rfl,hed,s.inc,s.hbs,s.hin,s.able.chg (nK seC) c (fun k hk e=>by have h1:=(s.able.lt hk).1.2;have:=hd k e;omega),s.us.chg (nK seC) c (fun k hk e=>s.sep k hk e),o,fun k hk e=>?_,fun y hy=>(s.args y hy).keep (nZ _) (c.keep fun k _ hk e=>by have:=hk.2;have:=hd k e;omega),?_,apR s.z c.size,s.hlo⟩
 ·rcases lie with l|l
  ·rw [l] at e;exact s.sep k hk e
  ·have:=l k e;have:=(s.us.lt hk).2;omega
 ·intro y hy;rcases hy with hy|hy
  ·exact s.uin y (.inl hy)
  ·rcases List.mem_append.1 hy with hy|hy
   ·exact s.uin y (.inr hy)
   ·rw [List.mem_singleton.1 hy];exact hx
theorem SfI.aiA (s:SfI lo bg hm t E bs0 lv ev wv gv pv av b7 N0 bs Wn gs uv dv U D W) {x:SE} (hx:x∈E) {uv':Value} (o:rC (fun b=>N0<=b) W' uv' (U++ [x])) (c:Chg (fun k=>uv.ownBlock=some k) W W') (lie:uv'.ownBlock=uv.ownBlock∨ ∀k,uv'.ownBlock=some k->W.heap.size<=k):
 SfI lo bg hm t E bs0 lv ev wv gv pv av b7 N0 bs Wn gs uv' dv (U++ [x]) D W':=by
 have hd: ∀k,uv.ownBlock=some k->N0<=k:=fun k hk=>(s.us.lt hk).1;have hed:=s.ed.wz qf c (fun k hk e=>by have h1:=(s.ed.lt hk).1.2;have:=hd k e;omega) (fun k hk _ e=>by have:=hk.2;have:=hd k e;omega);refine ⟨s.g.used s.us (fun k hk=>apR s.hlo (hd k hk)) c (hed.mono qI (fun b _=>s.zn b) (fun b _=>s.zn b)),s.b7.chg c fun e=>s.us.oM s.b7 rfl e rfl,hed,s.inc,s.hbs,s.hin,s.able.chg (nK seC) c (fun k hk e=>by have h1:=(s.able.lt hk).1.2;have:=hd k e;omega),o,s.dr.chg (nK seC) c (fun k hk e=>s.sep k e hk),fun k hk e=>?_,fun y hy=>(s.args y hy).keep (nZ _) (c.keep fun k _ hk e=>by have:=hk.2;have:=hd k e;omega),?_,apR s.z c.size,s.hlo⟩
 ·rcases lie with l|l
  ·rw [l] at hk;exact s.sep k hk e
  ·have:=l k hk;have:=(s.dr.lt e).2;omega
 ·intro y hy;rcases hy with hy|hy
  ·rcases List.mem_append.1 hy with hy|hy
   ·exact s.uin y (.inl hy)
   ·rw [List.mem_singleton.1 hy];exact hx
  ·exact s.uin y (.inr hy)
theorem SfI.XJ (s:SfI lo bg hm t E bs0 lv ev wv gv pv av b7 N0 bs Wn gs uv dv U D W) {i d:Nat} {x x':wC} {w1:World} (hi:bs[i]? =some x) (hx2:x'.2=Wn i++ [d]) (hd:d<t.length) (ho:nP (Wk.one viN) 3 1 (fun b=>lo<=b) NoB w1 x'.1 x'.2) (c1:Chg (fun k=>x.1.ownBlock=some k) W w1)
 (lie:x'.1.ownBlock=x.1.ownBlock∨ ∀k,x'.1.ownBlock=some k->W.heap.size<=k) (hr:nP (flat wrC) 65 1 (fun b=>lo<=b) NoB W' wv (bs.set i x')) (c2:Chg (fun k=>wv.ownBlock=some k) w1 W') (hwv: ∀k,wv.ownBlock=some k->k<N0):
 SfI lo bg hm t E bs0 lv ev wv gv pv av b7 N0 (bs.set i x') (fun j=>if j=i then Wn i++ [d] else Wn j) gs uv dv U D W':=by
 have hx:=aop hi;have hxo:=s.g.wa.el x hx;have hrow:=s.g.wa.row;have c:Chg (fun k=>x.1.ownBlock=some k∨wv.ownBlock=some k) W W':=Chg.trans (c1.mono fun k _ e=>.inl e) c2 fun k _ e=>.inr e;have hil:i<t.length:=by have h1:=congrArg apq s.hbs;have h2:=(List.getElem?_eq_some_iff.1 hi).1;simp only [aoR,apP] at h1;omega
 have hz: ∀k,(Zn lo bg hm bg bs0 wv gv pv k/\k<N0)-> ¬(x.1.ownBlock=some k∨wv.ownBlock=some k):=by
  rintro k ⟨h1,h2⟩ (e|e)
  ·rcases s.inc x hx k e with ⟨y,hy,e2⟩|h
   ·exact h1.2.2.2.2.2.1 y hy e2
   ·omega
  ·exact h1.2.2.2.2.1 e
 refine ⟨s.g.want hi ho c1 lie hr c2,s.b7.chg c fun e=>e.elim (fun e=>hxo.oM s.b7 rfl e rfl) fun e=>hrow.oM s.b7 rfl e rfl,s.ed.wz qf c (fun k hk e=>hz k (s.ed.lt hk).1 e) (fun k hk _ e=>hz k hk e),?_,?_,?_, s.able.chg (nK seC) c (fun k hk e=>e.elim (fun e=>s.able.sV hxo rfl k hk e) fun e=>s.able.sV hrow rfl k hk e),s.us.chg (nK seC) c (fun k hk e=>e.elim (fun e=>s.us.sV hxo rfl k hk e) fun e=>s.us.sV hrow rfl k hk e),s.dr.chg (nK seC) c (fun k hk e=>e.elim (fun e=>s.dr.sV hxo rfl k hk e) fun e=>s.dr.sV hrow rfl k hk e),s.sep, fun y hy=>(s.args y hy).keep (nZ _) (c.keep fun k _ hk e=>hz k hk e),s.uin,apR s.z c.size,s.hlo⟩
 ·intro y hy k e;rcases apZ hy with hy|rfl
  ·exact s.inc y hy k e
  ·rcases lie with l|l
   ·rw [l] at e;exact s.inc x hx k e
   ·exact .inr (apR s.z (l k e))
 ·rw [apW,s.hbs,BM hil,hx2]
 ·intro j hj k hk;split at hk
  ·rcases List.mem_append.1 hk with hk|hk
   ·exact s.hin i hil k hk
   ·rw [List.mem_singleton.1 hk];exact hd
  ·exact s.hin j hj k hk
end
theorem Vj {Pb Pt:Nat->Prop} {w:World} {v tv:Value} {t:List Nd} {th:List Bool} (h:RdS rNd 3 Pb w v t) (ht:RdS (Wk.one vbo) 1 Pt w tv th) (hok:og t=true) (hl:th.length=t.length):
 Calls prog 43 #[v,tv] w (Ret fun r w'=>(∃q1 q2,r=.tuple #[q1,q2,vi 0]/\RdS rEd 6 (fun b=>w.heap.size<=b) w' q1 (IY t (thM th)).1/\RdS rEd 6 (fun b=>w.heap.size<=b) w' q2 (IY t (thM th)).2)/\New w w'):=by
 have hlen:=pF hok;have hpos:=uJ hok;have hIn:=KA hok;have hE:(nX t).length<=10240*t.length:=uO hok t.length (aap _);obtain ⟨a,cap,rfl,_,_⟩:=h.form;obtain ⟨ta,adE,rfl,_,_⟩:=ht.form;replace ht:=ht.mono (Pb':=fun k=>k<w.heap.size) (nV _) fun k hk _=>hk;refine nM func43 rfl ntmps43 rfl ?_;refine qq4 ?_;refine Wl.box rfl fun w1 b3 n1 s1=>?_;replace b3:Bk w1 w.heap.size 44 [.slice ta th.length adE]:=b3;refine qq4 ?_;refine aj (zY (h.keep oh n1.keep) hok) rfl ?_;rintro _ w2 ⟨⟨bg,hm,ev,wv,gv,pv,gs,bs,rfl,g,hbs,hgl⟩,n2⟩;have hz1:=n1.size;have hz2:=n2.size;refine qq6 ?_;refine Wl.alloc fun w3 b7 n3 s3=>?_;refine aJ (u:=pT bg) b7 rfl (show (0:Nat)<1 by omega) rfl rfl fun w4 b7' c4=>?_;replace b7':Bk w4 w2.heap.size 140 [pT bg]:=b7';have n24:New w2 w4:=(Chg.trans n3.any c4 i3).tN
 have n04:=New.trans (New.trans n1 n2) n24;have g4:=g.new n24;have b34:=b3.chg (New.trans n2 n24) id;clear b7 c4 g b3;obtain ⟨ea,ec,rfl,_,_⟩:=g4.ed.form;(repeat' (first|refine qq2 ?_|(refine aa4 (fun _=>?_) (fun _=>?_)<;>(first|(exfalso;omega)|skip))));refine ah (u:=.slice ta th.length adE) rfl (b34.cell (o:=0) rfl) ?_;(repeat' (first|refine qq2 ?_|(refine aa4 (fun _=>?_) (fun _=>?_)<;>(first|(exfalso;omega)|skip))));refine ah (u:=pT bg) rfl (b7'.cell (o:=0) rfl) ?_;refine qq2 ?_;refine ah (u:=.slice ea (nX t).length ec) rfl (g4.b.cell (o:=2) rfl) ?_;obtain ⟨D0,hD0,hDx,rdD,hDa⟩:=adq (g4.ed.rd qf.mo);have amq:D0.length=(nX t).length:=by rw [<-hD0,aoR]
 have hix:D0.Pairwise fun x y=>x.2<y.2:=by
  have:(D0.map (·.2)).Pairwise (· < ·):=by rw [hDx];exact List.pairwise_lt_range
  exact List.pairwise_map.1 this
 refine aj (OU rdD (by omega)) rfl ?_;rintro cv w5 ⟨o5,n5⟩;have hz4:=n24.size;have hz5:=n5.size;refine dn (f1:=[]) (c1:=[pT w.heap.size]) rfl rfl ?_;have hsrc: ∀x∈D0,x.1.1.src<t.length/\ ∀d,x.1.1.dst=some d->d<t.length:=fun x hx=>ug x.1.1 (by rw [<-hD0];exact List.mem_map_of_mem hx);have b35:=b34.chg n5 id;have hcv: ∀k,cv.ownBlock=some k->w4.heap.size<=k:=fun k hk=>(o5.lt hk).1;have n05:=New.trans n04 n5;have aiB:=n04.size;have h3l:=b34.lt;have hz3:w.heap.size<w4.heap.size:=h3l;refine aj (Ff (p:=fun x=> !um (thM th) x.1.1) o5 (fun y w' hy c=>?_)) rfl ?_
 ·exact Rj (b35.chg c fun e=>by have:=hcv _ e;omega) ((ht.keep (nZ _) n05.keep).keep (nZ _) (c.keep fun k _ hP e=>by have:=hcv k e;omega)) hl (hsrc y hy).1 (hsrc y hy).2
 rintro av w6 ⟨o6,hav,c6⟩;have n46:New w4 w6:=(Chg.trans n5.any c6 i3).toNew fun k hk e=>by have:=hcv k e;omega
 have hAm:(D0.filter fun y=> !(!um (thM th) y.1.1)).map (·.1.1)=(nX t).filter (um (thM th)):=by rw [<-hD0,List.filter_map];congr 1;apply List.filter_congr;intro y _;simp
 have hAs:(D0.filter fun y=> !(!um (thM th) y.1.1)).Sublist D0:=List.filter_sublist;have hAx:=hix.sublist hAs;have hAl:=hAs.length_le;have hAu: ∀y∈D0.filter (fun y=> !(!um (thM th) y.1.1)),um (thM th) y.1.1=true:=fun y hy=>by simpa using (List.mem_filter.1 hy).2
 generalize hA:(D0.filter fun y=> !(!um (thM th) y.1.1))=A at*;refine qq4 ?_;refine dn (f1:=[]) (c1:=[pT w2.heap.size]) rfl rfl ?_;have hp4:=(g4.pa.rd rP.mo).mono (Pb':=fun k=>k<w4.heap.size) (nV _) fun k hk _=>hk;have ade:=g4.b.lt;have adF:=b7'.lt;have Zq: ∀k,av.ownBlock=some k->w4.heap.size<=k:=fun k hk=>hcv k (hav k hk);refine aj (L8 (key:=fun x=>oI t x.1.1.src) (Pd:=fun x=>x.1.1.src<t.length) hAx o6 (fun y hy=>(hsrc y (hAs.subset hy)).1) (fun g hg=>Vh (g4.b.chg n46 id) (hp4.keep (nZ _) n46.keep) (b7'.chg n46 id) hlen (fun e=>by have:=Zq g hg;omega) (fun e=>by have:=Zq g hg;omega) (fun e=>by have:=Zq g hg;omega)) (by omega)) rfl ?_;rintro u w7 ⟨E,hEp,hEs,o7,c7⟩;have n47:New w4 w7:=(Chg.trans n46.any c7 i3).toNew fun k hk e=>by have:=Zq k e;omega
 have n07:=New.trans n04 n47;have amr:=n47.size;have hEm:=QX (oI t) hAx hEp hEs;rw [hAm] at hEm;have hsm:IY t (thM th)=tY (pR t) (E.map (·.1.1)):=by unfold IY;rw [hEm]
 have hEA: ∀x∈E,x∈D0/\um (thM th) x.1.1=true:=fun x hx=>⟨hAs.subset (hEp.mem_iff.1 hx),hAu x (hEp.mem_iff.1 hx)⟩;have hEl:E.length<=5300000:=by rw [hEp.length_eq];omega
 have aiC: ∀k,wv.ownBlock=some k->k<w7.heap.size:=fun k hk=>by have:=(g4.wa.row.lt hk).2;omega
 have s0:SfI w1.heap.size bg hm t E bs (.slice a t.length cap) (.slice ea (nX t).length ec) wv gv pv av w2.heap.size w7.heap.size bs (pR t) gs (.slice none 0 0) (.slice none 0 0) [] [] w7:=by refine ⟨g4.new n47,b7'.chg n47 id,((g4.new n47).ed).mono qI (fun b hb e=>⟨e,hb⟩) (fun b hb e=>⟨e,hb⟩),fun x hx k e=>.inl ⟨x,hx,e⟩,hbs,hIn,o7.mono (nS seC) (fun b hb e=>⟨by have h9:w4.heap.size<=b:=e;omega,hb⟩) i3,aI,aI,fun k e=>(by cases e),fun x hx=>((hDa x (hEA x hx).1).keep (nZ _) n47.keep).mono (nV _) fun b hb e=>⟨e.elim id id,hb⟩,by simp,aap _,by omega⟩
 have hwl: ∀j,(pR t j).length<=6000000:=fun j=>by
  rw [Kz,am7];have h1:(BX t j).length<=1:=by unfold BX;split<;>simp
  have h2:=aqb (wO j) (nX t);omega
 clear hDa hp4 hix hDx rdD hAx hAm hAs hAl hAu hEp hEs hEm o5 c6 o6 c7 g4 b7' b34 b35 n5 n46 hD0 hA;obtain ⟨aa,ac,rfl,_,_⟩:=o7.form;clear o7;refine qq2 ?_;refine aA (σ:=Nat×List wC×(Nat->List Nat)×Value×Value×List SE×List SE) (fun q=>[(4,q.2.2.2.1),(5,q.2.2.2.2.1),(7,pT w2.heap.size),(34,.slice aa E.length ac),(35,vi E.length),(36,vi q.1)]) (fun q W=>q.1<=E.length/\SfI w1.heap.size bg hm t E bs (.slice a t.length cap) (.slice ea (nX t).length ec) wv gv pv (.slice aa E.length ac) w2.heap.size w7.heap.size q.2.1 q.2.2.1 gs q.2.2.2.1 q.2.2.2.2.1 q.2.2.2.2.2.1 q.2.2.2.2.2.2 W/\tY (pR t) (E.map (·.1.1))=(q.2.2.2.2.2.1.map (·.1.1)++(tY q.2.2.1 ((E.drop q.1).map (·.1.1))).1,q.2.2.2.2.2.2.map (·.1.1)++(tY q.2.2.1 ((E.drop q.1).map (·.1.1))).2)/\(∀j,(q.2.2.1 j).length<=6000000+q.1)/\q.2.2.2.2.2.1.length+q.2.2.2.2.2.2.length=q.1/\New w W) (fun q=>E.length-q.1) (0,bs,pR t,.slice none 0 0,.slice none 0 0,[],[]) (sl rfl) ⟨anq _,s0,rfl,hwl,rfl,n07⟩ ?_;clear s0;rintro ⟨i,bs',Wn,uv,dv,U,D⟩ G W ⟨hi,s,hsg,XK,hul,nW⟩;dsimp only at hi s hsg XK hul nW;simp only [pq];have hzW:=nW.size;(repeat' (first|refine qq4 ?_|refine aa2 (fun _=>?_) (fun _=>?_)))
 ·obtain ⟨x,hx⟩:=nT E (k:=i) (by omega);have hxE:=aop hx;obtain ⟨hxD,hxm⟩:=hEA x hxE;obtain ⟨hxs,hxd⟩:=hsrc x hxD;obtain ⟨d,hd⟩: ∃d,x.1.1.dst=some d:=by
   cases e:x.1.1.dst with
   |none=>unfold um at hxm;rw [e] at hxm;simp at hxm
   |some d=>exact ⟨d,rfl⟩
  have hdl:=hxd d hd;rw [drop_cons hx,acd,tY,hd,ao0] at hsg;refine aK (s.able.rd (nS seC)) rfl rfl (by omega) hx fun b o cs hl2 hR hat=>?_;obtain rfl:cs=seC x:=hR;refine aS hat rfl rfl ?_;refine Wl.alloc fun w8 b8 n8 s8=>?_;refine aH (new:=seC x) b8 rfl rfl rfl rfl zl6 (GR x) fun w9 b9 c9 s9=>?_;replace b9:Bk w9 W.heap.size 100 (seC x):=b9;have n9:New W w9:=(Chg.trans n8.any c9 i3).tN
  clear b8 n8 c9 hat;have S9:=s.new n9;have n09:=New.trans nW n9;have huW: ∀k,uv.ownBlock=some k->k<W.heap.size:=fun k hk=>(s.us.lt hk).2;clear s nW;refine qq4 ?_;refine gY [0,1,2,4,5] [3,6,7] rfl (by kernel_rfl) (by simp only [pick,apl,apm];rfl) (by simp only [pick,apl,apm];rfl) (fun w'=>New w9 w') (Chg.drew _ _) ?_;refine au (u:=pT bg) rfl (fun w' hw=>(S9.b7.chg hw id).cell (o:=0) rfl) ?_;(repeat' (refine aa6 ?_));refine au (u:=vi d) rfl (fun w' hw=>by have:=(b9.chg hw id).cell (o:=1) (u:=vi (pU x.1.1.dst)) rfl;rw [hd] at this;exact this) ?_;(repeat' (refine aa6 ?_));refine au (u:=vi x.1.1.src) rfl (fun w' hw=>(b9.chg hw id).cell (o:=0) rfl) ?_;(repeat' (refine af ?_));have n10:New w9 w9.drew:=Chg.drew _ _;refine dI ?_;refine aj (IW (S9.g.new n10) hok S9.hbs S9.hin hdl) rfl ?_;rintro rv w11 ⟨orv,n11⟩;have Fz:=New.trans n10 n11;refine ai ⟨rfl,Fz,?_⟩;obtain ⟨ra,rc,rfl,_,_⟩:=orv.form;obtain ⟨bb,hbb,hbr⟩:=Bf (W:=Wn) (i:=d) hxs;refine dI ?_;refine aZ (orv.rd Fj.mo) rfl rfl (by omega) hbb fun b o hcell=>?_;refine ai ⟨rfl,Fz,?_⟩;refine Wch.last ?_;refine ah (u:=.bool bb) rfl hcell ?_;have S11:=S9.new Fz;have b11:=b9.chg Fz id;have Rn:=New.trans n09 Fz;have QT:=Fz.size;have hz9:=n9.size;have hzN:=S11.z;have hNl:w.heap.size<=w7.heap.size:=n07.size;clear orv hcell b9 S9 n9 n10 n11;obtain ⟨ua,uc,rfl,_,_⟩:=S11.us.form;obtain ⟨da,dc,rfl,_,_⟩:=S11.dr.form;cases hb:bb
  ·have hnr: ¬Rch Wn d x.1.1.src:=fun e=>by have:=hbr.2 e;rw [hb] at this;cases this
   rw [if_neg hnr] at hsg;refine qq2 ?_;refine bK b11 rfl rfl ?_;refine cu (R:=flat seC) (y:=x) QO S11.us rfl rfl rfl rfl rfl (by omega) (by omega) (by simp only [maxLen];omega) (by omega) rfl rfl fun v2 w12 p o12 c12 lie=>?_;have alH:=b11.lt;have Zr:=o12.mono (Pb':=fun b=>w7.heap.size<=b) (nS seC) (fun b _ e=>by rcases e with e|e;exact e;omega) i3;have S12:=S11.aiA hxE Zr c12 lie;have b12:=b11.chg c12 (fun e=>by have:=huW _ e;omega);have n12:New w w12:=(Chg.trans Rn.any c12 i3).toNew fun k hk e=>by have:=(S11.us.lt e).1;omega
   have ams:v2.ownBlock=v2.ownBlock:=rfl;clear o12 Zr c12 lie S11 b11 Rn;have adG:bs'.length=t.length:=by have h1:=congrArg apq S12.hbs;simpa using h1
   have hne0:bs'≠ []:=by intro e;rw [e] at adG;simp at adG;omega
   obtain ⟨wg,wc,hwv,amu,amv,hob⟩:=S12.g.wa.row.blk hne0;obtain ⟨⟨xv,xl⟩,hxr⟩:=nT bs' (k:=x.1.1.src) (by omega);have hxo:=S12.g.wa.el _ (aop hxr);dsimp only at hxo;obtain ⟨xa,xc,rfl,adC,abj⟩:=hxo.form;have XE:xl=Wn x.1.1.src:=by have h1:=congrArg (fun l=>l[x.1.1.src]?) S12.hbs;simp only [an3,hxr,aoT hxs,am6,Option.some.injEq] at h1;exact h1
   have adD:xl.length<=6000000+i:=by rw [XE];exact XK _
   subst hwv;obtain ⟨va,vc,rfl,_,_⟩:=S12.us.form;refine qq6 ?_;refine aV rfl (by kernel_rfl) (fun w'=>Chg (fun j=>(Value.slice xa xl.length xc).ownBlock=some j) w12 w') (Chg.drew _ _) ?_;intro w17 n17;have h6': ∀w',Chg (fun j=>(Value.slice xa xl.length xc).ownBlock=some j) w12 w'->Bk w' w2.heap.size 140 [pT bg]:=fun w' c=>S12.b7.chg c fun e=>hxo.oM S12.b7 rfl e rfl;have hg': ∀w',Chg (fun j=>(Value.slice xa xl.length xc).ownBlock=some j) w12 w'->Bk w' bg 145 (grC (.slice a t.length cap) hm (.slice ea (nX t).length ec) (.slice (some ⟨wg,0,none⟩) bs'.length wc) gv pv):=fun w' c=>S12.g.b.chg c fun e=>hxo.oM S12.g.b rfl e rfl;have hx': ∀w',Chg (fun j=>(Value.slice xa xl.length xc).ownBlock=some j) w12 w'->Bk w' W.heap.size 100 (seC x):=fun w' c=>b12.chg c fun e=>hxo.oM b12 rfl e rfl;refine aa0 (au (u:=pT bg) rfl (fun w' hw=>(h6' w' hw).cell (o:=0) rfl) (af ?_));refine rX ?_;refine aa0 (au (u:=.slice (some ⟨wg,0,none⟩) bs'.length wc) rfl (fun w' hw=>(hg' w' hw).cell (o:=3) rfl) (af ?_));(repeat' (refine aa0 (aa6 (af ?_))));refine aa0 (au (u:=vi x.1.1.src) rfl (fun w' hw=>(hx' w' hw).cell (o:=0) rfl) (af ?_));refine aa0 (au (u:=pT bg) rfl (fun w' hw=>(h6' w' hw).cell (o:=0) rfl) (af ?_));refine rX ?_;refine aa0 (au (u:=.slice (some ⟨wg,0,none⟩) bs'.length wc) rfl (fun w' hw=>(hg' w' hw).cell (o:=3) rfl) (af ?_));(repeat' (refine aa0 (aa6 (af ?_))));refine aa0 (au (u:=vi x.1.1.src) rfl (fun w' hw=>(hx' w' hw).cell (o:=0) rfl) (af ?_));refine aa0 (aa8 (af ?_));have hrow: ∀w',Chg (fun j=>(Value.slice xa xl.length xc).ownBlock=some j) w12 w'->w'.cell? ⟨wg,0+(x.1.1.src:Int).toNat*1,none⟩=some (.slice xa xl.length xc):=fun w' c=>by have h9:=(S12.g.wa.row.chg (nK _) c fun j hj e=>S12.g.wa.vz _ (aop hxr) j e hj).at rfl rfl hxr;have:=h9.get 0 rfl;simpa using this
   refine aa0 (au (u:=.slice xa xl.length xc) rfl hrow (af ?_));(repeat' (refine aa0 (aa6 (af ?_))));refine aa0 (au (u:=vi d) rfl (fun w' hw=>by have:=(hx' w' hw).cell (o:=1) (u:=vi (pU x.1.1.dst)) rfl;rw [hd] at this;exact this) (af ?_));refine aC rfl (bC (R:=Wk.one viN) (Pe:=NoB) (y:=d) qw rfl rfl rfl rfl (by omega) (by omega) fun v8 w18 o8 n8 s8 e8=>?_);have n78:=n17.trans n8;refine ai ⟨rfl,n78.any,?_⟩;refine aC rfl (bY qw (hxo.new (nO _) n78) (o8.rd qw.mo) (fun y cs hy=>hy) rfl rfl (by omega) (by simp only [maxLen,anM];omega) (by simp only [anM];omega) fun v9 w19 o9 c9 lie _=>?_);have c69:Chg (fun j=>(Value.slice xa xl.length xc).ownBlock=some j) w12 w19:=Chg.trans n78.any c9 i3;refine ai ⟨rfl,c69,?_⟩;refine aa0 (aa8 (af ?_));have aiu:=n78.size;have Ze:=n12.size;have alI:=S12.z;refine Wt.last rfl (dS (f:=(·.1:wC->Value)) (q:=(v9,xl++ [d])) (j:=x.1.1.src) (cap:=wc) (S12.g.wa.row.chg (nK _) c69 fun j hj e=>S12.g.wa.vz _ (aop hxr) j e hj) rfl (by omega) (by show Value.pointer (some ⟨wg,0+(x.1.1.src:Int).toNat*1,none⟩)=_;simp) rfl rfl (by obtain ⟨_,_,rfl,_⟩:=o9.form;rfl) fun w20 o10 c10=>?_);refine ai ?_;have LZ:v9.ownBlock=(Value.slice xa xl.length xc).ownBlock∨ ∀k,v9.ownBlock=some k->w12.heap.size<=k:=lie.imp id fun h9 k hk=>by have:=h9 k hk;omega
   have S20:=S12.XJ hxr (x':=(v9,xl++ [d])) (w1:=w19) (by rw [XE]) hdl (o9.mono (nV _) (fun b _ e=>by rcases e with e|e;exact e;omega) i3) c69 LZ o10 c10 aiC;have Fq:Chg (fun j=>(Value.slice xa xl.length xc).ownBlock=some j∨j=wg) w12 w20:=Chg.trans (c69.mono fun k _ e=>Or.inl e) c10 fun k _ e=>by cases e;exact .inr rfl
   have n20:New w w20:=(Chg.trans (M:=fun j=>(Value.slice xa xl.length xc).ownBlock=some j∨j=wg) n12.any Fq fun k _ e=>e).toNew fun k hk e=>by rcases e with e|e;(have:=(hxo.lt e).1;omega);omega
   have hfe:(fun j=>if j=x.1.1.src then Wn j++ [d] else Wn j)=fun j=>if j=x.1.1.src then Wn x.1.1.src++ [d] else Wn j:=by
    funext j;by_cases e:j=x.1.1.src
    ·rw [if_pos e,if_pos e,e]
    ·rw [if_neg e,if_neg e]
   refine qq6 ?_;refine ax (i+1,bs'.set x.1.1.src (v9,xl++ [d]),(fun j=>if j=x.1.1.src then Wn x.1.1.src++ [d] else Wn j),_,_,U++ [x],D) (sl rfl) ⟨by dsimp only;omega,S20,?_,fun j=>?_,by dsimp only;rw [am7,anM];omega,n20⟩ (by dsimp only;omega)
   ·dsimp only;rw [hsg, <-hfe];simp
   ·dsimp only;split
    ·rw [am7,anM];have:=XK x.1.1.src;omega
    ·have:=XK j;omega
  ·have hnr:Rch Wn d x.1.1.src:=hbr.1 hb;rw [if_pos hnr] at hsg;refine qq2 ?_;refine bK b11 rfl rfl ?_;refine cu (R:=flat seC) (y:=x) QO S11.dr rfl rfl rfl rfl rfl (by omega) (by omega) (by simp only [maxLen];omega) (by omega) rfl rfl fun v2 w12 p o12 c12 lie=>?_;have Zr:=o12.mono (Pb':=fun b=>w7.heap.size<=b) (nS seC) (fun b _ e=>by rcases e with e|e;exact e;omega) i3;have S12:=S11.drop1 hxE Zr c12 lie;have n12:New w w12:=(Chg.trans Rn.any c12 i3).toNew fun k hk e=>by have:=(S11.dr.lt e).1;omega
   refine qq6 ?_;refine ax (i+1,bs',Wn,.slice ua U.length uc,v2,U,D++ [x]) (sl rfl) ⟨by dsimp only;omega,S12,?_,fun j=>by dsimp only;have:=XK j;omega,by dsimp only;rw [am7,anM];omega,n12⟩ (by dsimp only;omega);dsimp only;rw [hsg];simp
 ·obtain rfl:i=E.length:=by omega
  rw [aoG,List.map_nil,tY,aoS,aoS] at hsg;refine bZ rfl rfl rfl rfl ⟨_,rfl,⟨uv,dv,rfl,?_,?_⟩,nW⟩
  ·rw [hsm,hsg];exact aai (s.us.rd (nS seC)) (fun b hb=>by rcases hb with hb|hb;omega;exact hb.elim) fun y hy=>(s.args y (s.uin y (.inl hy))).mono (nV _) fun b _ hb=>by have:=hb.1.1;omega
  ·rw [hsm,hsg];exact aai (s.dr.rd (nS seC)) (fun b hb=>by rcases hb with hb|hb;omega;exact hb.elim) fun y hy=>(s.args y (s.uin y (.inr hy))).mono (nV _) fun b _ hb=>by have:=hb.1.1;omega
end Go.Proofs.YtfbnfhhmiiahnaaGreatDoor
namespace Go.Proofs.YtfbnfhhmiiahnaaGreatDoor
open Go Wk
structure Giv where
 tree:List Nd
 cards:List Cd
 fails:List Nm
 gone:List Nm
structure Bn where
 path:Nm
 device:Bool
 level:Int
 reason:Nat
 card:Option Nat
 why:Int
 wants:List Nat
deriving Inhabited
def qR (t:List Nd) (i:Nat):Bool:=decide (0<i)&&(onM t i&& !C9 t i)
def Ai (t:List Nd) (i:Nat):List Nat:=(nX t).filterMap fun e=>if e.src=i/\e.soft=false/\qR t i=true then e.dst else none
def uP (g:Giv) (i:Nat):Option Nat:=(D7 g.tree i++ [0]).find? fun k=>g.gone.contains (oI g.tree k)
def I4 (rs:List Rfs) (i:Nat):Option Int:=rs.foldl (fun a r=>if r.node=i then some r.by_ else a) none
def I5 (rs:List (List Nat)) (i:Nat):Option Nat:=rs.foldl (fun a l=>if i∈l then some (l.headD 0) else a) none
noncomputable def firstM (g:Giv) (i:Nat):Nat×Int:=
 let t:=g.tree;let d:=qR t i
 if onM t i=false then (1, -1)
 else if d=true/\qV g.cards t i=none then (2, -1)
 else match (if d=true then I4 (qN g.cards t).2 i else none) with
  |some b=>(3,b)
  |none=>if d=true/\(∃e∈nX t,e.src=i/\e.soft=false/\e.dst=none) then (4, -1)
   else match (if d=true then I5 (tC t) i else none) with
    |some k=>(5,(k:Int))
    |none=>match uP g i with
     |some k=>(6,(k:Int))
     |none=>(0, -1)
noncomputable def yu (g:Giv) (i:Nat):Bn:=
 let c:=if qR g.tree i=true then qV g.cards g.tree i else none
 {path:=oI g.tree i,device:=qR g.tree i,level:=match c with|some k=>(g.cards.getD k default).level|none=>0,
  reason:=(firstM g i).1,card:=c,why:=(firstM g i).2,wants:=(if 0<i then [par g.tree i] else [])++Ai g.tree i}
def qh (N:Nat->Bn) (n:Nat):List Nat:=((ab8 n).filter fun i=>decide ((N i).reason=0)).mergeSort fun x y=> !decide (qY (fun i=>(N i).level) (fun i=>(N i).path) y x<0)
abbrev St:=Nat->Nat
def rJ (N:Nat->Bn) (S:St):Option Nat->List Nat->Option Nat
 |best,[]=>best
 |best,n::r=>rJ N S (if S n≠1/\(∀j,best=some j->(N n).path<(N j).path) then some n else best) r
def sH (N:Nat->Bn) (S:St) (i:Nat):Option Nat:=rJ N S none (N i).wants
def rF (N:Nat->Bn) (fl:Nm->Bool) (S:St) (i:Nat):Option St:=
 if (N i).reason=0/\S i=0/\sH N S i=none then some (fun k=>if k=i then (if (N i).device&&fl (N i).path then 2 else 1) else S k) else none
structure Rnd where
 tried:List Nat
 waits:List (Nat×Nat)
deriving DecidableEq,Inhabited
def oU (N:Nat->Bn) (fl:Nm->Bool):List Nat->St->Rnd×St
 | [],S=>(⟨[],[]⟩,S)
 |i::r,S=>if S i≠0 then oU N fl r S else match rF N fl S i with
  |some S'=>let q:=oU N fl r S';(⟨i::q.1.tried,q.1.waits⟩,q.2)
  |none=>let q:=oU N fl r S;(⟨q.1.tried,(i,(sH N S i).getD 0)::q.1.waits⟩,q.2)
def doneGo (N:Nat->Bn) (fl:Nm->Bool) (order:List Nat):Nat->St->List Rnd×St
 |0,S=>([],S)
 |f+1,S=>
  let q:=oU N fl order S;let hd:=if q.1.tried=[]/\q.1.waits=[] then [] else [q.1]
  if q.1.tried=[] then (hd,q.2) else let p:=doneGo N fl order f q.2;(hd++p.1,p.2)
def S0:St:=fun _=>0
def vH (N:Nat->Bn) (fl:Nm->Bool) (n:Nat):List Rnd×St:=doneGo N fl (qh N n) (n+1) S0
def rowOf (N:Nat->Bn) (S:St) (i:Nat):Nat×Option Nat×Int:=
 if (N i).reason≠0∨S i=1 then ((N i).reason,(N i).card,(N i).why)
 else if S i=2 then (7,(N i).card,(N i).why)
 else (8,(N i).card,match sH N S i with|some k=>(k:Int)|none=> -1)
inductive Bnd (N:Nat->Bn) (fl:Nm->Bool):Nat->Prop
 |mk (i:Nat):(N i).reason=0->((N i).device&&fl (N i).path)=false->(∀n,n∈(N i).wants->Bnd N fl n)->Bnd N fl i
def Fld (N:Nat->Bn) (fl:Nm->Bool) (i:Nat):Prop:=(N i).reason=0/\((N i).device&&fl (N i).path)=true/\ ∀n∈(N i).wants,Bnd N fl n
theorem Bnd.inv {N:Nat->Bn} {fl:Nm->Bool} {i:Nat} (h:Bnd N fl i):(N i).reason=0/\((N i).device&&fl (N i).path)=false/\ ∀n∈(N i).wants,Bnd N fl n:=by
 cases h with|mk _ h1 h2 h3=>exact ⟨h1,h2,h3⟩
theorem EC {N:Nat->Bn} {S:St}: ∀(l:List Nat) (b:Option Nat),rJ N S b l=none↔b=none/\ ∀n∈l,S n=1
 | [],b=>by simp [rJ]
 |n::r,b=>by
  rw [rJ,EC r];constructor
  ·rintro ⟨h1,h2⟩;split at h1
   ·cases h1
   ·rename_i hc
    subst h1;refine ⟨rfl,fun m hm=>?_⟩;rcases List.mem_cons.1 hm with rfl|hm
    ·exact apX fun e=>hc ⟨e,fun j hj=>by cases hj⟩
    ·exact h2 m hm
  ·rintro ⟨rfl,h⟩;refine ⟨if_neg fun e=>e.1 (h n ap2),fun m hm=>h m (aoC _ hm)⟩
theorem O3 {N:Nat->Bn} {S:St} {i:Nat}:sH N S i=none↔ ∀n∈(N i).wants,S n=1:=by
 unfold sH;rw [EC];simp
theorem Gp {N:Nat->Bn} {S:St}: ∀(l:List Nat) (b:Option Nat) (k:Nat),rJ N S b l=some k->b=some k∨(k∈l/\S k≠1)
 | [],b,k,h=>.inl h
 |n::r,b,k,h=>by
  rw [rJ] at h;rcases Gp r _ k h with e|⟨e1,e2⟩
  ·split at e
   ·rename_i hc;cases e;exact .inr ⟨ap2,hc.1⟩
   ·exact .inl e
  ·exact .inr ⟨aoC _ e1,e2⟩
theorem Ro {N:Nat->Bn} {S:St} {i k:Nat} (h:sH N S i=some k):k∈(N i).wants/\S k≠1:=by
 rcases Gp _ _ _ h with e|e
 ·cases e
 ·exact e
structure Vld (N:Nat->Bn) (fl:Nm->Bool) (S:St):Prop where
 le: ∀i,S i<=2
 b: ∀i,S i=1->Bnd N fl i
 f: ∀i,S i=2->Fld N fl i
theorem aiD {N:Nat->Bn} {fl:Nm->Bool}:Vld N fl S0:=⟨fun _=>anq _,fun i h=>(by cases h),fun i h=>(by cases h)⟩
theorem Vld.look {N:Nat->Bn} {fl:Nm->Bool} {S S':St} {i:Nat} (v:Vld N fl S) (h:rF N fl S i=some S'):Vld N fl S':=by
 unfold rF at h;split at h
 ·rename_i hc
  cases h;obtain ⟨h1,h2,h3⟩:=hc;rw [O3] at h3;have hw: ∀n∈(N i).wants,Bnd N fl n:=fun n hn=>v.b n (h3 n hn);refine ⟨fun k=>?_,fun k hk=>?_,fun k hk=>?_⟩
  ·show (if k=i then _ else _)<=2;split
   ·split<;>omega
   ·exact v.le k
  ·split at hk
   ·rename_i e;subst e
    split at hk
    ·cases hk
    ·rename_i e;exact .mk _ h1 (by simpa using e) hw
   ·exact v.b k hk
  ·split at hk
   ·rename_i e;subst e
    split at hk
    ·rename_i e;exact ⟨h1,e,hw⟩
    ·cases hk
   ·exact v.f k hk
 ·cases h
def Fin (N:Nat->Bn) (n:Nat) (S:St):Prop:= ∀i,i<n->(N i).reason=0->S i=0-> ∃k∈(N i).wants,S k≠1
def InN (N:Nat->Bn) (n:Nat):Prop:= ∀i,i<n-> ∀k∈(N i).wants,k<n
theorem Fin.bnd {N:Nat->Bn} {fl:Nm->Bool} {S:St} {n:Nat} (v:Vld N fl S) (f:Fin N n S) (hn:InN N n) {i:Nat} (h:Bnd N fl i):i<n->S i=1:=by
 induction h with
 |mk i h1 h2 h3 ih=>
  intro hi;have h4:=v.le i;by_cases e1:S i=1
  ·exact e1
  ·by_cases e2:S i=2
   ·have:=(v.f i e2).2.1;rw [h2] at this;cases this
   ·obtain ⟨k,hk,e⟩:=f i hi h1 (by omega);exact absurd (ih k hk (hn i hi k hk)) e
def I7 (S:St) (l:List Nat):Nat:=(l.filter fun i=>decide (S i=0)).length
theorem O4 {N:Nat->Bn} {fl:Nm->Bool} {S S':St} {i:Nat} (h:rF N fl S i=some S'):S i=0/\S' i≠0/\(∀k,S k≠0->S' k=S k)/\(∀k,k≠i->S' k=S k):=by
 unfold rF at h;split at h
 ·rename_i hc
  cases h;refine ⟨hc.2.1,?_,fun k hk=>?_,fun k hk=>if_neg hk⟩
  ·dsimp only;rw [if_pos rfl];split<;>decide
  ·dsimp only;rw [if_neg];intro e;subst e;exact hk hc.2.1
 ·cases h
theorem vT {N:Nat->Bn} {fl:Nm->Bool}: ∀(l:List Nat) (S:St),(∀k,S k≠0->(oU N fl l S).2 k=S k)/\(∀k,k∉l->(oU N fl l S).2 k=S k)/\(Vld N fl S->Vld N fl (oU N fl l S).2)/\
 ((oU N fl l S).1.tried=[]->(oU N fl l S).2=S/\ ∀i∈l,S i=0->rF N fl S i=none)/\(∀i∈(oU N fl l S).1.tried,i∈l/\S i=0/\(oU N fl l S).2 i≠0)
 | [],S=>⟨fun _ _=>rfl,fun _ _=>rfl,id,fun _=>⟨rfl,fun i h=>by simp at h⟩,fun i h=>by simp [oU] at h⟩
 |i::r,S=>by
  rw [oU];split
  ·rename_i h0
   obtain ⟨a,b,c,d,e⟩:=vT (N:=N) (fl:=fl) r S;refine ⟨a,fun k hk=>b k fun e=>hk (aoC _ e),c,fun h=>⟨(d h).1,fun k hk hs=>?_⟩,fun k hk=>⟨aoC _ (e k hk).1,(e k hk).2⟩⟩;rcases List.mem_cons.1 hk with rfl|hk
   ·exact absurd hs h0
   ·exact (d h).2 k hk hs
  ·rename_i h0
   have h0:S i=0:=apX h0;cases hl:rF N fl S i with
   |some S'=>
    obtain ⟨k1,k2,k3,k4⟩:=O4 hl;obtain ⟨a,b,c,d,e⟩:=vT (N:=N) (fl:=fl) r S';dsimp only;refine ⟨fun k hk=>(a k (by rw [k3 k hk];exact hk)).trans (k3 k hk),fun k hk=>?_,fun v=>c (v.look hl),fun h=>(by cases h),fun k hk=>?_⟩
    ·exact (b k fun e=>hk (aoC _ e)).trans (k4 k fun e=>hk (e▸ap2))
    ·rcases List.mem_cons.1 hk with rfl|hk
     ·exact ⟨ap2,h0,by rw [a k k2];exact k2⟩
     ·obtain ⟨e1,e2,e3⟩:=e k hk;refine ⟨aoC _ e1,?_,e3⟩;exact apX fun hs=>hs ((k3 k hs).symm.trans e2)
   |none=>
    obtain ⟨a,b,c,d,e⟩:=vT (N:=N) (fl:=fl) r S;dsimp only;refine ⟨a,fun k hk=>b k fun e=>hk (aoC _ e),c,fun h=>⟨(d h).1,fun k hk hs=>?_⟩,fun k hk=>⟨aoC _ (e k hk).1,(e k hk).2⟩⟩;rcases List.mem_cons.1 hk with rfl|hk
    ·exact hl
    ·exact (d h).2 k hk hs
theorem XL {S S':St} {l:List Nat} (h: ∀k,S k≠0->S' k=S k) {i:Nat} (hi:i∈l) (h0:S i=0) (h1:S' i≠0):I7 S' l<I7 S l:=by
 unfold I7;rw [<-aqe, <-aqe];induction l with
 |nil=>simp at hi
 |cons x r ih=>
  rw [aqf,aqf];have hle:aqg (fun i=>decide (S' i=0)) r<=aqg (fun i=>decide (S i=0)) r:=by apply List.countP_mono_left;intro k _ hk;rw [decide_eq_true_eq] at hk ⊢;exact apX fun e=>e ((h k e).symm.trans hk)
  rcases List.mem_cons.1 hi with rfl|hi
  ·rw [decide_eq_true h0,decide_eq_false h1,if_neg (by decide),if_pos rfl];omega
  ·have:=ih hi;have h2:(if decide (S' x=0)=true then 1 else 0)<=(if decide (S x=0)=true then 1 else 0):=by
    by_cases e:S x=0
    ·rw [decide_eq_true e,if_pos rfl];split<;>decide
    ·rw [decide_eq_false e,decide_eq_false (by rw [h x e];exact e)];exact aap _
   exact Nat.add_lt_add_of_lt_of_le this h2
theorem I8 {N:Nat->Bn} {fl:Nm->Bool} {order:List Nat}: ∀(f:Nat) (S:St),Vld N fl S->I7 S order<f->Vld N fl (doneGo N fl order f S).2/\(∀i∈order,(doneGo N fl order f S).2 i=0->rF N fl (doneGo N fl order f S).2 i=none)
 |0,S,_,h=>by omega
 |f+1,S,v,h=>by
  obtain ⟨a,b,c,d,e⟩:=vT (N:=N) (fl:=fl) order S;rw [doneGo];dsimp only;split
  ·rename_i ht
   dsimp only;refine ⟨c v,fun i hi h0=>?_⟩;rw [(d ht).1] at h0 ⊢;exact (d ht).2 i hi h0
  ·rename_i ht
   obtain ⟨i,hi⟩:=List.exists_mem_of_ne_nil _ ht;obtain ⟨e1,e2,e3⟩:=e i hi;exact I8 f _ (c v) (by have:=XL a e1 e2 e3;omega)
theorem O5 {N:Nat->Bn} {n i:Nat}:i∈qh N n↔i<n/\(N i).reason=0:=by
 unfold qh;rw [aqd,List.mem_filter,ano,decide_eq_true_eq]
theorem O6 (N:Nat->Bn) (n:Nat):(qh N n).length<=n:=by
 unfold qh;rw [apu];have:=apO (fun i=>decide ((N i).reason=0)) (ab8 n)
 rwa [apP] at this
theorem Vk {N:Nat->Bn} {fl:Nm->Bool} {S:St} {n:Nat} (h: ∀i∈qh N n,S i=0->rF N fl S i=none):Fin N n S:=by
 intro i hi hr h0;have:=h i (O5.2 ⟨hi,hr⟩) h0;unfold rF at this;split at this
 ·cases this
 ·rename_i hc
  have hw:sH N S i≠none:=fun e=>hc ⟨hr,h0,e⟩;cases hk:sH N S i with
  |none=>exact absurd hk hw
  |some k=>exact ⟨k,Ro hk⟩
theorem KC (N:Nat->Bn) (fl:Nm->Bool) (n:Nat):Vld N fl (vH N fl n).2/\Fin N n (vH N fl n).2:=by
 unfold vH;have hl:I7 S0 (qh N n)<n+1:=by
  have h1:=O6 N n;have:I7 S0 (qh N n)<=(qh N n).length:=by unfold I7;exact apO _ _
  omega
 obtain ⟨v,h⟩:=I8 (n+1) S0 aiD hl;exact ⟨v,Vk h⟩
theorem O7 {N:Nat->Bn} {S:St} {i:Nat}:(rowOf N S i).1=0↔(N i).reason=0/\S i=1:=by
 unfold rowOf;split
 ·rename_i h
  dsimp only;constructor
  ·intro e;exact ⟨e,h.resolve_left fun q=>q e⟩
  ·exact fun e=>e.1
 ·rename_i h
  rw [not_or,Decidable.not_not] at h;split
  ·simp;intro _;omega
  ·simp;intro _;exact h.2
end Go.Proofs.YtfbnfhhmiiahnaaGreatDoor
namespace Go.Proofs.YtfbnfhhmiiahnaaGreatDoor
open Go Wk
open Go.RowKit (Below)
attribute [local irreducible] Go.Calls
abbrev JE (L:List (Nm×Int)):List (Value×Value):=L.map fun p=>(vs p.1,vi p.2)
structure Cnt (l:List Nm) (L:List (Nm×Int)):Prop where
 nd:(L.map (·.1)).Nodup
 mem: ∀p∈L,1<=p.2/\p.2<=l.length/\p.1∈l
 all: ∀s∈l, ∃c,(s,c)∈L
theorem L9 {s:Nm} (h:s.length<=100000000): ∃q,keyOf prog 9 (vs s)=some q:=
 ⟨_,WideMaps.keyOf_string_mk underlying9 (by simp only [ByteArray.size,anu,maxLen];omega)⟩
theorem ED {Pb:Nat->Prop} {w:World} {v:Value} {xs:List Nm} (h:RdS (Wk.one vs) 1 Pb w v xs) (hs: ∀x∈xs,x.length<=100000000):
 Calls prog 57 #[v] w (Ret fun r w'=>(∃b L,r=.map (some b)/\w.heap.size<=b/\ru prog 9 w' b (JE L)/\Cnt xs L)/\New w w'):=by
 obtain ⟨a,cap,rfl,hc1,hc2⟩:=h.form;simp only [maxLen] at hc2;refine nM func57 rfl ntmps57 rfl ?_;refine qq4 ?_;refine fU (k:=9) fun w1 m1 n1 s1=>?_;generalize hbm:w.heap.size=bm at m1;refine qq2 ?_;refine aA (σ:=Nat×List (Nm×Int)) (fun s=>[(3,.map (some bm)),(7,.slice a xs.length cap),(8,vi xs.length),(9,vi s.1)]) (fun s W=>s.1<=xs.length/\Cnt (xs.take s.1) s.2/\ru prog 9 W bm (JE s.2)/\New w W) (fun s=>xs.length-s.1) (0,[]) (sl rfl) ⟨anq _,⟨by simp,by simp,by simp⟩,m1,n1⟩ ?_;rintro ⟨i,L⟩ G W ⟨hi,hC,mW,nW⟩;dsimp only at hi hC mW nW;simp only [pq];(repeat' (first|refine qq4 ?_|refine aa2 (fun _=>?_) (fun _=>?_)))
 ·obtain ⟨s,hx⟩:=nT xs (k:=i) (by omega);refine aZ (h.keep (nZ _) nW.keep) rfl rfl (by omega) hx fun b o hcell=>?_;refine ah (u:=vs s) rfl hcell ?_;refine qq6 ?_;obtain ⟨q,hq⟩:=L9 (hs s (aop hx));have hlen:(xs.take i).length=i:=by rw [anD];omega
  refine iQ (Maps.string_keyed underlying9) mW hq rfl rfl ?_;rintro r (hr|⟨rfl,hr⟩)
  ·obtain ⟨⟨s',c⟩,hm,e⟩:=List.mem_map.1 hr;simp only [Prod.mk.injEq] at e;obtain ⟨e1,rfl⟩:=e;obtain rfl:=xk e1;have hb:=hC.mem _ hm;dsimp only at hb;(repeat' (refine Wl.add rfl rfl (by omega) (by omega) ?_));refine jV (v0:=vi c) (u:=vi (c+1)) (Maps.string_keyed underlying9) mW hq hr rfl rfl rfl fun w2 j v2 hj m2 c2 s2=>?_;rw [an3] at hj;obtain ⟨⟨s2',c2'⟩,hj1,hj2⟩:=Option.map_eq_some_iff.1 hj;simp only [Prod.mk.injEq] at hj2;obtain rfl:=xk hj2.1;have hset:(JE L).set j (vs s2',vi (c+1))=JE (L.set j (s2',c+1)):=by unfold JE;rw [apW]
   rw [hset] at m2;refine qq6 ?_;have hjl:=(List.getElem?_eq_some_iff.1 hj1).1;refine ax (i+1,L.set j (s2',c+1)) (sl rfl) ⟨by dsimp only;omega,⟨?_,fun p hp=>?_,fun t ht=>?_⟩,m2,Chg.trans nW c2 fun k hk e=>by omega⟩ (by dsimp only;omega)
   ·rw [apW];have:(L.map (·.1)).set j s2'=L.map (·.1):=by
     apply anC;intro m;rw [anO];split
     ·rename_i e;subst e
      rw [if_pos (by simpa using hjl),an3,hj1];rfl
     ·rfl
    rw [this];exact hC.nd
   ·rw [take_snoc hx,am7,hlen];rcases apZ hp with hp|rfl
    ·have:=hC.mem p hp;rw [hlen] at this;exact ⟨this.1,by simp;omega,ap4 _ this.2.2⟩
    ·rw [hlen] at hb;exact ⟨by dsimp only;omega,by simp;omega,by simp⟩
   ·rw [take_snoc hx] at ht;have hin:t=s2'∨t∈xs.take i:=by
     rcases List.mem_append.1 ht with ht|ht
     ·exact .inr ht
     ·exact .inl (List.mem_singleton.1 ht)
    by_cases e:t=s2'
    ·subst e;exact ⟨c+1,List.mem_set hjl _⟩
    ·obtain ⟨d,hd⟩:=hC.all t (hin.resolve_left e);obtain ⟨m,hm'⟩:=List.mem_iff_getElem?.1 hd;refine ⟨d,List.mem_iff_getElem?.2 ⟨m,?_⟩⟩;rw [List.getElem?_set_ne]
     ·exact hm'
     ·rintro rfl;rw [hj1] at hm';cases hm';exact e rfl
  ·(repeat' (refine Wl.add rfl rfl (by omega) (by omega) ?_));refine gU (u:=vi 1) (Maps.string_keyed underlying9) mW hq hr rfl rfl rfl fun w2 m2 c2 s2=>?_;refine qq6 ?_;refine ax (i+1,L++ [(s,1)]) (sl rfl) ⟨by dsimp only;omega,⟨?_,fun p hp=>?_,fun t ht=>?_⟩,by simpa [JE] using m2,Chg.trans nW c2 fun k hk e=>by omega⟩ (by dsimp only;omega)
   ·rw [aoN,List.nodup_append];refine ⟨hC.nd,by simp,fun x hx y hy=>?_⟩;obtain ⟨p,hp,rfl⟩:=List.mem_map.1 hx;simp at hy;subst hy;intro e;exact hr (vs p.1,vi p.2) (List.mem_map.2 ⟨p,hp,rfl⟩) (by rw [e])
   ·rw [take_snoc hx,am7,hlen];rcases List.mem_append.1 hp with hp|hp
    ·have:=hC.mem p hp;rw [hlen] at this;exact ⟨this.1,by simp;omega,ap4 _ this.2.2⟩
    ·rw [List.mem_singleton.1 hp];exact ⟨Int.le_refl 1,by simp;omega,by simp⟩
   ·rw [take_snoc hx] at ht;rcases List.mem_append.1 ht with ht|ht
    ·obtain ⟨d,hd⟩:=hC.all t ht;exact ⟨d,ap4 _ hd⟩
    ·rw [List.mem_singleton.1 ht];exact ⟨1,by simp⟩
 ·obtain rfl:i=xs.length:=by omega
  rw [aon] at hC;exact ak rfl rfl ⟨_,rfl,⟨bm,L,rfl,by omega,mW,hC⟩,nW⟩
section
variable {P:Program} {n:Nat} {ds:List Deferred} {C:World->Prop} {K:Fr->Prop} {F:Fr} {ops rest:List Oper} {d:Nat} {ty t t':TypeId} {pos:String} {aft:Array Edge} {x y:Operand} {a b:List UInt8}
theorem kC (hx:ev n F x=vs a) (hy:ev n F y=vs b) (ht:a<b->Wq P n ds C K ops rest (upd F d (.bool true))) (hf: ¬a<b->Wq P n ds C K ops rest (upd F d (.bool false))):
 Wq P n ds C K ops (⟨some d,.binOp .lss t x y t',ty,pos,aft,none⟩::rest) F:=by
 by_cases h:a<b
 ·exact Wq.val (fun w _=>by simp only [execOp,hx,hy,Sem.run_bind,qp,Result.andThen_ok,binOp_string_lss,ByteArray.toList_mk,Sem.run_pure,bytesLess_eq,decide_eq_true h]) (ht h)
 ·exact Wq.val (fun w _=>by simp only [execOp,hx,hy,Sem.run_bind,qp,Result.andThen_ok,binOp_string_lss,ByteArray.toList_mk,Sem.run_pure,bytesLess_eq,decide_eq_false h]) (hf h)
end
structure Nb where
 bn:Bn
 wv:SV
 st:Nat
deriving Inhabited
abbrev nbC (x:Nb):List Value:=[vs x.bn.path,.bool x.bn.device,.int .u8 x.bn.level,.int .u8 x.bn.reason,vi (pU x.bn.card),vi x.bn.why,svV x.wv,.bool (x.st == 1),.bool (x.st == 2)]
theorem XM (x:Nb): ∀c∈nbC x,c.oneCell'=true:=by
 intro c hc;simp at hc;rcases hc with rfl|rfl|rfl|rfl|rfl|rfl|rfl|rfl|rfl<;>rfl
theorem XO:qH (flat nbC) 9:=qA _ (fun _=>rfl) XM
def bnF (N:List Nb) (i:Nat):Bn:=(N.getD i default).bn
def stF (N:List Nb) (i:Nat):Nat:=(N.getD i default).st
theorem tH {N:List Nb} {i:Nat} {x:Nb} (h:N[i]? =some x):bnF N i=x.bn:=by unfold bnF;rw [an7,h];rfl
theorem yw {N:List Nb} {i:Nat} {x:Nb} (h:N[i]? =some x):stF N i=x.st:=by unfold stF;rw [an7,h];rfl
structure WkM (Pb:Nat->Prop) (bw bm:Nat) (N:List Nb) (ord:List Nat) (fl:List (Nm×Int)) (nv ov:Value) (W:World):Prop where
 b:Bk W bw 128 [nv,ov,.map (some bm)]
 nd:LLs nbC (fun x=>svV x.wv) (fun x=>x.bn.wants) viN 130 3 9 Pb W nv N
 od:nP (Wk.one viN) 3 1 Pb NoB W ov ord
 mp:ru prog 9 W bm (JE fl)
 so: ∀x∈N,Sep (svV x.wv) ov
 win: ∀x∈N, ∀k∈x.bn.wants,k<N.length
 nl:N.length<=512
 fn:(fl.map (·.1)).Nodup/\ ∀x∈N,x.bn.path.length<=1000000
 lo2:Pb bw/\Pb bm
section
variable {Pb:Nat->Prop} {bw bm:Nat} {N:List Nb} {ord:List Nat} {fl:List (Nm×Int)} {nv ov:Value} {W W':World}
theorem WkM.new (g:WkM Pb bw bm N ord fl nv ov W) (c:New W W'):WkM Pb bw bm N ord fl nv ov W':=
 ⟨g.b.chg c id,g.nd.new c,g.od.new (nO _) c,g.mp.chg c id,g.so,g.win,g.nl,g.fn,g.lo2⟩
theorem Dv {i:Nat} (g:WkM Pb bw bm N ord fl nv ov W) (hi:i<N.length):
 Calls prog 68 #[pT bw,vi i] W (Ret fun r w'=>r=vi (pU (sH (bnF N) (stF N) i))/\New W w'):=by
 have hnl:=g.nl;obtain ⟨na,nc,rfl,_,_⟩:=g.nd.row.form;have hrd:=g.nd.row.rd (nS nbC);obtain ⟨x,hx⟩:=nT N hi;have hw:=(g.nd.el x (aop hx)).rd qw.mo;have hwin:=g.win x (aop hx);unfold sH;rw [tH hx];obtain ⟨bn,wv,st⟩:=x;obtain ⟨wa,wl,wc⟩:=wv;obtain ⟨a',c',e',hwc,hwm⟩:=hw.form;have hwl:wl=bn.wants.length:=by injection e'
 subst hwl;dsimp only at hw hwin hwc ⊢;clear e';have amw:bn.wants.length<=9223372036854775807:=by unfold maxLen at hwm;omega
 refine nM func68 rfl ntmps68 rfl ?_;refine qq2 ?_;refine ah (u:=.slice na N.length nc) rfl (g.b.cell (o:=0) rfl) ?_;(repeat' (refine aa1 ?_));refine aK hrd rfl rfl (by omega) hx fun b o cs hl hR hat=>?_;obtain rfl:cs=nbC _:=hR;(repeat' (refine aa5 ?_));refine ah (u:=.slice wa bn.wants.length wc) rfl (hat.get 6 rfl) ?_;clear hat;refine qq4 ?_;refine aA (σ:=Nat×Option Nat) (fun q=>[(0,pT bw),(5,vi (pU q.2)),(15,.slice wa bn.wants.length wc),(16,vi bn.wants.length),(17,vi q.1)]) (fun q w'=>q.1<=bn.wants.length/\(∀j,q.2=some j->j<N.length)/\rJ (bnF N) (stF N) none bn.wants=rJ (bnF N) (stF N) q.2 (bn.wants.drop q.1)/\New W w') (fun q=>bn.wants.length-q.1) (0,none) (sl rfl) ⟨anq _,fun j e=>(by cases e),rfl,ay _ _⟩ ?_;rintro ⟨k,best⟩ G w1 ⟨hk,hbl,hgo,n1⟩;dsimp only at hk hbl hgo n1;simp only [pq];have g1:=g.new n1;have O1:=hrd.keep (oH nbC) n1.keep;(repeat' (first|refine qq4 ?_|refine aa2 (fun _=>?_) (fun _=>?_)))
 ·obtain ⟨m,hm⟩:=nT bn.wants (k:=k) (by omega);have hml:=hwin m (aop hm);rw [drop_cons hm,rJ] at hgo;obtain ⟨y,hy⟩:=nT N hml;rw [yw hy,tH hy] at hgo;refine aZ (hw.keep (nZ _) n1.keep) rfl rfl (by omega) hm fun b o hcell=>?_;refine ah (u:=vi m) rfl hcell ?_;refine qq4 ?_;refine fF rfl (by kernel_rfl) ?_;(repeat' (first|refine aa3 ?_|refine dA rfl ?_|refine aa6 ?_));refine au (u:=.slice na N.length nc) rfl (fun w' hw=>(g1.b.chg hw id).cell (o:=0) rfl) ?_;(repeat' (refine aa3 ?_));refine bQ O1 (fun w' hw=>hw.keep) rfl rfl (by omega) hy fun b o cs hl hR hat=>?_;obtain rfl:cs=nbC y:=hR;(repeat' (refine aa6 ?_));refine au (u:=.bool (y.st == 1)) rfl (fun w' hw=>(hat w' hw).get 7 rfl) ?_;clear hat;have hok: ∀(b2:Option Nat) (w':World),New w1 w'->(∀j,b2=some j->j<N.length)->(if y.st≠1/\(∀j,best=some j->y.bn.path<(bnF N j).path) then some m else best)=b2->(k+1<=bn.wants.length/\(∀j,b2=some j->j<N.length)/\rJ (bnF N) (stF N) none bn.wants=rJ (bnF N) (stF N) b2 (bn.wants.drop (k+1))/\New W w'):=fun b2 w' n' hb2 e=>⟨by omega,hb2,by rw [hgo,e],New.trans n1 n'⟩;clear hgo;have hsm: ∀j,some m=some j->j<N.length:=fun j e=>by cases e;exact hml
  cases hst:(y.st == 1) with
  |true=>
   have hst':y.st=1:=by simpa using hst
   (repeat' (first|refine aa3 ?_|refine af ?_|refine fE rfl rfl ?_|refine iU rfl ?_|refine yO ?_|refine dM rfl ?_));intro w2 n2;refine qq2 ?_;exact ax (k+1,best) (sl rfl) (hok best w2 n2 hbl (if_neg fun e=>e.1 hst')) (by dsimp only;omega)
  |false=>
   have hst':y.st≠1:=by simpa using hst
   cases best with
   |none=>rw [show pU none= -1 from rfl];(repeat' (first|refine aa3 ?_|refine af ?_|refine aW rfl rfl ?_|refine fE rfl rfl ?_|refine aa9 ?_|refine dM rfl ?_|(refine dN rfl rfl (fun _=>?_) (fun _=>?_)<;>(first|(exfalso;omega)|skip))));intro w2 n2;refine qq6 ?_;exact ax (k+1,some m) (sl rfl) (hok (some m) w2 n2 hsm (if_pos ⟨hst',fun j e=>by cases e⟩)) (by dsimp only;omega)
   |some j=>
    rw [show pU (some j)=(j:Int) from rfl];have hjl:=hbl j rfl;obtain ⟨z,hz⟩:=nT N hjl;(repeat' (first|refine aa3 ?_|refine aW rfl rfl ?_|refine dM rfl ?_|refine dA rfl ?_|refine aa6 ?_|(refine dN rfl rfl (fun _=>?_) (fun _=>?_)<;>(first|(exfalso;omega)|skip))));refine au (u:=.slice na N.length nc) rfl (fun w' hw=>(g1.b.chg hw id).cell (o:=0) rfl) ?_;(repeat' (first|refine aa3 ?_|refine aW rfl rfl ?_));refine bQ O1 (fun w' hw=>hw.keep) rfl rfl (by omega) hy fun b o cs hl hR hat=>?_;obtain rfl:cs=nbC y:=hR;(repeat' (first|refine aW rfl rfl ?_|refine aa6 ?_));refine au (u:=vs y.bn.path) rfl (fun w' hw=>(hat w' hw).get 0 rfl) ?_;clear hat;(repeat' (first|refine aa3 ?_|refine aW rfl rfl ?_|refine dA rfl ?_|refine aa6 ?_));refine au (u:=.slice na N.length nc) rfl (fun w' hw=>(g1.b.chg hw id).cell (o:=0) rfl) ?_;(repeat' (first|refine aa3 ?_|refine aW rfl rfl ?_));refine bQ O1 (fun w' hw=>hw.keep) rfl rfl (by omega) hz fun b o cs hl hR hat=>?_;obtain rfl:cs=nbC z:=hR;(repeat' (first|refine aW rfl rfl ?_|refine aa6 ?_));refine au (u:=vs z.bn.path) rfl (fun w' hw=>(hat w' hw).get 0 rfl) ?_;clear hat;(repeat' (refine aW rfl rfl ?_));refine kC rfl rfl (fun hlt=>?_) (fun hlt=>?_)
    ·(repeat' (first|refine af ?_|refine aW rfl rfl ?_|refine aa9 ?_|refine yO ?_));intro w2 n2;refine qq6 ?_;exact ax (k+1,some m) (sl rfl) (hok (some m) w2 n2 hsm (if_pos ⟨hst',fun q e=>by cases e;rw [tH hz];exact hlt⟩)) (by dsimp only;omega)
    ·(repeat' (first|refine af ?_|refine aW rfl rfl ?_|refine aa9 ?_|refine yO ?_));intro w2 n2;refine qq2 ?_;exact ax (k+1,some j) (sl rfl) (hok (some j) w2 n2 hbl (if_neg fun e=>hlt (by have:=e.2 j rfl;rw [tH hz] at this;exact this))) (by dsimp only;omega)
 ·obtain rfl:k=bn.wants.length:=by omega
  rw [aoG,rJ] at hgo;exact ak rfl rfl ⟨_,rfl,(congrArg (fun o=>vi (pU o)) hgo).symm,n1⟩
end
abbrev rwC (r:Nat×Option Nat×Int):List Value:=[.int .u8 r.1,vi (pU r.2.1),vi r.2.2]
section
variable {Pb:Nat->Prop} {bw bm:Nat} {N:List Nb} {ord:List Nat} {fl:List (Nm×Int)} {nv ov:Value} {W W':World}
theorem XP {i:Nat} (g:WkM Pb bw bm N ord fl nv ov W) (hi:i<N.length):
 Calls prog 69 #[pT bw,vi i] W (Ret fun r w'=>r=.agg (rwC (rowOf (bnF N) (stF N) i)).toArray/\New W w'):=by
 have hnl:=g.nl;obtain ⟨na,nc,rfl,_,_⟩:=g.nd.row.form;have hrd:=g.nd.row.rd (nS nbC);obtain ⟨x,hx⟩:=nT N hi;unfold rowOf;rw [tH hx,yw hx];refine nM func69 rfl ntmps69 rfl ?_;refine qq4 ?_;refine Wl.alloc fun w1 b4 n1 s1=>?_;replace b4:Bk w1 W.heap.size 92 [.int .u8 0,vi 0,vi 0]:=b4;have g1:=g.new n1;refine qq2 ?_;refine ah (u:=.slice na N.length nc) rfl (g1.b.cell (o:=0) rfl) ?_;(repeat' (refine aa1 ?_));refine aK (hrd.keep (oH nbC) n1.keep) rfl rfl (by omega) hx fun b o cs hl hR hat=>?_;obtain rfl:cs=nbC x:=hR;refine aS hat rfl rfl ?_;clear hat;refine Wl.alloc fun w2 b5 n2 s2=>?_;refine aH (new:=nbC x) b5 rfl rfl rfl rfl zl9 (XM x) fun w3 b5' c3 s3=>?_;replace b5':Bk w3 w1.heap.size 130 (nbC x):=b5';have n13:New w1 w3:=(Chg.trans n2.any c3 i3).tN
 clear b5 n2 c3;refine qq2 ?_;refine aS (cs:=[.int .u8 x.bn.reason,vi (pU x.bn.card),vi x.bn.why]) (o:=0+3) (fun j u hu=>b5'.cell (o:=0+3+j) (by rw [show 0+3+j=j+3 by omega];match j,hu with|0,h=>exact h|1,h=>exact h|2,h=>exact h|j+3,h=>cases h)) rfl rfl ?_;refine Wl.alloc fun w4 b6 n4 s4=>?_;refine aH (new:=[.int .u8 x.bn.reason,vi (pU x.bn.card),vi x.bn.why]) b6 rfl rfl rfl rfl zl3 (by intro c hc;simp at hc;rcases hc with rfl|rfl|rfl<;>rfl) fun w5 b6' c5 s5=>?_;replace b6':Bk w5 w3.heap.size 92 [.int .u8 x.bn.reason,vi (pU x.bn.card),vi x.bn.why]:=b6';have n35:New w3 w5:=(Chg.trans n4.any c5 i3).tN
 clear b6 n4 c5;have n15:=New.trans n13 n35;have b45:=b4.chg n15 id;have b55:=b5'.chg n35 id;have n05:=New.trans n1 n15;have z1:=n1.size;have z13:=n13.size;have hb4:=b4.lt;have hb5:=b5'.lt;clear b4 b5' n13 n35 n15 g1;(repeat' (first|refine ai ?_|refine aP ?_));refine eP (fun F w6=>agrees F [(4,pT W.heap.size),(6,pT w3.heap.size)]/\Bk w6 W.heap.size 92 [.int .u8 0,vi 0,vi 0]/\Bk w6 w3.heap.size 92 (rwC (if x.bn.reason≠0∨x.st=1 then (x.bn.reason,x.bn.card,x.bn.why) else if x.st=2 then (7,x.bn.card,x.bn.why) else (8,x.bn.card,match sH (bnF N) (stF N) i with|some k=>(k:Int)|none=> -1)))/\New W w6) ?_ ?_
 ·(repeat' (first|refine aN ?_|refine aQ ?_|refine Wc.block ?_|refine aa5 ?_));refine ah (u:=.int .u8 x.bn.reason) rfl (b6'.cell (o:=0) rfl) ?_;(repeat' (first|refine aa1 ?_|refine aa7 ?_|refine ai ?_|refine aO rfl rfl ?_|refine dH rfl rfl ?_|refine dK rfl (by conv=>{lhs;whnf}) ?_|refine aP ?_|refine Wc.skip ?_|refine dL ?_|refine bF rfl ?_|refine aa5 ?_|refine aa4 (fun _=>?_) (fun _=>?_)))
  ·have hr:x.bn.reason≠0:=by omega
   exact bT ⟨⟨rfl,rfl,trivial⟩,b45,by rw [if_pos (.inl hr)];exact b6',n05⟩
  ·have hr:x.bn.reason=0:=by omega
   refine ah (u:=.bool (x.st == 1)) rfl (b55.cell (o:=7) rfl) ?_;cases hs1:(x.st == 1) with
   |true=>(repeat' (first|refine aa7 ?_|refine ai ?_|refine xO ?_|refine aP ?_|refine Wc.skip ?_|refine dL ?_|refine bF rfl ?_));exact bT ⟨⟨rfl,rfl,trivial⟩,b45,by rw [if_pos (.inr (by simpa using hs1))];exact b6',n05⟩
   |false=>
    have hs1':x.st≠1:=by simpa using hs1
    rw [if_neg (fun e=>e.elim (fun e=>e hr) hs1')];(repeat' (first|refine aa7 ?_|refine ai ?_|refine xO ?_|refine aP ?_|refine aN ?_|refine aQ ?_|refine dm rfl ?_|refine aa5 ?_));refine ah (u:=.bool (x.st == 2)) rfl (b55.cell (o:=8) rfl) ?_;cases hs2:(x.st == 2) with
    |true=>rw [if_pos (by simpa using hs2)];(repeat' (first|refine aa7 ?_|refine ai ?_|refine aP ?_|refine aQ ?_|refine bF rfl ?_|refine aa5 ?_));refine aJ (u:=.int .u8 7) b6' rfl (show (0:Nat)<3 by omega) rfl rfl fun w7 b7 c7=>?_;refine qq9 ?_;exact bT ⟨⟨rfl,rfl,trivial⟩,b45.chg c7 (fun e=>by omega),b7,(Chg.trans n05.any c7 i3).tN⟩
    |false=>rw [if_neg (by simpa using hs2)];refine qq9 ?_;refine aj (Dv (g.new n05) hi) rfl ?_;rintro _ w7 ⟨rfl,n7⟩;(repeat' (refine aa5 ?_));refine aJ (u:=.int .u8 8) (b6'.chg n7 id) rfl (show (0:Nat)<3 by omega) rfl rfl fun w8 b8 c8=>?_;(repeat' (refine aa5 ?_));refine aJ (u:=vi (pU (sH (bnF N) (stF N) i))) b8 rfl (show (2:Nat)<3 by omega) rfl rfl fun w9 b9 c9=>?_;have c79:Chg (fun k=>k=w3.heap.size) w7 w9:=Chg.trans c8 c9 i3;refine qq9 ?_;refine bT ⟨⟨rfl,rfl,trivial⟩,(b45.chg n7 id).chg c79 (fun e=>by omega),?_,(Chg.trans (New.trans n05 n7).any c79 i3).tN⟩;cases hw:sH (bnF N) (stF N) i<;>(rw [hw] at b9;exact b9)
 ·rintro F w6 ⟨hF,h4,h6,n6⟩;rw [<-oV hF];simp only [pq];clear hF;refine qq4 ?_;refine bK h6 rfl rfl ?_;refine aH (new:=rwC _) h4 rfl rfl rfl rfl zl3 (by intro c hc;simp at hc;rcases hc with rfl|rfl|rfl<;>rfl) fun w7 h4' c7 s7=>?_;refine qq7 ?_;exact jW (hu:=⟨underlying92⟩) (sz:=3) rfl rfl rfl h4' rfl rfl ⟨_,rfl,rfl,(Chg.trans n6.any c7 i3).tN⟩
end
section
variable {P:Program} {n:Nat} {ds:List Deferred} {C:World->Prop} {K:Fr->Prop} {F:Fr} {ops rest:List Oper} {d:Nat} {ty:TypeId} {pos:String} {aft:Array Edge}
theorem kD {x i:Operand} {t k e:TypeId} {sz bytes:Nat} {agg:Bool} {z:Value} {b:Nat} {l:List (Value×Value)} {key:Value} {q:Lit} [ht:Und P t (.map k e)] [he:ElT P e sz bytes agg z] (Kd:Maps.Keyed P k) (hC: ∀w',C w'->ru P k w' b l) (hu: ∀r r',(key,r)∈l->(key,r')∈l->r=r') (hq:keyOf P k key=some q)
 (hx:ev n F x=.map (some b)) (hi:ev n F i=key) (c1: ∀r,(key,r)∈l->Wq P n ds C K ops rest (upd F d r)) (c2:(∀p∈l,p.1≠key)->Wq P n ds C K ops rest (upd F d z)):
 Wq P n ds C K ops (⟨some d,.lookup t x i false,ty,pos,aft,none⟩::rest) F:=by
 by_cases hin: ∃r,(key,r)∈l
 ·obtain ⟨u0,hin⟩:=hin;refine Wq.val (v:=u0) (fun w hw=>?_) (c1 u0 hin);obtain ⟨r,hr,hp|⟨_,hp⟩⟩:=zG ht.h he Kd (hC w hw) hq
  ·rw [hu _ _ hp hin] at hr;simp only [execOp,hx,hi,Sem.run_bind,hr,Result.andThen_ok,Sem.run_pure]
  ·exact absurd rfl (hp _ hin)
 ·have hno: ∀p∈l,p.1≠key:=fun p hp e=>hin ⟨p.2,e▸hp⟩;refine Wq.val (v:=z) (fun w hw=>?_) (c2 hno);obtain ⟨r,hr,hp|⟨rfl,hp⟩⟩:=zG ht.h he Kd (hC w hw) hq
  ·exact absurd rfl (hno _ hp)
  ·simp only [execOp,hx,hi,Sem.run_bind,hr,Result.andThen_ok,Sem.run_pure]
end
section
variable {β γ:Type} {f:β->List Value} {g:β->Value} {xs:β->List γ} {h:γ->Value} {te e sz:Nat} {Pb:Nat->Prop} {w w':World} {v:Value} {bs:List β}
theorem Wk.LLs.put (H:LLs f g xs h te e sz Pb w v bs) {i:Nat} {b b':β} (hi:bs[i]? =some b) (hg:g b'=g b) (hx:xs b'=xs b) (hr:nP (flat f) te sz Pb (fun _=>False) w' v (bs.set i b')) (c:Chg (fun k=>v.ownBlock=some k) w w'):LLs f g xs h te e sz Pb w' v (bs.set i b'):=
 H.set hi (w1:=w) (by rw [hg,hx];exact H.el b (aop hi)) (ay _ _) (.inl (by rw [hg])) hr c
end
def flF (L:List (Nm×Int)) (s:Nm):Bool:=L.any fun p=>decide (p.1=s/\0<p.2)
theorem G9: ∀ {L:List (Nm×Int)},(L.map (·.1)).Nodup-> ∀ {s:Nm} {a b:Int},(s,a)∈L->(s,b)∈L->a=b
 | [],_,s,a,b,h,_=>by cases h
 |p::r,hn,s,a,b,h1,h2=>by
  rw [acd,List.nodup_cons] at hn;rcases List.mem_cons.1 h1 with e1|h1<;>rcases List.mem_cons.1 h2 with e2|h2
  ·rw [<-e1] at e2;cases e2;rfl
  ·exact absurd (List.mem_map.2 ⟨_,h2,by rw [<-e1]⟩) hn.1
  ·exact absurd (List.mem_map.2 ⟨_,h1,by rw [<-e2]⟩) hn.1
  ·exact G9 hn.2 h1 h2
theorem TY {L:List (Nm×Int)} (hn:(L.map (·.1)).Nodup) {s:Nm} {c:Int} (h:(s,c)∈L):flF L s=decide (0<c):=by
 unfold flF;by_cases hc:0<c
 ·rw [decide_eq_true hc];exact List.any_eq_true.2 ⟨_,h,decide_eq_true ⟨rfl,hc⟩⟩
 ·rw [decide_eq_false hc];refine List.any_eq_false.2 fun p hp e=>?_;have e:=of_decide_eq_true e;obtain ⟨ps,pc⟩:=p;obtain rfl:ps=s:=e.1;rw [G9 hn h hp] at hc;exact hc e.2
theorem abm {L:List (Nm×Int)} {s:Nm} (h: ∀p∈L,p.1≠s):flF L s=false:=
 List.any_eq_false.2 fun p hp e=>h p hp (of_decide_eq_true e).1
section
variable {Pb:Nat->Prop} {bw bm:Nat} {N:List Nb} {ord:List Nat} {fl:List (Nm×Int)} {nv ov:Value} {W W':World}
theorem Zt {i s:Nat} {x:Nb} (hx:N[i]? =some x):bnF (N.set i {x with st:=s})=bnF N:=by
 funext k;unfold bnF;rw [an7,an7,anO];by_cases e:i=k
 ·subst e;rw [if_pos rfl,if_pos (List.getElem?_eq_some_iff.1 hx).1,hx];rfl
 ·rw [if_neg e]
theorem Zu {i s:Nat} {x:Nb} (hx:N[i]? =some x):stF (N.set i {x with st:=s})=fun k=>if k=i then s else stF N k:=by
 funext k;unfold stF;rw [an7,an7,anO];by_cases e:i=k
 ·subst e;rw [if_pos rfl,if_pos (List.getElem?_eq_some_iff.1 hx).1,if_pos rfl];rfl
 ·rw [if_neg e,if_neg (fun h=>e h.symm)]
theorem WkM.chg {M:Nat->Prop} (g:WkM Pb bw bm N ord fl nv ov W) (c:Chg M W W') (h: ∀k,Pb k-> ¬M k):WkM Pb bw bm N ord fl nv ov W':=
 ⟨g.b.chg c (h bw g.lo2.1),g.nd.chg c h,g.od.chg (nO _) c fun k hk=>h k (g.od.lt hk).1,g.mp.chg c (h bm g.lo2.2),g.so,g.win,g.nl,g.fn,g.lo2⟩
theorem WkM.mono {Pb':Nat->Prop} (g:WkM Pb bw bm N ord fl nv ov W) (h: ∀b,b<W.heap.size->Pb b->Pb' b):WkM Pb' bw bm N ord fl nv ov W:=
 ⟨g.b,g.nd.mono h,g.od.mono (nV _) h i3,g.mp,g.so,g.win,g.nl,g.fn,⟨h _ g.b.lt g.lo2.1,h _ g.mp.lt g.lo2.2⟩⟩
theorem WkM.put (g:WkM Pb bw bm N ord fl nv ov W) {i s:Nat} {x:Nb} (hx:N[i]? =some x) (hr:nP (flat nbC) 130 9 Pb NoB W' nv (N.set i {x with st:=s})) (c:Chg (fun k=>nv.ownBlock=some k) W W'):WkM Pb bw bm (N.set i {x with st:=s}) ord fl nv ov W':=by
 have hm: ∀y∈N.set i {x with st:=s}, ∃z∈N,y.bn=z.bn/\y.wv=z.wv:=fun y hy=>by
  rcases apZ hy with hy|rfl
  ·exact ⟨y,hy,rfl,rfl⟩
  ·exact ⟨x,aop hx,rfl,rfl⟩
 refine ⟨g.b.chg c fun e=>g.nd.row.oM g.b rfl e rfl,g.nd.put hx rfl rfl hr c,g.od.chg (nO _) c fun k hk e=>g.od.sV g.nd.row rfl k hk e,g.mp.chg c (fun e=>g.nd.row.qQ g.mp e rfl),fun y hy=>?_,fun y hy k hk=>?_,by rw [apn];exact g.nl,⟨g.fn.1,fun y hy=>?_⟩,g.lo2⟩
 ·obtain ⟨z,hz,_,e⟩:=hm y hy;rw [e];exact g.so z hz
 ·obtain ⟨z,hz,e,_⟩:=hm y hy;rw [e] at hk;rw [apn];exact g.win z hz k hk
 ·obtain ⟨z,hz,e,_⟩:=hm y hy;rw [e];exact g.fn.2 z hz
def O8 (Pb:Nat->Prop) (bw bm:Nat) (N:List Nb) (ord:List Nat) (fl:List (Nm×Int)) (nv ov:Value) (i:Nat) (w w':World):Prop:=
 ∃N',WkM Pb bw bm N' ord fl nv ov w'/\N'.length=N.length/\bnF N'=bnF N/\stF N'=(rF (bnF N) (flF fl) (stF N) i).getD (stF N)/\Chg (fun k=>nv.ownBlock=some k) w w'
theorem Vl {i:Nat} (g:WkM Pb bw bm N ord fl nv ov W) (hi:i<N.length) (hst:stF N i<=2):
 Calls prog 67 #[pT bw,vi i] W (Ret fun r w'=>r=.bool (rF (bnF N) (flF fl) (stF N) i).isSome/\O8 Pb bw bm N ord fl nv ov i W w'):=by
 have hnl:=g.nl;obtain ⟨x,hx⟩:=nT N hi;have hxN:=aop hx;have hne0:N≠ []:=by intro e;rw [e] at hi;simp at hi
 obtain ⟨ng,nc,rfl,aiE,aiF,aiG⟩:=g.nd.row.blk hne0;have hbx:=tH hx;have hsx:=yw hx;rw [hsx] at hst;have hpl:=g.fn.2 x hxN;have hno: ∀w',New W w'->rF (bnF N) (flF fl) (stF N) i=none->(Value.bool false=.bool (rF (bnF N) (flF fl) (stF N) i).isSome/\O8 Pb bw bm N ord fl (.slice (some ⟨ng,0,none⟩) N.length nc) ov i W w'):=fun w' n e=>by rw [e];exact ⟨rfl,N,g.new n,rfl,rfl,by rw [e];rfl,n.any⟩
 have Zv: ∀w',New W w'->At w' ng (0+(i:Int).toNat*9) (nbC x):=fun w' n=>by rw [ace,ant];exact (g.new n).nd.row.at rfl rfl hx
 have hlk:rF (bnF N) (flF fl) (stF N) i=if x.bn.reason=0/\x.st=0/\sH (bnF N) (stF N) i=none then some (fun k=>if k=i then (if x.bn.device&&flF fl x.bn.path then 2 else 1) else stF N k) else none:=by unfold rF;rw [hbx,hsx]
 refine nM func67 rfl ntmps67 rfl ?_;refine qq2 ?_;refine ah (u:=.slice (some ⟨ng,0,none⟩) N.length nc) rfl (g.b.cell (o:=0) rfl) ?_;(repeat' (refine aa1 ?_));refine dB rfl rfl (by omega) (by omega) ?_;refine qq2 ?_;refine ah (u:=.int .u8 x.bn.reason) rfl ((Zv W (ay _ _)).get 3 rfl) ?_;(repeat' (first|refine qq2 ?_|refine aa4 (fun _=>?_) (fun _=>?_)))
 ·have hr:x.bn.reason≠0:=by omega
  obtain ⟨h1,h2⟩:=hno W (ay _ _) (by rw [hlk,if_neg (fun e=>hr e.1)]);exact ak rfl rfl ⟨_,rfl,h1,h2⟩
 have hr:x.bn.reason=0:=by omega
 refine ah (u:=.bool (x.st == 1)) rfl ((Zv W (ay _ _)).get 7 rfl) ?_;cases hs1:(x.st == 1) with
 |true=>
  have hs1':x.st=1:=by simpa using hs1
  obtain ⟨h1,h2⟩:=hno W (ay _ _) (by rw [hlk,if_neg (fun e=>by have:=e.2.1;omega)]);refine qq3 ?_;exact ak rfl rfl ⟨_,rfl,h1,h2⟩
 |false=>
 have hs1':x.st≠1:=by simpa using hs1
 refine qq2 ?_;refine ah (u:=.bool (x.st == 2)) rfl ((Zv W (ay _ _)).get 8 rfl) ?_;cases hs2:(x.st == 2) with
 |true=>
  have hs2':x.st=2:=by simpa using hs2
  obtain ⟨h1,h2⟩:=hno W (ay _ _) (by rw [hlk,if_neg (fun e=>by have:=e.2.1;omega)]);refine qq3 ?_;exact ak rfl rfl ⟨_,rfl,h1,h2⟩
 |false=>
 have hs2':x.st≠2:=by simpa using hs2
 have hs0:x.st=0:=by omega
 refine qq5 ?_;refine aj (Dv g hi) rfl ?_;rintro _ w1 ⟨rfl,n1⟩;cases hw:sH (bnF N) (stF N) i with
 |some k=>rw [show pU (some k)=(k:Int) from rfl];obtain ⟨h1,h2⟩:=hno w1 n1 (by rw [hlk,if_neg (fun e=>by rw [hw] at e;cases e.2.2)]);(repeat' (first|refine qq2 ?_|(refine aU rfl rfl (fun _=>?_) (fun _=>?_)<;>(first|(exfalso;omega)|skip))));exact ak rfl rfl ⟨_,rfl,h1,h2⟩
 |none=>
 rw [show pU none= -1 from rfl];rw [if_pos ⟨hr,hs0,hw⟩] at hlk;clear hno;have g1:=g.new n1;obtain ⟨q,hq⟩:=L9 (s:=x.bn.path) (by omega);(repeat' (first|refine ai ?_|refine aO rfl rfl ?_|refine xO ?_|refine aP ?_|refine Wc.skip ?_|refine dm rfl ?_|(refine aU rfl rfl (fun _=>?_) (fun _=>?_)<;>(first|(exfalso;omega)|skip))));refine eP (fun F w3=> ∃fb:Bool,agrees F [(0,pT bw),(1,vi i),(5,.pointer (some ⟨ng,i*9,none⟩))]/\fb=(x.bn.device&&flF fl x.bn.path)/\WkM Pb bw bm (N.set i {x with st:=if fb=true then 2 else 0}) ord fl (.slice (some ⟨ng,0,none⟩) N.length nc) ov w3/\Chg (fun k=>(Value.slice (some (⟨ng,0,none⟩:Addr)) N.length nc).ownBlock=some k) W w3) ?_ ?_
 ·refine aV rfl (by kernel_rfl) (fun w'=>New w1 w') (Chg.drew _ _) ?_;intro w2 n2;have adH: ∀w',New w1 w'->At w' ng (0+(i:Int).toNat*9) (nbC x):=fun w' n=>Zv w' (New.trans n1 n);refine rX ?_;refine aa0 (au (u:=.bool x.bn.device) rfl (fun w' hw=>(adH w' hw).get 1 rfl) (af ?_));cases hd:x.bn.device with
  |false=>(repeat' (first|refine rX ?_|refine fV rfl rfl (by assumption) ?_));refine Wt.last rfl (dX (f:=nbC) (sz:=9) (p:=x) (q:={x with st:=if false=true then 2 else 0}) (j:=i) (o:=8) (cap:=nc) (u:=.bool false) (fun _=>rfl) (show (8:Nat)<9 by omega) rfl hx (by rw [show nbC x=[vs x.bn.path,.bool x.bn.device,.int .u8 x.bn.level,.int .u8 x.bn.reason,vi (pU x.bn.card),vi x.bn.why,svV x.wv,.bool (x.st == 1),.bool (x.st == 2)] from rfl,hs1];rfl) (g1.new n2).nd.row rfl (by show Value.pointer (some ⟨ng,0+(i:Int).toNat*9+6+2,none⟩)=_;rw [ace,ant]) rfl fun w3 o3 c3=>?_);exact ai (bT ⟨false,⟨rfl,rfl,by show Value.pointer (some ⟨ng,0+(i:Int).toNat*9,none⟩)=_;rw [ace,ant],trivial⟩,by rw [Bool.false_and],(g1.new n2).put hx o3 c3,Chg.trans (New.trans n1 n2).any c3 i3⟩)
  |true=>
   refine rX ?_;refine aa0 (au (u:=.map (some bm)) rfl (fun w' hw=>(g1.b.chg hw id).cell (o:=2) rfl) (af ?_));refine rX ?_;refine aa0 (au (u:=vs x.bn.path) rfl (fun w' hw=>(adH w' hw).get 0 rfl) (af ?_));(repeat' (refine bG rfl rfl ?_));refine aa0 (kD (Maps.string_keyed underlying9) (fun w' hw=>g1.mp.chg hw id) (fun r r' h1 h2=>?_) hq rfl rfl (fun r hr2=>af ?_) (fun hr2=>af ?_))
   ·obtain ⟨⟨a,b⟩,hm,e⟩:=List.mem_map.1 h1;obtain ⟨⟨a',b'⟩,hm',e'⟩:=List.mem_map.1 h2;simp only [Prod.mk.injEq] at e e';obtain ⟨e1,rfl⟩:=e;obtain ⟨e1',rfl⟩:=e';obtain rfl:=xk e1;obtain rfl:=xk e1';rw [G9 g.fn.1 hm hm']
   ·obtain ⟨⟨s',c⟩,hm,e⟩:=List.mem_map.1 hr2;simp only [Prod.mk.injEq] at e;obtain ⟨e1,rfl⟩:=e;obtain rfl:=xk e1;have hf:=TY g.fn.1 hm;by_cases hc:0<c
    ·rw [decide_eq_true hc] at hf;(repeat' (first|refine bG rfl rfl ?_|refine aa0 (aa9 (af ?_))|refine aa0 (dA rfl (af ?_))|refine aa0 (aa6 (af ?_))|(refine aa0 (fQ rfl rfl (fun _=>af ?_) (fun _=>af ?_))<;>(first|(exfalso;omega)|skip))));refine Wt.last rfl (dX (f:=nbC) (sz:=9) (p:=x) (q:={x with st:=if true=true then 2 else 0}) (j:=i) (o:=8) (cap:=nc) (u:=.bool true) (fun _=>rfl) (show (8:Nat)<9 by omega) rfl hx (by rw [show nbC x=[vs x.bn.path,.bool x.bn.device,.int .u8 x.bn.level,.int .u8 x.bn.reason,vi (pU x.bn.card),vi x.bn.why,svV x.wv,.bool (x.st == 1),.bool (x.st == 2)] from rfl,hs1];rfl) (g1.new n2).nd.row rfl (by show Value.pointer (some ⟨ng,0+(i:Int).toNat*9+6+2,none⟩)=_;rw [ace,ant]) rfl fun w3 o3 c3=>?_);exact ai (bT ⟨true,⟨rfl,rfl,by show Value.pointer (some ⟨ng,0+(i:Int).toNat*9,none⟩)=_;rw [ace,ant],trivial⟩,by rw [hf];rfl,(g1.new n2).put hx o3 c3,Chg.trans (New.trans n1 n2).any c3 i3⟩)
    ·rw [decide_eq_false hc] at hf;(repeat' (first|refine bG rfl rfl ?_|refine aa0 (aa9 (af ?_))|refine aa0 (dA rfl (af ?_))|refine aa0 (aa6 (af ?_))|(refine aa0 (fQ rfl rfl (fun _=>af ?_) (fun _=>af ?_))<;>(first|(exfalso;omega)|skip))));refine Wt.last rfl (dX (f:=nbC) (sz:=9) (p:=x) (q:={x with st:=if false=true then 2 else 0}) (j:=i) (o:=8) (cap:=nc) (u:=.bool false) (fun _=>rfl) (show (8:Nat)<9 by omega) rfl hx (by rw [show nbC x=[vs x.bn.path,.bool x.bn.device,.int .u8 x.bn.level,.int .u8 x.bn.reason,vi (pU x.bn.card),vi x.bn.why,svV x.wv,.bool (x.st == 1),.bool (x.st == 2)] from rfl,hs1];rfl) (g1.new n2).nd.row rfl (by show Value.pointer (some ⟨ng,0+(i:Int).toNat*9+6+2,none⟩)=_;rw [ace,ant]) rfl fun w3 o3 c3=>?_);exact ai (bT ⟨false,⟨rfl,rfl,by show Value.pointer (some ⟨ng,0+(i:Int).toNat*9,none⟩)=_;rw [ace,ant],trivial⟩,by rw [hf];rfl,(g1.new n2).put hx o3 c3,Chg.trans (New.trans n1 n2).any c3 i3⟩)
   ·have hf:flF fl x.bn.path=false:=abm fun p hp e=>hr2 (vs p.1,vi p.2) (List.mem_map.2 ⟨p,hp,rfl⟩) (by rw [e]);(repeat' (first|refine bG rfl rfl ?_|refine aa0 (aa9 (af ?_))|refine aa0 (dA rfl (af ?_))|refine aa0 (aa6 (af ?_))|(refine aa0 (fQ rfl rfl (fun _=>af ?_) (fun _=>af ?_))<;>(first|(exfalso;omega)|skip))));refine Wt.last rfl (dX (f:=nbC) (sz:=9) (p:=x) (q:={x with st:=if false=true then 2 else 0}) (j:=i) (o:=8) (cap:=nc) (u:=.bool false) (fun _=>rfl) (show (8:Nat)<9 by omega) rfl hx (by rw [show nbC x=[vs x.bn.path,.bool x.bn.device,.int .u8 x.bn.level,.int .u8 x.bn.reason,vi (pU x.bn.card),vi x.bn.why,svV x.wv,.bool (x.st == 1),.bool (x.st == 2)] from rfl,hs1];rfl) (g1.new n2).nd.row rfl (by show Value.pointer (some ⟨ng,0+(i:Int).toNat*9+6+2,none⟩)=_;rw [ace,ant]) rfl fun w3 o3 c3=>?_);exact ai (bT ⟨false,⟨rfl,rfl,by show Value.pointer (some ⟨ng,0+(i:Int).toNat*9,none⟩)=_;rw [ace,ant],trivial⟩,by rw [hf];rfl,(g1.new n2).put hx o3 c3,Chg.trans (New.trans n1 n2).any c3 i3⟩)
 ·rintro F w3 ⟨fb,hF,hfb,g3,c3⟩;rw [<-oV hF];simp only [pq];clear hF;have hil:=(List.getElem?_eq_some_iff.1 hx).1;have hx':(N.set i {x with st:=if fb=true then 2 else 0})[i]? =some {x with st:=if fb=true then 2 else 0}:=by rw [anO,if_pos rfl,if_pos hil]
  have hset: ∀y:Nb,(N.set i {x with st:=if fb=true then 2 else 0}).set i y=N.set i y:=fun y=>List.set_set ..;have hat:At w3 ng (i*9) (nbC {x with st:=if fb=true then 2 else 0}):=g3.nd.row.at rfl rfl hx';have hfs:((if fb=true then 2 else 0) == 2)=fb:=by cases fb<;>rfl
  have hlen':(N.set i {x with st:=if fb=true then 2 else 0}).length=N.length:=by rw [apn]
  refine qq2 ?_;refine ah (u:=.bool fb) rfl (by have:=hat.get 8 rfl;rw [hfs] at this;exact this) ?_;refine qq2 ?_;refine dX (f:=nbC) (sz:=9) (p:={x with st:=if fb=true then 2 else 0}) (q:={x with st:=if fb=true then 2 else 1}) (j:=i) (o:=7) (cap:=nc) (u:=.bool (!fb)) (fun _=>rfl) (show (7:Nat)<9 by omega) rfl hx' (by cases fb<;>rfl) g3.nd.row (by rw [hlen']) rfl rfl fun w4 o4 c4=>?_;refine qq4 ?_;have g4:=g3.put hx' (s:=if fb=true then 2 else 1) o4 c4;rw [hset] at g4;refine ak rfl rfl ⟨_,rfl,by rw [hlk];rfl,N.set i {x with st:=if fb=true then 2 else 1},g4,by rw [apn],Zt hx,?_,Chg.trans c3 c4 i3⟩;rw [Zu hx,hlk,ao0,hfb]
end
theorem abn:qH (flat rwC) 3:=qA _ (fun _=>rfl) fun x c hc=>by simp at hc;rcases hc with rfl|rfl|rfl<;>rfl
abbrev Rws:Type:=Nat×Option Nat×Int
def rowsOf (N:Nat->Bn) (S:Nat->Nat) (n:Nat):List Rws:=(ab8 n).map (rowOf N S)
theorem I9 (n:Nat):ab8 (n+1)=ab8 n++ [n]:=apQ
section
variable {Pb:Nat->Prop} {bw bm:Nat} {N:List Nb} {ord:List Nat} {fl:List (Nm×Int)} {nv ov:Value} {W W':World}
theorem Vm (g:WkM Pb bw bm N ord fl nv ov W):
 Calls prog 42 #[pT bw] W (Ret fun r w'=>nP (flat rwC) 92 3 (fun b=>W.heap.size<=b) NoB w' r (rowsOf (bnF N) (stF N) N.length)/\New W w'):=by
 have hnl:=g.nl;obtain ⟨na,nc,rfl,_,_⟩:=g.nd.row.form;refine nM func42 rfl ntmps42 rfl ?_;refine qq4 ?_;refine fG rfl rfl ?_;refine qq2 ?_;refine ah (u:=.slice na N.length nc) rfl (g.b.cell (o:=0) rfl) ?_;refine qq4 ?_;refine aA (σ:=Nat×Value) (fun q=>[(0,pT bw),(3,q.2),(11,vi N.length),(12,vi q.1)]) (fun q w'=>q.1<=N.length/\nP (flat rwC) 92 3 (fun b=>W.heap.size<=b) NoB w' q.2 (rowsOf (bnF N) (stF N) q.1)/\New W w') (fun q=>N.length-q.1) (0,.slice none 0 0) (sl rfl) ⟨anq _,aI,ay _ _⟩ ?_;rintro ⟨k,rv⟩ G w1 ⟨hk,own,n1⟩;dsimp only at hk own n1;simp only [pq];have hrl:(rowsOf (bnF N) (stF N) k).length=k:=by unfold rowsOf;rw [aoR,apP]
 obtain ⟨ra,rc,rfl,_,_⟩:=own.form;(repeat' (first|refine qq4 ?_|refine aa2 (fun _=>?_) (fun _=>?_)))
 ·refine aj (XP (g.new n1) (i:=k) (by omega)) rfl ?_;rintro _ w2 ⟨rfl,n2⟩;have n02:=New.trans n1 n2;have hz2:=n02.size;refine cu (R:=flat rwC) (y:=rowOf (bnF N) (stF N) k) abn (own.new (nK rwC) n2) rfl rfl rfl rfl rfl (by omega) (by omega) (by simp only [maxLen];omega) (by omega) rfl rfl fun v3 w3 p wU c3 lie=>?_;have hsn:rowsOf (bnF N) (stF N) k++ [rowOf (bnF N) (stF N) k]=rowsOf (bnF N) (stF N) (k+1):=by unfold rowsOf;rw [I9,aoN];rfl
  rw [hsn] at wU;refine qq6 ?_;exact ax (k+1,v3) (sl rfl) ⟨by dsimp only;omega,wU.mono (nS rwC) (fun b _ e=>by rcases e with e|e;exact e;omega) i3,(Chg.trans n02.any c3 i3).toNew fun j hj e=>by have h9:W.heap.size<=j:=(own.lt e).1;omega⟩ (by dsimp only;omega)
 ·obtain rfl:k=N.length:=by omega
  exact ak rfl rfl ⟨_,rfl,own,n1⟩
theorem O9 {N:Nat->Bn} {fl:Nm->Bool} {S:Nat->Nat} {i:Nat} (h: ∀k,S k<=2): ∀k,((rF N fl S i).getD S) k<=2:=by
 intro k;unfold rF;split
 ·dsimp only [ao0];split
  ·split<;>omega
  ·exact h k
 ·exact h k
abbrev wtC (p:Nat×Nat):List Value:=[vi p.1,vi p.2]
theorem Rq:qH (flat wtC) 2:=qA _ (fun _=>rfl) fun x c hc=>by simp at hc;rcases hc with rfl|rfl<;>rfl
theorem uh (N:Nat->Bn) (fl:Nm->Bool) (i:Nat) (r:List Nat) (S:St):oU N fl (i::r) S=if S i≠0 then oU N fl r S else match rF N fl S i with
 |some S'=>let q:=oU N fl r S';(⟨i::q.1.tried,q.1.waits⟩,q.2)
 |none=>let q:=oU N fl r S;(⟨q.1.tried,(i,(sH N S i).getD 0)::q.1.waits⟩,q.2):=by rw [oU]<;>rfl
theorem Rt (g:WkM Pb bw bm N ord fl nv ov W) (ho: ∀i∈ord,i<N.length/\(bnF N i).reason=0) (hst: ∀i,stF N i<=2) (hol:ord.length<=512):
 Calls prog 41 #[pT bw] W (Ret fun r w'=> ∃N' tv wv,r=.agg #[tv,wv]/\WkM Pb bw bm N' ord fl nv ov w'/\N'.length=N.length/\bnF N'=bnF N/\stF N'=(oU (bnF N) (flF fl) ord (stF N)).2/\nP (Wk.one viN) 3 1 (fun b=>W.heap.size<=b) NoB w' tv (oU (bnF N) (flF fl) ord (stF N)).1.tried/\nP (flat wtC) 169 2 (fun b=>W.heap.size<=b) NoB w' wv (oU (bnF N) (flF fl) ord (stF N)).1.waits/\Chg (fun k=>nv.ownBlock=some k) W w'):=by
 have hnl:=g.nl;replace g:=g.mono (Pb':=fun b=>Pb b/\b<W.heap.size) fun b hb e=>⟨e,hb⟩;obtain ⟨na,nc,rfl,_,_⟩:=g.nd.row.form;obtain ⟨oa,oc,rfl,_,_⟩:=g.od.form;have Ja: ∀k,(Value.slice na N.length nc).ownBlock=some k->k<W.heap.size:=fun k hk=>(g.nd.row.lt hk).2;refine nM func41 rfl ntmps41 rfl ?_;refine qq4 ?_;refine Wl.alloc fun w1 b2 n1 s1=>?_;replace b2:Bk w1 W.heap.size 122 [.slice none 0 0,.slice none 0 0]:=b2;refine qq2 ?_;refine Wl.alloc fun w2 b3 n2 s2=>?_;replace b3:Bk w2 w1.heap.size 122 [.slice none 0 0,.slice none 0 0]:=b3;have n02:=New.trans n1 n2;have g2:=g.new n02;replace b2:=b2.chg n2 id;refine qq2 ?_;refine ah (u:=.slice oa ord.length oc) rfl (g2.b.cell (o:=1) rfl) ?_;refine qq4 ?_;refine aA (σ:=Nat×List Nb×Value×Value×List Nat×List (Nat×Nat)) (fun q=>[(0,pT bw),(2,pT W.heap.size),(3,pT w1.heap.size),(10,.slice oa ord.length oc),(11,vi ord.length),(12,vi q.1)]) (fun q w'=>q.1<=ord.length/\WkM (fun b=>Pb b/\b<W.heap.size) bw bm q.2.1 ord fl (.slice na N.length nc) (.slice oa ord.length oc) w'/\q.2.1.length=N.length/\bnF q.2.1=bnF N/\(∀j,stF q.2.1 j<=2)/\oU (bnF N) (flF fl) ord (stF N)=(⟨q.2.2.2.2.1++(oU (bnF N) (flF fl) (ord.drop q.1) (stF q.2.1)).1.tried,q.2.2.2.2.2++(oU (bnF N) (flF fl) (ord.drop q.1) (stF q.2.1)).1.waits⟩,(oU (bnF N) (flF fl) (ord.drop q.1) (stF q.2.1)).2)/\Bk w' w1.heap.size 122 [q.2.2.1,q.2.2.2.1]/\Bk w' W.heap.size 122 [.slice none 0 0,.slice none 0 0]/\nP (Wk.one viN) 3 1 (fun b=>w2.heap.size<=b) NoB w' q.2.2.1 q.2.2.2.2.1/\nP (flat wtC) 169 2 (fun b=>w2.heap.size<=b) NoB w' q.2.2.2.1 q.2.2.2.2.2/\q.2.2.2.2.1.length+q.2.2.2.2.2.length<=q.1/\w2.heap.size<=w'.heap.size/\Chg (fun k=>(Value.slice na N.length nc).ownBlock=some k) W w') (fun q=>ord.length-q.1) (0,N,.slice none 0 0,.slice none 0 0,[],[]) (sl rfl) ⟨anq _,g2,rfl,rfl,hst,rfl,b3,b2,aI,aI,aap _,aap _,n02.any⟩ ?_;have hz1:=n1.size;have hz2:=n2.size;have abo:=b2.lt;have abp:=b3.lt;clear g2 b2 b3 n02;rintro ⟨k,N',tv,wv,T,Q⟩ G w3 ⟨hk,g3,hN,hbn,hs3,hgo,b3,b2,oT,oQ,hTQ,hz3,c3⟩;dsimp only at hk g3 hN hbn hs3 hgo b3 b2 oT oQ hTQ hz3 c3;simp only [pq];obtain ⟨ta,tc,rfl,_,_⟩:=oT.form;obtain ⟨qa,qc,rfl,_,_⟩:=oQ.form;have hod:=g3.od.rd qw.mo;have hrd:=g3.nd.row.rd (nS nbC);(repeat' (first|refine qq4 ?_|refine aa2 (fun _=>?_) (fun _=>?_)))
 ·obtain ⟨j,hj⟩:=nT ord (k:=k) (by omega);obtain ⟨hjl,hjr⟩:=ho j (aop hj);obtain ⟨x,hx⟩:=nT N' (k:=j) (by omega);have hsx:=yw hx;have hx2:=hs3 j;rw [hsx] at hx2;rw [drop_cons hj,uh,hsx] at hgo;refine aZ hod rfl rfl (by omega) hj fun b o hcell=>?_;refine ah (u:=vi j) rfl hcell ?_;refine qq2 ?_;refine ah (u:=.slice na N.length nc) rfl (g3.b.cell (o:=0) rfl) ?_;(repeat' (refine aa1 ?_));refine aK hrd rfl rfl (by omega) hx fun b o cs hl hR hat=>?_;obtain rfl:cs=nbC x:=hR;refine aS hat rfl rfl ?_;clear hat;refine Wl.alloc fun w4 b5 n4 s4=>?_;refine aH (new:=nbC x) b5 rfl rfl rfl rfl zl9 (XM x) fun w5 b5' c5 s5=>?_;replace b5':Bk w5 w3.heap.size 130 (nbC x):=b5';have n35:New w3 w5:=(Chg.trans n4.any c5 i3).tN
  clear b5 n4 c5;have g5:=g3.new n35;have b35:=b3.chg n35 id;have b25:=b2.chg n35 id;have oT5:=oT.new (nO _) n35;have oQ5:=oQ.new (nK wtC) n35;have hz5:=n35.size;have c05:=Chg.trans c3 (n35.any (M:=fun k=>(Value.slice na N.length nc).ownBlock=some k)) i3;clear g3 b3 b2 oT oQ c3 hod hrd;refine qq2 ?_;refine ah (u:=.bool (x.st == 1)) rfl (b5'.cell (o:=7) rfl) ?_;have hsame:x.st≠0->(k+1<=ord.length/\WkM (fun b=>Pb b/\b<W.heap.size) bw bm N' ord fl (.slice na N.length nc) (.slice oa ord.length oc) w5/\N'.length=N.length/\bnF N'=bnF N/\(∀j,stF N' j<=2)/\oU (bnF N) (flF fl) ord (stF N)=(⟨T++(oU (bnF N) (flF fl) (ord.drop (k+1)) (stF N')).1.tried,Q++(oU (bnF N) (flF fl) (ord.drop (k+1)) (stF N')).1.waits⟩,(oU (bnF N) (flF fl) (ord.drop (k+1)) (stF N')).2)/\Bk w5 w1.heap.size 122 [.slice ta T.length tc,.slice qa Q.length qc]/\Bk w5 W.heap.size 122 [.slice none 0 0,.slice none 0 0]/\nP (Wk.one viN) 3 1 (fun b=>w2.heap.size<=b) NoB w5 (.slice ta T.length tc) T/\nP (flat wtC) 169 2 (fun b=>w2.heap.size<=b) NoB w5 (.slice qa Q.length qc) Q/\T.length+Q.length<=k+1/\w2.heap.size<=w5.heap.size/\Chg (fun k=>(Value.slice na N.length nc).ownBlock=some k) W w5):=fun e=>by rw [if_pos e] at hgo;exact ⟨by omega,g5,hN,hbn,hs3,hgo,b35,b25,oT5,oQ5,by omega,by omega,c05⟩
  cases hs1:(x.st == 1) with
  |true=>
   have hs1':x.st=1:=by simpa using hs1
   refine qq2 ?_;exact ax (k+1,N',_,_,T,Q) (sl rfl) (hsame (by omega)) (by dsimp only;omega)
  |false=>
  have hs1':x.st≠1:=by simpa using hs1
  refine qq2 ?_;refine ah (u:=.bool (x.st == 2)) rfl (b5'.cell (o:=8) rfl) ?_;cases hs2:(x.st == 2) with
  |true=>
   have hs2':x.st=2:=by simpa using hs2
   refine qq2 ?_;exact ax (k+1,N',_,_,T,Q) (sl rfl) (hsame (by omega)) (by dsimp only;omega)
  |false=>
  have hs2':x.st≠2:=by simpa using hs2
  have hs0:x.st=0:=by omega
  clear hsame b5';rw [if_neg (fun e=>e hs0)] at hgo;refine qq2 ?_;refine aj (Vl g5 (i:=j) (by omega) (hs3 j)) rfl ?_;rintro _ w6 ⟨rfl,N2,g6,hl6,hb6,hs6,c6⟩;have adI:N2.length=N.length:=by omega
  have JC:bnF N2=bnF N:=hb6.trans hbn;have hs62: ∀q,stF N2 q<=2:=by rw [hs6];exact O9 hs3
  have hz6:=c6.size;have b36:=b35.chg c6 fun e=>by have:=Ja _ e;omega
  have b26:=b25.chg c6 fun e=>by have:=Ja _ e;omega
  have oT6:=oT5.chg (nO _) c6 fun q hq e=>by have h9:w2.heap.size<=q:=(oT5.lt hq).1;have:=Ja q e;omega
  have oQ6:=oQ5.chg (nK wtC) c6 fun q hq e=>by have h9:w2.heap.size<=q:=(oQ5.lt hq).1;have:=Ja q e;omega
  have c06:=Chg.trans c05 c6 i3;clear g5 b35 b25 oT5 oQ5 c05 c6;rw [<-hbn] at hgo;cases hlk:rF (bnF N') (flF fl) (stF N') j with
  |some S'=>rw [hlk] at hgo hs6;rw [hbn] at hgo;replace hs6:stF N2=S':=hs6;rw [<-hs6] at hgo;dsimp only at hgo;refine qq6 ?_;refine ah (u:=.slice ta T.length tc) rfl (b36.cell (o:=0) rfl) ?_;(repeat' (refine aa1 ?_));refine cu (R:=Wk.one viN) (y:=j) qw oT6 rfl rfl rfl rfl rfl (by omega) (by omega) (by simp only [maxLen];omega) (by omega) rfl rfl fun v7 w7 p o7 c7 lie=>?_;have b37:=b36.chg c7 fun e=>oT6.oM b36 rfl e rfl;have hz7:=c7.size;(repeat' (refine aa5 ?_));refine aJ (u:=v7) b37 rfl (show (0:Nat)<2 by omega) rfl (by obtain ⟨_,_,rfl,_⟩:=o7.form;rfl) fun w8 b38 c8=>?_;have hz8:=c8.size;refine qq6 ?_;refine ax (k+1,N2,v7,_,T++ [j],Q) (sl rfl) ⟨by dsimp only;omega,(g6.chg c7 fun q hq e=>by have h9:w2.heap.size<=q:=(oT6.lt e).1;have:=hq.2;omega).chg c8 fun q hq e=>(by have:=hq.2;omega),adI,JC,hs62,?_,b38,(b26.chg c7 fun e=>oT6.oM b26 rfl e rfl).chg c8 fun e=>(by omega),(o7.mono (nV _) (fun b _ e=>by rcases e with e|e;exact e;omega) i3).chg (nO _) c8 fun q hq e=>o7.oM b37 rfl hq e,(oQ6.chg (nK wtC) c7 fun q hq e=>oQ6.sV oT6 rfl q hq e).chg (nK wtC) c8 fun q hq e=>oQ6.oM b36 rfl hq e,by dsimp only;rw [am7,anM];omega,by omega,Chg.trans (Chg.trans c06 c7 fun q hq e=>by have h9:w2.heap.size<=q:=(oT6.lt e).1;omega) c8 fun q hq e=>by omega⟩ (by dsimp only;omega);dsimp only;rw [hgo];simp
  |none=>
   rw [hlk] at hgo hs6;rw [hbn] at hgo;replace hs6:stF N2=stF N':=hs6;have hwm: ∃m,sH (bnF N) (stF N') j=some m:=by
    cases hw:sH (bnF N) (stF N') j with
    |some m=>exact ⟨m,rfl⟩
    |none=>unfold rF at hlk;rw [hbn,hjr,hsx,hs0,if_pos ⟨rfl,rfl,hw⟩] at hlk;cases hlk
   obtain ⟨m,hwm⟩:=hwm;rw [hwm,ao0] at hgo;dsimp only at hgo;refine qq6 ?_;refine aV rfl (by kernel_rfl) (fun w'=>Chg (fun q=>(Value.slice qa Q.length qc).ownBlock=some q) w6 w') (Chg.drew _ _) ?_;intro w7 n7;(repeat' (refine aa0 (aa6 (af ?_))));refine aa0 (au (u:=.slice qa Q.length qc) rfl (fun w' hw=>(b36.chg hw fun e=>oQ6.oM b36 rfl e rfl).cell (o:=1) rfl) (af ?_));(repeat' (refine aa0 (aa3 (af ?_))));refine aC rfl (aj (Dv (g6.new n7) (i:=j) (by omega)) rfl ?_);rintro _ w8 ⟨rfl,n8⟩;have n68:=n7.trans n8;rw [JC,hs6,hwm,show pU (some m)=(m:Int) from rfl];refine ai ⟨rfl,n68.any,?_⟩;refine aC rfl (aX (ps:=[(0,.tmp 25),(1,.tmp 28)]) (parts:=[(0,vi j),(1,vi m)]) rfl rfl (by simp [Value.cells]) (ai ⟨rfl,n68.any,?_⟩));refine aC rfl (bC (R:=flat wtC) (Pe:=NoB) (y:=(j,m)) Rq rfl rfl rfl rfl (by omega) (by omega) fun v9 w9 o9 n9 s9 e9=>?_);have n69:=n68.trans n9;refine ai ⟨rfl,n69.any,?_⟩;refine aC rfl (bY Rq (oQ6.new (nK wtC) n69) (o9.rd Rq.mo) (fun y cs hy=>hy) rfl rfl (by omega) (by simp only [maxLen,anM];omega) (by simp only [anM];omega) fun v10 w10 o10 c10 lie _=>?_);have aiH:=n69.size;have Fq:Chg (fun q=>(Value.slice qa Q.length qc).ownBlock=some q) w6 w10:=Chg.trans n69.any c10 i3;refine ai ⟨rfl,Fq,?_⟩;have adJ:=b36.chg Fq fun e=>oQ6.oM b36 rfl e rfl;have Zd:=Fq.size;(repeat' (refine aa0 (aa6 (af ?_))));refine Wt.last rfl (aJ (u:=v10) adJ rfl (show (1:Nat)<2 by omega) rfl (by obtain ⟨_,_,rfl,_⟩:=o10.form;rfl) fun w11 aiI c11=>?_);have QT:=c11.size;refine ai ?_;refine qq6 ?_;refine ax (k+1,N2,_,v10,T,Q++ [(j,m)]) (sl rfl) ⟨by dsimp only;omega,(g6.chg Fq fun q hq e=>by have h9:w2.heap.size<=q:=(oQ6.lt e).1;have:=hq.2;omega).chg c11 fun q hq e=>(by have:=hq.2;omega),adI,JC,hs62,?_,aiI,(b26.chg Fq fun e=>oQ6.oM b26 rfl e rfl).chg c11 fun e=>(by omega),(oT6.chg (nO _) Fq fun q hq e=>oT6.sV oQ6 rfl q hq e).chg (nO _) c11 fun q hq e=>oT6.oM b36 rfl hq e,(o10.mono (nS wtC) (fun b _ e=>by rcases e with e|e;exact e;omega) i3).chg (nK wtC) c11 fun q hq e=>o10.oM adJ rfl hq e,by dsimp only;rw [am7,anM];omega,by omega,Chg.trans (Chg.trans c06 Fq fun q hq e=>by have h9:w2.heap.size<=q:=(oQ6.lt e).1;omega) c11 fun q hq e=>by omega⟩ (by dsimp only;omega);dsimp only;rw [hgo,hs6];simp
 ·obtain rfl:k=ord.length:=by omega
  rw [aoG,oU] at hgo;simp only [aoS] at hgo;refine bK b3 rfl rfl ?_;refine aH (new:=[.slice ta T.length tc,.slice qa Q.length qc]) b2 rfl rfl rfl rfl zl2 (by intro c hc;simp at hc;rcases hc with rfl|rfl<;>rfl) fun w4 b4 c4 s4=>?_;replace b4:Bk w4 W.heap.size 122 [.slice ta T.length tc,.slice qa Q.length qc]:=b4;refine qq7 ?_;refine fD (y5 (a:=.cell 2 122) rfl (qO rfl rfl b4 rfl)) ⟨_,rfl,N',.slice ta T.length tc,.slice qa Q.length qc,rfl,(g3.chg c4 fun q hq e=>by have:=hq.2;omega).mono fun b _ e=>e.1,hN,hbn,by rw [hgo],?_,?_,Chg.trans c3 c4 fun q hq e=>by omega⟩
  ·rw [hgo];exact (oT.chg (nO _) c4 fun q hq e=>oT.oM b2 rfl hq e).mono (nV _) (fun b _ e=>by have h9:w2.heap.size<=b:=e;omega) i3
  ·rw [hgo];exact (oQ.chg (nK wtC) c4 fun q hq e=>oQ.oM b2 rfl hq e).mono (nS wtC) (fun b _ e=>by have h9:w2.heap.size<=b:=e;omega) i3
end
section
variable {bw:Nat} {N:List Nb} {ov:Value} {w:World}
theorem Vo {a c b8:Nat} {na:Option Addr} {nc:Nat} {mv:Value} {Pr:Nat->Prop} (hnl:N.length<=512) (gb:Bk w bw 128 [.slice na N.length nc,ov,mv]) (hrd:RdS (flat nbC) 9 Pr w (.slice na N.length nc) N) (h8:Bk w b8 80 [pT bw]) (ha:a<N.length) (hc:c<N.length):
 Calls prog 63 #[vi a,vi c,.pointer (some ⟨b8,0,none⟩)] w (Ret fun r w'=>r=vi (qY (fun i=>(bnF N i).level) (fun i=>(bnF N i).path) a c)/\Grw w w'):=by
 obtain ⟨x,hx⟩:=nT N ha;obtain ⟨y,hy⟩:=nT N hc;have hkey:qY (fun i=>(bnF N i).level) (fun i=>(bnF N i).path) a c=orM [yK x.bn.level y.bn.level,Ec x.bn.path y.bn.path]:=by rw [<-tH hx, <-tH hy, <-Tc]
 rw [hkey];refine nM func63 rfl ntmps63 rfl ?_;refine qq4 ?_;refine gY [0,1,2,3,4,5,6,7,8,9,10,11,12,13,14,15,17,18,19,20,21,22,23,24,25,26,27,28,29,30,31,32] [16,33,34,35,36] rfl (by kernel_rfl) (by simp only [pick,apl,apm];rfl) (by simp only [pick,apl,apm];rfl) (Grw w) (Grw.drew w) ?_;refine au (u:=pT bw) rfl (fun w' hw=>(h8.chg hw.new id).cell (o:=0) rfl) ?_;(repeat' (first|refine dA rfl ?_|refine aa6 ?_));refine au (u:=.slice na N.length nc) rfl (fun w' hw=>(gb.chg hw.new id).cell (o:=0) rfl) ?_;(repeat' (refine aa3 ?_));refine bQ hrd (fun w' hw=>hw.new.keep) rfl rfl (by omega) hx fun bb off cs' hcl hR hat=>?_;obtain rfl:cs'=nbC x:=hR;(repeat' (refine aa6 ?_));refine au (u:=.int .u8 x.bn.level) rfl (fun w' hw=>(hat w' hw).get 2 rfl) ?_;clear hat;refine au (u:=pT bw) rfl (fun w' hw=>(h8.chg hw.new id).cell (o:=0) rfl) ?_;(repeat' (first|refine dA rfl ?_|refine aa6 ?_));refine au (u:=.slice na N.length nc) rfl (fun w' hw=>(gb.chg hw.new id).cell (o:=0) rfl) ?_;(repeat' (refine aa3 ?_));refine bQ hrd (fun w' hw=>hw.new.keep) rfl rfl (by omega) hy fun bb off cs' hcl hR hat=>?_;obtain rfl:cs'=nbC y:=hR;(repeat' (refine aa6 ?_));refine au (u:=.int .u8 y.bn.level) rfl (fun w' hw=>(hat w' hw).get 2 rfl) ?_;clear hat;refine au (u:=pT bw) rfl (fun w' hw=>(h8.chg hw.new id).cell (o:=0) rfl) ?_;(repeat' (first|refine dA rfl ?_|refine aa6 ?_));refine au (u:=.slice na N.length nc) rfl (fun w' hw=>(gb.chg hw.new id).cell (o:=0) rfl) ?_;(repeat' (refine aa3 ?_));refine bQ hrd (fun w' hw=>hw.new.keep) rfl rfl (by omega) hx fun bb off cs' hcl hR hat=>?_;obtain rfl:cs'=nbC x:=hR;(repeat' (refine aa6 ?_));refine au (u:=vs x.bn.path) rfl (fun w' hw=>(hat w' hw).get 0 rfl) ?_;clear hat;refine au (u:=pT bw) rfl (fun w' hw=>(h8.chg hw.new id).cell (o:=0) rfl) ?_;(repeat' (first|refine dA rfl ?_|refine aa6 ?_));refine au (u:=.slice na N.length nc) rfl (fun w' hw=>(gb.chg hw.new id).cell (o:=0) rfl) ?_;(repeat' (refine aa3 ?_));refine bQ hrd (fun w' hw=>hw.new.keep) rfl rfl (by omega) hy fun bb off cs' hcl hR hat=>?_;obtain rfl:cs'=nbC y:=hR;(repeat' (refine aa6 ?_));refine au (u:=vs y.bn.path) rfl (fun w' hw=>(hat w' hw).get 0 rfl) ?_;clear hat;(repeat' (refine af ?_));refine dI ?_;refine aj (yL (a:=x.bn.level) (b:=y.bn.level)) rfl ?_;rintro _ _ ⟨rfl,rfl⟩;refine ai ⟨rfl,Grw.drew w,?_⟩;refine dI ?_;refine aj (wS (a:=x.bn.path) (b:=y.bn.path)) rfl ?_;rintro _ _ ⟨rfl,rfl⟩;refine ai ⟨rfl,Grw.drew w,?_⟩;refine dI ?_;refine jm (us:=[yK x.bn.level y.bn.level,Ec x.bn.path y.bn.path]) rfl rfl (by simp) (by simp) fun v o own=>?_;obtain ⟨va,ac8,rfl,_,_⟩:=own.form;have hgr:Grw w (w.drew.alloc o):=(Grw.drew w).alloc o;refine ai ⟨rfl,hgr,?_⟩;refine dI ?_;refine aj (Lj (own.rd (nV _))) rfl ?_;rintro _ _ ⟨rfl,rfl⟩;refine ai ⟨rfl,hgr,?_⟩;refine Wch.last ?_;refine qq3 ?_;exact ak rfl rfl ⟨_,rfl,rfl,hgr⟩
end
structure RdG (Pb:Nat->Prop) (w:World) (g:Giv) (tv cv fv gv:Value):Prop where
 t:RdS rNd 3 Pb w tv g.tree
 c:RdS rCd 7 Pb w cv g.cards
 f:RdS (Wk.one vs) 1 Pb w fv g.fails
 g:RdS (Wk.one vs) 1 Pb w gv g.gone
theorem RdG.keep {Pb:Nat->Prop} {w w':World} {g:Giv} {tv cv fv gv:Value} (h:RdG Pb w g tv cv fv gv) (hk:Keep Pb w w') (sc:Stable rCd):RdG Pb w' g tv cv fv gv:=
 ⟨h.t.keep oh hk,h.c.keep sc hk,h.f.keep (nZ _) hk,h.g.keep (nZ _) hk⟩
noncomputable def oN (g:Giv) (i:Nat):Bn:=if i<g.tree.length then yu g i else default
def Ua (g:Giv) (lo:Nat) (r:Value) (w':World):Prop:= ∃bw bm N fl nv ov,r=.tuple #[pT bw,vi 0]/\WkM (fun b=>lo<=b) bw bm N (qh (oN g) g.tree.length) fl nv ov w'/\N.length=g.tree.length/\bnF N=oN g/\(∀i,stF N i=0)/\ ∀s,flF fl s=g.fails.contains s
def rRd:Rel Rnd:=fun Pb w r cs=> ∃tv wv,cs=[tv,wv]/\nP (Wk.one viN) 3 1 Pb NoB w tv r.tried/\nP (flat wtC) 169 2 Pb NoB w wv r.waits
theorem XQ:Stable rRd:=fun _ _ _ _ _ hk ⟨tv,wv,e,h1,h2⟩=>⟨tv,wv,e,h1.keep (nZ _) hk (fun _ e=>e.elim),h2.keep (oH wtC) hk (fun _ e=>e.elim)⟩
theorem Mc:CO rRd:=fun _ _ _ _ _ hP ⟨tv,wv,e,h1,h2⟩=>⟨tv,wv,e,h1.mono (nV _) hP i3,h2.mono (nS wtC) hP i3⟩
theorem Dw:qH rRd 2:=⟨XQ,Mc,fun Pb w x cs ⟨tv,wv,e,h1,h2⟩ _ c hc=>by
 obtain ⟨_,_,rfl,_,_⟩:=h1.form;obtain ⟨_,_,rfl,_,_⟩:=h2.form;subst e;simp at hc;rcases hc with rfl|rfl<;>rfl⟩
structure RdR (Pb:Nat->Prop) (w:World) (rw:List Rws) (rs:List Rnd) (us ds:List Ed) (a b c d:Value):Prop where
 rows:nP (flat rwC) 92 3 Pb NoB w a rw
 rounds:nP rRd 122 2 Pb Pb w b rs
 used:RdS rEd 6 Pb w c us
 drop:RdS rEd 6 Pb w d ds
def Ph (g:Giv) (lo:Nat) (r:Value) (w':World):Prop:= ∃a b c d bw bm N fl nv ov,r=.tuple #[.agg #[a,b,c,d],pT bw,vi 0]/\
 RdR (fun b=>lo<=b) w' (rowsOf (oN g) (vH (oN g) g.fails.contains g.tree.length).2 g.tree.length) (vH (oN g) g.fails.contains g.tree.length).1 (IY g.tree fun k=>(vH (oN g) g.fails.contains g.tree.length).2 k == 1).1 (IY g.tree fun k=>(vH (oN g) g.fails.contains g.tree.length).2 k == 1).2 a b c d/\
 WkM (fun b=>lo<=b) bw bm N (qh (oN g) g.tree.length) fl nv ov w'/\N.length=g.tree.length/\bnF N=oN g/\(∀i,i<g.tree.length->stF N i=(vH (oN g) g.fails.contains g.tree.length).2 i)/\ ∀s,flF fl s=g.fails.contains s
theorem Bg (N:Nat->Bn) (fl:Nm->Bool) (order:List Nat) (f:Nat) (S:St):doneGo N fl order (f+1) S=if (oU N fl order S).1.tried=[] then ((if (oU N fl order S).1.tried=[]/\(oU N fl order S).1.waits=[] then [] else [(oU N fl order S).1]),(oU N fl order S).2) else ((if (oU N fl order S).1.tried=[]/\(oU N fl order S).1.waits=[] then [] else [(oU N fl order S).1])++(doneGo N fl order f (oU N fl order S).2).1,(doneGo N fl order f (oU N fl order S).2).2):=by
 rw [doneGo]
end Go.Proofs.YtfbnfhhmiiahnaaGreatDoor
