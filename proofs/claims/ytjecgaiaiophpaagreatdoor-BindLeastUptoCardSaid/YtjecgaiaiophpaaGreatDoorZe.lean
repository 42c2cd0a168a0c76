/-
  Texts of this claim, one behind the other: E4, E5, E6, E7, E8, E9, Im, G1, L1, G2, G4, G3, G5, F0, F1, G6, I4, I5, L2, I6, G7, G8, L3.
-/
import Derived.Test.YtjecgaiaiophpaaGreatDoorZd
set_option linter.all false
set_option maxHeartbeats 16000000
set_option maxRecDepth 8000
namespace Go.Proofs.YtjecgaiaiophpaaGreatDoor
open Go Wk
open Go.RowKit (Below)
attribute [local irreducible] Go.Calls
section
variable {Pb:Nat→Prop} {bw bm:Nat} {N:List Nb} {ord:List Nat} {fl:List (Nm×Int)} {nv ov:Value} {W W':World}
theorem SX {i:Nat} (g:WkM Pb bw bm N ord fl nv ov W) (hi:i<N.length) (hst:stF N i≤2):
 Calls Tryz.prog 61 #[pT bw,vi i] W (Ret fun r w'=>r=.bool (qY (bnF N) (flF fl) (stF N) i).isSome∧NH Pb bw bm N ord fl nv ov i W w'):=by
 have hnl:=g.nl
 obtain ⟨x,hx⟩:=nV N hi
 have hxN:=List.mem_of_getElem? hx
 have hne0:N≠ []:=by intro e;rw [e] at hi;simp at hi
 obtain ⟨ng,nc,rfl,afr,afs,afu⟩:=g.nd.row.blk hne0
 have hbx:=sO hx
 have hsx:=wU hx
 rw [hsx] at hst
 have hpl:=g.fn.2 x hxN
 have hno: ∀w',New W w'→qY (bnF N) (flF fl) (stF N) i=none→(Value.bool false=.bool (qY (bnF N) (flF fl) (stF N) i).isSome∧NH Pb bw bm N ord fl (.slice (some ⟨ng,0,none⟩) N.length nc) ov i W w'):=fun w' n e=>by
  rw [e]
  exact ⟨rfl,N,g.new n,rfl,rfl,by rw [e];rfl,n.any⟩
 have Xt: ∀w',New W w'→At w' ng (0+(i:Int).toNat*9) (nbC x):=fun w' n=>by
  rw [Nat.zero_add,Int.toNat_natCast]
  exact (g.new n).nd.row.at rfl rfl hx
 have hlk:qY (bnF N) (flF fl) (stF N) i=if x.bn.reason=0∧x.st=0∧rV (bnF N) (stF N) i=none then some (fun k=>if k=i then (if x.bn.device&&flF fl x.bn.path then 2 else 1) else stF N k) else none:=by
  unfold qY
  rw [hbx,hsx]
 refine nI Tryz.func61 rfl Tryz.ntmps61 rfl ?_
 (repeat' (first|refine aa0 ?_|refine aa1 ?_|refine af ?_|refine ah ?_|refine au ?_|refine ak ?_|refine bK rfl ?_|refine aa5 ?_))
 refine ay (u:=.slice (some ⟨ng,0,none⟩) N.length nc) rfl (g.b.cell (o:=0) rfl) ?_
 (repeat' (refine aa0 ?_))
 refine dJ rfl rfl (by omega) (by omega) ?_
 (repeat' (first|refine aa0 ?_|refine aa1 ?_|refine af ?_|refine ah ?_|refine au ?_|refine ak ?_|refine bK rfl ?_|refine aa5 ?_))
 refine ay (u:=.int .u8 x.bn.reason) rfl ((Xt W (aQ _ _)).get 3 rfl) ?_
 (repeat' (first|refine aa0 ?_|refine aa1 ?_|refine af ?_|refine aa6 ?_|refine qi ?_|refine pU ?_|refine ah ?_|refine au ?_|refine ak ?_|refine aA ?_|refine aN ?_|refine aa3 ?_|refine bK rfl ?_|refine aa5 ?_|refine qf (fun _=>?_) (fun _=>?_)))
 ·have hr:x.bn.reason≠0:=by omega
  obtain ⟨h1,h2⟩:=hno W (aQ _ _) (by rw [hlk,if_neg (fun e=>hr e.1)])
  exact aF rfl rfl ⟨_,rfl,h1,h2⟩
 have hr:x.bn.reason=0:=by omega
 refine ay (u:=.bool (x.st == 1)) rfl ((Xt W (aQ _ _)).get 7 rfl) ?_
 cases hs1:(x.st == 1) with
 |true=>
  have hs1':x.st=1:=by simpa using hs1
  obtain ⟨h1,h2⟩:=hno W (aQ _ _) (by rw [hlk,if_neg (fun e=>by have:=e.2.1;omega)])
  (repeat' (first|refine aa0 ?_|refine aa1 ?_|refine af ?_|refine qi ?_|refine pU ?_|refine pI ?_|refine ah ?_|refine au ?_|refine ak ?_|refine aA ?_|refine aN ?_|refine aa3 ?_))
  exact aF rfl rfl ⟨_,rfl,h1,h2⟩
 |false=>
 have hs1':x.st≠1:=by simpa using hs1
 (repeat' (first|refine aa0 ?_|refine aa6 ?_|refine pI ?_|refine bK rfl ?_|refine aa5 ?_))
 refine ay (u:=.bool (x.st == 2)) rfl ((Xt W (aQ _ _)).get 8 rfl) ?_
 cases hs2:(x.st == 2) with
 |true=>
  have hs2':x.st=2:=by simpa using hs2
  obtain ⟨h1,h2⟩:=hno W (aQ _ _) (by rw [hlk,if_neg (fun e=>by have:=e.2.1;omega)])
  (repeat' (first|refine aa0 ?_|refine aa1 ?_|refine af ?_|refine qi ?_|refine pU ?_|refine pI ?_|refine ah ?_|refine au ?_|refine ak ?_|refine aA ?_|refine aN ?_|refine aa3 ?_))
  exact aF rfl rfl ⟨_,rfl,h1,h2⟩
 |false=>
 have hs2':x.st≠2:=by simpa using hs2
 have hs0:x.st=0:=by omega
 (repeat' (first|refine aa0 ?_|refine aa6 ?_|refine pI ?_))
 refine aB (Dj g hi) rfl ?_
 rintro _ w1 ⟨rfl,n1⟩
 cases hw:rV (bnF N) (stF N) i with
 |some k=>
  rw [show qy (some k)=(k:Int) from rfl]
  obtain ⟨h1,h2⟩:=hno w1 n1 (by rw [hlk,if_neg (fun e=>by rw [hw] at e;cases e.2.2)])
  (repeat' (first|refine aa1 ?_|refine af ?_|refine aa6 ?_|refine pI ?_|refine ah ?_|refine au ?_|refine ak ?_|refine aA ?_|refine aN ?_|refine aa3 ?_|(refine bZ rfl rfl (fun _=>?_) (fun _=>?_)<;>(first|(exfalso;omega)|skip))))
  exact aF rfl rfl ⟨_,rfl,h1,h2⟩
 |none=>
 rw [show qy none= -1 from rfl]
 rw [if_pos ⟨hr,hs0,hw⟩] at hlk
 clear hno
 have g1:=g.new n1
 obtain ⟨q,hq⟩:=KW (s:=x.bn.path) (by omega)
 (repeat' (first|refine af ?_|refine aa6 ?_|refine pI ?_|refine ah ?_|refine Wc.skip ?_|refine aa4 ?_|(refine bZ rfl rfl (fun _=>?_) (fun _=>?_)<;>(first|(exfalso;omega)|skip))))
 refine dV (fun F w3=> ∃fb:Bool,agrees F [(0,pT bw),(1,vi i),(5,.pointer (some ⟨ng,i*9,none⟩))]∧fb=(x.bn.device&&flF fl x.bn.path)∧WkM Pb bw bm (N.set i {x with st:=if fb=true then 2 else 0}) ord fl (.slice (some ⟨ng,0,none⟩) N.length nc) ov w3∧Chg (fun k=>(Value.slice (some (⟨ng,0,none⟩:Addr)) N.length nc).ownBlock=some k) W w3) ?_ ?_
 ·refine bQ rfl (by kernel_rfl) (fun w'=>New w1 w') (Chg.drew _ _) ?_
  intro w2 n2
  have aay: ∀w',New w1 w'→At w' ng (0+(i:Int).toNat*9) (nbC x):=fun w' n=>Xt w' (New.trans n1 n)
  (repeat' (first|refine aa2 (aa9 (ax ?_))|refine aa2 (bf rfl (ax ?_))|refine aa2 (aa8 (ax ?_))))
  refine aa2 (aC (u:=.bool x.bn.device) rfl (fun w' hw=>(aay w' hw).get 1 rfl) (ax ?_))
  cases hd:x.bn.device with
  |false=>
   (repeat' (first|refine gK rfl rfl (by assumption) ?_|refine aa2 (aa9 (ax ?_))|refine aa2 (uY (ax ?_))|refine aa2 (bf rfl (ax ?_))|refine aa2 (aa8 (ax ?_))))
   refine Wt.last rfl (fC (f:=nbC) (sz:=9) (p:=x) (q:={x with st:=if false=true then 2 else 0}) (j:=i) (o:=8) (cap:=nc) (u:=.bool false) (fun _=>rfl) (show (8:Nat)<9 by omega) rfl hx (by rw [show nbC x=[vs x.bn.path,.bool x.bn.device,.int .u8 x.bn.level,.int .u8 x.bn.reason,vi (qy x.bn.card),vi x.bn.why,svV x.wv,.bool (x.st == 1),.bool (x.st == 2)] from rfl,hs1];rfl) (g1.new n2).nd.row rfl (by show Value.pointer (some ⟨ng,0+(i:Int).toNat*9+6+2,none⟩)=_;rw [Nat.zero_add,Int.toNat_natCast]) rfl fun w3 o3 c3=>?_)
   exact af (cu ⟨false,⟨rfl,rfl,by show Value.pointer (some ⟨ng,0+(i:Int).toNat*9,none⟩)=_;rw [Nat.zero_add,Int.toNat_natCast],trivial⟩,by rw [Bool.false_and],(g1.new n2).put hx o3 c3,Chg.trans (New.trans n1 n2).any c3 fun _ _ e=>e⟩)
  |true=>
   (repeat' (first|refine di rfl rfl ?_|refine aa2 (aa9 (ax ?_))|refine aa2 (bf rfl (ax ?_))|refine aa2 (aa8 (ax ?_))))
   refine aa2 (aC (u:=.map (some bm)) rfl (fun w' hw=>(g1.b.chg hw fun e=>e).cell (o:=2) rfl) (ax ?_))
   (repeat' (first|refine di rfl rfl ?_|refine aa2 (aa9 (ax ?_))|refine aa2 (bf rfl (ax ?_))|refine aa2 (aa8 (ax ?_))))
   refine aa2 (aC (u:=vs x.bn.path) rfl (fun w' hw=>(aay w' hw).get 0 rfl) (ax ?_))
   (repeat' (refine di rfl rfl ?_))
   refine aa2 (jW (Maps.string_keyed Tryz.underlying9) (fun w' hw=>g1.mp.chg hw fun e=>e) (fun r r' h1 h2=>?_) hq rfl rfl (fun r hr2=>ax ?_) (fun hr2=>ax ?_))
   ·obtain ⟨⟨a,b⟩,hm,e⟩:=List.mem_map.1 h1
    obtain ⟨⟨a',b'⟩,hm',e'⟩:=List.mem_map.1 h2
    simp only [Prod.mk.injEq] at e e'
    obtain ⟨e1,rfl⟩:=e
    obtain ⟨e1',rfl⟩:=e'
    obtain rfl:=xq e1
    obtain rfl:=xq e1'
    rw [Gl g.fn.1 hm hm']
   ·obtain ⟨⟨s',c⟩,hm,e⟩:=List.mem_map.1 hr2
    simp only [Prod.mk.injEq] at e
    obtain ⟨e1,rfl⟩:=e
    obtain rfl:=xq e1
    have hf:=QY g.fn.1 hm
    by_cases hc:0<c
    ·rw [decide_eq_true hc] at hf
     (repeat' (first|refine di rfl rfl ?_|refine aa2 (xh (ax ?_))|refine aa2 (bf rfl (ax ?_))|refine aa2 (aa8 (ax ?_))|(refine aa2 (fJ rfl rfl (fun _=>ax ?_) (fun _=>ax ?_))<;>(first|(exfalso;omega)|skip))))
     skip
     refine Wt.last rfl (fC (f:=nbC) (sz:=9) (p:=x) (q:={x with st:=if true=true then 2 else 0}) (j:=i) (o:=8) (cap:=nc) (u:=.bool true) (fun _=>rfl) (show (8:Nat)<9 by omega) rfl hx (by rw [show nbC x=[vs x.bn.path,.bool x.bn.device,.int .u8 x.bn.level,.int .u8 x.bn.reason,vi (qy x.bn.card),vi x.bn.why,svV x.wv,.bool (x.st == 1),.bool (x.st == 2)] from rfl,hs1];rfl) (g1.new n2).nd.row rfl (by show Value.pointer (some ⟨ng,0+(i:Int).toNat*9+6+2,none⟩)=_;rw [Nat.zero_add,Int.toNat_natCast]) rfl fun w3 o3 c3=>?_)
     exact af (cu ⟨true,⟨rfl,rfl,by show Value.pointer (some ⟨ng,0+(i:Int).toNat*9,none⟩)=_;rw [Nat.zero_add,Int.toNat_natCast],trivial⟩,by rw [hf];rfl,(g1.new n2).put hx o3 c3,Chg.trans (New.trans n1 n2).any c3 fun _ _ e=>e⟩)
    ·rw [decide_eq_false hc] at hf
     (repeat' (first|refine di rfl rfl ?_|refine aa2 (xh (ax ?_))|refine aa2 (bf rfl (ax ?_))|refine aa2 (aa8 (ax ?_))|(refine aa2 (fJ rfl rfl (fun _=>ax ?_) (fun _=>ax ?_))<;>(first|(exfalso;omega)|skip))))
     skip
     refine Wt.last rfl (fC (f:=nbC) (sz:=9) (p:=x) (q:={x with st:=if false=true then 2 else 0}) (j:=i) (o:=8) (cap:=nc) (u:=.bool false) (fun _=>rfl) (show (8:Nat)<9 by omega) rfl hx (by rw [show nbC x=[vs x.bn.path,.bool x.bn.device,.int .u8 x.bn.level,.int .u8 x.bn.reason,vi (qy x.bn.card),vi x.bn.why,svV x.wv,.bool (x.st == 1),.bool (x.st == 2)] from rfl,hs1];rfl) (g1.new n2).nd.row rfl (by show Value.pointer (some ⟨ng,0+(i:Int).toNat*9+6+2,none⟩)=_;rw [Nat.zero_add,Int.toNat_natCast]) rfl fun w3 o3 c3=>?_)
     exact af (cu ⟨false,⟨rfl,rfl,by show Value.pointer (some ⟨ng,0+(i:Int).toNat*9,none⟩)=_;rw [Nat.zero_add,Int.toNat_natCast],trivial⟩,by rw [hf];rfl,(g1.new n2).put hx o3 c3,Chg.trans (New.trans n1 n2).any c3 fun _ _ e=>e⟩)
   ·have hf:flF fl x.bn.path=false:=YL fun p hp e=>hr2 (vs p.1,vi p.2) (List.mem_map.2 ⟨p,hp,rfl⟩) (by rw [e])
    (repeat' (first|refine di rfl rfl ?_|refine aa2 (xh (ax ?_))|refine aa2 (bf rfl (ax ?_))|refine aa2 (aa8 (ax ?_))|(refine aa2 (fJ rfl rfl (fun _=>ax ?_) (fun _=>ax ?_))<;>(first|(exfalso;omega)|skip))))
    skip
    refine Wt.last rfl (fC (f:=nbC) (sz:=9) (p:=x) (q:={x with st:=if false=true then 2 else 0}) (j:=i) (o:=8) (cap:=nc) (u:=.bool false) (fun _=>rfl) (show (8:Nat)<9 by omega) rfl hx (by rw [show nbC x=[vs x.bn.path,.bool x.bn.device,.int .u8 x.bn.level,.int .u8 x.bn.reason,vi (qy x.bn.card),vi x.bn.why,svV x.wv,.bool (x.st == 1),.bool (x.st == 2)] from rfl,hs1];rfl) (g1.new n2).nd.row rfl (by show Value.pointer (some ⟨ng,0+(i:Int).toNat*9+6+2,none⟩)=_;rw [Nat.zero_add,Int.toNat_natCast]) rfl fun w3 o3 c3=>?_)
    exact af (cu ⟨false,⟨rfl,rfl,by show Value.pointer (some ⟨ng,0+(i:Int).toNat*9,none⟩)=_;rw [Nat.zero_add,Int.toNat_natCast],trivial⟩,by rw [hf];rfl,(g1.new n2).put hx o3 c3,Chg.trans (New.trans n1 n2).any c3 fun _ _ e=>e⟩)
 ·rintro F w3 ⟨fb,hF,hfb,g3,c3⟩
  rw [←oN hF]
  simp only [oU]
  clear hF
  have hil:=(List.getElem?_eq_some_iff.1 hx).1
  have hx':(N.set i {x with st:=if fb=true then 2 else 0})[i]? =some {x with st:=if fb=true then 2 else 0}:=by rw [List.getElem?_set,if_pos rfl,if_pos hil]
  have hset: ∀y:Nb,(N.set i {x with st:=if fb=true then 2 else 0}).set i y=N.set i y:=fun y=>List.set_set ..
  have hat:At w3 ng (i*9) (nbC {x with st:=if fb=true then 2 else 0}):=g3.nd.row.at rfl rfl hx'
  have hfs:((if fb=true then 2 else 0) == 2)=fb:=by cases fb<;>rfl
  have hlen':(N.set i {x with st:=if fb=true then 2 else 0}).length=N.length:=by rw [List.length_set]
  (repeat' (first|refine aa0 ?_|refine au ?_|refine ak ?_|refine bK rfl ?_|refine aa5 ?_))
  refine ay (u:=.bool fb) rfl (by have:=hat.get 8 rfl;rw [hfs] at this;exact this) ?_
  (repeat' (first|refine aV rfl ?_|refine bK rfl ?_|refine aa5 ?_))
  refine fC (f:=nbC) (sz:=9) (p:={x with st:=if fb=true then 2 else 0}) (q:={x with st:=if fb=true then 2 else 1}) (j:=i) (o:=7) (cap:=nc) (u:=.bool (!fb)) (fun _=>rfl) (show (7:Nat)<9 by omega) rfl hx' (by cases fb<;>rfl) g3.nd.row (by rw [hlen']) rfl rfl fun w4 o4 c4=>?_
  (repeat' (first|refine aa1 ?_|refine af ?_|refine ah ?_|refine au ?_|refine ak ?_|refine aA ?_))
  have g4:=g3.put hx' (s:=if fb=true then 2 else 1) o4 c4
  rw [hset] at g4
  refine aF rfl rfl ⟨_,rfl,by rw [hlk];rfl,N.set i {x with st:=if fb=true then 2 else 1},g4,by rw [List.length_set],Xq hx,?_,Chg.trans c3 c4 fun _ _ e=>e⟩
  rw [Xr hx,hlk,Option.getD_some,hfb]
end
end Go.Proofs.YtjecgaiaiophpaaGreatDoor
namespace Go.Proofs.YtjecgaiaiophpaaGreatDoor
open Go Wk
open Go.RowKit (Below)
attribute [local irreducible] Go.Calls
theorem YM:qQ (flat rwC) 3:=qU _ (fun _=>rfl) fun x c hc=>by simp at hc;rcases hc with rfl|rfl|rfl<;>rfl
abbrev Rws:Type:=Nat×Option Nat×Int
def rowsOf (N:Nat→Bn) (S:Nat→Nat) (n:Nat):List Rws:=(List.range n).map (rowOf N S)
theorem Iw (n:Nat):List.range (n+1)=List.range n++ [n]:=List.range_succ
section
variable {Pb:Nat→Prop} {bw bm:Nat} {N:List Nb} {ord:List Nat} {fl:List (Nm×Int)} {nv ov:Value} {W W':World}
theorem SY (g:WkM Pb bw bm N ord fl nv ov W):
 Calls Tryz.prog 18 #[pT bw] W (Ret fun r w'=>nO (flat rwC) 39 3 (fun b=>W.heap.size≤b) NoB w' r (rowsOf (bnF N) (stF N) N.length)∧New W w'):=by
 have hnl:=g.nl
 obtain ⟨na,nc,rfl,_,_⟩:=g.nd.row.form
 refine nI Tryz.func18 rfl Tryz.ntmps18 rfl ?_
 (repeat' (first|refine aa0 ?_|refine aa1 ?_|refine af ?_|refine ah ?_|refine au ?_|refine ak ?_))
 refine kK rfl rfl ?_
 (repeat' (first|refine aa0 ?_|refine aa1 ?_|refine af ?_|refine ah ?_|refine au ?_|refine ak ?_|refine Wc.skip ?_|refine aa4 ?_|refine bK rfl ?_|refine aa5 ?_))
 refine ay (u:=.slice na N.length nc) rfl (g.b.cell (o:=0) rfl) ?_
 (repeat' (first|refine aa0 ?_|refine af ?_|refine pz ?_|refine ah ?_|refine Wc.block ?_))
 refine aP (σ:=Nat×Value) (fun q=>[(0,pT bw),(3,q.2),(11,vi N.length),(12,vi q.1)]) (fun q w'=>q.1≤N.length∧nO (flat rwC) 39 3 (fun b=>W.heap.size≤b) NoB w' q.2 (rowsOf (bnF N) (stF N) q.1)∧New W w') (fun q=>N.length-q.1)
  (0,.slice none 0 0) ⟨rfl,rfl,rfl,rfl,trivial⟩ ⟨Nat.zero_le _,bF,aQ _ _⟩ ?_
 rintro ⟨k,rv⟩ G w1 ⟨hk,own,n1⟩
 dsimp only at hk own n1
 simp only [oU]
 have hrl:(rowsOf (bnF N) (stF N) k).length=k:=by unfold rowsOf;rw [List.length_map,List.length_range]
 obtain ⟨ra,rc,rfl,_,_⟩:=own.form
 (repeat' (first|refine aa0 ?_|refine aa1 ?_|refine af ?_|refine ah ?_|refine au ?_|refine ak ?_|refine Wc.block ?_|refine Wc.skip ?_|refine aJ ?_|refine aA ?_|refine aK ?_|refine aI ?_|refine aO ?_|refine aa3 ?_|refine aa4 ?_|refine oZ (fun _=>?_) (fun _=>?_)))
 ·refine aB (VB (g.new n1) (i:=k) (by omega)) rfl ?_
  rintro _ w2 ⟨rfl,n2⟩
  have n02:=New.trans n1 n2
  have hz2:=n02.size
  refine dw (R:=flat rwC) (y:=rowOf (bnF N) (stF N) k) YM (own.new (nH rwC) n2) rfl rfl rfl rfl rfl (by omega) (by omega) (by simp only [maxLen];omega) (by omega) rfl rfl fun v3 w3 p wS c3 lie=>?_
  have hsn:rowsOf (bnF N) (stF N) k++ [rowOf (bnF N) (stF N) k]=rowsOf (bnF N) (stF N) (k+1):=by unfold rowsOf;rw [Iw,List.map_append];rfl
  rw [hsn] at wS
  (repeat' (first|refine aa0 ?_|refine aa1 ?_|refine af ?_|refine ah ?_|refine ak ?_|refine aH ?_|refine aa7 ?_))
  exact aG (k+1,v3) ⟨rfl,rfl,rfl,rfl,trivial⟩ ⟨by dsimp only;omega,wS.mono (nP rwC) (fun b _ e=>by rcases e with e|e;exact e;omega) (fun _ _ e=>e),(Chg.trans n02.any c3 fun _ _ e=>e).toNew fun j hj e=>by have h9:W.heap.size≤j:=(own.lt e).1;omega⟩ (by dsimp only;omega)
 ·obtain rfl:k=N.length:=by omega
  exact aF rfl rfl ⟨_,rfl,own,n1⟩
end
end Go.Proofs.YtjecgaiaiophpaaGreatDoor
namespace Go.Proofs.YtjecgaiaiophpaaGreatDoor
open Go Wk
open Go.RowKit (Below)
attribute [local irreducible] Go.Calls
section
variable {Pb:Nat→Prop} {bw bm:Nat} {N:List Nb} {ord:List Nat} {fl:List (Nm×Int)} {nv ov:Value} {W W':World}
theorem NI {N:Nat→Bn} {fl:Nm→Bool} {S:Nat→Nat} {i:Nat} (h: ∀k,S k≤2): ∀k,((qY N fl S i).getD S) k≤2:=by
 intro k
 unfold qY
 split
 ·dsimp only [Option.getD_some]
  split
  ·split<;>omega
  ·exact h k
 ·exact h k
abbrev wtC (p:Nat×Nat):List Value:=[vi p.1,vi p.2]
theorem Pz:qQ (flat wtC) 2:=qU _ (fun _=>rfl) fun x c hc=>by simp at hc;rcases hc with rfl|rfl<;>rfl
theorem sQ (N:Nat→Bn) (fl:Nm→Bool) (i:Nat) (r:List Nat) (S:St):oI N fl (i::r) S=if S i≠0 then oI N fl r S else match qY N fl S i with
 |some S'=>let q:=oI N fl r S';(⟨i::q.1.tried,q.1.waits⟩,q.2)
 |none=>let q:=oI N fl r S;(⟨q.1.tried,(i,(rV N S i).getD 0)::q.1.waits⟩,q.2):=by rw [oI];rfl
end
end Go.Proofs.YtjecgaiaiophpaaGreatDoor
namespace Go.Proofs.YtjecgaiaiophpaaGreatDoor
open Go Wk
open Go.RowKit (Below)
attribute [local irreducible] Go.Calls
section
variable {Pb:Nat→Prop} {bw bm:Nat} {N:List Nb} {ord:List Nat} {fl:List (Nm×Int)} {nv ov:Value} {W W':World}
theorem PD (g:WkM Pb bw bm N ord fl nv ov W) (ho: ∀i∈ord,i<N.length∧(bnF N i).reason=0) (hst: ∀i,stF N i≤2) (hol:ord.length≤512):
 Calls Tryz.prog 88 #[pT bw] W (Ret fun r w'=> ∃N' tv wv,r=.agg #[tv,wv]∧WkM Pb bw bm N' ord fl nv ov w'∧N'.length=N.length∧bnF N'=bnF N∧stF N'=(oI (bnF N) (flF fl) ord (stF N)).2∧nO (Wk.one viN) 3 1 (fun b=>W.heap.size≤b) NoB w' tv (oI (bnF N) (flF fl) ord (stF N)).1.tried∧nO (flat wtC) 161 2 (fun b=>W.heap.size≤b) NoB w' wv (oI (bnF N) (flF fl) ord (stF N)).1.waits∧Chg (fun k=>nv.ownBlock=some k) W w'):=by
 have hnl:=g.nl
 replace g:=g.mono (Pb':=fun b=>Pb b∧b<W.heap.size) fun b hb e=>⟨e,hb⟩
 obtain ⟨na,nc,rfl,_,_⟩:=g.nd.row.form
 obtain ⟨oa,oc,rfl,_,_⟩:=g.od.form
 have Tc: ∀k,(Value.slice na N.length nc).ownBlock=some k→k<W.heap.size:=fun k hk=>(g.nd.row.lt hk).2
 refine nI Tryz.func88 rfl Tryz.ntmps88 rfl ?_
 (repeat' (first|refine au ?_|refine ak ?_))
 refine Wl.alloc fun w1 b2 n1 s1=>?_
 replace b2:Bk w1 W.heap.size 76 [.slice none 0 0,.slice none 0 0]:=b2
 (repeat' (first|refine af ?_|refine ah ?_|refine au ?_|refine ak ?_))
 refine Wl.alloc fun w2 b3 n2 s2=>?_
 replace b3:Bk w2 w1.heap.size 76 [.slice none 0 0,.slice none 0 0]:=b3
 have n02:=New.trans n1 n2
 have g2:=g.new n02
 replace b2:=b2.chg n2 fun e=>e
 (repeat' (first|refine aa0 ?_|refine af ?_|refine ah ?_|refine au ?_|refine ak ?_|refine bK rfl ?_|refine aa5 ?_))
 refine ay (u:=.slice oa ord.length oc) rfl (g2.b.cell (o:=1) rfl) ?_
 (repeat' (first|refine aa0 ?_|refine af ?_|refine pz ?_|refine ah ?_|refine Wc.block ?_))
 refine aP (σ:=Nat×List Nb×Value×Value×List Nat×List (Nat×Nat)) (fun q=>[(0,pT bw),(2,pT W.heap.size),(3,pT w1.heap.size),(10,.slice oa ord.length oc),(11,vi ord.length),(12,vi q.1)])
  (fun q w'=>q.1≤ord.length∧WkM (fun b=>Pb b∧b<W.heap.size) bw bm q.2.1 ord fl (.slice na N.length nc) (.slice oa ord.length oc) w'∧q.2.1.length=N.length∧bnF q.2.1=bnF N∧(∀j,stF q.2.1 j≤2)∧oI (bnF N) (flF fl) ord (stF N)=(⟨q.2.2.2.2.1++(oI (bnF N) (flF fl) (ord.drop q.1) (stF q.2.1)).1.tried,q.2.2.2.2.2++(oI (bnF N) (flF fl) (ord.drop q.1) (stF q.2.1)).1.waits⟩,(oI (bnF N) (flF fl) (ord.drop q.1) (stF q.2.1)).2)∧Bk w' w1.heap.size 76 [q.2.2.1,q.2.2.2.1]∧Bk w' W.heap.size 76 [.slice none 0 0,.slice none 0 0]∧nO (Wk.one viN) 3 1 (fun b=>w2.heap.size≤b) NoB w' q.2.2.1 q.2.2.2.2.1∧nO (flat wtC) 161 2 (fun b=>w2.heap.size≤b) NoB w' q.2.2.2.1 q.2.2.2.2.2∧q.2.2.2.2.1.length+q.2.2.2.2.2.length≤q.1∧w2.heap.size≤w'.heap.size∧Chg (fun k=>(Value.slice na N.length nc).ownBlock=some k) W w') (fun q=>ord.length-q.1)
  (0,N,.slice none 0 0,.slice none 0 0,[],[]) ⟨rfl,rfl,rfl,rfl,rfl,rfl,trivial⟩ ⟨Nat.zero_le _,g2,rfl,rfl,hst,rfl,b3,b2,bF,bF,Nat.le_refl _,Nat.le_refl _,n02.any⟩ ?_
 have hz1:=n1.size
 have hz2:=n2.size
 have aaz:=b2.lt
 have afv:=b3.lt
 clear g2 b2 b3 n02
 rintro ⟨k,N',tv,wv,T,Q⟩ G w3 ⟨hk,g3,hN,hbn,hs3,hgo,b3,b2,oT,oQ,hTQ,hz3,c3⟩
 dsimp only at hk g3 hN hbn hs3 hgo b3 b2 oT oQ hTQ hz3 c3
 simp only [oU]
 obtain ⟨ta,tc,rfl,_,_⟩:=oT.form
 obtain ⟨qa,qc,rfl,_,_⟩:=oQ.form
 have hod:=g3.od.rd qH.mo
 have hrd:=g3.nd.row.rd (nP nbC)
 (repeat' (first|refine af ?_|refine ah ?_|refine au ?_|refine ak ?_|refine Wc.block ?_|refine Wc.skip ?_|refine aJ ?_|refine aK ?_|refine aI ?_|refine aO ?_|refine aa3 ?_|refine aa4 ?_|refine oZ (fun _=>?_) (fun _=>?_)))
 ·obtain ⟨j,hj⟩:=nV ord (k:=k) (by omega)
  obtain ⟨hjl,hjr⟩:=ho j (List.mem_of_getElem? hj)
  obtain ⟨x,hx⟩:=nV N' (k:=j) (by omega)
  have hsx:=wU hx
  have hx2:=hs3 j
  rw [hsx] at hx2
  rw [drop_cons hj,sQ,hsx] at hgo
  refine bI hod rfl rfl (by omega) hj fun b o hcell=>?_
  refine ay (u:=vi j) rfl hcell ?_
  (repeat' (first|refine aa0 ?_|refine aa1 ?_|refine af ?_|refine ah ?_|refine au ?_|refine ak ?_|refine bK rfl ?_|refine aa5 ?_))
  refine ay (u:=.slice na N.length nc) rfl (g3.b.cell (o:=0) rfl) ?_
  (repeat' (refine aa0 ?_))
  refine aU hrd rfl rfl (by omega) (by rw [Int.toNat_natCast];exact hx) fun b o cs hl hR hat=>?_
  obtain rfl:cs=nbC x:=hR
  refine bG hat rfl rfl ?_
  clear hat
  refine Wl.alloc fun w4 b5 n4 s4=>?_
  refine aX (new:=nbC x) b5 rfl rfl rfl rfl (show (9:Nat)≤9 from Nat.le_refl 9) (Vz x) fun w5 b5' c5 s5=>?_
  replace b5':Bk w5 w3.heap.size 118 (nbC x):=b5'
  have n35:New w3 w5:=(Chg.trans n4.any c5 fun _ _ e=>e).toNew fun k hk e=>by omega
  clear b5 n4 c5
  have g5:=g3.new n35
  have b35:=b3.chg n35 fun e=>e
  have b25:=b2.chg n35 fun e=>e
  have oT5:=oT.new (nM _) n35
  have oQ5:=oQ.new (nH wtC) n35
  have hz5:=n35.size
  have c05:=Chg.trans c3 (n35.any (M:=fun k=>(Value.slice na N.length nc).ownBlock=some k)) fun _ _ e=>e
  clear g3 b3 b2 oT oQ c3 hod hrd
  (repeat' (first|refine af ?_|refine ah ?_|refine au ?_|refine ak ?_|refine Wc.block ?_|refine aa5 ?_))
  refine ay (u:=.bool (x.st == 1)) rfl (b5'.cell (o:=7) rfl) ?_
  have hsame:x.st≠0→(k+1≤ord.length∧WkM (fun b=>Pb b∧b<W.heap.size) bw bm N' ord fl (.slice na N.length nc) (.slice oa ord.length oc) w5∧N'.length=N.length∧bnF N'=bnF N∧(∀j,stF N' j≤2)∧oI (bnF N) (flF fl) ord (stF N)=(⟨T++(oI (bnF N) (flF fl) (ord.drop (k+1)) (stF N')).1.tried,Q++(oI (bnF N) (flF fl) (ord.drop (k+1)) (stF N')).1.waits⟩,(oI (bnF N) (flF fl) (ord.drop (k+1)) (stF N')).2)∧Bk w5 w1.heap.size 76 [.slice ta T.length tc,.slice qa Q.length qc]∧Bk w5 W.heap.size 76 [.slice none 0 0,.slice none 0 0]∧nO (Wk.one viN) 3 1 (fun b=>w2.heap.size≤b) NoB w5 (.slice ta T.length tc) T∧nO (flat wtC) 161 2 (fun b=>w2.heap.size≤b) NoB w5 (.slice qa Q.length qc) Q∧T.length+Q.length≤k+1∧w2.heap.size≤w5.heap.size∧Chg (fun k=>(Value.slice na N.length nc).ownBlock=some k) W w5):=fun e=>by
   rw [if_pos e] at hgo
   exact ⟨by omega,g5,hN,hbn,hs3,hgo,b35,b25,oT5,oQ5,by omega,by omega,c05⟩
  cases hs1:(x.st == 1) with
  |true=>
   have hs1':x.st=1:=by simpa using hs1
   (repeat' (first|refine aa0 ?_|refine aa1 ?_|refine af ?_|refine qi ?_|refine pU ?_|refine ah ?_|refine ak ?_|refine Wc.skip ?_|refine aH ?_|refine aa3 ?_|refine aa7 ?_))
   exact aG (k+1,N',_,_,T,Q) ⟨rfl,rfl,rfl,rfl,rfl,rfl,trivial⟩ (hsame (by omega)) (by dsimp only;omega)
  |false=>
  have hs1':x.st≠1:=by simpa using hs1
  (repeat' (first|refine aa0 ?_|refine aa6 ?_|refine aa5 ?_))
  refine ay (u:=.bool (x.st == 2)) rfl (b5'.cell (o:=8) rfl) ?_
  cases hs2:(x.st == 2) with
  |true=>
   have hs2':x.st=2:=by simpa using hs2
   (repeat' (first|refine aa0 ?_|refine aa1 ?_|refine af ?_|refine pI ?_|refine ah ?_|refine ak ?_|refine Wc.skip ?_|refine aH ?_|refine aa3 ?_|refine aa7 ?_))
   exact aG (k+1,N',_,_,T,Q) ⟨rfl,rfl,rfl,rfl,rfl,rfl,trivial⟩ (hsame (by omega)) (by dsimp only;omega)
  |false=>
  have hs2':x.st≠2:=by simpa using hs2
  have hs0:x.st=0:=by omega
  clear hsame b5'
  rw [if_neg (fun e=>e hs0)] at hgo
  (repeat' (first|refine aa0 ?_|refine aa1 ?_|refine af ?_|refine pI ?_|refine ah ?_|refine au ?_|refine ak ?_|refine aa4 ?_))
  refine aB (SX g5 (i:=j) (by omega) (hs3 j)) rfl ?_
  rintro _ w6 ⟨rfl,N2,g6,hl6,hb6,hs6,c6⟩
  have aaA:N2.length=N.length:=by omega
  have IY:bnF N2=bnF N:=hb6.trans hbn
  have hs62: ∀q,stF N2 q≤2:=by rw [hs6];exact NI hs3
  have hz6:=c6.size
  have b36:=b35.chg c6 fun e=>by have:=Tc _ e;omega
  have b26:=b25.chg c6 fun e=>by have:=Tc _ e;omega
  have oT6:=oT5.chg (nM _) c6 fun q hq e=>by have h9:w2.heap.size≤q:=(oT5.lt hq).1;have:=Tc q e;omega
  have oQ6:=oQ5.chg (nH wtC) c6 fun q hq e=>by have h9:w2.heap.size≤q:=(oQ5.lt hq).1;have:=Tc q e;omega
  have c06:=Chg.trans c05 c6 fun _ _ e=>e
  clear g5 b35 b25 oT5 oQ5 c05 c6
  rw [←hbn] at hgo
  cases hlk:qY (bnF N') (flF fl) (stF N') j with
  |some S'=>
   rw [hlk] at hgo hs6
   rw [hbn] at hgo
   replace hs6:stF N2=S':=hs6
   rw [←hs6] at hgo
   dsimp only at hgo
   (repeat' (first|refine aa1 ?_|refine af ?_|refine ah ?_|refine ak ?_|refine aa3 ?_|refine aa5 ?_))
   refine ay (u:=.slice ta T.length tc) rfl (b36.cell (o:=0) rfl) ?_
   (repeat' (refine aa0 ?_))
   refine dw (R:=Wk.one viN) (y:=j) qH oT6 rfl rfl rfl rfl rfl (by omega) (by omega) (by simp only [maxLen];omega) (by omega) rfl rfl fun v7 w7 p o7 c7 lie=>?_
   have b37:=b36.chg c7 fun e=>oT6.pO b36 rfl e rfl
   have hz7:=c7.size
   (repeat' (refine aa5 ?_))
   refine aY (u:=v7) b37 rfl (show (0:Nat)<2 by omega) rfl (by obtain ⟨_,_,rfl,_⟩:=o7.form;rfl) fun w8 b38 c8=>?_
   have hz8:=c8.size
   (repeat' (first|refine aa0 ?_|refine af ?_|refine ah ?_|refine ak ?_|refine aH ?_|refine aa7 ?_))
   refine aG (k+1,N2,v7,_,T++ [j],Q) ⟨rfl,rfl,rfl,rfl,rfl,rfl,trivial⟩ ⟨by dsimp only;omega,(g6.chg c7 fun q hq e=>by have h9:w2.heap.size≤q:=(oT6.lt e).1;have:=hq.2;omega).chg c8 fun q hq e=>(by have:=hq.2;omega),aaA,IY,hs62,?_,b38,(b26.chg c7 fun e=>oT6.pO b26 rfl e rfl).chg c8 fun e=>(by omega),(o7.mono (nU _) (fun b _ e=>by rcases e with e|e;exact e;omega) (fun _ _ e=>e)).chg (nM _) c8 fun q hq e=>o7.pO b37 rfl hq e,(oQ6.chg (nH wtC) c7 fun q hq e=>oQ6.um oT6 rfl q hq e).chg (nH wtC) c8 fun q hq e=>oQ6.pO b36 rfl hq e,by dsimp only;rw [List.length_append,List.length_singleton];omega,by omega,Chg.trans (Chg.trans c06 c7 fun q hq e=>by have h9:w2.heap.size≤q:=(oT6.lt e).1;omega) c8 fun q hq e=>by omega⟩ (by dsimp only;omega)
   dsimp only
   rw [hgo]
   simp
  |none=>
   rw [hlk] at hgo hs6
   rw [hbn] at hgo
   replace hs6:stF N2=stF N':=hs6
   have hwm: ∃m,rV (bnF N) (stF N') j=some m:=by
    cases hw:rV (bnF N) (stF N') j with
    |some m=>exact ⟨m,rfl⟩
    |none=>unfold qY at hlk;rw [hbn,hjr,hsx,hs0,if_pos ⟨rfl,rfl,hw⟩] at hlk;cases hlk
   obtain ⟨m,hwm⟩:=hwm
   rw [hwm,Option.getD_some] at hgo
   dsimp only at hgo
   (repeat' (first|refine aa1 ?_|refine af ?_|refine ah ?_|refine aa4 ?_))
   refine bQ rfl (by kernel_rfl) (fun w'=>Chg (fun q=>(Value.slice qa Q.length qc).ownBlock=some q) w6 w') (Chg.drew _ _) ?_
   intro w7 n7
   (repeat' (refine aa2 (aa8 (ax ?_))))
   refine aa2 (aC (u:=.slice qa Q.length qc) rfl (fun w' hw=>(b36.chg hw fun e=>oQ6.pO b36 rfl e rfl).cell (o:=1) rfl) (ax ?_))
   (repeat' (refine aa2 (aa9 (ax ?_))))
   refine aT rfl (aB (Dj (g6.new n7) (i:=j) (by omega)) rfl ?_)
   rintro _ w8 ⟨rfl,n8⟩
   have n68:=n7.trans n8
   rw [IY,hs6,hwm,show qy (some m)=(m:Int) from rfl]
   refine af ⟨rfl,n68.any,?_⟩
   refine aT rfl (bV (ps:=[(0,.tmp 25),(1,.tmp 28)]) (parts:=[(0,vi j),(1,vi m)]) rfl rfl (by simp [Value.cells]) (af ⟨rfl,n68.any,?_⟩))
   refine aT rfl (bT (R:=flat wtC) (Pe:=NoB) (y:=(j,m)) Pz rfl rfl rfl rfl (by omega) (by omega) fun v9 w9 o9 n9 s9 e9=>?_)
   have n69:=n68.trans n9
   refine af ⟨rfl,n69.any,?_⟩
   refine aT rfl (bU Pz (oQ6.new (nH wtC) n69) (o9.rd Pz.mo) (fun y cs hy=>hy) rfl rfl (by omega) (by simp only [maxLen,List.length_singleton];omega) (by simp only [List.length_singleton];omega) fun v10 w10 o10 c10 lie _=>?_)
   have afw:=n69.size
   have EX:Chg (fun q=>(Value.slice qa Q.length qc).ownBlock=some q) w6 w10:=Chg.trans n69.any c10 fun _ _ e=>e
   refine af ⟨rfl,EX,?_⟩
   have I5:=b36.chg EX fun e=>oQ6.pO b36 rfl e rfl
   have Xe:=EX.size
   (repeat' (refine aa2 (aa8 (ax ?_))))
   refine Wt.last rfl (aY (u:=v10) I5 rfl (show (1:Nat)<2 by omega) rfl (by obtain ⟨_,_,rfl,_⟩:=o10.form;rfl) fun w11 Iy c11=>?_)
   have U9:=c11.size
   refine af ?_
   (repeat' (first|refine aa0 ?_|refine af ?_|refine ah ?_|refine ak ?_|refine aH ?_|refine aa7 ?_))
   refine aG (k+1,N2,_,v10,T,Q++ [(j,m)]) ⟨rfl,rfl,rfl,rfl,rfl,rfl,trivial⟩ ⟨by dsimp only;omega,(g6.chg EX fun q hq e=>by have h9:w2.heap.size≤q:=(oQ6.lt e).1;have:=hq.2;omega).chg c11 fun q hq e=>(by have:=hq.2;omega),aaA,IY,hs62,?_,Iy,(b26.chg EX fun e=>oQ6.pO b26 rfl e rfl).chg c11 fun e=>(by omega),(oT6.chg (nM _) EX fun q hq e=>oT6.um oQ6 rfl q hq e).chg (nM _) c11 fun q hq e=>oT6.pO b36 rfl hq e,(o10.mono (nP wtC) (fun b _ e=>by rcases e with e|e;exact e;omega) (fun _ _ e=>e)).chg (nH wtC) c11 fun q hq e=>o10.pO I5 rfl hq e,by dsimp only;rw [List.length_append,List.length_singleton];omega,by omega,Chg.trans (Chg.trans c06 EX fun q hq e=>by have h9:w2.heap.size≤q:=(oQ6.lt e).1;omega) c11 fun q hq e=>by omega⟩ (by dsimp only;omega)
   dsimp only
   rw [hgo,hs6]
   simp
 ·obtain rfl:k=ord.length:=by omega
  rw [List.drop_length,oI] at hgo
  simp only [List.append_nil] at hgo
  refine bM b3 rfl rfl ?_
  refine aX (new:=[.slice ta T.length tc,.slice qa Q.length qc]) b2 rfl rfl rfl rfl (show (2:Nat)≤2 from Nat.le_refl 2) (by intro c hc;simp at hc;rcases hc with rfl|rfl<;>rfl) fun w4 b4 c4 s4=>?_
  replace b4:Bk w4 W.heap.size 76 [.slice ta T.length tc,.slice qa Q.length qc]:=b4
  (repeat' (first|refine af ?_|refine ah ?_|refine aA ?_))
  refine fA (yX (a:=.cell 2 76) rfl (ul rfl rfl b4 rfl)) ⟨_,rfl,N',.slice ta T.length tc,.slice qa Q.length qc,rfl,(g3.chg c4 fun q hq e=>by have:=hq.2;omega).mono fun b _ e=>e.1,hN,hbn,by rw [hgo],?_,?_,Chg.trans c3 c4 fun q hq e=>by omega⟩
  ·rw [hgo]
   exact (oT.chg (nM _) c4 fun q hq e=>oT.pO b2 rfl hq e).mono (nU _) (fun b _ e=>by have h9:w2.heap.size≤b:=e;omega) (fun _ _ e=>e)
  ·rw [hgo]
   exact (oQ.chg (nH wtC) c4 fun q hq e=>oQ.pO b2 rfl hq e).mono (nP wtC) (fun b _ e=>by have h9:w2.heap.size≤b:=e;omega) (fun _ _ e=>e)
end
end Go.Proofs.YtjecgaiaiophpaaGreatDoor
namespace Go.Proofs.YtjecgaiaiophpaaGreatDoor
open Go Wk
open Go.RowKit (Below)
attribute [local irreducible] Go.Calls
section
variable {bw:Nat} {N:List Nb} {ov:Value} {w:World}
theorem Td {a c b8:Nat} {na:Option Addr} {nc:Nat} {mv:Value} {Pr:Nat→Prop} (hnl:N.length≤512) (gb:Bk w bw 108 [.slice na N.length nc,ov,mv]) (hrd:RdS (flat nbC) 9 Pr w (.slice na N.length nc) N) (h8:Bk w b8 42 [pT bw]) (ha:a<N.length) (hc:c<N.length):
 Calls Tryz.prog 49 #[vi a,vi c,.pointer (some ⟨b8,0,none⟩)] w (Ret fun r w'=>r=vi (ru (fun i=>(bnF N i).level) (fun i=>(bnF N i).path) a c)∧Grw w w'):=by
 obtain ⟨x,hx⟩:=nV N ha
 obtain ⟨y,hy⟩:=nV N hc
 have hkey:ru (fun i=>(bnF N i).level) (fun i=>(bnF N i).path) a c=orM [yG x.bn.level y.bn.level,DV x.bn.path y.bn.path]:=by
  rw [←sO hx, ←sO hy, ←Qp]
 rw [hkey]
 refine nI Tryz.func49 rfl Tryz.ntmps49 rfl ?_
 (repeat' (first|refine aa1 ?_|refine af ?_|refine ah ?_|refine au ?_|refine ak ?_))
 refine fZ [0,1,2,3,4,5,6,7,8,9,10,11,12,13,14,15,17,18,19,20,21,22,23,24,25,26,27,28,29,30,31,32] [16,33,34,35,36] rfl (by kernel_rfl) (by simp only [pick,List.getElem?_cons_succ,List.getElem?_cons_zero];rfl) (by simp only [pick,List.getElem?_cons_succ,List.getElem?_cons_zero];rfl) (Grw w) (Grw.drew w) ?_
 skip
 refine aC (u:=pT bw) rfl (fun w' hw=>(h8.chg hw.new fun e=>e).cell (o:=0) rfl) ?_
 (repeat' (first|refine bf rfl ?_|refine aa8 ?_))
 refine aC (u:=.slice na N.length nc) rfl (fun w' hw=>(gb.chg hw.new fun e=>e).cell (o:=0) rfl) ?_
 (repeat' (refine aa9 ?_))
 refine cO hrd (fun w' hw=>hw.new.keep) rfl rfl (by omega) (by rw [Int.toNat_natCast];exact hx) fun bb off cs' hcl hR hat=>?_
 obtain rfl:cs'=nbC x:=hR
 (repeat' (refine aa8 ?_))
 refine aC (u:=.int .u8 x.bn.level) rfl (fun w' hw=>(hat w' hw).get 2 rfl) ?_
 clear hat
 skip
 refine aC (u:=pT bw) rfl (fun w' hw=>(h8.chg hw.new fun e=>e).cell (o:=0) rfl) ?_
 (repeat' (first|refine bf rfl ?_|refine aa8 ?_))
 refine aC (u:=.slice na N.length nc) rfl (fun w' hw=>(gb.chg hw.new fun e=>e).cell (o:=0) rfl) ?_
 (repeat' (refine aa9 ?_))
 refine cO hrd (fun w' hw=>hw.new.keep) rfl rfl (by omega) (by rw [Int.toNat_natCast];exact hy) fun bb off cs' hcl hR hat=>?_
 obtain rfl:cs'=nbC y:=hR
 (repeat' (refine aa8 ?_))
 refine aC (u:=.int .u8 y.bn.level) rfl (fun w' hw=>(hat w' hw).get 2 rfl) ?_
 clear hat
 skip
 refine aC (u:=pT bw) rfl (fun w' hw=>(h8.chg hw.new fun e=>e).cell (o:=0) rfl) ?_
 (repeat' (first|refine bf rfl ?_|refine aa8 ?_))
 refine aC (u:=.slice na N.length nc) rfl (fun w' hw=>(gb.chg hw.new fun e=>e).cell (o:=0) rfl) ?_
 (repeat' (refine aa9 ?_))
 refine cO hrd (fun w' hw=>hw.new.keep) rfl rfl (by omega) (by rw [Int.toNat_natCast];exact hx) fun bb off cs' hcl hR hat=>?_
 obtain rfl:cs'=nbC x:=hR
 (repeat' (refine aa8 ?_))
 refine aC (u:=vs x.bn.path) rfl (fun w' hw=>(hat w' hw).get 0 rfl) ?_
 clear hat
 skip
 refine aC (u:=pT bw) rfl (fun w' hw=>(h8.chg hw.new fun e=>e).cell (o:=0) rfl) ?_
 (repeat' (first|refine bf rfl ?_|refine aa8 ?_))
 refine aC (u:=.slice na N.length nc) rfl (fun w' hw=>(gb.chg hw.new fun e=>e).cell (o:=0) rfl) ?_
 (repeat' (refine aa9 ?_))
 refine cO hrd (fun w' hw=>hw.new.keep) rfl rfl (by omega) (by rw [Int.toNat_natCast];exact hy) fun bb off cs' hcl hR hat=>?_
 obtain rfl:cs'=nbC y:=hR
 (repeat' (refine aa8 ?_))
 refine aC (u:=vs y.bn.path) rfl (fun w' hw=>(hat w' hw).get 0 rfl) ?_
 clear hat
 (repeat' (refine ax ?_))
 refine dG ?_
 refine aB (yH (a:=x.bn.level) (b:=y.bn.level)) rfl ?_
 rintro _ _ ⟨rfl,rfl⟩
 refine af ⟨rfl,Grw.drew w,?_⟩
 refine dG ?_
 refine aB (wQ (a:=x.bn.path) (b:=y.bn.path)) rfl ?_
 rintro _ _ ⟨rfl,rfl⟩
 refine af ⟨rfl,Grw.drew w,?_⟩
 refine dG ?_
 refine jb (us:=[yG x.bn.level y.bn.level,DV x.bn.path y.bn.path]) rfl rfl (by simp) (by simp) fun v o own=>?_
 obtain ⟨va,Z5,rfl,_,_⟩:=own.form
 have hgr:Grw w (w.drew.alloc o):=(Grw.drew w).alloc o
 refine af ⟨rfl,hgr,?_⟩
 refine dG ?_
 refine aB (J9 (own.rd (nU _))) rfl ?_
 rintro _ _ ⟨rfl,rfl⟩
 refine af ⟨rfl,hgr,?_⟩
 refine Wch.last ?_
 (repeat' (first|refine aa1 ?_|refine af ?_|refine ah ?_|refine aA ?_))
 exact aF rfl rfl ⟨_,rfl,rfl,hgr⟩
end
end Go.Proofs.YtjecgaiaiophpaaGreatDoor
namespace Go.Proofs.YtjecgaiaiophpaaGreatDoor
open Go Wk
open Go.RowKit (Below)
attribute [local irreducible] Go.Calls
structure RdG (Pb:Nat→Prop) (w:World) (g:Giv) (tv cv fv gv:Value):Prop where
 t:RdS rNd 3 Pb w tv g.tree
 c:RdS rCd 7 Pb w cv g.cards
 f:RdS (Wk.one vs) 1 Pb w fv g.fails
 g:RdS (Wk.one vs) 1 Pb w gv g.gone
theorem RdG.keep {Pb:Nat→Prop} {w w':World} {g:Giv} {tv cv fv gv:Value} (h:RdG Pb w g tv cv fv gv) (hk:Keep Pb w w') (sc:Stable rCd):RdG Pb w' g tv cv fv gv:=
 ⟨h.t.keep oz hk,h.c.keep sc hk,h.f.keep (nS _) hk,h.g.keep (nS _) hk⟩
noncomputable def nR (g:Giv) (i:Nat):Bn:=if i<g.tree.length then wL g i else default
def QZ (g:Giv) (lo:Nat) (r:Value) (w':World):Prop:= ∃bw bm N fl nv ov,r=.tuple #[pT bw,vi 0]∧WkM (fun b=>lo≤b) bw bm N (qm (nR g) g.tree.length) fl nv ov w'∧N.length=g.tree.length∧bnF N=nR g∧(∀i,stF N i=0)∧ ∀s,flF fl s=g.fails.contains s
def rRd:Rel Rnd:=fun Pb w r cs=> ∃tv wv,cs=[tv,wv]∧nO (Wk.one viN) 3 1 Pb NoB w tv r.tried∧nO (flat wtC) 161 2 Pb NoB w wv r.waits
theorem Ej:Stable rRd:=fun _ _ _ _ _ hk ⟨tv,wv,e,h1,h2⟩=>⟨tv,wv,e,h1.keep (nS _) hk (fun _ e=>e.elim),h2.keep (nY wtC) hk (fun _ e=>e.elim)⟩
theorem E5:BX rRd:=fun _ _ _ _ _ hP ⟨tv,wv,e,h1,h2⟩=>⟨tv,wv,e,h1.mono (nU _) hP (fun _ _ e=>e),h2.mono (nP wtC) hP (fun _ _ e=>e)⟩
theorem Dk:qQ rRd 2:=⟨Ej,E5,fun Pb w x cs ⟨tv,wv,e,h1,h2⟩ _ c hc=>by
 obtain ⟨_,_,rfl,_,_⟩:=h1.form
 obtain ⟨_,_,rfl,_,_⟩:=h2.form
 subst e
 simp at hc
 rcases hc with rfl|rfl<;>rfl⟩
structure RdR (Pb:Nat→Prop) (w:World) (rw:List Rws) (rs:List Rnd) (us ds:List Ed) (a b c d:Value):Prop where
 rows:nO (flat rwC) 39 3 Pb NoB w a rw
 rounds:nO rRd 76 2 Pb Pb w b rs
 used:RdS rEd 6 Pb w c us
 drop:RdS rEd 6 Pb w d ds
def NJ (g:Giv) (lo:Nat) (r:Value) (w':World):Prop:= ∃a b c d bw bm N fl nv ov,r=.tuple #[.agg #[a,b,c,d],pT bw,vi 0]∧
 RdR (fun b=>lo≤b) w' (rowsOf (nR g) (rG (nR g) g.fails.contains g.tree.length).2 g.tree.length) (rG (nR g) g.fails.contains g.tree.length).1 (Eg g.tree fun k=>(rG (nR g) g.fails.contains g.tree.length).2 k == 1).1 (Eg g.tree fun k=>(rG (nR g) g.fails.contains g.tree.length).2 k == 1).2 a b c d∧
 WkM (fun b=>lo≤b) bw bm N (qm (nR g) g.tree.length) fl nv ov w'∧N.length=g.tree.length∧bnF N=nR g∧(∀i,i<g.tree.length→stF N i=(rG (nR g) g.fails.contains g.tree.length).2 i)∧ ∀s,flF fl s=g.fails.contains s
theorem uH (N:Nat→Bn) (fl:Nm→Bool) (order:List Nat) (f:Nat) (S:St):doneGo N fl order (f+1) S=if (oI N fl order S).1.tried=[] then ((if (oI N fl order S).1.tried=[]∧(oI N fl order S).1.waits=[] then [] else [(oI N fl order S).1]),(oI N fl order S).2) else ((if (oI N fl order S).1.tried=[]∧(oI N fl order S).1.waits=[] then [] else [(oI N fl order S).1])++(doneGo N fl order f (oI N fl order S).2).1,(doneGo N fl order f (oI N fl order S).2).2):=by
 rw [doneGo]
end Go.Proofs.YtjecgaiaiophpaaGreatDoor
namespace Go.Proofs.YtjecgaiaiophpaaGreatDoor
open Go Wk
open Go.RowKit (Below)
abbrev imP (L:List (Nat×Int)):List (Value×Value):=L.map fun p=>(vi p.1,vi p.2)
def ImL (W:World) (b:Nat) (f:Nat→Option Int):Prop:= ∃L:List (Nat×Int),(L.map (·.1)).Nodup∧rC Tryz.prog 3 W b (imP L)∧ ∀i v,f i=some v↔(i,v)∈L
theorem YN:Maps.Keyed Tryz.prog 3:=Maps.int_keyed Tryz.underlying3
theorem YO {i:Nat} (h:i<9223372036854775808):keyOf Tryz.prog 3 (vi i)=some (.int .i64 i):=
 Maps.keyOf_int_mk Tryz.underlying3 (by simp [Lit.wf,IntKind.min,IntKind.max,IntKind.signed,IntKind.bits];omega)
section
variable {W W':World} {b:Nat} {f:Nat→Option Int} {M:Nat→Prop}
theorem ImL.chg (h:ImL W b f) (c:Chg M W W') (hb: ¬M b):ImL W' b f:=by
 obtain ⟨L,h1,h2,h3⟩:=h
 exact ⟨L,h1,h2.chg c hb,h3⟩
theorem ImL.afx (h:rC Tryz.prog 3 W b []):ImL W b (fun _=>none):=⟨[],by simp,h,fun i v=>by simp⟩
def F9 (f:Nat→Option Int) (k:Nat) (u:Int):Nat→Option Int:=fun i=>if i=k then some u else f i
theorem YP {L:List (Nat×Int)} {j k:Nat} {v u:Int} (hn:(L.map (·.1)).Nodup) (hj:L[j]? =some (k,v)):((L.set j (k,u)).map (·.1)).Nodup∧ ∀i x,(i,x)∈L.set j (k,u)↔(i=k∧x=u)∨(i≠k∧(i,x)∈L):=by
 have hjl:=(List.getElem?_eq_some_iff.1 hj).1
 have e1:(L.set j (k,u)).map (·.1)=L.map (·.1):=by
  apply List.ext_getElem?
  intro m
  rw [List.getElem?_map,List.getElem?_map,List.getElem?_set]
  by_cases e:j=m
  ·subst e;rw [if_pos rfl,if_pos hjl,hj];rfl
  ·rw [if_neg e]
 have key: ∀(m:Nat) (p:Nat×Int),L[m]? =some p→p.1=k→m=j:=by
  intro m p hm e
  have hml:=(List.getElem?_eq_some_iff.1 hm).1
  refine ((List.getElem?_inj (by simpa using hml) hn).1 ?_)
  rw [List.getElem?_map,List.getElem?_map,hm,hj];simp [e]
 refine ⟨by rw [e1];exact hn,fun i x=>?_⟩
 rw [List.mem_iff_getElem?]
 constructor
 ·rintro ⟨m,hm⟩
  rw [List.getElem?_set] at hm
  by_cases e:j=m
  ·rw [if_pos e,if_pos (by omega)] at hm
   cases hm;exact .inl ⟨rfl,rfl⟩
  ·rw [if_neg e] at hm
   refine .inr ⟨fun e2=>e (key m _ hm e2).symm,List.mem_of_getElem? hm⟩
 ·rintro (⟨rfl,rfl⟩|⟨h1,h2⟩)
  ·exact ⟨j,by rw [List.getElem?_set,if_pos rfl,if_pos hjl]⟩
  ·obtain ⟨m,hm⟩:=List.mem_iff_getElem?.1 h2
   refine ⟨m,?_⟩
   rw [List.getElem?_set,if_neg]
   ·exact hm
   ·intro e
    subst e
    rw [hj] at hm;cases hm;exact h1 rfl
end
section
variable {n:Nat} {ds:List Deferred} {Q:Po} {F:Fr} {w w':World} {ops rest:List Oper} {d:Nat} {ty:TypeId} {pos:String} {aft:Array Edge}
theorem jd {x i y:Operand} {t e:TypeId} {b k:Nat} {u:Int} {f:Nat→Option Int} [ht:Und Tryz.prog t (.map 3 e)] (h:ImL w b f) (hk:k<9223372036854775808)
 (hx:ev n F x=.map (some b)) (hi:ev n F i=vi k) (hy:ev n F y=vi u) (c: ∀w',ImL w' b (F9 f k u)→Chg (fun j=>j=b) w w'→w'.heap.size=w.heap.size→Wl Tryz.prog n ds Q ops rest F w'):
 Wl Tryz.prog n ds Q ops (⟨none,.mapUpdate t x i y,ty,pos,aft,none⟩::rest) F w:=by
 obtain ⟨L,h1,h2,h3⟩:=h
 by_cases hin: ∃v,(k,v)∈L
 ·obtain ⟨v,hv⟩:=hin
  have hvm:((vi k,vi v):Value×Value)∈imP L:=List.mem_map.2 ⟨_,hv,rfl⟩
  refine jI YN h2 (YO hk) hvm hx hi hy fun w' j v' hj m c' s=>c w' ?_ c' s
  rw [List.getElem?_map] at hj
  obtain ⟨⟨k',v2⟩,hj1,hj2⟩:=Option.map_eq_some_iff.1 hj
  simp only [Prod.mk.injEq,Value.int.injEq,true_and] at hj2
  obtain rfl:k'=k:=by omega
  obtain ⟨q1,q2⟩:=YP (u:=u) h1 hj1
  refine ⟨L.set j (k',u),q1,?_,fun i x=>?_⟩
  ·rw [imP,List.map_set];exact m
  ·rw [q2]
   unfold F9
   by_cases e:i=k'
   ·rw [if_pos e];simp [e];exact eq_comm
   ·rw [if_neg e,h3];simp [e]
 ·have hno: ∀p∈imP L,p.1≠vi k:=by
   intro p hp e
   obtain ⟨⟨k',v⟩,hm,rfl⟩:=List.mem_map.1 hp
   simp only [Value.int.injEq,true_and] at e
   obtain rfl:k'=k:=by omega
   exact hin ⟨v,hm⟩
  refine fU YN h2 (YO hk) hno hx hi hy fun w' m c' s=>c w' ⟨L++ [(k,u)],?_,?_,fun i x=>?_⟩ c' s
  ·rw [List.map_append,List.nodup_append]
   refine ⟨h1,by simp,fun a ha b hb e=>?_⟩
   simp at hb
   obtain ⟨p,hp,rfl⟩:=List.mem_map.1 ha
   refine hin ⟨p.2,?_⟩
   rw [←hb, ←e];exact hp
  ·rw [imP,List.map_append];exact m
  ·unfold F9
   by_cases e:i=k
   ·rw [if_pos e,List.mem_append]
    subst e
    constructor
    ·intro q;cases q;simp
    ·rintro (q|q)
     ·exact absurd ⟨x,q⟩ hin
     ·simp at q;rw [q]
   ·rw [if_neg e,h3,List.mem_append];simp [e]
theorem Wk.Wl.afy {x i:Operand} {t e:TypeId} {b k:Nat} {bytes:Nat} {f:Nat→Option Int} [ht:Und Tryz.prog t (.map 3 e)] [he:ElT Tryz.prog e 1 bytes false (vi 0)] (h:ImL w b f) (hk:k<9223372036854775808)
 (hx:ev n F x=.map (some b)) (hi:ev n F i=vi k) (c:Wl Tryz.prog n ds Q ops rest (upd F d (.tuple #[vi ((f k).getD 0),.bool (f k).isSome])) w):
 Wl Tryz.prog n ds Q ops (⟨some d,.lookup t x i true,ty,pos,aft,none⟩::rest) F w:=by
 obtain ⟨L,h1,h2,h3⟩:=h
 refine jH YN h2 (YO hk) hx hi (fun r hr=>?_) (fun hr=>?_)
 ·obtain ⟨⟨k',v⟩,hm,e⟩:=List.mem_map.1 hr
  simp only [Prod.mk.injEq,Value.int.injEq,true_and] at e
  obtain ⟨e1,rfl⟩:=e
  obtain rfl:k'=k:=by omega
  rw [(h3 _ _).2 hm] at c
  exact c
 ·have:f k=none:=by
   cases hf:f k with
   |none=>rfl
   |some v=>exact absurd rfl (hr _ (List.mem_map.2 ⟨_,(h3 _ _).1 hf,rfl⟩))
  rw [this] at c
  exact c
end
end Go.Proofs.YtjecgaiaiophpaaGreatDoor
namespace Go.Proofs.YtjecgaiaiophpaaGreatDoor
open Go Wk
open Go.RowKit (Below)
attribute [local irreducible] Go.Calls
theorem PE {g:Giv} (hok:oG g.tree=true) {i:Nat} (hi:i<g.tree.length):uX g i=if g.gone.contains (oO g.tree i)=true then some i else if i=0 then none else uX g (par g.tree i):=by
 unfold uX
 by_cases h0:i=0
 ·subst h0
  rw [Bz,List.nil_append,List.find?_cons,if_pos rfl]
  cases g.gone.contains (oO g.tree 0)<;>rfl
 ·rw [BA hok h0 hi,List.cons_append,List.find?_cons,if_neg h0]
  cases g.gone.contains (oO g.tree i)<;>rfl
section
variable {Pb:Nat→Prop} {bw bm:Nat} {N:List Nb} {ord:List Nat} {fl:List (Nm×Int)} {nv ov:Value} {W W':World}
theorem NK {b2 i:Nat} (g:WkM Pb bw bm N ord fl nv ov W) (h2:Bk W b2 42 [pT bw]) (hi:i<N.length):
 Calls Tryz.prog 102 #[vi i,pT b2] W (Ret fun r w'=>r=.tuple #[.bool ((bnF N i).device&&(bnF N i).card.isNone),vi (-1)]∧w'=W):=by
 have hnl:=g.nl
 obtain ⟨na,nc,rfl,_,_⟩:=g.nd.row.form
 have hrd:=g.nd.row.rd (nP nbC)
 obtain ⟨x,hx⟩:=nV N hi
 rw [sO hx]
 refine nI Tryz.func102 rfl Tryz.ntmps102 rfl ?_
 (repeat' (first|refine aa1 ?_|refine af ?_|refine ah ?_|refine au ?_|refine ak ?_))
 refine ay (u:=pT bw) rfl (h2.cell (o:=0) rfl) ?_
 (repeat' (first|refine bK rfl ?_|refine aa5 ?_))
 refine ay (u:=.slice na N.length nc) rfl (g.b.cell (o:=0) rfl) ?_
 (repeat' (refine aa0 ?_))
 refine aU hrd rfl rfl (by omega) (by rw [Int.toNat_natCast];exact hx) fun b o cs hl hR hat=>?_
 obtain rfl:cs=nbC x:=hR
 (repeat' (refine aa5 ?_))
 refine ay (u:=.bool x.bn.device) rfl (hat.get 1 rfl) ?_
 cases hd:x.bn.device with
 |false=>
  (repeat' (first|refine aa0 ?_|refine aa1 ?_|refine af ?_|refine qi ?_|refine pI ?_|refine ah ?_|refine aA ?_))
  exact aS rfl rfl rfl ⟨_,rfl,rfl,rfl⟩
 |true=>
  (repeat' (first|refine aa0 ?_|refine aa6 ?_))
  refine ay (u:=pT bw) rfl (h2.cell (o:=0) rfl) ?_
  (repeat' (first|refine aa6 ?_|refine bK rfl ?_|refine aa5 ?_))
  refine ay (u:=.slice na N.length nc) rfl (g.b.cell (o:=0) rfl) ?_
  (repeat' (first|refine aa0 ?_|refine aa6 ?_))
  refine aU hrd rfl rfl (by omega) (by rw [Int.toNat_natCast];exact hx) fun b o cs hl hR hat=>?_
  obtain rfl:cs=nbC x:=hR
  (repeat' (first|refine aa6 ?_|refine aa5 ?_))
  refine ay (u:=vi (qy x.bn.card)) rfl (hat.get 4 rfl) ?_
  clear hat
  cases hc:x.bn.card with
  |none=>
   rw [show qy none= -1 from rfl]
   (repeat' (first|refine aa1 ?_|refine af ?_|refine aa6 ?_|refine pU ?_|refine ah ?_|refine aA ?_|(refine oZ (fun _=>?_) (fun _=>?_)<;>(first|(exfalso;omega)|skip))))
   exact aS rfl rfl rfl ⟨_,rfl,rfl,rfl⟩
  |some k=>
   rw [show qy (some k)=(k:Int) from rfl]
   (repeat' (first|refine aa1 ?_|refine af ?_|refine aa6 ?_|refine pU ?_|refine ah ?_|refine aA ?_|(refine oZ (fun _=>?_) (fun _=>?_)<;>(first|(exfalso;omega)|skip))))
   exact aS rfl rfl rfl ⟨_,rfl,rfl,rfl⟩
theorem KX {b2 b4 bq i m r:Nat} {mc:List Value} {f:Nat→Option Int} (g:WkM Pb bw bm N ord fl nv ov W) (h2:Bk W b2 42 [pT bw]) (h4:Bk W b4 188 mc) (hq:Bk W bq 5 [.int .u8 r]) (hr:r<7) (hm:mc[r]? =some (.map (some m))) (hf:ImL W m f) (hi:i<N.length):
 Calls Tryz.prog 101 #[vi i,pT b4,pT bq,pT b2] W (Ret fun v w'=>v=.tuple #[.bool ((f i).isSome&&(bnF N i).device),vi ((f i).getD 0)]∧w'=W):=by
 have hnl:=g.nl
 obtain ⟨na,nc,rfl,_,_⟩:=g.nd.row.form
 have hrd:=g.nd.row.rd (nP nbC)
 obtain ⟨x,hx⟩:=nV N hi
 rw [sO hx]
 refine nI Tryz.func101 rfl Tryz.ntmps101 rfl ?_
 (repeat' (first|refine aa1 ?_|refine af ?_|refine ah ?_|refine au ?_|refine ak ?_))
 refine ay (u:=.int .u8 r) rfl (hq.cell (o:=0) rfl) ?_
 skip
 refine gU rfl rfl (by omega) (by omega) ?_
 skip
 refine ay (u:=.map (some m)) rfl (h4.cell (o:=r) hm) ?_
 (repeat' (refine aa0 ?_))
 refine Wl.afy hf (by omega) rfl rfl ?_
 (repeat' (first|refine aa0 ?_|refine aa1 ?_|refine af ?_|refine pG ?_|refine ah ?_|refine au ?_|refine ak ?_))
 cases hs:f i with
 |none=>
  rw [show (none:Option Int).isSome=false from rfl]
  (repeat' (first|refine aa0 ?_|refine aa1 ?_|refine af ?_|refine qi ?_|refine pI ?_|refine ah ?_|refine aA ?_))
  exact aS rfl rfl rfl ⟨_,rfl,rfl,rfl⟩
 |some u=>
  rw [show (some u).isSome=true from rfl]
  (repeat' (refine aa6 ?_))
  refine ay (u:=pT bw) rfl (h2.cell (o:=0) rfl) ?_
  (repeat' (first|refine aa6 ?_|refine bK rfl ?_|refine aa5 ?_))
  refine ay (u:=.slice na N.length nc) rfl (g.b.cell (o:=0) rfl) ?_
  (repeat' (first|refine aa0 ?_|refine aa6 ?_))
  refine aU hrd rfl rfl (by omega) (by rw [Int.toNat_natCast];exact hx) fun b o cs hl hR hat=>?_
  obtain rfl:cs=nbC x:=hR
  (repeat' (first|refine aa6 ?_|refine aa5 ?_))
  refine ay (u:=.bool x.bn.device) rfl (hat.get 1 rfl) ?_
  (repeat' (first|refine aa0 ?_|refine aa1 ?_|refine af ?_|refine pU ?_|refine ah ?_|refine aA ?_))
  exact aS rfl rfl rfl ⟨_,rfl,rfl,rfl⟩
theorem Bd {b2 b4 r:Nat}:Calls Tryz.prog 100 #[.int .u8 r,pT b4,pT b2] W (Ret fun v w'=> ∃bq,v=.agg #[.int .u8 r,.func (.func 101) #[] #[pT b4,pT bq,pT b2]]∧W.heap.size≤bq∧Bk w' bq 5 [.int .u8 r]∧New W w'):=by
 refine nI Tryz.func100 rfl Tryz.ntmps100 rfl ?_
 (repeat' (first|refine au ?_|refine ak ?_))
 refine bC rfl fun w1 b1 n1 s1=>?_
 replace b1:Bk w1 W.heap.size 5 [.int .u8 r]:=b1
 refine Wl.alloc fun w2 h2 n2 s2=>?_
 replace h2:Bk w2 w1.heap.size 203 [.int .u8 0,.nilFunc]:=h2
 (repeat' (first|refine af ?_|refine ah ?_|refine au ?_|refine ak ?_))
 refine ay (u:=.int .u8 r) rfl ((b1.chg n2 fun e=>e).cell (o:=0) rfl) ?_
 skip
 refine dH (f1:=[]) (c1:=[pT b4,pT W.heap.size,pT b2]) rfl rfl ?_
 skip
 refine bV (ps:=[(0,.tmp 5),(1,.tmp 6)]) (parts:=[(0,.int .u8 r),(1,.func (.func 101) #[] #[pT b4,pT W.heap.size,pT b2])]) rfl rfl (by simp [Value.cells]) ?_
 refine aX (new:=[.int .u8 r,.func (.func 101) #[] #[pT b4,pT W.heap.size,pT b2]]) h2 rfl rfl rfl rfl (show (2:Nat)≤2 from Nat.le_refl 2) (by intro c hc;simp at hc;rcases hc with rfl|rfl<;>rfl) fun w3 b3 c3 s3=>?_
 (repeat' (first|refine af ?_|refine ah ?_|refine aA ?_))
 have hz:=n1.size
 have hb1:=b1.lt
 refine fA (yX rfl (ul rfl rfl b3 rfl)) ⟨_,rfl,W.heap.size,rfl,Nat.le_refl _,(b1.chg n2 fun e=>e).chg c3 fun e=>by omega,(Chg.trans (M:=fun k=>k=w1.heap.size) (New.trans n1 n2).any c3 fun k _ e=>e).toNew fun k hk e=>by omega⟩
theorem NM {b1 b2 b3 gm i:Nat} {L:List (Nm×Int)} {G:Giv} {tv cv fv gv:Value} {Pt:Nat→Prop} (g:WkM Pb bw bm N ord fl nv ov W) (h1:Bk W b1 104 [.map (some gm)]) (h2:Bk W b2 42 [pT bw]) (h3:Bk W b3 27 [tv,cv,fv,gv]) (ht:RdS rNd 3 Pt W tv G.tree) (mp:rC Tryz.prog 9 W gm (I4 L)) (cn:Cnt G.gone L)
 (hok:oG G.tree=true) (hN:N.length=G.tree.length) (hp: ∀k,k<N.length→(bnF N k).path=oO G.tree k) (hi:i<N.length):
 Calls Tryz.prog 103 #[vi i,pT b1,pT b2,pT b3] W (Ret fun v w'=>v=.tuple #[.bool (uX G i).isSome,vi (qy (uX G i))]∧New W w'):=by
 have hnl:=g.nl
 obtain ⟨na,nc,rfl,_,_⟩:=g.nd.row.form
 have hrd:=g.nd.row.rd (nP nbC)
 obtain ⟨ta,tc,rfl,_,_⟩:=ht.form
 refine nI Tryz.func103 rfl Tryz.ntmps103 rfl ?_
 (repeat' (first|refine aa1 ?_|refine af ?_|refine ah ?_|refine au ?_|refine ak ?_|refine Wc.block ?_))
 refine aP (σ:=Option Nat) (fun q=>[(0,vi (qy q)),(1,pT b1),(2,pT b2),(3,pT b3)])
  (fun q w'=>(∀k,q=some k→k<N.length∧uX G i=uX G k)∧(q=none→uX G i=none)∧New W w') (fun q=>(qy q+1).toNat) (some i) ⟨rfl,rfl,rfl,rfl,trivial⟩ ⟨fun k e=>by cases e;exact ⟨hi,rfl⟩,fun e=>(by cases e),aQ _ _⟩ ?_
 rintro q F w1 ⟨hs,hno,n1⟩
 simp only [oU]
 cases q with
 |none=>
  rw [hno rfl,show qy none= -1 from rfl]
  (repeat' (refine au ?_))
  refine eG rfl (by kernel_rfl) ?_
  (repeat' (first|refine aa9 ?_|refine ax ?_|refine dN rfl rfl ?_|refine uY ?_|(refine Wq.geq rfl rfl (fun _=>?_) (fun _=>?_)<;>(first|(exfalso;omega)|skip))))
  intro w2 n2
  (repeat' (first|refine aa0 ?_|refine aa1 ?_|refine af ?_|refine ah ?_|refine au ?_|refine ak ?_|refine aJ ?_|refine aA ?_|refine aK ?_|refine aI ?_|refine aO ?_|refine aa4 ?_|(refine bZ rfl rfl (fun _=>?_) (fun _=>?_)<;>(first|(exfalso;omega)|skip))))
  exact aS rfl rfl rfl ⟨_,rfl,rfl,New.trans n1 n2⟩
 |some k=>
  obtain ⟨hk,he⟩:=hs k rfl
  rw [he,PE hok (by omega)]
  rw [show qy (some k)=(k:Int) from rfl]
  obtain ⟨x,hx⟩:=nV N hk
  have hxp:x.bn.path=oO G.tree k:=by rw [←sO hx];exact hp k hk
  have hpl:=g.fn.2 x (List.mem_of_getElem? hx)
  obtain ⟨qk,hqk⟩:=KW (s:=x.bn.path) (by omega)
  obtain ⟨y,hy⟩:=nV G.tree (k:=k) (by omega)
  have hyk:=qO hok hy
  have hya:ndA G.tree k=y:=by unfold ndA;rw [List.getD_eq_getElem?_getD,hy];rfl
  (repeat' (refine au ?_))
  refine eG rfl (by kernel_rfl) ?_
  (repeat' (first|refine aa9 ?_|refine qE ?_|(refine Wq.geq rfl rfl (fun _=>?_) (fun _=>?_)<;>(first|(exfalso;omega)|skip))))
  refine aC (u:=.map (some gm)) rfl (fun w' hw=>(h1.chg (New.trans n1 hw) fun e=>e).cell (o:=0) rfl) ?_
  (repeat' (refine qE ?_))
  refine aC (u:=pT bw) rfl (fun w' hw=>(h2.chg (New.trans n1 hw) fun e=>e).cell (o:=0) rfl) ?_
  (repeat' (first|refine qE ?_|refine bf rfl ?_|refine aa8 ?_))
  refine aC (u:=.slice na N.length nc) rfl (fun w' hw=>(g.b.chg (New.trans n1 hw) fun e=>e).cell (o:=0) rfl) ?_
  (repeat' (first|refine aa9 ?_|refine qE ?_))
  refine cO hrd (fun w' hw=>(New.trans n1 hw).keep) rfl rfl (by omega) (by rw [Int.toNat_natCast];exact hx) fun b o cs hl hR hat=>?_
  obtain rfl:cs=nbC x:=hR
  (repeat' (first|refine qE ?_|refine aa8 ?_))
  refine aC (u:=vs x.bn.path) rfl (fun w' hw=>(hat w' hw).get 0 rfl) ?_
  clear hat
  (repeat' (refine qE ?_))
  refine jW (l:=I4 L) (Maps.string_keyed Tryz.underlying9) (fun w' hw=>mp.chg (New.trans n1 hw) fun e=>e) (fun r r' m1 m2=>?_) hqk rfl rfl (fun r hr=>?_) (fun hr=>?_)
  ·obtain ⟨⟨s1,c1⟩,q1,e1⟩:=List.mem_map.1 m1
   obtain ⟨⟨s2,c2⟩,q2,e2⟩:=List.mem_map.1 m2
   simp only [Prod.mk.injEq] at e1 e2
   obtain rfl:=xq e1.1
   obtain rfl:=xq e2.1
   rw [←e1.2, ←e2.2,Gl cn.nd q1 q2]
  ·obtain ⟨⟨s1,c1⟩,q1,e1⟩:=List.mem_map.1 hr
   simp only [Prod.mk.injEq] at e1
   obtain ⟨e1,rfl⟩:=e1
   obtain rfl:=xq e1
   have hc:=cn.mem _ q1
   dsimp only at hc
   (repeat' (first|refine ax ?_|refine qE ?_|refine xh ?_|(refine cZ rfl rfl (fun _=>?_) (fun _=>?_)<;>(first|(exfalso;omega)|skip))))
   intro w2 n2
   rw [if_pos (List.contains_iff_mem.2 (hxp▸hc.2.2))]
   (repeat' (first|refine aa0 ?_|refine aa1 ?_|refine af ?_|refine ah ?_|refine au ?_|refine ak ?_|refine aJ ?_|refine aA ?_|refine aK ?_|refine aI ?_|refine aO ?_|refine aa4 ?_|(refine bZ rfl rfl (fun _=>?_) (fun _=>?_)<;>(first|(exfalso;omega)|skip))))
   exact aS rfl rfl rfl ⟨_,rfl,rfl,New.trans n1 n2⟩
  ·have hcn: ¬G.gone.contains (oO G.tree k)=true:=fun e=>by
    obtain ⟨c,hc⟩:=cn.all _ (List.contains_iff_mem.1 e)
    exact hr _ (List.mem_map.2 ⟨_,hc,rfl⟩) (by rw [hxp])
   (repeat' (first|refine ax ?_|refine qE ?_|refine xh ?_|(refine cZ rfl rfl (fun _=>?_) (fun _=>?_)<;>(first|(exfalso;omega)|skip))))
   intro w2 n2
   rw [if_neg hcn]
   have n12:=New.trans n1 n2
   (repeat' (first|refine ah ?_|refine ak ?_|refine Wc.block ?_|refine Wc.skip ?_|refine aa3 ?_|refine aa5 ?_))
   refine ay (u:=.slice ta G.tree.length tc) rfl ((h3.chg n12 fun e=>e).cell (o:=0) rfl) ?_
   (repeat' (refine aa0 ?_))
   refine aU (ht.keep oz n12.keep) rfl rfl (by omega) (by rw [Int.toNat_natCast];exact hy) fun b o cs hl hR hat=>?_
   obtain ⟨pvn,rfl,hpv⟩:=hR
   (repeat' (refine aa5 ?_))
   refine ay (u:=vi y.parent) rfl (hat.get 0 rfl) ?_
   clear hat
   (repeat' (first|refine aa1 ?_|refine af ?_|refine aH ?_))
   by_cases h0:k=0
   ·subst h0
    rw [(hyk.root rfl).1]
    refine aG none ⟨rfl,rfl,rfl,rfl,trivial⟩ ⟨fun k e=>(by cases e),fun _=>?_,n12⟩ (by simp [qy])
    exact if_pos rfl
   ·have hpar:=uf hok h0 (by omega)
    rw [hya] at hpar
    rw [hpar.2]
    rw [if_neg h0]
    exact aG (some (par G.tree k)) ⟨rfl,rfl,rfl,rfl,trivial⟩ ⟨fun j e=>by cases e;exact ⟨by omega,rfl⟩,fun e=>(by cases e),n12⟩ (by simp only [qy];omega)
end
end Go.Proofs.YtjecgaiaiophpaaGreatDoor
namespace Go.Proofs.YtjecgaiaiophpaaGreatDoor
open Go Wk
def ql (g:Giv):Int:=if oG g.tree=false then 40 else if uw g.cards=false then 70 else if 512<g.fails.length∨512<g.gone.length then 1 else 0
theorem wo {g:Giv}:ql g=0↔oG g.tree=true∧uw g.cards=true∧g.fails.length≤512∧g.gone.length≤512:=by
 unfold ql
 cases oG g.tree<;>cases uw g.cards<;>simp
theorem wu {g:Giv} {i:Nat} (h:i<g.tree.length):nR g i=wL g i:=if_pos h
theorem Iz {g:Giv} {i:Nat} (h: ¬i<g.tree.length):nR g i=default:=if_neg h
theorem wz (g:Giv) (i:Nat):(wL g i).wants=(if 0<i then [par g.tree i] else [])++zf g.tree i:=rfl
theorem zh {t:List Nd} {i k:Nat}:k∈zf t i↔ ∃e∈nZ t,e.src=i∧e.soft=false∧qK t i=true∧e.dst=some k:=by
 unfold zf
 rw [List.mem_filterMap]
 constructor
 ·rintro ⟨e,he,h⟩
  split at h
  ·rename_i hc;exact ⟨e,he,hc.1,hc.2.1,hc.2.2,h⟩
  ·cases h
 ·rintro ⟨e,he,h1,h2,h3,h4⟩
  exact ⟨e,he,by rw [if_pos ⟨h1,h2,h3⟩];exact h4⟩
theorem Tf {g:Giv} (hok:oG g.tree=true):InN (wL g) g.tree.length:=by
 intro i hi k hk
 rw [wz] at hk
 rcases List.mem_append.1 hk with hk|hk
 ·split at hk
  ·rename_i h0
   rw [List.mem_singleton.1 hk]
   have:=(uf hok (by omega) hi).1
   omega
  ·cases hk
 ·obtain ⟨e,he,_,_,_,h4⟩:=zh.1 hk
  exact (vH e he).2 k h4
theorem vJ {g:Giv} (hok:oG g.tree=true):InN (nR g) g.tree.length:=by
 intro i hi k hk
 rw [wu hi] at hk
 exact Tf hok i hi k hk
end Go.Proofs.YtjecgaiaiophpaaGreatDoor
namespace Go.Proofs.YtjecgaiaiophpaaGreatDoor
open Go Wk
open Go.RowKit (Below)
attribute [local irreducible] Go.Calls
def xJ (G:Giv) (es:List Ed) (i:Nat):Bn:=
 {path:=oO G.tree i,device:=qK G.tree i,level:=match (if qK G.tree i=true then qP G.cards G.tree i else none) with|some k=>(G.cards.getD k default).level|none=>0,
  reason:=if onM G.tree i=false then 1 else 0,card:=if qK G.tree i=true then qP G.cards G.tree i else none,why:= -1,
  wants:=(if 0<i then [par G.tree i] else [])++es.filterMap fun e=>if e.src=i∧e.soft=false∧qK G.tree i=true then e.dst else none}
def xK (G:Giv) (es:List Ed) (i:Nat):Bn:=if i<G.tree.length then xJ G es i else default
abbrev cnts (t:List Nd) (e:Ed):Bool:= !e.soft&&qK t e.src
def vk (t:List Nd) (es:List Ed) (i:Nat):Option Int:=if es.any (fun e=>decide (e.src=i)&&(cnts t e&&e.dst.isNone))=true then some (-1) else none
theorem PG (t:List Nd) (es:List Ed) (e:Ed):vk t (es++ [e])=if (cnts t e&&e.dst.isNone)=true then F9 (vk t es) e.src (-1) else vk t es:=by
 funext i
 unfold vk
 rw [List.any_append,List.any_cons,List.any_nil,Bool.or_false]
 cases hc:(cnts t e&&e.dst.isNone) with
 |false=>rw [if_neg (by decide: ¬false=true),Bool.and_false,Bool.or_false]
 |true=>
  rw [if_pos rfl,Bool.and_true]
  unfold F9
  by_cases hi:i=e.src
  ·rw [if_pos hi,if_pos];simp [hi]
  ·rw [if_neg hi]
   have:decide (e.src=i)=false:=decide_eq_false fun h=>hi h.symm
   rw [this,Bool.or_false]
theorem PI (G:Giv) (es:List Ed) (e:Ed) (i:Nat):xJ G (es++ [e]) i=if i=e.src∧cnts G.tree e=true then (match e.dst with|some d=>{xJ G es i with wants:=(xJ G es i).wants++ [d]}|none=>xJ G es i) else xJ G es i:=by
 unfold xJ
 rw [List.filterMap_append]
 by_cases hi:i=e.src∧cnts G.tree e=true
 ·rw [if_pos hi]
  obtain ⟨rfl,hc⟩:=hi
  simp only [cnts,Bool.and_eq_true,Bool.not_eq_true'] at hc
  cases hd:e.dst with
  |none=>simp [hc.1,hc.2,hd]
  |some d=>simp [hc.1,hc.2,hd]
 ·rw [if_neg hi]
  have: ¬(e.src=i∧e.soft=false∧qK G.tree i=true):=fun h=>hi ⟨h.1.symm,by rw [←h.1] at h;simp [cnts,h.2.1,h.2.2]⟩
  rw [List.filterMap_cons,if_neg this]
  simp
theorem PK (G:Giv) (es:List Ed) (e:Ed):xK G (es++ [e])=if cnts G.tree e=true∧e.src<G.tree.length then (match e.dst with|some d=>fun i=>if i=e.src then {xK G es i with wants:=(xK G es i).wants++ [d]} else xK G es i|none=>xK G es) else xK G es:=by
 funext i
 unfold xK
 rw [PI]
 by_cases hc:cnts G.tree e=true∧e.src<G.tree.length
 ·rw [if_pos hc]
  cases e.dst with
  |none=>by_cases hl:i<G.tree.length<;>simp [hl]
  |some d=>
   dsimp only
   by_cases hi:i=e.src
   ·subst hi;simp [hc.1,hc.2]
   ·simp [hi]
 ·rw [if_neg hc]
  by_cases hl:i<G.tree.length
  ·rw [if_pos hl,if_pos hl,if_neg]
   rintro ⟨rfl,h⟩
   exact hc ⟨h,hl⟩
  ·rw [if_neg hl,if_neg hl]
def yt (rs:List (List Nat)) (i:Nat):Option Int:=(Di rs i).map fun k=>(k:Int)
theorem PL (rs:List (List Nat)) (l:List Nat) (i:Nat):yt (rs++ [l]) i=if i∈l then some ((l.headD 0:Nat):Int) else yt rs i:=by
 unfold yt Di
 rw [List.foldl_append,List.foldl_cons,List.foldl_nil]
 split<;>rfl
theorem Ti (rs:List Rfs) (r:Rfs):F8 (rs++ [r])=F9 (F8 rs) r.node r.by_:=by
 funext i
 unfold F8 F9
 rw [List.foldl_append,List.foldl_cons,List.foldl_nil]
 by_cases h:i=r.node
 ·rw [if_pos h,if_pos h.symm]
 ·rw [if_neg h,if_neg fun e=>h e.symm]
noncomputable def Ad (G:Giv) (i:Nat):Nat→Option Int
 |0=>if qK G.tree i=true∧qP G.cards G.tree i=none then some (-1) else none
 |1=>if qK G.tree i=true then F8 (qM G.cards G.tree).2 i else none
 |2=>if qK G.tree i=true then vk G.tree (nZ G.tree) i else none
 |3=>if qK G.tree i=true then yt (rJ G.tree) i else none
 |_=>(uX G i).map fun k=>(k:Int)
def Be (p:Nat×Int) (r:Nat) (o:Option Int):Nat×Int:=if p.1=0 then (match o with|some y=>(r,y)|none=>p) else p
noncomputable def Dl (G:Giv) (i:Nat):Nat→Nat×Int
 |0=>(if onM G.tree i=false then 1 else 0, -1)
 |m+1=>Be (Dl G i m) (m+2) (Ad G i m)
theorem Tj {t:List Nd} {i:Nat} (hd:qK t i=true):vk t (nZ t) i=if (∃e∈nZ t,e.src=i∧e.soft=false∧e.dst=none) then some (-1) else none:=by
 unfold vk
 by_cases h: ∃e∈nZ t,e.src=i∧e.soft=false∧e.dst=none
 ·rw [if_pos h,if_pos]
  obtain ⟨e,he,h1,h2,h3⟩:=h
  refine List.any_eq_true.2 ⟨e,he,?_⟩
  simp [cnts,h1,h2,h3,hd]
 ·rw [if_neg h,if_neg]
  intro e
  obtain ⟨x,hx,h1⟩:=List.any_eq_true.1 e
  simp [cnts] at h1
  exact h ⟨x,hx,h1.1,h1.2.1.1,h1.2.2⟩
theorem PN (G:Giv) (i:Nat):Dl G i 5=firstM G i:=by
 have hd0:onM G.tree i=false→qK G.tree i=false:=fun h=>by unfold qK;rw [h];simp
 simp only [Dl]
 unfold firstM
 dsimp only
 by_cases h1:onM G.tree i=false
 ·rw [if_pos h1,if_pos h1];rfl
 rw [if_neg h1,if_neg h1]
 by_cases h2:qK G.tree i=true∧qP G.cards G.tree i=none
 ·rw [if_pos h2]
  simp only [Ad,if_pos h2];rfl
 rw [if_neg h2]
 simp only [Ad,if_neg h2]
 cases hd:qK G.tree i with
 |false=>
  simp only [Bool.false_eq_true,if_false,false_and]
  cases uX G i<;>rfl
 |true=>
  simp only [if_true,true_and,Tj hd]
  cases F8 (qM G.cards G.tree).2 i with
  |some b=>rfl
  |none=>
   by_cases h3: ∃e∈nZ G.tree,e.src=i∧e.soft=false∧e.dst=none
   ·simp only [if_pos h3];rfl
   ·simp only [if_neg h3]
    unfold yt
    cases Di (rJ G.tree) i with
    |some k=>rfl
    |none=>cases uX G i<;>rfl
noncomputable def zi (G:Giv) (m i:Nat):Bn:={xJ G (nZ G.tree) i with reason:=(Dl G i m).1,why:=(Dl G i m).2}
theorem Tm (G:Giv) (i:Nat):zi G 5 i=wL G i:=by
 unfold zi xJ wL zf
 rw [PN]
 rfl
theorem PO (G:Giv) (i:Nat):zi G 0 i=xJ G (nZ G.tree) i:=rfl
theorem KY {N:List Nb} {i:Nat} {y:Nb} (hi:i<N.length):bnF (N.set i y)=fun k=>if k=i then y.bn else bnF N k:=by
 funext k
 unfold bnF
 rw [List.getD_eq_getElem?_getD,List.getD_eq_getElem?_getD,List.getElem?_set]
 by_cases e:i=k
 ·subst e
  rw [if_pos rfl,if_pos hi,if_pos rfl];rfl
 ·rw [if_neg e,if_neg fun h=>e h.symm]
theorem KZ {N:List Nb} {i:Nat} {y:Nb} (h: ∀k,stF N k=0) (hy:y.st=0): ∀k,stF (N.set i y) k=0:=by
 intro k
 have:=h k
 unfold stF at this ⊢
 rw [List.getD_eq_getElem?_getD] at this ⊢
 rw [List.getElem?_set]
 split
 ·split
  ·exact hy
  ·rfl
 ·exact this
section
variable {Pb:Nat→Prop} {bw bm:Nat} {N:List Nb} {fl:List (Nm×Int)} {nv:Value} {W W':World}
theorem WkM.want (g:WkM Pb bw bm N [] fl nv (.slice none 0 0) W) {i d:Nat} {x:Nb} {w1:World} {v':SV} (hx:N[i]? =some x) (hd:d<N.length) (ho:nO (Wk.one viN) 3 1 Pb NoB w1 (svV v') (x.bn.wants++ [d])) (c1:Chg (fun k=>(svV x.wv).ownBlock=some k) W w1) (lie:(svV v').ownBlock=(svV x.wv).ownBlock∨ ∀k,(svV v').ownBlock=some k→W.heap.size≤k)
 (hr:nO (flat nbC) 118 9 Pb NoB W' nv (N.set i {x with wv:=v',bn:={x.bn with wants:=x.bn.wants++ [d]}})) (c2:Chg (fun k=>nv.ownBlock=some k) w1 W'):WkM Pb bw bm (N.set i {x with wv:=v',bn:={x.bn with wants:=x.bn.wants++ [d]}}) [] fl nv (.slice none 0 0) W':=by
 have hxm:=List.mem_of_getElem? hx
 have hel:=g.nd.el x hxm
 have b1:=g.b.chg c1 fun e=>hel.pO g.b rfl e rfl
 have m1:=g.mp.chg c1 fun e=>hel.rE g.mp e rfl
 have hrow:=g.nd.row.chg (nH nbC) c1 fun k hk e=>g.nd.wR x hxm k e hk
 refine ⟨b1.chg c2 fun e=>hrow.pO b1 rfl e rfl,g.nd.set hx ho c1 lie hr c2,bF,m1.chg c2 fun e=>hrow.rE m1 e rfl,fun y hy k e1 e2=>(by cases e2),fun y hy k hk=>?_,by rw [List.length_set];exact g.nl,⟨g.fn.1,fun y hy=>?_⟩,g.lo2⟩
 ·rw [List.length_set]
  rcases List.mem_or_eq_of_mem_set hy with hy|rfl
  ·exact g.win y hy k hk
  ·rcases List.mem_append.1 hk with hk|hk
   ·exact g.win x hxm k hk
   ·rw [List.mem_singleton.1 hk];exact hd
 ·rcases List.mem_or_eq_of_mem_set hy with hy|rfl
  ·exact g.fn.2 y hy
  ·exact g.fn.2 x hxm
theorem WkM.aaB (g:WkM Pb bw bm N [] fl nv (.slice none 0 0) W) {i:Nat} {x y:Nb} (hx:N[i]? =some x) (hw:y.wv=x.wv) (hn:y.bn.wants=x.bn.wants) (hp:y.bn.path=x.bn.path) (hr:nO (flat nbC) 118 9 Pb NoB W' nv (N.set i y)) (c:Chg (fun k=>nv.ownBlock=some k) W W'):WkM Pb bw bm (N.set i y) [] fl nv (.slice none 0 0) W':=by
 have hxm:=List.mem_of_getElem? hx
 refine ⟨g.b.chg c fun e=>g.nd.row.pO g.b rfl e rfl,g.nd.put hx (by rw [hw]) hn hr c,bF,g.mp.chg c fun e=>g.nd.row.rE g.mp e rfl,fun z hz k e1 e2=>(by cases e2),fun z hz k hk=>?_,by rw [List.length_set];exact g.nl,⟨g.fn.1,fun z hz=>?_⟩,g.lo2⟩
 ·rw [List.length_set]
  rcases List.mem_or_eq_of_mem_set hz with hz|rfl
  ·exact g.win z hz k hk
  ·rw [hn] at hk;exact g.win x hxm k hk
 ·rcases List.mem_or_eq_of_mem_set hz with hz|rfl
  ·exact g.fn.2 z hz
  ·rw [hp];exact g.fn.2 x hxm
end
structure JdE (bw b2 b3 b4:Nat) (mb:List Nat) (ff:Nat→Nat→Option Int) (tv cv fv gv:Value) (W:World):Prop where
 h2:Bk W b2 42 [pT bw]
 h3:Bk W b3 27 [tv,cv,fv,gv]
 h4:Bk W b4 188 (mb.map fun b=>.map (some b))
 im: ∀(r b:Nat),mb[r]? =some b→ImL W b (ff r)
 ml:mb.length=7
 nd:mb.Nodup
section
variable {bw b2 b3 b4:Nat} {mb:List Nat} {ff:Nat→Nat→Option Int} {tv cv fv gv:Value} {W W':World} {M:Nat→Prop}
theorem JdE.chg (e:JdE bw b2 b3 b4 mb ff tv cv fv gv W) (c:Chg M W W') (n2: ¬M b2) (n3: ¬M b3) (n4: ¬M b4) (nm: ∀b∈mb, ¬M b):JdE bw b2 b3 b4 mb ff tv cv fv gv W':=
 ⟨e.h2.chg c n2,e.h3.chg c n3,e.h4.chg c n4,fun r b h=>(e.im r b h).chg c (nm b (List.mem_of_getElem? h)),e.ml,e.nd⟩
theorem JdE.new (e:JdE bw b2 b3 b4 mb ff tv cv fv gv W) (c:New W W'):JdE bw b2 b3 b4 mb ff tv cv fv gv W':=e.chg c (fun e=>e) (fun e=>e) (fun e=>e) (fun _ _ e=>e)
theorem ImL.ml {b:Nat} {f:Nat→Option Int} (h:ImL W b f): ∃l,rC Tryz.prog 3 W b l:=by obtain ⟨L,_,h,_⟩:=h;exact ⟨_,h⟩
theorem JdE.own (e:JdE bw b2 b3 b4 mb ff tv cv fv gv W) {α:Type} {R:Rel α} {ty:TypeId} {sz:Nat} {Pb Pe:Nat→Prop} {v:Value} {xs:List α} (o:nO R ty sz Pb Pe W v xs) (c:Chg (fun k=>v.ownBlock=some k) W W') (n2:Nat.beq ty 42=false) (n3:Nat.beq ty 27=false) (n4:Nat.beq ty 188=false):JdE bw b2 b3 b4 mb ff tv cv fv gv W':=
 e.chg c (fun h=>o.pO e.h2 n2 h rfl) (fun h=>o.pO e.h3 n3 h rfl) (fun h=>o.pO e.h4 n4 h rfl) fun b hb h=>by
  obtain ⟨r,hr⟩:=List.mem_iff_getElem?.1 hb
  obtain ⟨l,hl⟩:=(e.im r b hr).ml
  exact o.rE hl h rfl
theorem JdE.put (e:JdE bw b2 b3 b4 mb ff tv cv fv gv W) {r b:Nat} {f:Nat→Option Int} (hr:mb[r]? =some b) (h:ImL W' b f) (c:Chg (fun k=>k=b) W W'):JdE bw b2 b3 b4 mb (fun s=>if s=r then f else ff s) tv cv fv gv W':=by
 obtain ⟨l,hl⟩:=(e.im r b hr).ml
 refine ⟨e.h2.chg c fun q=>e.h2.rE hl q,e.h3.chg c fun q=>e.h3.rE hl q,e.h4.chg c fun q=>e.h4.rE hl q,fun s d hs=>?_,e.ml,e.nd⟩
 by_cases hsr:s=r
 ·subst hsr
  rw [if_pos rfl]
  rw [hr] at hs
  cases hs
  exact h
 ·rw [if_neg hsr]
  refine (e.im s d hs).chg c fun q=>?_
  subst q
  refine hsr ?_
  exact (List.getElem?_inj (by have:=(List.getElem?_eq_some_iff.1 hs).1;exact this) e.nd).1 (hs.trans hr.symm)
end
end Go.Proofs.YtjecgaiaiophpaaGreatDoor
namespace Go.Proofs.YtjecgaiaiophpaaGreatDoor
open Go Wk
open Go.RowKit (Below)
attribute [local irreducible] Go.Calls
abbrev Jd:=Nat×FuncId×List Value
abbrev jdC (e:Jd):List Value:=[.int .u8 e.1,.func (.func e.2.1) #[] e.2.2.toArray]
theorem VE:qQ (flat jdC) 2:=qU _ (fun _=>rfl) fun e c hc=>by
 simp at hc
 rcases hc with rfl|rfl<;>rfl
def jdL (b2 b3 b4 q1 q2 q3 q6:Nat):List Jd:=[(2,102,[pT b2]),(3,101,[pT b4,pT q1,pT b2]),(4,101,[pT b4,pT q2,pT b2]),(5,101,[pT b4,pT q3,pT b2]),(6,103,[pT q6,pT b2,pT b3])]
structure JdF (G:Giv) (lo bw b2 b3 b4 q1 q2 q3 q6 gm:Nat) (mb:List Nat) (Lg:List (Nm×Int)) (tv cv fv gv:Value) (W:World):Prop where
 e:JdE bw b2 b3 b4 mb (fun s=>if s=3 then F8 (qM G.cards G.tree).2 else if s=4 then vk G.tree (nZ G.tree) else if s=5 then yt (rJ G.tree) else fun _=>none) tv cv fv gv W
 h1:Bk W q1 5 [.int .u8 (3:Nat)]
 h2:Bk W q2 5 [.int .u8 (4:Nat)]
 h3:Bk W q3 5 [.int .u8 (5:Nat)]
 h6:Bk W q6 104 [.map (some gm)]
 mp:rC Tryz.prog 9 W gm (I4 Lg)
 tr:RdS rNd 3 (fun b=>b<lo) W tv G.tree
section
variable {G:Giv} {lo bw b2 b3 b4 q1 q2 q3 q6 gm:Nat} {mb:List Nat} {Lg:List (Nm×Int)} {tv cv fv gv:Value} {W W':World}
theorem JdF.new (h:JdF G lo bw b2 b3 b4 q1 q2 q3 q6 gm mb Lg tv cv fv gv W) (c:New W W'):JdF G lo bw b2 b3 b4 q1 q2 q3 q6 gm mb Lg tv cv fv gv W':=
 ⟨h.e.new c,h.h1.chg c fun e=>e,h.h2.chg c fun e=>e,h.h3.chg c fun e=>e,h.h6.chg c fun e=>e,h.mp.chg c fun e=>e,h.tr.keep oz c.keep⟩
theorem JdF.row (h:JdF G lo bw b2 b3 b4 q1 q2 q3 q6 gm mb Lg tv cv fv gv W) {Pb:Nat→Prop} {v:Value} {xs:List Nb} (o:nO (flat nbC) 118 9 Pb NoB W v xs) (hlo: ∀k,v.ownBlock=some k→lo≤k) (c:Chg (fun k=>v.ownBlock=some k) W W'):JdF G lo bw b2 b3 b4 q1 q2 q3 q6 gm mb Lg tv cv fv gv W':=
 ⟨h.e.own o c rfl rfl rfl,h.h1.chg c fun e=>o.pO h.h1 rfl e rfl,h.h2.chg c fun e=>o.pO h.h2 rfl e rfl,h.h3.chg c fun e=>o.pO h.h3 rfl e rfl,h.h6.chg c fun e=>o.pO h.h6 rfl e rfl,h.mp.chg c fun e=>o.rE h.mp e rfl,
   h.tr.keep oz (c.keep fun b _ hb e=>by have:=hlo b e;have hb:b<lo:=hb;omega)⟩
theorem PS {m:Nat} {e:Jd} (h:(jdL b2 b3 b4 q1 q2 q3 q6)[m]? =some e):nK Tryz.prog e.2.1:=by
 unfold jdL at h
 match m with
 |0=>cases h;infer_instance
 |1=>cases h;infer_instance
 |2=>cases h;infer_instance
 |3=>cases h;infer_instance
 |4=>cases h;infer_instance
 |n+5=>cases h
theorem Xu {Pb:Nat→Prop} {bm:Nat} {N:List Nb} {ord:List Nat} {fl:List (Nm×Int)} {nv ov:Value} {m k:Nat} {e:Jd} (h:JdF G lo bw b2 b3 b4 q1 q2 q3 q6 gm mb Lg tv cv fv gv W) (g:WkM Pb bw bm N ord fl nv ov W) (cn:Cnt G.gone Lg) (hok:oG G.tree=true) (hN:N.length=G.tree.length)
 (hp: ∀i,i<N.length→(bnF N i).path=oO G.tree i∧(bnF N i).device=qK G.tree i∧(bnF N i).card=if qK G.tree i=true then qP G.cards G.tree i else none) (hk:k<N.length) (he:(jdL b2 b3 b4 q1 q2 q3 q6)[m]? =some e):
 e.1=m+2∧Calls Tryz.prog e.2.1 (vi k::e.2.2).toArray W (Ret fun v w'=>(∃y,v=.tuple #[.bool (Ad G k m).isSome,vi y]∧ ∀u,Ad G k m=some u→y=u)∧New W w'):=by
 obtain ⟨p1,p2,p3⟩:=hp k hk
 have am: ∀(q r:Nat),Bk W q 5 [.int .u8 r]→r<7→ ∀(o:Option Int),(if qK G.tree k=true then (if r=3 then F8 (qM G.cards G.tree).2 else if r=4 then vk G.tree (nZ G.tree) else if r=5 then yt (rJ G.tree) else fun _=>none) k else none)=o→
  Calls Tryz.prog 101 #[vi k,pT b4,pT q,pT b2] W (Ret fun v w'=>(∃y,v=.tuple #[.bool o.isSome,vi y]∧ ∀u,o=some u→y=u)∧New W w'):=by
  intro q r hq hr o ho
  obtain ⟨mr,hm⟩:=nV mb (k:=r) (by rw [h.e.ml];exact hr)
  refine (KX (m:=mr) (r:=r) g h.e.h2 h.e.h4 hq hr (by rw [List.getElem?_map,hm];rfl) (h.e.im r mr hm) hk).mono ?_
  rintro _ w' ⟨_,rfl,rfl,rfl⟩
  refine ⟨_,rfl,⟨((if r=3 then F8 (qM G.cards G.tree).2 else if r=4 then vk G.tree (nZ G.tree) else if r=5 then yt (rJ G.tree) else fun _=>none) k).getD 0,?_,fun u hu=>?_⟩,aQ _ _⟩
  ·rw [p2, ←ho]
   cases qK G.tree k with
   |false=>simp
   |true=>simp
  ·rw [←ho] at hu
   split at hu
   ·rw [hu];rfl
   ·cases hu
 unfold jdL at he
 match m with
 |0=>
  cases he
  refine ⟨rfl,(NK g h.e.h2 hk).mono ?_⟩
  rintro _ w' ⟨_,rfl,rfl,rfl⟩
  refine ⟨_,rfl,⟨-1,?_,fun u hu=>?_⟩,aQ _ _⟩
  ·rw [p2,p3]
   unfold Ad
   cases qK G.tree k with
   |false=>simp
   |true=>cases qP G.cards G.tree k<;>simp
  ·have hu:(if qK G.tree k=true∧qP G.cards G.tree k=none then some (-1) else none)=some u:=hu
   split at hu
   ·cases hu;rfl
   ·cases hu
 |1=>cases he;exact ⟨rfl,am q1 3 h.h1 (by omega) _ rfl⟩
 |2=>cases he;exact ⟨rfl,am q2 4 h.h2 (by omega) _ rfl⟩
 |3=>cases he;exact ⟨rfl,am q3 5 h.h3 (by omega) _ rfl⟩
 |4=>
  cases he
  refine ⟨rfl,(NM g h.h6 h.e.h2 h.e.h3 h.tr h.mp cn hok hN (fun i hi=>(hp i hi).1) hk).mono ?_⟩
  rintro _ w' ⟨_,rfl,rfl,n⟩
  refine ⟨_,rfl,⟨qy (uX G k),?_,fun u hu=>?_⟩,n⟩
  ·unfold Ad
   cases uX G k<;>rfl
  ·have hu:(uX G k).map (fun k=>(k:Int))=some u:=hu
   cases hg:uX G k with
   |none=>rw [hg] at hu;cases hu
   |some j=>rw [hg] at hu;cases hu;rfl
 |n+5=>cases he
end
end Go.Proofs.YtjecgaiaiophpaaGreatDoor
namespace Go.Proofs.YtjecgaiaiophpaaGreatDoor
open Go Wk
open Go.RowKit (Below)
attribute [local irreducible] Go.Calls
abbrev mpV (b:Nat):Value:=.map (some b)
theorem Xv {L:List Nat} {m b:Nat} (hL:L.length<m):(L.map mpV++List.replicate (m-L.length) (Value.map none)).set L.length (mpV b)=(L++ [b]).map mpV++List.replicate (m-(L++ [b]).length) (Value.map none):=by
 obtain ⟨k,hk⟩: ∃k,m-L.length=k+1:=⟨m-L.length-1,by omega⟩
 rw [hk,List.replicate_succ,List.set_append_right _ _ (by simp)]
 simp only [List.length_map,Nat.sub_self,List.set_cons_zero,List.map_append,List.map_cons,List.map_nil,List.append_assoc,List.singleton_append,List.length_append,List.length_singleton]
 congr 3
 omega
theorem yu {W:Nat→List Nat} {order:List Nat}: ∀(l seen:List Nat),(rO W order seen l).length≤l.length∧ ∀c∈rO W order seen l, ∀i∈c,i∈order
 | [],seen=>by rw [rO];simp
 |i::r,seen=>by
  rw [Ef]
  split
  ·obtain ⟨h1,h2⟩:=yu (W:=W) (order:=order) r seen
   exact ⟨by rw [List.length_cons];omega,h2⟩
  ·obtain ⟨h1,h2⟩:=yu (W:=W) (order:=order) r (seen++order.filter (qF W i))
   refine ⟨by rw [List.length_cons,List.length_cons];omega,fun c hc k hk=>?_⟩
   rcases List.mem_cons.1 hc with rfl|hc
   ·exact (List.mem_filter.1 hk).1
   ·exact h2 c hc k hk
theorem zk {t:List Nd}: ∀(l:List Nat) (out:List CQ),(uj t out l).2.length≤l.length∧ ∀r∈(uj t out l).2,r.node∈l
 | [],out=>by rw [uj];simp
 |n::r,out=>by
  rw [uj]
  split
  ·obtain ⟨h1,h2⟩:=zk (t:=t) r out
   refine ⟨by simp only [List.length_cons];omega,fun x hx=>?_⟩
   rcases List.mem_cons.1 hx with rfl|hx
   ·exact List.mem_cons_self
   ·exact List.mem_cons_of_mem _ (h2 x hx)
  ·split
   ·obtain ⟨h1,h2⟩:=zk (t:=t) r out
    refine ⟨by simp only [List.length_cons];omega,fun x hx=>?_⟩
    rcases List.mem_cons.1 hx with rfl|hx
    ·exact List.mem_cons_self
    ·exact List.mem_cons_of_mem _ (h2 x hx)
   ·have h:=zk (t:=t) r
    exact ⟨by rw [List.length_cons];exact Nat.le_succ_of_le (h _).1,fun x hx=>List.mem_cons_of_mem _ ((h _).2 x hx)⟩
theorem PU (t:List Nd):(rJ t).length≤t.length:=by
 have:=(yu (W:=pR t) (order:=pq t) (pq t) []).1
 unfold rJ
 refine Nat.le_trans this ?_
 unfold pq
 rw [List.length_mergeSort,List.length_range]
 exact Nat.le_refl _
theorem Tn {t:List Nd}: ∀c∈rJ t, ∀i∈c,i<t.length:=fun c hc i hi=>xI.1 ((yu (W:=pR t) (order:=pq t) (pq t) []).2 c hc i hi)
noncomputable def zX (G:Giv) (k m i:Nat):Bn:=if i<G.tree.length then (if i<k then zi G 5 i else if i=k then zi G m i else zi G 0 i) else default
theorem Tq (G:Giv):zX G 0 0=xK G (nZ G.tree):=by
 funext i
 unfold zX xK
 split
 ·rw [if_neg (by omega)]
  split<;>exact PO G i
 ·rfl
theorem Tt (G:Giv) (k:Nat):zX G k 5=zX G (k+1) 0:=by
 funext i
 unfold zX
 split
 ·by_cases h1:i<k
  ·rw [if_pos h1,if_pos (by omega)]
  ·rw [if_neg h1]
   by_cases h2:i=k
   ·rw [if_pos h2,if_pos (by omega)]
   ·rw [if_neg h2,if_neg (by omega)]
    split<;>rfl
 ·rfl
theorem VF (G:Giv):zX G G.tree.length 0=nR G:=by
 funext i
 unfold zX nR
 split
 ·exact Tm G i
 ·rfl
theorem VG (G:Giv) (k m:Nat) {i:Nat} (h:i<G.tree.length):(zX G k m i).path=oO G.tree i∧(zX G k m i).device=qK G.tree i∧(zX G k m i).card=if qK G.tree i=true then qP G.cards G.tree i else none:=by
 unfold zX
 rw [if_pos h]
 split
 ·exact ⟨rfl,rfl,rfl⟩
 split<;>exact ⟨rfl,rfl,rfl⟩
theorem Q5 (G:Giv) {k m:Nat} (h:k<G.tree.length):zX G k m k=zi G m k:=by
 unfold zX
 rw [if_pos h,if_neg (by omega),if_pos rfl]
theorem JL (G:Giv) {k m:Nat} (h:k<G.tree.length):zX G k (m+1)=fun i=>if i=k then zi G (m+1) k else zX G k m i:=by
 funext i
 unfold zX
 by_cases hi:i=k
 ·subst hi;rw [if_pos h,if_neg (by omega),if_pos rfl,if_pos rfl]
 ·rw [if_neg hi,if_neg hi,if_neg hi]
theorem PV {G:Giv} {k m:Nat} (h:Be (Dl G k m) (m+2) (Ad G k m)=Dl G k m):zi G (m+1) k=zi G m k:=by
 unfold zi
 rw [show Dl G k (m+1)=Be (Dl G k m) (m+2) (Ad G k m) from rfl,h]
section
variable {w:World} {G:Giv} {lo bw bm:Nat} {N:List Nb} {fl:List (Nm×Int)} {nv tv cv fv gv:Value}
theorem PW {Pb:Nat→Prop} (hlo: ∀b,Pb b→lo≤b) (hbig: ∀b,w.heap.size≤b→Pb b) (hok:oG G.tree=true) (hco:uw G.cards=true) (hgl: ∀x∈G.gone,x.length≤100000000) (r:RdG (fun b=>b<lo) w G tv cv fv gv) (g:WkM Pb bw bm N [] fl nv (.slice none 0 0) w) (hN:N.length=G.tree.length) (hb:bnF N=xK G []) (hst: ∀k,stF N k=0):
 Calls Tryz.prog 47 #[pT bw,.agg #[tv,cv,fv,gv]] w (Ret fun _ w'=> ∃N',WkM Pb bw bm N' [] fl nv (.slice none 0 0) w'∧N'.length=G.tree.length∧bnF N'=nR G∧(∀k,stF N' k=0)∧Chg Pb w w'):=by
 have hlen:=oP hok
 have hpos:=sH hok
 have hlw:lo≤w.heap.size:=hlo _ (hbig _ (Nat.le_refl _))
 have hE:(nZ G.tree).length≤10240*G.tree.length:=tK hok G.tree.length (Nat.le_refl _)
 obtain ⟨ta,tc,rfl,_,_⟩:=r.t.form
 obtain ⟨ca,cc,rfl,_,_⟩:=r.c.form
 obtain ⟨fa,fc,rfl,_,_⟩:=r.f.form
 obtain ⟨ga,gc,rfl,_,_⟩:=r.g.form
 obtain ⟨ng,nc,rfl,afr,afs,afu⟩:=g.nd.row.blk (by intro e;rw [e] at hN;simp at hN;omega)
 refine nI Tryz.func47 rfl Tryz.ntmps47 rfl ?_
 (repeat' (first|refine au ?_|refine ak ?_))
 refine bC rfl fun w1 b2 n1 s1=>?_
 replace b2:Bk w1 w.heap.size 42 [pT bw]:=b2
 refine bC rfl fun w2 b3 n2 s2=>?_
 replace b3:Bk w2 w1.heap.size 27 [.slice ta G.tree.length tc,.slice ca G.cards.length cc,.slice fa G.fails.length fc,.slice ga G.gone.length gc]:=b3
 (repeat' (first|refine af ?_|refine ah ?_|refine au ?_|refine ak ?_))
 refine Wl.alloc fun w3 b4 n3 s3=>?_
 replace b4:Bk w3 w2.heap.size 188 (List.map mpV []++List.replicate 7 (.map none)):=b4
 have n03:=New.trans n1 (New.trans n2 n3)
 have hz1:=n1.size
 have hz2:=n2.size
 have hz3:=n3.size
 replace b2:=b2.chg (New.trans n2 n3) fun e=>e
 replace b3:=b3.chg n3 fun e=>e
 have aaz:=b2.lt
 have afv:=b3.lt
 have YQ:=b4.lt
 replace g:=(g.mono (Pb':=fun b=>Pb b∧b<w.heap.size) fun b hb e=>⟨e,hb⟩).new n03
 (repeat' (first|refine aa0 ?_|refine af ?_|refine ah ?_|refine au ?_|refine ak ?_|refine Wc.block ?_))
 refine aP (σ:=List Nat) (fun L=>[(2,pT w.heap.size),(3,pT w1.heap.size),(4,pT w2.heap.size),(31,vi L.length)])
  (fun L W=>L.length≤7∧Bk W w2.heap.size 188 (L.map mpV++List.replicate (7-L.length) (.map none))∧(∀b∈L,w3.heap.size≤b∧rC Tryz.prog 3 W b [])∧L.Nodup∧Chg (fun k=>k=w2.heap.size) w3 W) (fun L=>7-L.length) [] ⟨rfl,rfl,rfl,rfl,trivial⟩ ⟨by simp,b4,by simp,List.nodup_nil,aQ _ _⟩ ?_
 clear b4
 rintro L F W ⟨hL,b4,hm,hnd,cW⟩
 simp only [oU]
 (repeat' (first|refine aa0 ?_|refine aa1 ?_|refine af ?_|refine ah ?_|refine au ?_|refine ak ?_|refine Wc.block ?_|refine Wc.skip ?_|refine aJ ?_|refine aK ?_|refine aI ?_|refine aO ?_|refine aa3 ?_|refine aa4 ?_|refine aa5 ?_|refine oZ (fun _=>?_) (fun _=>?_)))
 ·refine fQ (k:=3) fun w4 m4 n4 s4=>?_
  refine gU rfl rfl (by omega) (by omega) ?_
  have hWs:=cW.size
  refine aY (u:=mpV W.heap.size) (b4.chg n4 fun e=>e) rfl (show ((L.length:Nat):Int).toNat<(L.map mpV++List.replicate (7-L.length) (Value.map none)).length by simp only [List.length_append,List.length_map,List.length_replicate];omega) rfl rfl fun w5 b5 c5=>?_
  rw [Int.toNat_natCast,Xv (m:=7) (by omega)] at b5
  (repeat' (first|refine aa0 ?_|refine af ?_|refine ah ?_|refine ak ?_|refine aH ?_|refine aa7 ?_))
  refine aG (L++ [W.heap.size]) ⟨rfl,rfl,rfl,by rw [List.length_append,List.length_singleton];rfl,trivial⟩ ⟨by rw [List.length_append,List.length_singleton];omega,b5,fun b hb=>?_,?_,Chg.trans (Chg.trans cW n4.any fun _ _ e=>e) c5 fun _ _ e=>e⟩ (by rw [List.length_append,List.length_singleton];omega)
  ·rcases List.mem_append.1 hb with hb|hb
   ·exact ⟨(hm b hb).1,((hm b hb).2.chg n4 fun e=>e).chg c5 fun e=>by have:=(hm b hb).1;omega⟩
   ·rw [List.mem_singleton.1 hb]
    exact ⟨hWs,m4.chg c5 fun e=>by omega⟩
  ·rw [List.nodup_append]
   refine ⟨hnd,by simp,fun a ha b hb e=>?_⟩
   rw [List.mem_singleton.1 hb] at e
   have:=(hm a ha).2.lt
   omega
 ·have hL7:L.length=7:=by omega
  rw [hL7,Nat.sub_self,List.replicate_zero,List.append_nil] at b4
  have hWs:=cW.size
  have e0:JdE bw w.heap.size w1.heap.size w2.heap.size L (fun _ _=>none) (.slice ta G.tree.length tc) (.slice ca G.cards.length cc) (.slice fa G.fails.length fc) (.slice ga G.gone.length gc) W:=
   ⟨b2.chg cW fun e=>by omega,b3.chg cW fun e=>by omega,b4,fun s d h=>ImL.afx (hm d (List.mem_of_getElem? h)).2,hL7,hnd⟩
  replace g:=g.chg (M:=fun k=>k=w2.heap.size) cW (fun k hk e=>by have:=hk.2;omega)
  have hLr: ∀b∈L,w.heap.size≤b∧b<W.heap.size:=fun b hb=>⟨by have:=(hm b hb).1;omega,(hm b hb).2.lt⟩
  clear b2 b3 b4 hm hnd
  have cW0:Chg (fun k=>w.heap.size≤k) w W:=Chg.trans n03.any cW fun k _ e=>by omega
  have aic:w3.heap.size≤W.heap.size:=hWs
  clear cW n03 n1 n2 n3
  generalize hb2:w.heap.size=b2 at*
  generalize hb3:w1.heap.size=b3 at*
  generalize hb4:w2.heap.size=b4 at*
  skip
  refine ay (u:=.slice ta G.tree.length tc) rfl (e0.h3.cell (o:=0) rfl) ?_
  skip
  refine aB (Io (r.t.keep oz (cW0.keep fun b _ hb=>by have hb:b<lo:=hb;omega)) hok) rfl ?_
  rintro _ wB ⟨⟨q,rfl,hq⟩,nB⟩
  obtain ⟨qa,qc,rfl,_,_⟩:=hq.form
  have hzB:=nB.size
  replace hq:=hq.mono (Pb':=fun b=>W.heap.size≤b∧b<wB.heap.size) qJ fun b hb e=>⟨e,hb⟩
  replace g:=(g.mono (Pb':=fun b=>Pb b∧ ¬(b2≤b∧b<wB.heap.size)) fun b hb e=>⟨e.1,by omega⟩).new nB
  have eB:=e0.new nB
  have cB:=Chg.trans cW0 nB.any (M':=fun _=>False) fun _ _ e=>e.elim
  clear e0 cW0 nB
  (repeat' (first|refine aa0 ?_|refine aa1 ?_|refine af ?_|refine pG ?_|refine pz ?_|refine ah ?_|refine au ?_|refine ak ?_|refine Wc.block ?_))
  refine aP (σ:=Nat×List Nb×(Nat→Nat→Option Int)) (fun q=>[(2,pT b2),(3,pT b3),(4,pT b4),(44,.slice qa (nZ G.tree).length qc),(45,vi (nZ G.tree).length),(46,vi q.1)])
   (fun q W'=>q.1≤(nZ G.tree).length∧WkM (fun b=>Pb b∧ ¬(b2≤b∧b<wB.heap.size)) bw bm q.2.1 [] fl (.slice (some ⟨ng,0,none⟩) N.length nc) (.slice none 0 0) W'∧q.2.1.length=N.length∧bnF q.2.1=xK G ((nZ G.tree).take q.1)∧(∀k,stF q.2.1 k=0)∧JdE bw b2 b3 b4 L q.2.2 (.slice ta G.tree.length tc) (.slice ca G.cards.length cc) (.slice fa G.fails.length fc) (.slice ga G.gone.length gc) W'∧q.2.2=(fun s=>if s=4 then vk G.tree ((nZ G.tree).take q.1) else fun _=>none)∧RdS rEd 6 (fun b=>W.heap.size≤b∧b<wB.heap.size) W' (.slice qa (nZ G.tree).length qc) (nZ G.tree)∧wB.heap.size≤W'.heap.size∧Chg Pb w W') (fun q=>(nZ G.tree).length-q.1)
   (0,N,fun _ _=>none) ⟨rfl,rfl,rfl,rfl,rfl,rfl,trivial⟩ ⟨Nat.zero_le _,g,rfl,hb,hst,eB,by funext s i;split<;>rfl,hq,Nat.le_refl _,cB.mono fun k _ e=>hbig k e⟩ ?_
  clear g hb hst eB hq cB
  rintro ⟨k,N1,ff⟩ F1 W1 ⟨hk,g,hN1,hb,hst,e1,hff,hq,YR,c1⟩
  dsimp only at hk g hN1 hb hst e1 hff hq YR c1
  simp only [oU]
  (repeat' (first|refine af ?_|refine ah ?_|refine au ?_|refine ak ?_|refine Wc.block ?_|refine Wc.skip ?_|refine aJ ?_|refine aK ?_|refine aI ?_|refine aO ?_|refine aa3 ?_|refine aa4 ?_|refine aa5 ?_|refine oZ (fun _=>?_) (fun _=>?_)))
  ·obtain ⟨x,hx⟩:=nV (nZ G.tree) (k:=k) (by omega)
   have hxs:=(vH x (List.mem_of_getElem? hx)).1
   have hxd:=(vH x (List.mem_of_getElem? hx)).2
   refine aU hq rfl rfl (by omega) (by rw [Int.toNat_natCast];exact hx) fun b o cs hl hR hat=>?_
   obtain ⟨va,rfl,hva⟩:=hR
   obtain ⟨xa,xc,rfl,_,_⟩:=hva.form
   refine bG hat rfl rfl ?_
   clear hat
   refine Wl.alloc fun w5 b5 n5 s5=>?_
   skip
   refine aX (new:=edC x (.slice xa x.args.length xc)) b5 rfl rfl rfl rfl (show (6:Nat)≤6 from Nat.le_refl 6) RX fun w6 b6 c6 s6=>?_
   have n6:New W1 w6:=(Chg.trans n5.any c6 fun _ _ e=>e).toNew fun k hk e=>by omega
   replace b6:Bk w6 W1.heap.size 150 (edC x (.slice xa x.args.length xc)):=b6
   clear b5 n5 c6
   obtain ⟨y,hy⟩:=nV N1 (k:=x.src) (by omega)
   have hyb:=sO hy
   have g6:=g.new n6
   have e6:=e1.new n6
   have hq6:=hq.keep rP n6.keep
   have c06:=Chg.trans c1 n6.any (M':=fun _=>False) fun _ _ e=>e.elim
   clear g e1 hq c1
   (repeat' (first|refine af ?_|refine ah ?_|refine au ?_))
   refine eG rfl (by kernel_rfl) ?_
   skip
   refine aC (u:=pT bw) rfl (fun w' hw=>(e6.h2.chg hw fun e=>e).cell (o:=0) rfl) ?_
   (repeat' (first|refine bf rfl ?_|refine aa8 ?_))
   refine aC (u:=.slice (some ⟨ng,0,none⟩) N.length nc) rfl (fun w' hw=>(g6.b.chg hw fun e=>e).cell (o:=0) rfl) ?_
   (repeat' (refine aa8 ?_))
   refine aC (u:=vi x.src) rfl (fun w' hw=>(b6.chg hw fun e=>e).cell (o:=0) rfl) ?_
   skip
   refine sG ?_
   (repeat' (first|refine dI (by conv=>{lhs;whnf}) ?_|refine ax ?_))
   intro w7 n7
   have g7:=g6.new n7
   have e7:=e6.new n7
   have hq7:=hq6.keep rP n7.keep
   have c07:=Chg.trans c06 n7.any (M':=fun _=>False) fun _ _ e=>e.elim
   have b7:=b6.chg n7 fun e=>e
   have hz7:wB.heap.size≤w7.heap.size:=Nat.le_trans YR (Nat.le_trans n6.size n7.size)
   clear g6 e6 hq6 c06 b6 n6 n7
   have afz:y.bn.device=qK G.tree x.src:=by rw [←hyb,hb];unfold xK;rw [if_pos hxs];rfl
   have hnx:=PK G ((nZ G.tree).take k) x
   have hmx:=PG G.tree ((nZ G.tree).take k) x
   rw [←take_snoc hx] at hnx hmx
   have hsame:cnts G.tree x=false→xK G ((nZ G.tree).take (k+1))=xK G ((nZ G.tree).take k)∧vk G.tree ((nZ G.tree).take (k+1))=vk G.tree ((nZ G.tree).take k):=fun h=>by
    rw [hnx,hmx,h];exact ⟨if_neg fun e=>(by cases e.1),if_neg (by simp)⟩
   have hat:At w7 ng (x.src*9) (nbC y):=g7.nd.row.at rfl rfl hy
   (repeat' (first|refine ah ?_|refine au ?_|refine ak ?_|refine Wc.block ?_|refine aa5 ?_))
   refine ay (u:=.bool x.soft) rfl (b7.cell (o:=3) rfl) ?_
   cases hsf:x.soft with
   |true=>
    obtain ⟨h1,h2⟩:=hsame (by simp [cnts,hsf])
    (repeat' (first|refine aa0 ?_|refine aa1 ?_|refine af ?_|refine qi ?_|refine pU ?_|refine ah ?_|refine ak ?_|refine Wc.skip ?_|refine aH ?_|refine aa3 ?_|refine aa7 ?_))
    exact aG (k+1,N1,ff) ⟨rfl,rfl,rfl,rfl,rfl,rfl,trivial⟩ ⟨by dsimp only;omega,g7,hN1,by rw [h1];exact hb,hst,e7,by rw [h2];exact hff,hq7,hz7,c07⟩ (by dsimp only;omega)
   |false=>
    (repeat' (first|refine aa0 ?_|refine aa6 ?_|refine bK rfl ?_|refine aa5 ?_))
    refine ay (u:=.bool y.bn.device) rfl (by have:=hat.get 1 rfl;simpa using this) ?_
    rw [afz]
    cases hdv:qK G.tree x.src with
    |false=>
     obtain ⟨h1,h2⟩:=hsame (by simp [cnts,hsf,hdv])
     (repeat' (first|refine aa0 ?_|refine aa1 ?_|refine af ?_|refine aa6 ?_|refine pI ?_|refine aV rfl ?_|refine ah ?_|refine ak ?_|refine Wc.skip ?_|refine aH ?_|refine aa3 ?_|refine aa7 ?_))
     exact aG (k+1,N1,ff) ⟨rfl,rfl,rfl,rfl,rfl,rfl,trivial⟩ ⟨by dsimp only;omega,g7,hN1,by rw [h1];exact hb,hst,e7,by rw [h2];exact hff,hq7,hz7,c07⟩ (by dsimp only;omega)
    |true=>
     have hct:cnts G.tree x=true:=by simp [cnts,hsf,hdv]
     rw [hct] at hnx hmx
     rw [if_pos ⟨rfl,hxs⟩] at hnx
     rw [Bool.true_and] at hmx
     clear hsame
     (repeat' (first|refine aa1 ?_|refine af ?_|refine aa6 ?_|refine pI ?_|refine aV rfl ?_|refine ah ?_|refine au ?_|refine ak ?_|refine aa4 ?_|refine aa5 ?_))
     refine ay (u:=vi (qy x.dst)) rfl (b7.cell (o:=1) rfl) ?_
     cases hds:x.dst with
     |none=>
      rw [hds] at hnx hmx
      dsimp only at hnx
      simp only [Option.isNone_none,if_true] at hmx
      obtain ⟨m4,hm4⟩:=nV L (k:=4) (by omega)
      rw [show qy none= -1 from rfl]
      (repeat' (first|refine aa1 ?_|refine af ?_|refine ah ?_|refine ak ?_|refine aa3 ?_|(refine oZ (fun _=>?_) (fun _=>?_)<;>(first|(exfalso;omega)|skip))))
      refine gU rfl rfl (by omega) (by omega) ?_
      skip
      refine ay (u:=mpV m4) rfl (e7.h4.cell (o:=4) (by rw [List.getElem?_map,hm4];rfl)) ?_
      (repeat' (refine aa5 ?_))
      refine ay (u:=vi x.src) rfl (b7.cell (o:=0) rfl) ?_
      skip
      refine jd (e7.im 4 m4 hm4) (by omega) rfl rfl rfl fun w8 m8 c8 s8=>?_
      have hmr:=hLr m4 (List.mem_of_getElem? hm4)
      (repeat' (first|refine aa0 ?_|refine af ?_|refine ah ?_|refine ak ?_|refine aH ?_|refine aa7 ?_))
      refine aG (k+1,N1,fun s=>if s=4 then F9 (ff 4) x.src (-1) else ff s) ⟨rfl,rfl,rfl,rfl,rfl,rfl,trivial⟩ ⟨by dsimp only;omega,g7.chg c8 fun k hk e=>hk.2 (by omega),hN1,by rw [hnx];exact hb,hst,e7.put hm4 m8 c8,?_,hq7.keep rP (c8.keep fun b _ hb e=>by have:=hb.1;omega),by have:=c8.size;omega,Chg.trans c07 c8 fun k _ e=>hbig k (by omega)⟩ (by dsimp only;omega)
      dsimp only
      funext s
      by_cases hs4:s=4
      ·subst hs4;rw [if_pos rfl,if_pos rfl,hmx,hff];rfl
      ·rw [if_neg hs4,if_neg hs4,hff];exact if_neg hs4
     |some d=>
      rw [hds] at hnx hmx
      dsimp only at hnx
      rw [if_neg (by simp)] at hmx
      rw [show qy (some d)=(d:Int) from rfl]
      have hym:=List.mem_of_getElem? hy
      have hel:=g7.nd.el y hym
      have hrow:=fun (w':World) (c:Chg (fun j=>(svV y.wv).ownBlock=some j) w7 w')=>g7.nd.row.chg (nH nbC) c fun k hk e=>g7.nd.wR y hym k e hk
      have hwl:y.bn.wants.length≤1+k:=by
       rw [←hyb,hb]
       unfold xK
       rw [if_pos hxs]
       unfold xJ
       dsimp only
       rw [List.length_append]
       have h1:=List.length_filterMap_le (fun e:Ed=>if e.src=x.src∧e.soft=false∧qK G.tree x.src=true then e.dst else none) ((nZ G.tree).take k)
       have h2:=List.length_take_le k (nZ G.tree)
       split
       ·rw [List.length_singleton];omega
       ·rw [List.length_nil];omega
      (repeat' (first|refine aa1 ?_|refine af ?_|refine ah ?_|refine aa4 ?_|(refine oZ (fun _=>?_) (fun _=>?_)<;>(first|(exfalso;omega)|skip))))
      refine bQ rfl (by kernel_rfl) (fun w'=>Chg (fun j=>(svV y.wv).ownBlock=some j) w7 w') (Chg.drew _ _) ?_
      intro w8 m8
      (repeat' (first|refine aa2 (aa9 (ax ?_))|refine aa2 (bf rfl (ax ?_))|refine aa2 (aa8 (ax ?_))))
      refine aa2 (aC (u:=svV y.wv) rfl (fun w' c=>by have:=((hrow w' c).at rfl rfl hy).get 6 rfl;simpa using this) (ax ?_))
      (repeat' (refine aa2 (aa8 (ax ?_))))
      refine aa2 (aC (u:=vi d) rfl (fun w' c=>(b7.chg c fun e=>hel.pO b7 rfl e rfl).cell (o:=1) (by show some (vi (qy x.dst))=_;rw [hds];rfl)) (ax ?_))
      skip
      refine aT rfl (bT (R:=Wk.one viN) (Pe:=NoB) (y:=d) qH rfl rfl rfl rfl (by omega) (by omega) fun v6 w9 o9 n9 s9 e9=>?_)
      have m9:=New.trans m8 n9
      refine af ⟨rfl,m9.any,?_⟩
      refine aT rfl (bU (R:=Wk.one viN) qH (hel.new (nM _) m9) (o9.rd qH.mo) (fun z cs hz=>hz) rfl rfl (by omega) (by simp only [maxLen,List.length_singleton];omega) (by simp only [List.length_singleton];omega) fun u' w10 o10 c10 lie _=>?_)
      have IV:Chg (fun j=>(svV y.wv).ownBlock=some j) w7 w10:=Chg.trans m9.any c10 fun _ _ e=>e
      refine af ⟨rfl,IV,?_⟩
      (repeat' (first|refine aa2 (bf rfl (ax ?_))|refine aa2 (aa8 (ax ?_))))
      obtain ⟨ua,uc,rfl,_,_⟩:=o10.form
      have hz9:=m9.size
      have Xe:=IV.size
      refine Wt.last rfl (fC (f:=nbC) (sz:=9) (p:=y) (q:={y with wv:=(ua,(y.bn.wants++ [d]).length,uc),bn:={y.bn with wants:=y.bn.wants++ [d]}}) (j:=x.src) (o:=6) (cap:=nc) (u:=.slice ua (y.bn.wants++ [d]).length uc) (fun _=>rfl) (show (6:Nat)<9 by omega) rfl hy rfl (hrow w10 IV) (by rw [hN1]) (by show Value.pointer (some ⟨ng,0+(x.src:Int).toNat*9+6,none⟩)=_;rw [Nat.zero_add,Int.toNat_natCast]) rfl fun w11 o11 c11=>?_)
      refine af ?_
      have U9:=c11.size
      have g11:=g7.want hy (d:=d) (by have:=hxd d hds;omega) (v':=(ua,(y.bn.wants++ [d]).length,uc)) (o10.mono (nU _) (fun b _ e=>by rcases e with e|e;exact e;exact ⟨hbig b (by omega),fun h=>by omega⟩) (fun _ _ e=>e)) IV (by rcases lie with l1|l1;exact .inl l1;exact .inr fun k hk=>by have:=l1 k hk;omega) o11 c11
      have VH:=(g7.nd.row.lt (k:=ng) rfl).1
      have e11:=(e7.own hel IV rfl rfl rfl).own (hrow w10 IV) c11 rfl rfl rfl
      (repeat' (first|refine aa0 ?_|refine af ?_|refine ah ?_|refine ak ?_|refine aH ?_|refine aa7 ?_))
      refine aG (k+1,N1.set x.src _,ff) ⟨rfl,rfl,rfl,rfl,rfl,rfl,trivial⟩ ⟨by dsimp only;omega,g11,by dsimp only;rw [List.length_set];exact hN1,?_,KZ hst (by rw [←wU hy];exact hst _),e11,by rw [hmx];exact hff,(hq7.keep rP (IV.keep fun b _ hb e=>(hel.lt e).1.2 ⟨by have:=hb.1;omega,hb.2⟩)).keep rP (c11.keep fun b _ hb e=>by have e1:ng=b:=(by cases e;rfl);have h1:=hb.1;have h2:=hb.2;have h3:=VH.2;omega),by omega,Chg.trans (Chg.trans c07 IV fun k _ e=>(hel.lt e).1.1) c11 fun k _ e=>by cases e;exact VH.1⟩ (by dsimp only;omega)
      dsimp only
      rw [KY (by omega),hnx]
      funext i
      by_cases hi:i=x.src
      ·rw [if_pos hi,if_pos hi,hi, ←hb,hyb]
      ·rw [if_neg hi,if_neg hi,hb]
  ·obtain rfl:k=(nZ G.tree).length:=by omega
   rw [List.take_length] at hb hff
   clear hq
   subst hff
   skip
   refine ay (u:=.slice ta G.tree.length tc) rfl (e1.h3.cell (o:=0) rfl) ?_
   skip
   refine aB (Pm (r.t.keep oz (c1.keep fun b _ hb e=>by have hb:b<lo:=hb;have:=hlo b e;omega)) hok) rfl ?_
   rintro _ w2 ⟨⟨rq,rs,rfl,LR,hrs⟩,n2⟩
   obtain ⟨ra,rc,rfl,_,_⟩:=LR.row.form
   have g2:=g.new n2
   have e2:=e1.new n2
   have c2:=Chg.trans c1 n2.any (M':=fun _=>False) fun _ _ e=>e.elim
   have hz2:wB.heap.size≤w2.heap.size:=Nat.le_trans YR n2.size
   have hrl:rs.length≤G.tree.length:=by
    have h1:=congrArg List.length hrs
    rw [List.length_map] at h1
    rw [h1]
    exact PU G.tree
   clear g e1 c1 n2
   (repeat' (first|refine aa0 ?_|refine aa1 ?_|refine af ?_|refine pG ?_|refine pz ?_|refine ah ?_|refine au ?_|refine ak ?_|refine Wc.block ?_))
   refine aP (σ:=Nat×(Nat→Nat→Option Int)) (fun q=>[(2,pT b2),(3,pT b3),(4,pT b4),(93,.slice ra rs.length rc),(94,vi rs.length),(95,vi q.1)])
    (fun q W'=>q.1≤rs.length∧WkM (fun b=>Pb b∧ ¬(b2≤b∧b<wB.heap.size)) bw bm N1 [] fl (.slice (some ⟨ng,0,none⟩) N.length nc) (.slice none 0 0) W'∧JdE bw b2 b3 b4 L q.2 (.slice ta G.tree.length tc) (.slice ca G.cards.length cc) (.slice fa G.fails.length fc) (.slice ga G.gone.length gc) W'∧q.2=(fun s=>if s=4 then vk G.tree (nZ G.tree) else if s=5 then yt ((rs.map (·.2)).take q.1) else fun _=>none)∧RgL W1.heap.size W' (.slice ra rs.length rc) rs∧Chg Pb w W') (fun q=>rs.length-q.1)
    (0,fun s=>if s=4 then vk G.tree (nZ G.tree) else fun _=>none) ⟨rfl,rfl,rfl,rfl,rfl,rfl,trivial⟩ ⟨Nat.zero_le _,g2,e2,by funext s;dsimp only;split;rfl;split<;>rfl,LR,c2⟩ ?_
   clear g2 e2 LR c2
   rintro ⟨k,ff⟩ F2 W2 ⟨hk,g2,e2,hff,LR,c2⟩
   dsimp only at hk g2 e2 hff LR c2
   simp only [oU]
   obtain ⟨m5,hm5⟩:=nV L (k:=5) (by omega)
   have aid:=hLr m5 (List.mem_of_getElem? hm5)
   (repeat' (first|refine af ?_|refine ah ?_|refine au ?_|refine ak ?_|refine Wc.block ?_|refine Wc.skip ?_|refine aJ ?_|refine aK ?_|refine aI ?_|refine aO ?_|refine aa3 ?_|refine aa4 ?_|refine aa5 ?_|refine oZ (fun _=>?_) (fun _=>?_)))
   ·obtain ⟨x,hx⟩:=nV rs (k:=k) (by omega)
    have hel:=LR.el x (List.mem_of_getElem? hx)
    obtain ⟨xa,xc,hxv,hxm,afA⟩:=hel.form
    have aie:x.2.length≤9223372036854775807:=by unfold maxLen at afA;omega
    refine aU (LR.row.rd (nP _)) rfl rfl (by omega) (by rw [Int.toNat_natCast];exact hx) fun b o cs hl hR hat=>?_
    obtain rfl:cs=wrC x:=hR
    refine ay (u:=.slice xa x.2.length xc) rfl (by rw [←hxv];exact hat.get 0 rfl) ?_
    clear hat
    (repeat' (first|refine aa0 ?_|refine aa1 ?_|refine af ?_|refine pz ?_|refine ah ?_|refine au ?_|refine ak ?_|refine Wc.block ?_))
    refine aP (σ:=Nat×(Nat→Nat→Option Int)) (fun q=>[(2,pT b2),(3,pT b3),(4,pT b4),(14,.slice xa x.2.length xc),(93,.slice ra rs.length rc),(94,vi rs.length),(95,vi k),(99,.slice xa x.2.length xc),(100,vi x.2.length),(101,vi q.1)])
     (fun q W'=>q.1≤x.2.length∧WkM (fun b=>Pb b∧ ¬(b2≤b∧b<wB.heap.size)) bw bm N1 [] fl (.slice (some ⟨ng,0,none⟩) N.length nc) (.slice none 0 0) W'∧JdE bw b2 b3 b4 L q.2 (.slice ta G.tree.length tc) (.slice ca G.cards.length cc) (.slice fa G.fails.length fc) (.slice ga G.gone.length gc) W'∧q.2=(fun s=>if s=4 then vk G.tree (nZ G.tree) else if s=5 then (fun i=>if i∈x.2.take q.1 then some ((x.2.headD 0:Nat):Int) else yt ((rs.map (·.2)).take k) i) else fun _=>none)∧RgL W1.heap.size W' (.slice ra rs.length rc) rs∧Chg Pb w W') (fun q=>x.2.length-q.1)
     (0,ff) ⟨rfl,rfl,rfl,rfl,rfl,rfl,rfl,rfl,rfl,rfl,trivial⟩ ⟨Nat.zero_le _,g2,e2,by rw [hff];funext s;dsimp only;split;rfl;split;(funext i;simp);rfl,LR,c2⟩ ?_
    clear g2 e2 hff LR c2 hel
    rintro ⟨m,ff⟩ F3 W3 ⟨hm,g3,e3,hff,LR,c3⟩
    dsimp only at hm g3 e3 hff LR c3
    simp only [oU]
    (repeat' (first|refine aa0 ?_|refine af ?_|refine ah ?_|refine au ?_|refine ak ?_|refine Wc.block ?_|refine Wc.skip ?_|refine aJ ?_|refine aK ?_|refine aH ?_|refine aI ?_|refine aO ?_|refine aa3 ?_|refine aa4 ?_|refine aa7 ?_|refine oZ (fun _=>?_) (fun _=>?_)))
    ·have hel:=LR.el x (List.mem_of_getElem? hx)
     rw [hxv] at hel
     obtain ⟨y,hy⟩:=nV x.2 (k:=m) (by omega)
     obtain ⟨h0,hh0⟩:=nV x.2 (k:=0) (by omega)
     have hh:x.2.headD 0=h0:=by
      cases hx2:x.2 with
      |nil=>rw [hx2] at hh0;cases hh0
      |cons a l=>rw [hx2] at hh0;cases hh0;rfl
     have hyn:y<9223372036854775808:=by
      have h1:x.2∈rJ G.tree:=by rw [←hrs];exact List.mem_map.2 ⟨x,List.mem_of_getElem? hx,rfl⟩
      have:=Tn _ h1 y (List.mem_of_getElem? hy)
      omega
     refine bI (hel.rd qH.mo) rfl rfl (by omega) (by rw [Int.toNat_natCast];exact hy) fun b o hcell=>?_
     refine ay (u:=vi y) rfl hcell ?_
     (repeat' (first|refine aa1 ?_|refine af ?_|refine ah ?_))
     refine bQ rfl (by kernel_rfl) (fun w'=>New W3 w') (Chg.drew _ _) ?_
     intro w4 n4
     skip
     refine aa2 (jP rfl rfl (by omega) (by omega) (ax ?_))
     refine aa2 (aC (u:=mpV m5) rfl (fun w' c=>(e3.h4.chg c fun e=>e).cell (o:=5) (by rw [List.getElem?_map,hm5];rfl)) (ax ?_))
     (repeat' (refine aa2 (aa9 (ax ?_))))
     refine aa2 (dm (hel.rd qH.mo) (fun w' c=>c.keep) rfl rfl (by omega) hh0 fun b o hcell=>ax ?_)
     refine aa2 (aC (u:=vi h0) rfl (fun w' c=>hcell w' c) (ax ?_))
     skip
     refine Wt.last rfl (jd ((e3.new n4).im 5 m5 hm5) hyn rfl rfl rfl fun w5 i5 c5 s5=>?_)
     refine af ?_
     have hz4:=n4.size
     (repeat' (first|refine aa0 ?_|refine af ?_|refine ah ?_|refine ak ?_|refine aH ?_|refine aa7 ?_))
     refine aG (m+1,fun s=>if s=5 then F9 (ff 5) y h0 else ff s) ⟨rfl,rfl,rfl,rfl,rfl,rfl,rfl,rfl,rfl,rfl,trivial⟩ ⟨by dsimp only;omega,(g3.new n4).chg c5 fun k hk e=>hk.2 (by omega),(e3.new n4).put hm5 i5 c5,?_,(LR.new n4).chg c5 fun b hb e=>by have hb:W1.heap.size≤b:=hb;omega,Chg.trans (Chg.trans c3 n4.any (M':=fun _=>False) fun _ _ e=>e.elim) c5 fun k _ e=>hbig k (by omega)⟩ (by dsimp only;omega)
     dsimp only
     rw [take_snoc hy,hff]
     funext s
     by_cases h5:s=5
     ·subst h5
      show F9 (fun i=>if i∈x.2.take m then some ((x.2.headD 0:Nat):Int) else yt ((rs.map (·.2)).take k) i) y h0=fun i=>if i∈x.2.take m++ [y] then some ((x.2.headD 0:Nat):Int) else yt ((rs.map (·.2)).take k) i
      funext i
      unfold F9
      by_cases hi:i=y
      ·rw [if_pos hi,if_pos (by rw [hi];simp),hh]
      ·rw [if_neg hi]
       dsimp only
       have:i∈x.2.take m++ [y]↔i∈x.2.take m:=by simp [hi]
       by_cases h6:i∈x.2.take m
       ·rw [if_pos h6,if_pos (this.2 h6)]
       ·rw [if_neg h6,if_neg fun e=>h6 (this.1 e)]
     ·rw [if_neg h5]
      dsimp only
      rw [if_neg h5,if_neg h5]
    ·obtain rfl:m=x.2.length:=by omega
     refine aG (k+1,ff) ⟨rfl,rfl,rfl,rfl,rfl,rfl,trivial⟩ ⟨by dsimp only;omega,g3,e3,?_,LR,c3⟩ (by dsimp only;omega)
     dsimp only
     rw [hff,List.take_length,take_snoc (show (rs.map (·.2))[k]? =some x.2 by rw [List.getElem?_map,hx];rfl)]
     funext s
     split
     ·rfl
     split
     ·funext i;rw [PL]
     ·rfl
   ·obtain rfl:k=rs.length:=by omega
    rw [List.take_of_length_le (by rw [List.length_map];exact Nat.le_refl _),hrs] at hff
    clear LR hrs
    subst hff
    skip
    refine ay (u:=.slice ca G.cards.length cc) rfl (e2.h3.cell (o:=1) rfl) ?_
    (repeat' (refine aa5 ?_))
    refine ay (u:=.slice ta G.tree.length tc) rfl (e2.h3.cell (o:=0) rfl) ?_
    skip
    have kp2:Keep (fun b=>b<lo) w W2:=c2.keep fun b _ hb e=>by have hb:b<lo:=hb;have:=hlo b e;omega
    refine aB (Nv (r.c.keep pW kp2) (r.t.keep oz kp2) hco hok) rfl ?_
    rintro _ w3 ⟨⟨dv,uv,rfl,_,ou⟩,n3⟩
    obtain ⟨ua,uc,rfl,_,_⟩:=ou.form
    have g3:=g2.new n3
    have e3:=e2.new n3
    have c3:=Chg.trans c2 n3.any (M':=fun _=>False) fun _ _ e=>e.elim
    clear g2 e2 c2 kp2 n3
    have hul:(qM G.cards G.tree).2.length≤G.tree.length:=Nat.le_trans (zk (DK G.cards G.tree) []).1 (JD _ _)
    (repeat' (first|refine aa0 ?_|refine aa1 ?_|refine af ?_|refine pG ?_|refine pz ?_|refine ah ?_|refine au ?_|refine ak ?_|refine Wc.block ?_))
    refine aP (σ:=Nat×(Nat→Nat→Option Int)) (fun q=>[(2,pT b2),(3,pT b3),(4,pT b4),(122,.slice ua (qM G.cards G.tree).2.length uc),(123,vi (qM G.cards G.tree).2.length),(124,vi q.1)])
     (fun q W'=>q.1≤(qM G.cards G.tree).2.length∧WkM (fun b=>Pb b∧ ¬(b2≤b∧b<wB.heap.size)) bw bm N1 [] fl (.slice (some ⟨ng,0,none⟩) N.length nc) (.slice none 0 0) W'∧JdE bw b2 b3 b4 L q.2 (.slice ta G.tree.length tc) (.slice ca G.cards.length cc) (.slice fa G.fails.length fc) (.slice ga G.gone.length gc) W'∧q.2=(fun s=>if s=3 then F8 ((qM G.cards G.tree).2.take q.1) else if s=4 then vk G.tree (nZ G.tree) else if s=5 then yt (rJ G.tree) else fun _=>none)∧nO (flat Ai) 200 5 (fun b=>W2.heap.size≤b) NoB W' (.slice ua (qM G.cards G.tree).2.length uc) (qM G.cards G.tree).2∧Chg Pb w W') (fun q=>(qM G.cards G.tree).2.length-q.1)
     (0,fun s=>if s=4 then vk G.tree (nZ G.tree) else if s=5 then yt (rJ G.tree) else fun _=>none) ⟨rfl,rfl,rfl,rfl,rfl,rfl,trivial⟩ ⟨Nat.zero_le _,g3,e3,?_,ou,c3⟩ ?_
    ·dsimp only
     funext s
     by_cases h3:s=3
     ·subst h3;rfl
     ·rw [if_neg h3]
    clear g3 e3 ou c3
    rintro ⟨k,ff⟩ F3 W3 ⟨hk,g3,e3,hff,ou,c3⟩
    dsimp only at hk g3 e3 hff ou c3
    simp only [oU]
    (repeat' (first|refine af ?_|refine ah ?_|refine au ?_|refine ak ?_|refine Wc.block ?_|refine Wc.skip ?_|refine aJ ?_|refine aK ?_|refine aI ?_|refine aO ?_|refine aa3 ?_|refine aa4 ?_|refine aa5 ?_|refine oZ (fun _=>?_) (fun _=>?_)))
    ·obtain ⟨x,hx⟩:=nV (qM G.cards G.tree).2 (k:=k) (by omega)
     have hxn:x.node<9223372036854775808:=by
      have:=Nu _ ((zk (t:=G.tree) (DK G.cards G.tree) []).2 x (List.mem_of_getElem? hx))
      omega
     obtain ⟨m3,hm3⟩:=nV L (k:=3) (by omega)
     have aif:=hLr m3 (List.mem_of_getElem? hm3)
     refine aU (ou.rd (nP _)) rfl rfl (by omega) (by rw [Int.toNat_natCast];exact hx) fun b o cs hl hR hat=>?_
     obtain rfl:cs=Ai x:=hR
     refine bG hat rfl rfl ?_
     clear hat
     refine Wl.alloc fun w5 b5 n5 s5=>?_
     skip
     refine aX (new:=Ai x) b5 rfl rfl rfl rfl (show (5:Nat)≤5 from Nat.le_refl 5) (yj.oc (fun _=>True) w5 x (Ai x) rfl rfl) fun w6 b6 c6 s6=>?_
     have n6:New W3 w6:=(Chg.trans n5.any c6 fun _ _ e=>e).toNew fun k hk e=>by omega
     replace b6:Bk w6 W3.heap.size 200 (Ai x):=b6
     clear b5 n5 c6
     have hz6:=n6.size
     (repeat' (first|refine af ?_|refine ah ?_|refine ak ?_))
     refine gU rfl rfl (by omega) (by omega) ?_
     skip
     refine ay (u:=mpV m3) rfl ((e3.new n6).h4.cell (o:=3) (by rw [List.getElem?_map,hm3];rfl)) ?_
     (repeat' (refine aa5 ?_))
     refine ay (u:=vi x.node) rfl (b6.cell (o:=0) rfl) ?_
     (repeat' (refine aa5 ?_))
     refine ay (u:=vi x.by_) rfl (b6.cell (o:=4) rfl) ?_
     skip
     refine jd ((e3.new n6).im 3 m3 hm3) hxn rfl rfl rfl fun w7 i7 c7 s7=>?_
     (repeat' (first|refine aa0 ?_|refine af ?_|refine ah ?_|refine ak ?_|refine aH ?_|refine aa7 ?_))
     refine aG (k+1,fun s=>if s=3 then F9 (ff 3) x.node x.by_ else ff s) ⟨rfl,rfl,rfl,rfl,rfl,rfl,trivial⟩ ⟨by dsimp only;omega,(g3.new n6).chg c7 fun k hk e=>hk.2 (by omega),(e3.new n6).put hm3 i7 c7,?_,(ou.new (nH _) n6).chg (nH _) c7 fun b hb e=>by obtain ⟨l3,hl3⟩:=((e3.new n6).im 3 m3 hm3).ml;exact (ou.new (nH _) n6).rE hl3 hb e,Chg.trans (Chg.trans c3 n6.any (M':=fun _=>False) fun _ _ e=>e.elim) c7 fun k _ e=>hbig k (by omega)⟩ (by dsimp only;omega)
     dsimp only
     rw [take_snoc hx,Ti,hff]
     funext s
     by_cases h3:s=3
     ·subst h3;rfl
     ·rw [if_neg h3]
      dsimp only
      rw [if_neg h3,if_neg h3]
    ·obtain rfl:k=(qM G.cards G.tree).2.length:=by omega
     rw [List.take_length] at hff
     subst hff
     clear ou
     skip
     refine ay (u:=.slice ga G.gone.length gc) rfl (e3.h3.cell (o:=3) rfl) ?_
     skip
     have kp3:Keep (fun b=>b<lo) w W3:=c3.keep fun b _ hb e=>by have hb:b<lo:=hb;have:=hlo b e;omega
     refine aB (Ei (r.g.keep (nS _) kp3) hgl) rfl ?_
     rintro _ w4 ⟨⟨gm,Lg,rfl,_,mpg,cn⟩,n4⟩
     refine Wl.alloc fun w5 b5 n5 s5=>?_
     refine aY (u:=.map (some gm)) b5 rfl (show (0:Nat)<1 by omega) rfl rfl fun w6 b6 c6=>?_
     replace b6:Bk w6 w4.heap.size 104 [.map (some gm)]:=b6
     have n46:New w4 w6:=(Chg.trans n5.any c6 fun _ _ e=>e).toNew fun k hk e=>by omega
     clear b5 n5 c6
     generalize hq6:w4.heap.size=q6 at*
     (repeat' (first|refine af ?_|refine ah ?_|refine au ?_|refine ak ?_))
     refine dH (f1:=[]) (c1:=[pT b4,pT b2]) rfl rfl ?_
     (repeat' (first|refine aa1 ?_|refine af ?_|refine ah ?_|refine au ?_|refine ak ?_))
     refine dH (f1:=[]) (c1:=[pT b2]) rfl rfl ?_
     refine bV (ps:=[(0,.const (.int .u8 2)),(1,.tmp 139)]) (parts:=[(0,.int .u8 2),(1,.func (.func 102) #[] #[pT b2])]) rfl rfl (by simp [Value.cells]) ?_
     (repeat' (refine aa0 ?_))
     refine dA (f:=100) (first:= #[]) (cap:= #[pT b4,pT b2]) (vs:=[.int .u8 (3:Nat),pT b4,pT b2]) rfl (Bd (b2:=b2) (b4:=b4) (r:=3)) rfl ?_
     rintro _ w7 ⟨q1,rfl,_,bq1,n7⟩
     (repeat' (refine aa0 ?_))
     refine dA (f:=100) (first:= #[]) (cap:= #[pT b4,pT b2]) (vs:=[.int .u8 (4:Nat),pT b4,pT b2]) rfl (Bd (b2:=b2) (b4:=b4) (r:=4)) rfl ?_
     rintro _ w8 ⟨q2,rfl,_,bq2,n8⟩
     (repeat' (refine aa0 ?_))
     refine dA (f:=100) (first:= #[]) (cap:= #[pT b4,pT b2]) (vs:=[.int .u8 (5:Nat),pT b4,pT b2]) rfl (Bd (b2:=b2) (b4:=b4) (r:=5)) rfl ?_
     rintro _ w9 ⟨q3,rfl,_,bq3,n9⟩
     skip
     refine dH (f1:=[]) (c1:=[pT q6,pT b2,pT b3]) rfl rfl ?_
     refine bV (ps:=[(0,.const (.int .u8 6)),(1,.tmp 147)]) (parts:=[(0,.int .u8 6),(1,.func (.func 103) #[] #[pT q6,pT b2,pT b3])]) rfl rfl (by simp [Value.cells]) ?_
     refine iE (R:=flat jdC) (N:=5) (ps:=[(0,.tmp 140),(1,.tmp 142),(2,.tmp 144),(3,.tmp 146),(4,.tmp 148)]) (xs:=jdL b2 b3 b4 q1 q2 q3 q6) (us:=(jdL b2 b3 b4 q1 q2 q3 q6).map fun e=>.agg (jdC e).toArray) (Pe:=NoB) VE rfl rfl ⟨rfl,rfl,rfl,rfl,rfl,rfl,rfl,rfl,rfl,rfl,trivial⟩ (by show 0<10;omega) (by show 10≤16777216;omega) fun jv w10 oj n10 s10 aii=>?_
     have n49:=New.trans n46 (New.trans n7 (New.trans n8 n9))
     have nW:=New.trans (New.trans n4 n49) n10
     have gJ:=g3.new nW
     have eJ:JdF G lo bw b2 b3 b4 q1 q2 q3 q6 gm L Lg (.slice ta G.tree.length tc) (.slice ca G.cards.length cc) (.slice fa G.fails.length fc) (.slice ga G.gone.length gc) w10:=
      ⟨e3.new nW,bq1.chg (New.trans n8 (New.trans n9 n10)) fun e=>e,bq2.chg (New.trans n9 n10) fun e=>e,bq3.chg n10 fun e=>e,b6.chg (New.trans n7 (New.trans n8 (New.trans n9 n10))) fun e=>e,mpg.chg (New.trans n49 n10) fun e=>e,(r.t.keep oz kp3).keep oz nW.keep⟩
     have cJ:=Chg.trans c3 nW.any (M':=fun _=>False) fun _ _ e=>e.elim
     obtain ⟨ja,jc,rfl,_,_⟩:=oj.form
     clear e3 g3 c3 kp3 n4 n46 n7 n8 n9 n10 n49 nW bq1 bq2 bq3 b6 mpg
     rw [←Tq] at hb
     (repeat' (first|refine aa1 ?_|refine af ?_|refine ah ?_|refine au ?_|refine ak ?_))
     refine ay (u:=pT bw) rfl (eJ.e.h2.cell (o:=0) rfl) ?_
     (repeat' (first|refine bK rfl ?_|refine aa5 ?_))
     refine ay (u:=.slice (some ⟨ng,0,none⟩) N.length nc) rfl (gJ.b.cell (o:=0) rfl) ?_
     (repeat' (first|refine aa0 ?_|refine af ?_|refine pz ?_|refine ah ?_|refine Wc.block ?_))
     refine aP (σ:=Nat×List Nb) (fun q=>[(2,pT b2),(3,pT b3),(4,pT b4),(24,.slice ja 5 jc),(154,vi N.length),(155,vi q.1)])
      (fun q W'=>q.1≤N.length∧WkM (fun b=>Pb b∧ ¬(b2≤b∧b<wB.heap.size)) bw bm q.2 [] fl (.slice (some ⟨ng,0,none⟩) N.length nc) (.slice none 0 0) W'∧q.2.length=N.length∧bnF q.2=zX G q.1 0∧(∀k,stF q.2 k=0)∧JdF G lo bw b2 b3 b4 q1 q2 q3 q6 gm L Lg (.slice ta G.tree.length tc) (.slice ca G.cards.length cc) (.slice fa G.fails.length fc) (.slice ga G.gone.length gc) W'∧nO (flat jdC) 203 2 (fun b=>b=w9.heap.size) NoB W' (.slice ja 5 jc) (jdL b2 b3 b4 q1 q2 q3 q6)∧Chg Pb w W') (fun q=>N.length-q.1)
      (0,N1) ⟨rfl,rfl,rfl,rfl,rfl,rfl,trivial⟩ ⟨Nat.zero_le _,gJ,hN1,hb,hst,eJ,oj,cJ⟩ ?_
     clear gJ hN1 hb hst eJ oj cJ
     rintro ⟨k,N2⟩ F4 W4 ⟨hk,g,hN2,hb,hst,eJ,oj,cJ⟩
     dsimp only at hk g hN2 hb hst eJ oj cJ
     simp only [oU]
     (repeat' (first|refine aa0 ?_|refine aa1 ?_|refine af ?_|refine ah ?_|refine au ?_|refine ak ?_|refine Wc.block ?_|refine Wc.skip ?_|refine aJ ?_|refine aK ?_|refine aI ?_|refine aO ?_|refine aa3 ?_|refine aa4 ?_|refine oZ (fun _=>?_) (fun _=>?_)))
     ·refine ay (u:=pT bw) rfl (eJ.e.h2.cell (o:=0) rfl) ?_
      (repeat' (first|refine bK rfl ?_|refine aa5 ?_))
      refine ay (u:=.slice (some ⟨ng,0,none⟩) N.length nc) rfl (g.b.cell (o:=0) rfl) ?_
      (repeat' (refine aa0 ?_))
      refine dJ rfl rfl (by omega) (by omega) ?_
      (repeat' (first|refine aa0 ?_|refine aa1 ?_|refine af ?_|refine pz ?_|refine ah ?_|refine au ?_|refine ak ?_|refine Wc.block ?_))
      refine aP (σ:=Nat×List Nb) (fun q=>[(2,pT b2),(3,pT b3),(4,pT b4),(24,.slice ja 5 jc),(25,vi k),(26,.pointer (some ⟨ng,k*9,none⟩)),(154,vi N.length),(155,vi k),(164,.slice ja 5 jc),(165,vi 5),(166,vi q.1)])
       (fun q W'=>q.1≤5∧WkM (fun b=>Pb b∧ ¬(b2≤b∧b<wB.heap.size)) bw bm q.2 [] fl (.slice (some ⟨ng,0,none⟩) N.length nc) (.slice none 0 0) W'∧q.2.length=N.length∧bnF q.2=zX G k q.1∧(∀k,stF q.2 k=0)∧JdF G lo bw b2 b3 b4 q1 q2 q3 q6 gm L Lg (.slice ta G.tree.length tc) (.slice ca G.cards.length cc) (.slice fa G.fails.length fc) (.slice ga G.gone.length gc) W'∧nO (flat jdC) 203 2 (fun b=>b=w9.heap.size) NoB W' (.slice ja 5 jc) (jdL b2 b3 b4 q1 q2 q3 q6)∧Chg Pb w W') (fun q=>5-q.1)
       (0,N2) ⟨rfl,rfl,rfl,rfl,rfl,by show Value.pointer (some ⟨ng,0+(k:Int).toNat*9,none⟩)=_;rw [Nat.zero_add,Int.toNat_natCast],rfl,rfl,rfl,rfl,rfl,trivial⟩ ⟨Nat.zero_le _,g,hN2,hb,hst,eJ,oj,cJ⟩ ?_
      clear g hN2 hb hst eJ oj cJ
      rintro ⟨m,N2⟩ F5 W5 ⟨hm,g,hN2,hb,hst,eJ,oj,cJ⟩
      dsimp only at hm g hN2 hb hst eJ oj cJ
      simp only [oU]
      (repeat' (first|refine aa0 ?_|refine af ?_|refine ah ?_|refine au ?_|refine ak ?_|refine Wc.block ?_|refine Wc.skip ?_|refine aJ ?_|refine aK ?_|refine aH ?_|refine aI ?_|refine aO ?_|refine aa3 ?_|refine aa4 ?_|refine aa7 ?_|refine oZ (fun _=>?_) (fun _=>?_)))
      ·obtain ⟨e,he⟩:=nV (jdL b2 b3 b4 q1 q2 q3 q6) (k:=m) (by show m<5;omega)
       obtain ⟨x,hx⟩:=nV N2 (k:=k) (by omega)
       have hxb:=sO hx
       refine aU (oj.rd (nP _)) rfl rfl (by omega) (by rw [Int.toNat_natCast];exact he) fun b o cs hl hR hat=>?_
       obtain rfl:cs=jdC e:=hR
       refine bG hat rfl rfl ?_
       clear hat
       refine Wl.alloc fun w5 b5 n5 s5=>?_
       skip
       refine aX (new:=jdC e) b5 rfl rfl rfl rfl (show (2:Nat)≤2 from Nat.le_refl 2) (VE.oc (fun _=>True) w5 e (jdC e) rfl rfl) fun w6 b6 c6 s6=>?_
       have n6:New W5 w6:=(Chg.trans n5.any c6 fun _ _ e=>e).toNew fun k hk e=>by omega
       replace b6:Bk w6 W5.heap.size 203 (jdC e):=b6
       clear b5 n5 c6
       (repeat' (first|refine af ?_|refine ah ?_|refine au ?_|refine ak ?_|refine aa5 ?_))
       refine ay (u:=.func (.func e.2.1) #[] e.2.2.toArray) rfl (b6.cell (o:=1) rfl) ?_
       (repeat' (refine aa0 ?_))
       obtain ⟨he1,hcl⟩:=Xu (eJ.new n6) (g.new n6) cn hok (by omega) (fun i hi=>by rw [hb];exact VG G k m (by omega)) (k:=k) (by omega) he
       haveI:=PS he
       refine dA (f:=e.2.1) (first:= #[]) (cap:=e.2.2.toArray) (vs:=vi k::e.2.2) rfl hcl rfl ?_
       rintro _ w7 ⟨⟨y,rfl,hy⟩,n7⟩
       have n67:=New.trans n6 n7
       have g7:=g.new n67
       have eJ7:=eJ.new n67
       have oj7:=oj.new (nH _) n67
       have cJ7:=Chg.trans cJ n67.any (M':=fun _=>False) fun _ _ e=>e.elim
       have b7:=b6.chg n7 fun e=>e
       clear g eJ oj cJ n67 n6 n7 b6 hcl
       have hkt:k<G.tree.length:=by omega
       have hxr:x.bn=zi G m k:=by rw [←hxb,hb];exact Q5 G hkt
       have hsame:Be (Dl G k m) (m+2) (Ad G k m)=Dl G k m→bnF N2=zX G k (m+1):=fun h=>by
        rw [hb,JL G hkt,PV h]
        funext i
        by_cases hi:i=k
        ·rw [if_pos hi,hi,Q5 G hkt]
        ·rw [if_neg hi]
       cases hh:Ad G k m with
       |none=>
        rw [show (none:Option Int).isSome=false from rfl]
        (repeat' (first|refine aa0 ?_|refine aa1 ?_|refine af ?_|refine pG ?_|refine qi ?_|refine pI ?_|refine ah ?_|refine au ?_|refine ak ?_|refine Wc.skip ?_|refine aH ?_|refine aa4 ?_|refine aa7 ?_))
        exact aG (m+1,N2) ⟨rfl,rfl,rfl,rfl,rfl,rfl,rfl,rfl,rfl,rfl,rfl,trivial⟩ ⟨by dsimp only;omega,g7,hN2,hsame (by rw [hh];unfold Be;split<;>rfl),hst,eJ7,oj7,cJ7⟩ (by dsimp only;omega)
       |some u=>
        obtain rfl:=hy u hh
        rw [show (some y).isSome=true from rfl]
        have hat:At w7 ng (k*9) (nbC x):=g7.nd.row.at rfl rfl hx
        (repeat' (first|refine aa0 ?_|refine aa1 ?_|refine af ?_|refine pG ?_|refine aa6 ?_|refine ah ?_|refine au ?_|refine ak ?_|refine bK rfl ?_|refine aa5 ?_))
        refine ay (u:=.int .u8 x.bn.reason) rfl (hat.get 3 rfl) ?_
        (repeat' (first|refine aa0 ?_|refine af ?_|refine aa6 ?_|refine pU ?_|refine ah ?_|refine ak ?_|refine Wc.skip ?_|refine aH ?_|refine aa3 ?_|refine aa4 ?_|refine aa5 ?_|refine aa7 ?_|refine bJ rfl rfl (fun _=>?_) (fun _=>?_)))
        ·have h0:x.bn.reason=0:=by omega
         have hr0:(Dl G k m).1=0:=by rw [hxr] at h0;exact h0
         refine ay (u:=.int .u8 e.1) rfl (b7.cell (o:=0) rfl) ?_
         (repeat' (first|refine aa0 ?_|refine bK rfl ?_|refine aa5 ?_))
         refine fC (f:=nbC) (sz:=9) (p:=x) (q:={x with bn:={x.bn with reason:=e.1}}) (j:=k) (o:=3) (cap:=nc) (u:=.int .u8 e.1) (fun _=>rfl) (show (3:Nat)<9 by omega) rfl hx rfl g7.nd.row (by rw [hN2]) rfl rfl fun w8 o8 c8=>?_
         have g8:=g7.aaB hx (y:={x with bn:={x.bn with reason:=e.1}}) rfl rfl rfl o8 c8
         have VH:=(g7.nd.row.lt (k:=ng) rfl).1
         have eJ8:=eJ7.row g7.nd.row (fun k e=>hlo k (g7.nd.row.lt e).1.1) c8
         have oj8:=oj7.chg (nH _) c8 fun k h1 h2=>oj7.um g7.nd.row rfl k h1 h2
         have cJ8:=Chg.trans cJ7 c8 fun k _ e=>by cases e;exact VH.1
         have hx8:(N2.set k {x with bn:={x.bn with reason:=e.1}})[k]? =some {x with bn:={x.bn with reason:=e.1}}:=by rw [List.getElem?_set,if_pos rfl,if_pos (by omega)]
         (repeat' (first|refine bK rfl ?_|refine aa5 ?_))
         refine fC (f:=nbC) (sz:=9) (p:={x with bn:={x.bn with reason:=e.1}}) (q:={x with bn:={x.bn with reason:=e.1,why:=y}}) (j:=k) (o:=5) (cap:=nc) (u:=vi y) (fun _=>rfl) (show (5:Nat)<9 by omega) rfl hx8 rfl g8.nd.row (by rw [List.length_set,hN2]) rfl rfl fun w9' o9 c9=>?_
         have g9:=g8.aaB hx8 (y:={x with bn:={x.bn with reason:=e.1,why:=y}}) rfl rfl rfl o9 c9
         have eJ9:=eJ8.row g8.nd.row (fun k e=>hlo k (g8.nd.row.lt e).1.1) c9
         have oj9:=oj8.chg (nH _) c9 fun k h1 h2=>oj8.um g8.nd.row rfl k h1 h2
         have cJ9:=Chg.trans cJ8 c9 fun k _ e=>by cases e;exact VH.1
         (repeat' (first|refine aa0 ?_|refine af ?_|refine ah ?_|refine ak ?_|refine aH ?_|refine aa7 ?_))
         refine aG (m+1,_) ⟨rfl,rfl,rfl,rfl,rfl,rfl,rfl,rfl,rfl,rfl,rfl,trivial⟩ ⟨by dsimp only;omega,g9,by dsimp only;rw [List.length_set,List.length_set];exact hN2,?_,KZ (KZ hst (by rw [←wU hx];exact hst _)) (by show x.st=0;rw [←wU hx];exact hst _),eJ9,oj9,cJ9⟩ (by dsimp only;omega)
         dsimp only
         rw [KY (by rw [List.length_set];omega),KY (by omega),JL G hkt]
         funext i
         by_cases hi:i=k
         ·rw [if_pos hi,if_pos hi,hxr,he1]
          unfold zi
          rw [show Dl G k (m+1)=Be (Dl G k m) (m+2) (Ad G k m) from rfl,hh]
          unfold Be
          rw [if_pos hr0]
         ·rw [if_neg hi,if_neg hi]
          dsimp only
          rw [if_neg hi,hb]
        ·have hr0:(Dl G k m).1≠0:=by
          have h0:x.bn.reason≠0:=by omega
          rw [hxr] at h0;exact h0
         exact aG (m+1,N2) ⟨rfl,rfl,rfl,rfl,rfl,rfl,rfl,rfl,rfl,rfl,rfl,trivial⟩ ⟨by dsimp only;omega,g7,hN2,hsame (by unfold Be;rw [if_neg hr0]),hst,eJ7,oj7,cJ7⟩ (by dsimp only;omega)
      ·obtain rfl:m=5:=by omega
       rw [Tt] at hb
       exact aG (k+1,N2) ⟨rfl,rfl,rfl,rfl,rfl,rfl,trivial⟩ ⟨by dsimp only;omega,g,hN2,hb,hst,eJ,oj,cJ⟩ (by dsimp only;omega)
     ·obtain rfl:k=N.length:=by omega
      rw [hN,VF] at hb
      exact dF rfl ⟨_,rfl,N2,g.mono fun b _ hb=>hb.1,by omega,hb,hst,cJ⟩
end
end Go.Proofs.YtjecgaiaiophpaaGreatDoor
namespace Go.Proofs.YtjecgaiaiophpaaGreatDoor
open Go Wk
open Go.RowKit (Below)
attribute [local irreducible] Go.Calls
class Wk.Aj (Q:Po):Prop where
 out: ∀F w, ¬Q .outgrown F w
instance {L D:Nat} {W0:World} {I:World→Prop} {Ix:Code→World→Prop}:Aj (Qrd L D W0 I Ix):=⟨Qrd.out⟩
instance {K:Fr→World→Prop}:Aj (Qas K):=⟨Qas.out⟩
instance {P:Program} {n:Nat} {r:Option Nat} {b:Code} {Q:Po} [h:Aj Q]:Aj (Qsr P n r b Q):=⟨Qsr.out h.out⟩
instance {id:Nat} {Q:Po} [h:Aj Q]:Aj (nN id Q):=⟨nN.out h.out⟩
theorem fM {P:Program} {n:Nat} {r:Option Nat} {Q:Po} {F:Fr} {w:World} {a b:Code} (M:Fr→World→Prop) (h1:Wr P n r (Qas M) a F w) (h2: ∀F w,M F w→Wr P n r Q b F w):Wr P n r Q (.seq a b) F w:=by
 refine eP ?_
 unfold Wr at h1 ⊢
 refine wpIn_mono h1 ?_
 rintro e a' w' ⟨F',rfl,hq⟩
 refine ⟨F',rfl,?_⟩
 cases e with
 |normal=>unfold Qsr;exact h2 F' w' hq
 |_=>exact hq.elim
theorem Wk.Wd.frame {P:Program} {n:Nat} {Q:Pd} {ds:List Deferred} {c:Code} {F:Fr} {w:World} (l:List (Nat×Value)) (hF:agrees F l) (h: ∀G,Wd P n Q c ds (oU G l) w):Wd P n Q c ds F w:=by
 have:=h F
 rwa [oN hF] at this
theorem I7 {w:World}:(Instr.build 39 #[(1,vi (-1)),(2,vi (-1))]).run Tryz.prog w=.ok (.agg #[.int .u8 0,vi (-1),vi (-1)]) w:=by
 kernel_rfl
theorem I8 {w:World} {s:List UInt8} {d:Bool}:(Instr.build 118 #[(0,vs s),(1,.bool d),(3,.agg #[.int .u8 0,vi (-1),vi (-1)])]).run Tryz.prog w=.ok (.agg #[vs s,.bool d,.int .u8 0,.int .u8 0,vi (-1),vi (-1),.slice none 0 0,.bool false,.bool false]) w:=by
 kernel_rfl
abbrev ndV (p:Nm) (d:Bool) (lv:Int) (rs:Nat) (c:Int) (wv:Value):List Value:=[vs p,.bool d,.int .u8 lv,.int .u8 rs,vi c,vi (-1),wv,.bool false,.bool false]
theorem afB (p:Nm) (d:Bool) (lv:Int) (rs:Nat) (c:Int) {a:Option Addr} {l m:Nat}: ∀x∈ndV p d lv rs c (.slice a l m),x.oneCell'=true:=by
 intro x hx
 simp at hx
 rcases hx with rfl|rfl|rfl|rfl|rfl|rfl|rfl|rfl<;>rfl
theorem Wk.LLs.qZ {P:Program} {β γ:Type} {f:β→List Value} {g:β→Value} {xs:β→List γ} {h:γ→Value} {te e sz:Nat} {Pb:Nat→Prop} {w w':World} {v:Value} {bs:List β} (H:LLs f g xs h te e sz Pb w v bs) {b:Nat} {T:TypeId} {cs:List Value} (hb:Bk w b T cs) (n1:Nat.beq te T=false) (n2:Nat.beq e T=false) (c:Chg (fun k=>k=b) w w'):LLs f g xs h te e sz Pb w' v bs:=
 ⟨H.row.chg (nH f) c fun k hk e=>H.row.pO hb n1 hk e,fun x hx=>(H.el x hx).chg (nM h) c fun k hk e=>(H.el x hx).pO hb n2 hk e,H.wR,H.sep⟩
theorem JM {α:Type} (l:List α) (y d:α) (i:Nat):(l++ [y]).getD i d=if i=l.length then y else l.getD i d:=by
 rw [List.getD_eq_getElem?_getD,List.getD_eq_getElem?_getD]
 by_cases h:i=l.length
 ·rw [if_pos h,h];simp
 ·rw [if_neg h]
  by_cases h2:i<l.length
  ·rw [List.getElem?_append_left h2]
  ·rw [List.getElem?_eq_none (by simp;omega),List.getElem?_eq_none (by omega)]
theorem VI (N:List Nb) (y:Nb) (i:Nat):bnF (N++ [y]) i=if i=N.length then y.bn else bnF N i:=by
 unfold bnF;rw [JM];split<;>rfl
theorem VJ (N:List Nb) (y:Nb) (i:Nat):stF (N++ [y]) i=if i=N.length then y.st else stF N i:=by
 unfold stF;rw [JM];split<;>rfl
theorem WkM.aaC {Pb:Nat→Prop} {bw bm:Nat} {N:List Nb} {ord aaD:List Nat} {fl:List (Nm×Int)} {nv ov ov':Value} {W W1 W':World} (g:WkM Pb bw bm N ord fl nv ov W) (od:nO (Wk.one viN) 3 1 Pb NoB W1 ov' aaD) (c1:Chg (fun k=>ov.ownBlock=some k) W W1) (lie:ov'.ownBlock=ov.ownBlock∨ ∀k,ov'.ownBlock=some k→W.heap.size≤k) (b':Bk W' bw 108 [nv,ov',.map (some bm)]) (c2:Chg (fun k=>k=bw) W1 W'):WkM Pb bw bm N aaD fl nv ov' W':=by
 have b1:=g.b.chg c1 fun e=>g.od.pO g.b rfl e rfl
 have m1:=g.mp.chg c1 fun e=>g.od.rE g.mp e rfl
 have nd1:LLs nbC (fun x=>svV x.wv) (fun x=>x.bn.wants) viN 118 3 9 Pb W1 nv N:=
  ⟨g.nd.row.chg (nH nbC) c1 fun k hk e=>g.nd.row.um g.od rfl k hk e,fun x hx=>(g.nd.el x hx).chg (nM _) c1 fun k hk e=>g.so x hx k hk e,g.nd.wR,g.nd.sep⟩
 refine ⟨b',nd1.qZ (P:=Tryz.prog) b1 rfl rfl c2,od.chg (nM _) c2 fun k hk e=>od.pO b1 rfl hk e,m1.chg c2 fun e=>b1.rE m1 e.symm,fun x hx k h1 h2=>?_,g.win,g.nl,g.fn,g.lo2⟩
 rcases lie with e|e
 ·exact g.so x hx k h1 (e▸h2)
 ·have:=e k h2;have:=((g.nd.el x hx).lt h1).2;omega
def lvC (G:Giv) (c:Option Nat):Int:=match c with|some j=>(G.cards.getD j default).level|none=>0
def VK (G:Giv) (k i:Nat):Bn:=if i<k then xJ G [] i else default
section
variable {w:World} {G:Giv} {tv cv fv gv:Value} {Pg:Nat→Prop}
theorem NP (r:RdG Pg w G tv cv fv gv) (hfl: ∀x∈G.fails,x.length≤100000000) (hgl: ∀x∈G.gone,x.length≤100000000):
 Calls Tryz.prog 13 #[.agg #[tv,cv,fv,gv]] w (Ret fun v w'=>(if ql G=0 then QZ G w.heap.size v w' else v=.tuple #[.pointer none,vi (ql G)])∧New w w'):=by
 obtain ⟨ta,tc,rfl,_,_⟩:=r.t.form
 obtain ⟨ca,cc,rfl,_,_⟩:=r.c.form
 obtain ⟨fa,fc,rfl,_,_⟩:=r.f.form
 obtain ⟨ga,gc,rfl,_,_⟩:=r.g.form
 refine FI Tryz.func13 rfl Tryz.ntmps13 rfl ?_
 (repeat' (first|refine dW ?_|refine dX ?_))
 refine bC rfl fun w1 b1 n1 s1=>?_
 replace b1:Bk w1 w.heap.size 27 [.slice ta G.tree.length tc,.slice ca G.cards.length cc,.slice fa G.fails.length fc,.slice ga G.gone.length gc]:=b1
 (repeat' (first|refine aa1 ?_|refine af ?_|refine dW ?_|refine dL ?_|refine dX ?_|refine aa5 ?_))
 refine ay (u:=.slice ta G.tree.length tc) rfl (b1.cell (o:=0) rfl) ?_
 skip
 refine aB (vG (r.t.keep oz n1.keep)) rfl ?_
 rintro _ w2 ⟨rfl,n2⟩
 have n02:=New.trans n1 n2
 have b12:=b1.chg n2 fun e=>e
 unfold Fg
 cases hok:oG G.tree with
 |false=>
  have hE:ql G=40:=by unfold ql;rw [hok];rfl
  rw [show (if false=true then (0:Int) else 40)=40 from rfl]
  (repeat' (first|refine aa0 ?_|refine aa1 ?_|refine af ?_|refine pG ?_|refine dW ?_|refine iI rfl ?_|refine dL ?_|refine iH ?_|refine dX ?_|refine iG ?_|(refine qf (fun _=>?_) (fun _=>?_)<;>(first|(exfalso;omega)|skip))))
  exact gy (vW rfl (qN rfl) (qN rfl)) ⟨_,rfl,by rw [hE,if_neg (by decide)];rfl,n02⟩
 |true=>
 rw [show (if true=true then (0:Int) else 40)=0 from rfl]
 (repeat' (first|refine aa0 ?_|refine aa1 ?_|refine af ?_|refine pG ?_|refine dW ?_|refine iJ rfl ?_|refine dL ?_|refine dX ?_|refine Wd.skip ?_|refine aa5 ?_|(refine qf (fun _=>?_) (fun _=>?_)<;>(first|(exfalso;omega)|skip))))
 refine ay (u:=.slice ca G.cards.length cc) rfl (b12.cell (o:=1) rfl) ?_
 skip
 refine aB (FB (r.c.keep pW n02.keep)) rfl ?_
 rintro _ w3 ⟨⟨ck,rfl⟩,n3⟩
 have n03:=New.trans n02 n3
 have b13:=b12.chg n3 fun e=>e
 unfold Hy
 cases hco:uw G.cards with
 |false=>
  have hE:ql G=70:=by unfold ql;rw [hok,hco];rfl
  rw [show (if false=true then (0:Int) else 70)=70 from rfl]
  (repeat' (first|refine aa0 ?_|refine aa1 ?_|refine af ?_|refine pG ?_|refine dW ?_|refine iI rfl ?_|refine dL ?_|refine iH ?_|refine dX ?_|refine iG ?_|(refine qf (fun _=>?_) (fun _=>?_)<;>(first|(exfalso;omega)|skip))))
  exact gy (vW rfl (qN rfl) (qN rfl)) ⟨_,rfl,by rw [hE,if_neg (by decide)];rfl,n03⟩
 |true=>
 rw [show (if true=true then (0:Int) else 70)=0 from rfl]
 (repeat' (first|refine aa0 ?_|refine aa1 ?_|refine af ?_|refine pG ?_|refine dW ?_|refine iJ rfl ?_|refine dL ?_|refine dX ?_|refine Wd.skip ?_|refine aa5 ?_|(refine qf (fun _=>?_) (fun _=>?_)<;>(first|(exfalso;omega)|skip))))
 refine ay (u:=.slice fa G.fails.length fc) rfl (b13.cell (o:=2) rfl) ?_
 have hlo:512<G.fails.length∨512<G.gone.length→ql G=1:=fun h=>by unfold ql;rw [hok,hco,if_neg (by decide),if_neg (by decide),if_pos h]
 have hE0: ¬512<G.fails.length→ ¬512<G.gone.length→ql G=0:=fun h1 h2=>by unfold ql;rw [hok,hco,if_neg (by decide),if_neg (by decide),if_neg fun h=>h.elim h1 h2]
 (repeat' (first|refine aa0 ?_|refine aa1 ?_|refine af ?_|refine aa6 ?_|refine qi ?_|refine pU ?_|refine pz ?_|refine dW ?_|refine iI rfl ?_|refine dL ?_|refine iH ?_|refine dX ?_|refine iG ?_|refine aa5 ?_|refine bH rfl rfl (fun _=>?_) (fun _=>?_)))
 ·have hE:=hlo (.inl (by omega))
  exact gy (vW rfl (qN rfl) (qN rfl)) ⟨_,rfl,by rw [hE,if_neg (by decide)];rfl,n03⟩
 refine ay (u:=.slice ga G.gone.length gc) rfl (b13.cell (o:=3) rfl) ?_
 (repeat' (first|refine aa1 ?_|refine af ?_|refine aa6 ?_|refine pI ?_|refine pz ?_|refine dW ?_|refine iI rfl ?_|refine iJ rfl ?_|refine dL ?_|refine iH ?_|refine dX ?_|refine Wd.skip ?_|refine iG ?_|refine aa5 ?_|refine bH rfl rfl (fun _=>?_) (fun _=>?_)))
 ·have hE:=hlo (.inr (by omega))
  exact gy (vW rfl (qN rfl) (qN rfl)) ⟨_,rfl,by rw [hE,if_neg (by decide)];rfl,n03⟩
 have hE:=hE0 (by omega) (by omega)
 clear hlo hE0
 refine ay (u:=.slice fa G.fails.length fc) rfl (b13.cell (o:=2) rfl) ?_
 skip
 refine aB (Ei (r.f.keep (nS _) n03.keep) hfl) rfl ?_
 rintro _ w4 ⟨⟨bm,L,rfl,hbm,mpL,cn⟩,n4⟩
 refine bV (ps:=[(2,.tmp 48)]) (parts:=[(2,.map (some bm))]) rfl rfl (by simp [Value.cells]) ?_
 refine bC rfl fun w5 b5 n5 s5=>?_
 replace b5:Bk w5 w4.heap.size 108 [.slice none 0 0,.slice none 0 0,.map (some bm)]:=b5
 refine Wl.alloc fun w6 b6 n6 s6=>?_
 refine aY (u:=pT w4.heap.size) b6 rfl (show (0:Nat)<1 by omega) rfl rfl fun w7 b7 c7=>?_
 replace b7:Bk w7 w5.heap.size 42 [pT w4.heap.size]:=b7
 have n57:New w5 w7:=(Chg.trans n6.any c7 fun _ _ e=>e).toNew fun k hk e=>by omega
 have hz1:=n1.size
 have hz2:=n2.size
 have hz3:=n3.size
 have hz4:=n4.size
 have hz5:=n5.size
 have ae3:=n57.size
 have aij:=mpL.lt
 have g0:WkM (fun b=>w.heap.size≤b∧b<w5.heap.size) w4.heap.size bm [] [] L (.slice none 0 0) (.slice none 0 0) w7:=
  ⟨b5.chg n57 fun e=>e,jK,bF,mpL.chg (New.trans n5 n57) fun e=>e,by simp,by simp,by simp,⟨cn.nd,by simp⟩,⟨by omega,by have:=b5.lt;omega⟩,⟨by omega,by omega⟩⟩
 have n07:=New.trans n03 (New.trans n4 (New.trans n5 n57))
 have b17:=b13.chg (New.trans n4 (New.trans n5 n57)) fun e=>e
 clear b6 n6 c7 n57 n5 b5 n4 mpL b1 b12 b13 n1 n2 n3 n02 n03
 generalize hbw:w4.heap.size=bw at*
 generalize hb8:w5.heap.size=b8 at*
 (repeat' (first|refine af ?_|refine dW ?_|refine dL ?_|refine dX ?_|refine aa5 ?_))
 refine ay (u:=.slice ca G.cards.length cc) rfl (b17.cell (o:=1) rfl) ?_
 (repeat' (refine aa5 ?_))
 refine ay (u:=.slice ta G.tree.length tc) rfl (b17.cell (o:=0) rfl) ?_
 skip
 refine aB (MH (r.c.keep pW n07.keep) (r.t.keep oz n07.keep) hco hok) rfl ?_
 rintro _ w8 ⟨⟨mv,rfl,om⟩,n8⟩
 obtain ⟨ma,mc,rfl,_,_⟩:=om.form
 (repeat' (first|refine aa0 ?_|refine pG ?_))
 refine Wl.alloc fun w9 b9 n9 s9=>?_
 refine aY (u:=.slice ma (allM G.cards G.tree).length mc) b9 rfl (show (0:Nat)<1 by omega) rfl rfl fun w10 b10 c10=>?_
 replace b10:Bk w10 w8.heap.size 109 [.slice ma (allM G.cards G.tree).length mc]:=b10
 have Tv:New w8 w10:=(Chg.trans n9.any c10 fun _ _ e=>e).toNew fun k hk e=>by omega
 generalize hb9:w8.heap.size=b9' at*
 (repeat' (first|refine aa1 ?_|refine af ?_|refine dW ?_|refine dL ?_|refine dX ?_|refine aa5 ?_))
 refine ay (u:=.slice ta G.tree.length tc) rfl ((b17.chg (New.trans n8 Tv) fun e=>e).cell (o:=0) rfl) ?_
 have n0a:=New.trans n07 (New.trans n8 Tv)
 skip
 refine aB (JF (r.t.keep oz n0a.keep) hok) rfl ?_
 rintro _ w11 ⟨⟨bq,sv,rfl,hbq,hq⟩,n11⟩
 have n0b:=New.trans n0a n11
 have hz8:=n8.size
 have ahr:=Tv.size
 have U9:=n11.size
 have ahs:=b17.lt
 have aaw:=b7.lt
 have aaE:=b10.lt
 have aff:=hq.1.lt
 have htl:=oP hok
 have hpl:=xG G.tree
 have hal:=MG G.cards G.tree
 obtain ⟨D,hD⟩: ∃D,D=w11.heap.size:=⟨_,rfl⟩
 have KL:=New.trans n8 (New.trans Tv n11)
 have b1a:=b17.chg KL fun e=>e
 have b8a:=b7.chg KL fun e=>e
 have b9a:=b10.chg n11 fun e=>e
 have oma:=(om.new (nH _) (New.trans Tv n11)).mono (Pb':=fun b=>b<D) (nP _) (fun b hb _=>by show b<D;omega) (fun _ _ e=>e)
 have g0a:=(g0.new KL).mono (Pb':=fun b=>w.heap.size≤b∧b≠D∧b≠D+1∧b≠b8) fun b hb e=>⟨e.1,by have:=e.2;omega,by have:=e.2;omega,by have:=e.2;omega⟩
 clear b17 b7 b10 om g0 n8 Tv n11 n07 n0a KL
 let I:Nat→World→Prop:=fun k W=>New w W∧D+2≤W.heap.size∧SqW (fun b=>w10.heap.size≤b∧b<D) bq sv (pK G.tree) W∧Bk W w.heap.size 27 [.slice ta G.tree.length tc,.slice ca G.cards.length cc,.slice fa G.fails.length fc,.slice ga G.gone.length gc]∧Bk W b8 42 [pT bw]∧Bk W b9' 109 [.slice ma (allM G.cards G.tree).length mc]∧nO OG Hz 2 (fun b=>b<D) NoB W (.slice ma (allM G.cards G.tree).length mc) (allM G.cards G.tree)∧ ∃N nv,WkM (fun b=>w.heap.size≤b∧b≠D∧b≠D+1∧b≠b8) bw bm N [] L nv (.slice none 0 0) W∧N.length=k∧bnF N=VK G k∧(∀j,stF N j=0)∧ ∀j,nv.ownBlock=some j→D≤j
 (repeat' (first|refine af ?_|refine Wd.block ?_|refine dL ?_))
 refine Wd.frame [(1,pT w.heap.size),(8,pT b8),(9,pT b9'),(61,.func (.func 95) #[] #[pT bq])] ⟨rfl,rfl,rfl,rfl,trivial⟩ fun G0=>?_
 simp only [oU]
 refine jS (gf:=95) (lb:= #[pT bq]) rfl (fun args _=>sF inferInstance args) (iter_walk (Pb:=fun b=>w10.heap.size≤b∧b<D) (bs:=bq) (v:=sv) (l:=pK G.tree)) (fun k=>rfl) I (fun _ _=>False) ?_ ?_ ?_ ?_ ?_ ?_ ?_ ?_ ?_
 ·exact fun k W h=>h.2.2.1
 ·rintro k W W' ⟨h1,h2,h3,h4,h5,h6,h7,N,nv,h8,h9⟩ n
  exact ⟨h1.trans n,Nat.le_trans h2 n.size,h3.new n,h4.chg n fun e=>e,h5.chg n fun e=>e,h6.chg n fun e=>e,h7.new (nH _) n,N,nv,h8.new n,h9⟩
 ·rintro k W r1 r2 ⟨h1,h2,h3,h4,h5,h6,h7,N,nv,h8,h9⟩ hL
  have z:=n0b.size
  have nL:NoC W (w11.heap.size+1):=.loop hL
  exact ⟨h1.put _ (by omega),by simpa using h2,h3.put _ nL (by omega),h4.put _ nL,h5.put _ nL,h6.put _ nL,h7.put _ (nH _) nL,N,nv,h8.chg (Chg.putObj W _ _) (fun k hk e=>hk.2.2.1 (by omega)),h9⟩
 ·exact fun _ _ _ _ h=>h.elim
 ·intro r1
  have n:=jT (w:=w11) (.deferred (some [])) (.loop r1)
  exact ⟨n0b.trans n,by rw [hD];simp,(hD▸hq).new n,b1a.chg n fun e=>e,b8a.chg n fun e=>e,b9a.chg n fun e=>e,oma.new (nH _) n,[],.slice none 0 0,g0a.new n,rfl,by funext i;unfold VK bnF;rw [if_neg (Nat.not_lt_zero i)];rfl,fun j=>rfl,fun j e=>by cases e⟩
 ·rintro k W r1 hk ⟨h1,h2,h3,h4,h5,h6,h7,N,nv,g,hN,hb,hst,hnv⟩ hL hDf
  subst hD
  have hkt:k<G.tree.length:=by omega
  have hgk:(pK G.tree).getD k []=oO G.tree k:=by rw [List.getD_eq_getElem?_getD,tJ hkt];rfl
  show Wr _ _ _ _ _ (upd (upd _ 62 (vs ((pK G.tree).getD k []))) 63 (vi k)) W
  rw [hgk]
  (repeat' (first|refine aa1 ?_|refine af ?_|refine dR ?_|refine eP ?_|refine dK rfl (by repeat' (first|exact Qfn.out (by rintro _ ⟨⟨_,e⟩,_⟩;cases e)|exact Qrd.out|exact Qas.out|refine Qsr.out ?_|refine nJ.out ?_|refine Qsc.out ?_|refine nN.out ?_)) ?_))
  refine ⟨aQ _ _,fun r'=>?_⟩
  have nL:NoC W (w11.heap.size+1):=.loop hL
  have hLt:=nL.lt
  have z0:=n0b.size
  have q1:New w (W.putObj (w11.heap.size+1) (.loop r')):=h1.put _ (by omega)
  have q2:w11.heap.size+2≤(W.putObj (w11.heap.size+1) (.loop r')).heap.size:=by simpa using h2
  have q3:=h3.put (.loop r') nL (by omega)
  have q4:=h4.put (.loop r') nL
  have q5:=h5.put (.loop r') nL
  have q6:=h6.put (.loop r') nL
  have q7:=h7.put (.loop r') (nH _) nL
  have qg:=g.chg (Chg.putObj W (w11.heap.size+1) (.loop r')) (fun k hk e=>hk.2.2.1 e)
  have qL:NoC (W.putObj (w11.heap.size+1) (.loop r')) (w11.heap.size+1):=.loop (World.putObj_heap_same hLt)
  have qD:NoC (W.putObj (w11.heap.size+1) (.loop r')) w11.heap.size:=.mark ((World.putObj_heap_other (by omega)).trans hDf)
  generalize W.putObj (w11.heap.size+1) (.loop r')=W3 at*
  clear h1 h2 h3 h4 h5 h6 h7 g hL hDf nL hLt
  have aik:=qL.lt
  refine Wr.block ?_
  refine fM (fun F W=>agrees F [(1,pT w.heap.size),(8,pT b8),(9,pT b9'),(11,vs (oO G.tree k)),(12,vi k),(13,.bool (onM G.tree k))]∧New W3 W) ?_ ?_
  ·(repeat' (first|refine dK rfl Wk.Aj.out ?_|refine aa5 ?_))
   refine ay (u:=.slice ta G.tree.length tc) rfl (q4.cell (o:=0) rfl) ?_
   (repeat' (refine aa0 ?_))
   refine aB (DN (i:=k) (r.t.keep oz q1.keep) hok hkt) rfl ?_
   rintro _ W4 ⟨rfl,n4⟩
   (repeat' (first|refine aa0 ?_|refine aa1 ?_|refine af ?_|refine pG ?_))
   exact ⟨⟨rfl,rfl,rfl,rfl,rfl,rfl,trivial⟩,n4⟩
  rintro F W4 ⟨hF,n4⟩
  rw [←oN hF]
  simp only [oU]
  clear hF
  refine fM (fun F W=>agrees F [(1,pT w.heap.size),(8,pT b8),(9,pT b9'),(11,vs (oO G.tree k)),(12,vi k),(13,.bool (onM G.tree k)),(15,.bool (CP G.tree k))]∧New W4 W) ?_ ?_
  ·(repeat' (first|refine dK rfl Wk.Aj.out ?_|refine aa5 ?_))
   refine ay (u:=.slice ta G.tree.length tc) rfl ((q4.chg n4 fun e=>e).cell (o:=0) rfl) ?_
   (repeat' (refine aa0 ?_))
   refine aB (OB (i:=k) (r.t.keep oz (New.trans q1 n4).keep) hok hkt) rfl ?_
   rintro _ W5 ⟨rfl,n5⟩
   (repeat' (first|refine aa0 ?_|refine aa1 ?_|refine af ?_|refine pG ?_))
   exact ⟨⟨rfl,rfl,rfl,rfl,rfl,rfl,rfl,trivial⟩,n5⟩
  rintro F W5 ⟨hF,n5⟩
  rw [←oN hF]
  simp only [oU]
  clear hF
  have n35:=New.trans n4 n5
  have afd:=n35.size
  refine fM (fun F W=>agrees F [(1,pT w.heap.size),(8,pT b8),(9,pT b9'),(11,vs (oO G.tree k)),(12,vi k),(13,.bool (onM G.tree k)),(17,pT W5.heap.size)]∧Bk W W5.heap.size 118 (ndV (oO G.tree k) (qK G.tree k) 0 0 (-1) (.slice none 0 0))∧New W5 W) ?_ ?_
  ·have hdv:qK G.tree k=(decide (0<k)&&(onM G.tree k&& !CP G.tree k)):=rfl
   obtain ⟨d,hd⟩: ∃d,qK G.tree k=d:=⟨_,rfl⟩
   have hd2:=hd.symm.trans hdv
   rw [hd]
   clear hd hdv
   cases hon:onM G.tree k<;>cases hpn:CP G.tree k<;>by_cases hk0:0<k<;>rw [hon,hpn] at hd2<;>simp [hk0] at hd2<;>subst hd2<;>
   (
   (repeat' (first|refine aa0 ?_|refine aa6 ?_|refine qi ?_|refine pU ?_|refine pI ?_|refine aV rfl ?_|refine dK rfl Wk.Aj.out ?_|(refine bH rfl rfl (fun _=>?_) (fun _=>?_)<;>(first|(exfalso;omega)|skip))))
   refine fK (ps:=[(1,.const (vi (-1))),(2,.const (vi (-1)))]) (parts:=[(1,vi (-1)),(2,vi (-1))]) rfl I7 ?_
   refine fK (ps:=[(0,.tmp 78),(1,.tmp 87),(3,.tmp 88)]) (parts:=[(0,vs (oO G.tree k)),(1,.bool _),(3,.agg #[.int .u8 0,vi (-1),vi (-1)])]) rfl I8 ?_
   refine Wl.alloc fun W6 b6 n6 s6=>?_
   refine aX (new:=ndV (oO G.tree k) _ 0 0 (-1) (.slice none 0 0)) b6 rfl rfl rfl rfl (show (9:Nat)≤9 from Nat.le_refl 9) (afB _ _ _ _ _) fun W7 b7 c7 s7=>?_
   (repeat' (refine af ?_))
   exact ⟨⟨rfl,rfl,rfl,rfl,rfl,rfl,rfl,trivial⟩,b7,(Chg.trans n6.any c7 fun _ _ e=>e).toNew fun k hk e=>by omega⟩)
  rintro F W6 ⟨hF,b17,n6⟩
  rw [←oN hF]
  simp only [oU]
  clear hF
  refine fM (fun F W=>agrees F [(1,pT w.heap.size),(8,pT b8),(9,pT b9'),(11,vs (oO G.tree k)),(12,vi k),(13,.bool (onM G.tree k)),(17,pT W5.heap.size)]∧Bk W W5.heap.size 118 (ndV (oO G.tree k) (qK G.tree k) 0 0 (qy (if qK G.tree k=true then qP G.cards G.tree k else none)) (.slice none 0 0))∧New W5 W) ?_ ?_
  ·(repeat' (first|refine eP ?_|refine dK rfl Wk.Aj.out ?_|refine aa5 ?_))
   refine ay (u:=.bool (qK G.tree k)) rfl (b17.cell (o:=1) rfl) ?_
   cases hd:qK G.tree k with
   |false=>
    rw [hd] at b17
    (repeat' (first|refine af ?_|refine dR ?_|refine Wr.skip ?_|refine gu rfl ?_))
    exact ⟨⟨rfl,rfl,rfl,rfl,rfl,rfl,rfl,trivial⟩,b17,n6⟩
   |true=>
    rw [hd] at b17
    have n36:=New.trans n35 n6
    have hm0:(yI (xA G.cards (sJ G.tree k)))[0]? =some (vi (qy (qP G.cards G.tree k))):=by unfold qP;cases xA G.cards (sJ G.tree k)<;>rfl
    have hme:(allM G.cards G.tree)[k]? =some (xA G.cards (sJ G.tree k)):=by unfold allM;rw [List.getElem?_map,List.getElem?_range hkt];rfl
    (repeat' (first|refine af ?_|refine dR ?_|refine dK rfl Wk.Aj.out ?_|refine gq rfl ?_))
    refine ay (u:=.slice ma (allM G.cards G.tree).length mc) rfl ((q6.chg n36 fun e=>e).cell (o:=0) rfl) ?_
    (repeat' (refine aa0 ?_))
    refine aU ((q7.new (nH _) n36).rd (nP _)) rfl rfl (by omega) (by rw [Int.toNat_natCast];exact hme) fun b o cs hl hR hat=>?_
    obtain rfl:cs=yI _:=hR
    (repeat' (refine aa5 ?_))
    refine ay (u:=vi (qy (qP G.cards G.tree k))) rfl (hat.get 0 hm0) ?_
    clear hat
    (repeat' (refine aa5 ?_))
    refine aY (u:=vi (qy (qP G.cards G.tree k))) b17 rfl (show (4:Nat)<9 by omega) rfl rfl fun W7 b7 c7=>?_
    (repeat' (refine af ?_))
    exact ⟨⟨rfl,rfl,rfl,rfl,rfl,rfl,rfl,trivial⟩,b7,(Chg.trans n6.any c7 fun _ _ e=>e).toNew fun k hk e=>by omega⟩
  clear b17 n6
  rintro F W6 ⟨hF,b17,n6⟩
  rw [←oN hF]
  simp only [oU]
  clear hF
  have hcl: ∀j,(if qK G.tree k=true then qP G.cards G.tree k else none)=some j→j<G.cards.length:=fun j hj=>by
   split at hj
   ·unfold qP at hj
    cases hf:xA G.cards (sJ G.tree k) with
    |none=>rw [hf] at hj;cases hj
    |some p=>rw [hf] at hj;cases hj;exact (LK (i:=p.1) (k:=p.2) hf).1
   ·cases hj
  obtain ⟨c,hc⟩: ∃c,(if qK G.tree k=true then qP G.cards G.tree k else none)=c:=⟨_,rfl⟩
  rw [hc] at b17 hcl
  refine fM (fun F W=>agrees F [(1,pT w.heap.size),(8,pT b8),(9,pT b9'),(11,vs (oO G.tree k)),(12,vi k),(13,.bool (onM G.tree k)),(17,pT W5.heap.size)]∧Bk W W5.heap.size 118 (ndV (oO G.tree k) (qK G.tree k) (lvC G c) 0 (qy c) (.slice none 0 0))∧New W5 W) ?_ ?_
  ·(repeat' (first|refine eP ?_|refine dK rfl Wk.Aj.out ?_|refine aa5 ?_))
   refine ay (u:=vi (qy c)) rfl (b17.cell (o:=4) rfl) ?_
   cases c with
   |none=>
    rw [show qy none= -1 from rfl]
    (repeat' (first|refine af ?_|refine dR ?_|refine Wr.skip ?_|refine gu rfl ?_|(refine bZ rfl rfl (fun _=>?_) (fun _=>?_)<;>(first|(exfalso;omega)|skip))))
    exact ⟨⟨rfl,rfl,rfl,rfl,rfl,rfl,rfl,trivial⟩,b17,n6⟩
   |some j=>
    have hjl:=hcl j rfl
    obtain ⟨x,hx⟩:=nV G.cards hjl
    have n36:=New.trans n35 n6
    have hkp:=(New.trans q1 n36).keep (Pb:=Pg)
    rw [show qy (some j)=(j:Int) from rfl]
    (repeat' (first|refine af ?_|refine dR ?_|refine dK rfl Wk.Aj.out ?_|refine gq rfl ?_|refine aa5 ?_|(refine bZ rfl rfl (fun _=>?_) (fun _=>?_)<;>(first|(exfalso;omega)|skip))))
    refine ay (u:=.slice ca G.cards.length cc) rfl ((q4.chg n36 fun e=>e).cell (o:=1) rfl) ?_
    (repeat' (refine aa5 ?_))
    refine ay (u:=vi j) rfl (b17.cell (o:=4) rfl) ?_
    skip
    refine aU (r.c.keep pW hkp) rfl rfl (by omega) (by rw [Int.toNat_natCast];exact hx) fun b o cs hl hR hat=>?_
    obtain ⟨va,rfl,_⟩:=hR
    (repeat' (refine aa5 ?_))
    refine ay (u:=.int .u8 x.level) rfl (hat.get 2 rfl) ?_
    clear hat
    (repeat' (refine aa5 ?_))
    refine aY (u:=.int .u8 x.level) b17 rfl (show (2:Nat)<9 by omega) rfl rfl fun W7 b7 c7=>?_
    (repeat' (refine af ?_))
    exact ⟨⟨rfl,rfl,rfl,rfl,rfl,rfl,rfl,trivial⟩,by unfold lvC;dsimp only;rw [List.getD_eq_getElem?_getD,hx];exact b7,(Chg.trans n6.any c7 fun _ _ e=>e).toNew fun k hk e=>by omega⟩
  clear b17 n6
  rintro F W6 ⟨hF,b17,n6⟩
  rw [←oN hF]
  simp only [oU]
  clear hF
  refine fM (fun F W=> ∃wv:SV,agrees F [(1,pT w.heap.size),(8,pT b8),(9,pT b9'),(11,vs (oO G.tree k)),(12,vi k),(13,.bool (onM G.tree k)),(17,pT W5.heap.size)]∧Bk W W5.heap.size 118 (ndV (oO G.tree k) (qK G.tree k) (lvC G c) 0 (qy c) (svV wv))∧nO (Wk.one viN) 3 1 (fun b=>W3.heap.size≤b) NoB W (svV wv) (if 0<k then [par G.tree k] else [])∧New W5 W) ?_ ?_
  ·have aaF:=New.trans n35 n6
   have hkp:=(New.trans q1 aaF).keep (Pb:=Pg)
   by_cases hk0:0<k
   ·rw [if_pos hk0]
    have hpar:=uf hok (i:=k) (by omega) hkt
    (repeat' (first|refine aa0 ?_|refine af ?_|refine dR ?_|refine eP ?_|refine dK rfl Wk.Aj.out ?_|refine gq rfl ?_|refine aa5 ?_|(refine bH rfl rfl (fun _=>?_) (fun _=>?_)<;>(first|(exfalso;omega)|skip))))
    refine ay (u:=.slice ta G.tree.length tc) rfl ((q4.chg aaF fun e=>e).cell (o:=0) rfl) ?_
    (repeat' (refine aa0 ?_))
    refine aU (r.t.keep oz hkp) rfl rfl (by omega) (by rw [Int.toNat_natCast];exact FU hkt) fun b o cs hl hR hat=>?_
    obtain ⟨pvn,rfl,_⟩:=hR
    (repeat' (refine aa5 ?_))
    refine ay (u:=vi (par G.tree k)) rfl (by rw [←hpar.2];exact hat.get 0 rfl) ?_
    clear hat
    skip
    refine bT (R:=Wk.one viN) (Pe:=NoB) (y:=par G.tree k) qH rfl rfl rfl rfl (by omega) (by omega) fun v7 W7 o7 n7 s7 e7=>?_
    obtain ⟨xa,xc,rfl,_,_⟩:=o7.form
    (repeat' (refine aa5 ?_))
    have hz6:=n6.size
    refine aY (u:=.slice xa [par G.tree k].length xc) (b17.chg n7 fun e=>e) rfl (show (6:Nat)<9 by omega) rfl rfl fun W8 b8' c8=>?_
    (repeat' (refine af ?_))
    exact ⟨(xa,[par G.tree k].length,xc),⟨rfl,rfl,rfl,rfl,rfl,rfl,rfl,trivial⟩,b8',(o7.chg (nM _) c8 fun j h e=>by have h9:W6.heap.size≤j:=(o7.lt h).1;have:=b17.lt;omega).mono (nU _) (fun b _ e=>by have e:W6.heap.size≤b:=e;show W3.heap.size≤b;omega) (fun _ _ e=>e),(Chg.trans (New.trans n6 n7).any c8 fun _ _ e=>e).toNew fun k hk e=>by omega⟩
   ·rw [if_neg hk0]
    (repeat' (first|refine aa0 ?_|refine af ?_|refine dR ?_|refine eP ?_|refine dK rfl Wk.Aj.out ?_|refine Wr.skip ?_|refine gu rfl ?_|(refine bH rfl rfl (fun _=>?_) (fun _=>?_)<;>(first|(exfalso;omega)|skip))))
    exact ⟨(none,0,0),⟨rfl,rfl,rfl,rfl,rfl,rfl,rfl,trivial⟩,b17,bF,n6⟩
  clear b17 n6
  rintro F W6 ⟨hwv,hF,b17,owv,n6⟩
  rw [←oN hF]
  simp only [oU]
  clear hF
  refine fM (fun F W=>agrees F [(1,pT w.heap.size),(8,pT b8),(9,pT b9'),(11,vs (oO G.tree k)),(12,vi k),(17,pT W5.heap.size)]∧Bk W W5.heap.size 118 (ndV (oO G.tree k) (qK G.tree k) (lvC G c) (if onM G.tree k=false then 1 else 0) (qy c) (svV hwv))∧nO (Wk.one viN) 3 1 (fun b=>W3.heap.size≤b) NoB W (svV hwv) (if 0<k then [par G.tree k] else [])∧New W5 W) ?_ ?_
  ·cases hon:onM G.tree k with
   |true=>
    (repeat' (first|refine aa0 ?_|refine af ?_|refine aV rfl ?_|refine dR ?_|refine eP ?_|refine dK rfl Wk.Aj.out ?_|refine Wr.skip ?_|refine gu rfl ?_))
    exact ⟨⟨rfl,rfl,rfl,rfl,rfl,rfl,trivial⟩,b17,owv,n6⟩
   |false=>
    (repeat' (first|refine aa0 ?_|refine af ?_|refine aV rfl ?_|refine dR ?_|refine eP ?_|refine dK rfl Wk.Aj.out ?_|refine gq rfl ?_|refine aa5 ?_))
    refine aY (u:=.int .u8 1) b17 rfl (show (3:Nat)<9 by omega) rfl rfl fun W8 b8' c8=>?_
    (repeat' (refine af ?_))
    exact ⟨⟨rfl,rfl,rfl,rfl,rfl,rfl,trivial⟩,b8',owv.chg (nM _) c8 fun j h e=>owv.pO b17 rfl h e,(Chg.trans n6.any c8 fun _ _ e=>e).toNew fun k hk e=>by omega⟩
  clear b17 owv n6
  rintro F W6 ⟨hF,b17,owv,n6⟩
  rw [←oN hF]
  simp only [oU]
  clear hF
  have n36:=New.trans n35 n6
  have ail:=n36.size
  have g6:=qg.new n36
  have q56:=q5.chg n36 fun e=>e
  obtain ⟨na,nc,rfl,_,_⟩:=g6.nd.row.form
  obtain ⟨Y,hY⟩: ∃Y:Nb,Y=⟨xJ G [] k,hwv,0⟩:=⟨_,rfl⟩
  have hYc:nbC Y=ndV (oO G.tree k) (qK G.tree k) (lvC G c) (if onM G.tree k=false then 1 else 0) (qy c) (svV hwv):=by
   rw [hY, ←hc]
   rfl
  have hYw:Y.bn.wants=if 0<k then [par G.tree k] else []:=by rw [hY];unfold xJ;simp
  rw [←hYc] at b17
  rw [←hYw] at owv
  have hYv:Y.wv=hwv:=by rw [hY]
  rw [←hYv] at owv
  have IY: ∀W',Chg (fun j=>(Value.slice na N.length nc).ownBlock=some j) W6 W'→Bk W' b8 42 [pT bw]:=fun W' c=>q56.chg c fun e=>g6.nd.row.pO q56 rfl e rfl
  have Xw: ∀W',Chg (fun j=>(Value.slice na N.length nc).ownBlock=some j) W6 W'→Bk W' bw 108 [.slice na N.length nc,.slice none 0 0,.map (some bm)]:=fun W' c=>g6.b.chg c fun e=>g6.nd.row.pO g6.b rfl e rfl
  have aaG: ∀W',Chg (fun j=>(Value.slice na N.length nc).ownBlock=some j) W6 W'→Bk W' W5.heap.size 118 (nbC Y):=fun W' c=>b17.chg c fun e=>by have:=hnv _ e;have:=(qg.nd.row.lt e).2;omega
  refine jU rfl Aj.out rfl (by kernel_rfl) (fun W'=>Chg (fun j=>(Value.slice na N.length nc).ownBlock=some j) W6 W') (Chg.drew _ _) ?_
  intro W7 m7
  skip
  refine aa2 (aC (u:=pT bw) rfl (fun W' c=>(IY W' c).cell (o:=0) rfl) (ax ?_))
  refine aa2 (aC (u:=pT bw) rfl (fun W' c=>(IY W' c).cell (o:=0) rfl) (ax ?_))
  (repeat' (first|refine aa2 (bf rfl (ax ?_))|refine aa2 (aa8 (ax ?_))))
  refine aa2 (aC (u:=.slice na N.length nc) rfl (fun W' c=>(Xw W' c).cell (o:=0) rfl) (ax ?_))
  skip
  refine aa2 (bY (fun W' c=>(aaG W' c).at) rfl rfl (ax ?_))
  refine aT rfl (bT (R:=flat nbC) (Pe:=NoB) (y:=Y) VA rfl rfl rfl rfl (by omega) (by omega) fun v8 W8 o8 n8 s8 e8=>?_)
  have m8:=New.trans m7 n8
  refine af ⟨rfl,m8.any,?_⟩
  refine aT rfl (bU (R:=flat nbC) VA (g6.nd.row.new (nH _) m8) (o8.rd (nP _)) (fun z cs hz=>hz) rfl rfl (by omega) (by simp only [maxLen,List.length_singleton];omega) (by simp only [List.length_singleton];omega) fun u' W9 o9 c9 lie _=>?_)
  have c69:Chg (fun j=>(Value.slice na N.length nc).ownBlock=some j) W6 W9:=Chg.trans m8.any c9 fun _ _ e=>e
  refine af ⟨rfl,c69,?_⟩
  (repeat' (first|refine aa2 (bf rfl (ax ?_))|refine aa2 (aa8 (ax ?_))))
  obtain ⟨ua,uc,rfl,_,_⟩:=o9.form
  refine Wt.last rfl (aY (u:=.slice ua (N++ [Y]).length uc) (Xw W9 c69) rfl (show (0:Nat)<3 by omega) rfl rfl fun W10 YS BM=>?_)
  refine af ?_
  have afC:=m8.size
  have afw:=c69.size
  have aht:=BM.size
  have F7:(Value.slice ua (N++ [Y]).length uc).ownBlock=(Value.slice na N.length nc).ownBlock∨ ∀k,(Value.slice ua (N++ [Y]).length uc).ownBlock=some k→W6.heap.size≤k:=lie.imp id fun h k hk=>by have:=h k hk;omega
  have Tc: ∀j,(Value.slice na N.length nc).ownBlock=some j→j<W3.heap.size:=fun j e=>(qg.nd.row.lt e).2
  have XY:=g6.nd.snoc (b:=Y) (o9.mono (Pb':=fun b=>w.heap.size≤b∧b≠w11.heap.size∧b≠w11.heap.size+1∧b≠b8) (nP _) (fun b _ e=>by rcases e with e|e;exact e;exact ⟨by omega,by omega,by omega,by omega⟩) (fun _ _ e=>e)) c69 F7
   (owv.mono (Pb':=fun b=>w.heap.size≤b∧b≠w11.heap.size∧b≠w11.heap.size+1∧b≠b8) (nU _) (fun b _ e=>by have e:W3.heap.size≤b:=e;exact ⟨by omega,by omega,by omega,by omega⟩) (fun _ _ e=>e))
   (fun j e1 e2=>by have h9:W3.heap.size≤j:=(owv.lt e1).1;have:=Tc j e2;omega)
   (fun x hx j e1 e2=>by have h9:W3.heap.size≤j:=(owv.lt e1).1;have:=((qg.nd.el x hx).lt e2).2;omega)
  have afD:=Xw W9 c69
  have NQ:Chg (fun j=>j=bw∨(Value.slice na N.length nc).ownBlock=some j) W6 W10:=Chg.trans (c69.mono fun _ _ e=>.inr e) BM fun _ _ e=>.inl e
  have hnN:(N++ [Y]).length=k+1:=by rw [List.length_append,List.length_singleton,hN]
  have gN:WkM (fun b=>w.heap.size≤b∧b≠w11.heap.size∧b≠w11.heap.size+1∧b≠b8) bw bm (N++ [Y]) [] L (.slice ua (N++ [Y]).length uc) (.slice none 0 0) W10:=by
   refine ⟨YS,XY.qZ (P:=Tryz.prog) afD rfl rfl BM,bF,((g6.mp.chg c69 fun e=>g6.nd.row.rE g6.mp e rfl).chg BM fun e=>g6.b.rE g6.mp e.symm),fun x hx j e1 e2=>(by cases e2),fun x hx j hj=>?_,by omega,⟨g6.fn.1,fun x hx=>?_⟩,g6.lo2⟩
   ·rw [hnN]
    rcases List.mem_append.1 hx with hx|hx
    ·have:=g6.win x hx j hj;omega
    ·rw [List.mem_singleton.1 hx,hYw] at hj
     split at hj
     ·rw [List.mem_singleton.1 hj]
      have:=(uf hok (i:=k) (by omega) hkt).1
      omega
     ·cases hj
   ·rcases List.mem_append.1 hx with hx|hx
    ·exact g6.fn.2 x hx
    ·rw [List.mem_singleton.1 hx,hY]
     have:=UF hok hkt
     show (oO G.tree k).length≤1000000
     omega
  have hown: ∀j,(Value.slice ua (N++ [Y]).length uc).ownBlock=some j→w11.heap.size≤j:=fun j e=>by
   rcases F7 with l1|l1
   ·exact hnv j (l1▸e)
   ·have:=l1 j e;omega
  have aim:=g6.lo2.1
  have hY0:Y.st=0:=by rw [hY]
  have hYb:Y.bn=xJ G [] k:=by rw [hY]
  have qL6:NoC W6 (w11.heap.size+1):=by obtain ⟨o,h1,h2⟩:=qL;exact ⟨o,(n36.block _ (Array.getElem?_eq_some_iff.1 h1).1 id).trans h1,h2⟩
  have qD6:NoC W6 w11.heap.size:=by obtain ⟨o,h1,h2⟩:=qD;exact ⟨o,(n36.block _ (Array.getElem?_eq_some_iff.1 h1).1 id).trans h1,h2⟩
  clear aaG Xw IY b17 owv o8 o9 XY
  (repeat' (refine aH ?_))
  refine ⟨(NQ.block _ qL6.lt ?_).trans (n36.block _ qL.lt id),(NQ.block _ qD6.lt ?_).trans (n36.block _ qD.lt id),Chg.trans (New.trans q1 n36) NQ fun j hj e=>?_,by omega,(q3.new n36).chg NQ ?_ ?_,(q4.chg n36 fun e=>e).chg NQ ?_,q56.chg NQ ?_,(q6.chg n36 fun e=>e).chg NQ ?_,(q7.new (nH _) n36).chg (nH _) NQ fun j h1 h2=>?_,N++ [Y],_,gN,hnN,?_,?_,hown⟩
  ·rintro (e|e)
   ·omega
   ·exact g6.nd.row.nl qL6 e rfl
  ·rintro (e|e)
   ·omega
   ·exact g6.nd.row.nl qD6 e rfl
  ·rcases e with e|e
   ·omega
   ·have:=hnv j e;omega
  ·rintro (e|e)
   ·omega
   ·have:=hnv _ e;omega
  ·rintro j hj (e|e)
   ·omega
   ·have:=hnv _ e;omega
  ·rintro (e|e)
   ·omega
   ·have:=hnv _ e;omega
  ·rintro (e|e)
   ·omega
   ·have:=hnv _ e;omega
  ·rintro (e|e)
   ·omega
   ·have:=hnv _ e;omega
  ·rcases h2 with e|e
   ·exact (q7.new (nH _) n36).pO g6.b rfl h1 e
   ·have h9:j<w11.heap.size:=(q7.lt h1).1
    have:=hnv _ e;omega
  ·funext i
   rw [VI,hb,hN,hYb]
   unfold VK
   by_cases hi:i=k
   ·rw [if_pos hi,if_pos (by omega),hi]
   ·rw [if_neg hi]
    by_cases h2:i<k
    ·rw [if_pos h2,if_pos (by omega)]
    ·rw [if_neg h2,if_neg (by omega)]
  ·intro j
   rw [VJ]
   split
   ·exact hY0
   ·exact hst j
 ·rintro W ⟨h1,h2,h3,h4,h5,h6,h7,N,nv,g,hN,hb,hst,hnv⟩ hDf
  subst hD
  clear h3 h6 h7 oma g0a b1a b8a b9a hq
  rw [hpl] at hN hb
  clear I
  have z0:=n0b.size
  have rW:RdG (fun b=>b<w.heap.size) W G (.slice ta G.tree.length tc) (.slice ca G.cards.length cc) (.slice fa G.fails.length fc) (.slice ga G.gone.length gc):=
   RdG.keep ⟨r.t.mono yC fun b hb _=>hb,r.c.mono Kq fun b hb _=>hb,r.f.mono (nU _) fun b hb _=>hb,r.g.mono (nU _) fun b hb _=>hb⟩ h1.keep pW
  (repeat' (first|refine dL ?_|refine jQ ?_))
  refine Wd.of ?_
  refine au ?_
  (repeat' (refine ak ?_))
  refine ay (u:=pT bw) rfl (h5.cell (o:=0) rfl) ?_
  skip
  refine bM h4 rfl rfl ?_
  skip
  refine aB (PW (lo:=w.heap.size) (Pb:=fun b=>w.heap.size≤b∧b≠w11.heap.size∧b≠w11.heap.size+1∧b≠b8) (fun b hb=>hb.1) (fun b hb=>⟨by omega,by omega,by omega,by omega⟩) hok hco hgl rW g hN hb hst) rfl ?_
  rintro _ W1 ⟨N1,g1,hN1,hb1,hst1,c1⟩
  have h51:=h5.chg c1 fun e=>e.2.2.2 rfl
  have hD1:=(c1.block _ (Array.getElem?_eq_some_iff.1 hDf).1 fun e=>e.2.1 rfl).trans hDf
  have n1':New w W1:=(Chg.trans (M:=fun k=>w.heap.size≤k) h1.any c1 fun k _ e=>e.1).toNew fun k hk e=>by omega
  clear h1 h4 h5 g hb hst hnv hDf c1 rW
  generalize hD0:w11.heap.size=D at*
  obtain ⟨na,nc,rfl,_,_⟩:=g1.nd.row.form
  have hnl:=g1.nl
  (repeat' (first|refine af ?_|refine ah ?_|refine au ?_|refine ak ?_))
  refine ay (u:=pT bw) rfl (h51.cell (o:=0) rfl) ?_
  (repeat' (first|refine bK rfl ?_|refine aa5 ?_))
  refine ay (u:=.slice na N1.length nc) rfl (g1.b.cell (o:=0) rfl) ?_
  (repeat' (first|refine aa0 ?_|refine af ?_|refine pz ?_|refine ah ?_|refine Wc.block ?_))
  refine aP (σ:=Nat×Value) (fun q=>[(8,pT b8),(142,.slice na N1.length nc),(143,vi N1.length),(144,vi q.1)])
   (fun q W'=>q.1≤N1.length∧WkM (fun b=>w.heap.size≤b∧b≠D∧b≠D+1∧b≠b8) bw bm N1 ((List.range q.1).filter fun i=>decide ((nR G i).reason=0)) L (.slice na N1.length nc) q.2 W'∧Bk W' b8 42 [pT bw]∧W'.heap[D]? =some (.deferred (some []))∧New w W') (fun q=>N1.length-q.1)
   (0,.slice none 0 0) ⟨rfl,rfl,rfl,rfl,trivial⟩ ⟨Nat.zero_le _,g1,h51,hD1,n1'⟩ ?_
  clear g1 h51 hD1 n1'
  rintro ⟨k,ov⟩ G2 W2 ⟨hk,g2,h52,hD2,n2⟩
  dsimp only at hk g2 h52 hD2 n2
  simp only [oU]
  have Vu:=(Array.getElem?_eq_some_iff.1 hD2).1
  obtain ⟨oa,oc,rfl,hol,ain⟩:=g2.od.form
  (repeat' (first|refine aa0 ?_|refine af ?_|refine ah ?_|refine au ?_|refine ak ?_|refine Wc.block ?_|refine Wc.skip ?_|refine aJ ?_|refine aK ?_|refine aI ?_|refine aO ?_|refine aa3 ?_|refine aa4 ?_|refine oZ (fun _=>?_) (fun _=>?_)))
  ·obtain ⟨x,hx⟩:=nV N1 (k:=k) (by omega)
   have hxb:=sO hx
   rw [hb1] at hxb
   refine aU (g2.nd.row.rd (nP nbC)) rfl rfl (by omega) (by rw [Int.toNat_natCast];exact hx) fun b o cs hl hR hat=>?_
   obtain rfl:cs=nbC x:=hR
   refine bG hat rfl rfl ?_
   clear hat
   refine Wl.alloc fun w5' b5' n5' s5'=>?_
   (repeat' (refine aa1 ?_))
   refine aX (new:=nbC x) b5' rfl rfl rfl rfl (show (9:Nat)≤9 from Nat.le_refl 9) (Vz x) fun w6' b6' c6' s6'=>?_
   have n6':New W2 w6':=(Chg.trans n5'.any c6' fun _ _ e=>e).toNew fun k hk e=>by omega
   replace b6':Bk w6' W2.heap.size 118 (nbC x):=b6'
   clear b5' n5' c6'
   have g6:=g2.new n6'
   have h56:=h52.chg n6' fun e=>e
   have hz6:=n6'.size
   (repeat' (first|refine af ?_|refine ah ?_|refine au ?_|refine ak ?_|refine aa5 ?_))
   refine ay (u:=.int .u8 x.bn.reason) rfl (b6'.cell (o:=3) rfl) ?_
   have hnx:(List.range (k+1)).filter (fun i=>decide ((nR G i).reason=0))=(List.range k).filter (fun i=>decide ((nR G i).reason=0))++if x.bn.reason=0 then [k] else []:=by
    rw [List.range_succ,List.filter_append,List.filter_cons,List.filter_nil,hxb]
    by_cases h0:x.bn.reason=0
    ·rw [if_pos h0,if_pos (decide_eq_true h0)]
    ·rw [if_neg h0,if_neg (by rw [decide_eq_false h0];decide)]
   have hrl:((List.range k).filter fun i=>decide ((nR G i).reason=0)).length≤k:=Nat.le_trans (List.length_filter_le _ _) (by rw [List.length_range];exact Nat.le_refl _)
   (repeat' (first|refine aa0 ?_|refine af ?_|refine ah ?_|refine ak ?_|refine Wc.skip ?_|refine aH ?_|refine aa3 ?_|refine aa4 ?_|refine aa7 ?_|refine bJ rfl rfl (fun _=>?_) (fun _=>?_)))
   ·rw [if_pos (by omega)] at hnx
    have YT: ∀W',Chg (fun j=>(Value.slice oa ((List.range k).filter fun i=>decide ((nR G i).reason=0)).length oc).ownBlock=some j) w6' W'→Bk W' b8 42 [pT bw]:=fun W' c=>h56.chg c fun e=>g6.od.pO h56 rfl e rfl
    have aaH: ∀W',Chg (fun j=>(Value.slice oa ((List.range k).filter fun i=>decide ((nR G i).reason=0)).length oc).ownBlock=some j) w6' W'→Bk W' bw 108 [.slice na N1.length nc,.slice oa ((List.range k).filter fun i=>decide ((nR G i).reason=0)).length oc,.map (some bm)]:=fun W' c=>g6.b.chg c fun e=>g6.od.pO g6.b rfl e rfl
    refine bQ rfl (by kernel_rfl) (fun W'=>Chg (fun j=>(Value.slice oa ((List.range k).filter fun i=>decide ((nR G i).reason=0)).length oc).ownBlock=some j) w6' W') (Chg.drew _ _) ?_
    intro W7 m7
    skip
    refine aa2 (aC (u:=pT bw) rfl (fun W' c=>(YT W' c).cell (o:=0) rfl) (ax ?_))
    refine aa2 (aC (u:=pT bw) rfl (fun W' c=>(YT W' c).cell (o:=0) rfl) (ax ?_))
    (repeat' (first|refine aa2 (bf rfl (ax ?_))|refine aa2 (aa8 (ax ?_))))
    refine aa2 (aC (u:=.slice oa ((List.range k).filter fun i=>decide ((nR G i).reason=0)).length oc) rfl (fun W' c=>(aaH W' c).cell (o:=1) rfl) (ax ?_))
    (repeat' (refine aa2 (aa9 (ax ?_))))
    refine aT rfl (bT (R:=Wk.one viN) (Pe:=NoB) (y:=k) qH rfl rfl rfl rfl (by omega) (by omega) fun v8 W8 o8 n8 s8 e8=>?_)
    have m8:=New.trans m7 n8
    refine af ⟨rfl,m8.any,?_⟩
    refine aT rfl (bU (R:=Wk.one viN) qH (g6.od.new (nM _) m8) (o8.rd qH.mo) (fun z cs hz=>hz) rfl rfl (by omega) (by simp only [maxLen,List.length_singleton];omega) (by simp only [List.length_singleton];omega) fun u' W9 o9 c9 lie _=>?_)
    have c69:Chg (fun j=>(Value.slice oa ((List.range k).filter fun i=>decide ((nR G i).reason=0)).length oc).ownBlock=some j) w6' W9:=Chg.trans m8.any c9 fun _ _ e=>e
    refine af ⟨rfl,c69,?_⟩
    (repeat' (first|refine aa2 (bf rfl (ax ?_))|refine aa2 (aa8 (ax ?_))))
    rw [←hnx] at o9
    obtain ⟨ua,uc,rfl,_,_⟩:=o9.form
    refine Wt.last rfl (aY (u:=.slice ua _ uc) (aaH W9 c69) rfl (show (1:Nat)<3 by omega) rfl rfl fun W10 YS BM=>?_)
    refine af ?_
    have afC:=m8.size
    have gN:=g6.aaC (o9.mono (Pb':=fun b=>w.heap.size≤b∧b≠D∧b≠D+1∧b≠b8) (nU _) (fun b _ e=>by rcases e with e|e;exact e;exact ⟨by omega,by omega,by omega,by omega⟩) (fun _ _ e=>e)) c69 (lie.imp id fun h k hk=>by have:=h k hk;omega) YS BM
    have afE:=YT W9 c69
    have hDo: ∀j,(Value.slice oa ((List.range k).filter fun i=>decide ((nR G i).reason=0)).length oc).ownBlock=some j→w.heap.size≤j∧j≠D:=fun j e=>⟨(g2.od.lt e).1.1,(g2.od.lt e).1.2.1⟩
    have YU:=g2.lo2.1
    (repeat' (first|refine aa0 ?_|refine af ?_|refine ah ?_|refine ak ?_|refine aH ?_|refine aa7 ?_))
    refine aG (k+1,_) ⟨rfl,rfl,rfl,rfl,trivial⟩ ⟨by dsimp only;omega,gN,afE.chg BM fun e=>YU.2.2.2 e.symm,?_,?_⟩ (by dsimp only;omega)
    ·rw [BM.block _ (by have:=c69.size;omega) fun e=>YU.2.1 e.symm,c69.block _ (by omega) fun e=>(hDo _ e).2 rfl,n6'.block _ Vu id]
     exact hD2
    ·exact (Chg.trans (M:=fun k=>w.heap.size≤k) (Chg.trans (M:=fun k=>w.heap.size≤k) (New.trans n2 n6').any c69 fun k _ e=>(hDo k e).1) BM fun k _ e=>by have:=YU.1;omega).toNew fun k hk e=>by omega
   ·rw [if_neg (by omega),List.append_nil] at hnx
    refine aG (k+1,_) ⟨rfl,rfl,rfl,rfl,trivial⟩ ⟨by dsimp only;omega,by rw [hnx];exact g6,h56,(n6'.block _ Vu id).trans hD2,New.trans n2 n6'⟩ (by dsimp only;omega)
  ·obtain rfl:k=N1.length:=by omega
   have hrl:((List.range N1.length).filter fun i=>decide ((nR G i).reason=0)).length≤N1.length:=Nat.le_trans (List.length_filter_le _ _) (by rw [List.length_range];exact Nat.le_refl _)
   have hmem: ∀i∈(List.range N1.length).filter (fun i=>decide ((nR G i).reason=0)),i<N1.length:=fun i hi=>List.mem_range.1 (List.mem_filter.1 hi).1
   have hpt: ∀i,i<N1.length→(nR G i).path=oO G.tree i:=fun i hi=>by rw [wu (by omega)];rfl
   refine ay (u:=pT bw) rfl (h52.cell (o:=0) rfl) ?_
   (repeat' (first|refine bK rfl ?_|refine aa5 ?_))
   refine ay (u:=.slice oa ((List.range N1.length).filter fun i=>decide ((nR G i).reason=0)).length oc) rfl (g2.b.cell (o:=1) rfl) ?_
   refine dH (f1:=[]) (c1:=[pT b8]) rfl rfl ?_
   refine aB (CS (g:=49) (cb:= #[pT b8]) (lv:=fun i=>(nR G i).level) (pt:=fun i=>(nR G i).path) g2.od (fun x hx y hy e=>ER hok (by have:=hmem x hx;omega) (by have:=hmem y hy;omega) (by rw [←hpt x (hmem x hx), ←hpt y (hmem y hy)];exact e)) (by omega) fun w' hw x hx y hy=>?_) rfl ?_
   ·refine (Td (N:=N1) (a:=x) (c:=y) (b8:=b8) (bw:=bw) (na:=na) (nc:=nc) (mv:=.map (some bm)) hnl (g2.b.chg hw fun e=>g2.od.pO g2.b rfl e rfl) ((g2.nd.row.chg (nH nbC) hw fun k hk e=>g2.nd.row.um g2.od rfl k hk e).rd (nP nbC)) (h52.chg hw fun e=>g2.od.pO h52 rfl e rfl) (hmem x hx) (hmem y hy)).mono ?_
    rintro _ w'' ⟨_,rfl,rfl,h⟩
    rw [hb1]
    exact ⟨rfl,h⟩
   rintro _ W3 ⟨os,c3⟩
   have g3:=g2.aaC os c3 (.inl rfl) (g2.b.chg c3 fun e=>g2.od.pO g2.b rfl e rfl) (aQ _ _)
   have h53:=h52.chg c3 fun e=>g2.od.pO h52 rfl e rfl
   have hD3:=(c3.block _ Vu fun e=>(g2.od.lt e).1.2.1 rfl).trans hD2
   have n3:New w W3:=(Chg.trans (M:=fun k=>w.heap.size≤k) n2.any c3 fun k _ e=>(g2.od.lt e).1.1).toNew fun k hk e=>by omega
   (repeat' (first|refine af ?_|refine ah ?_|refine au ?_|refine ak ?_))
   refine ay (u:=pT bw) rfl (h53.cell (o:=0) rfl) ?_
   (repeat' (first|refine aa1 ?_|refine af ?_|refine ah ?_|refine aA ?_))
   refine Qdn.e ?_
   refine jR (by simp) hD3 ?_
   refine gy (vW rfl (qN rfl) (qN rfl)) ⟨_,rfl,?_,n3.put _ (by omega)⟩
   rw [if_pos hE]
   refine ⟨bw,bm,N1,L,.slice na N1.length nc,.slice oa ((List.range N1.length).filter fun i=>decide ((nR G i).reason=0)).length oc,rfl,?_,by omega,hb1,hst1,fun s=>?_⟩
   ·have:=(g3.chg (Chg.putObj W3 D (.deferred none)) fun k hk e=>hk.2.1 e).mono (Pb':=fun b=>w.heap.size≤b) fun b _ e=>e.1
    unfold qm
    rw [←hN1]
    exact this
   ·cases hf:flF L s with
    |true=>
     obtain ⟨p,hp,e⟩:=List.any_eq_true.1 hf
     have e:=(of_decide_eq_true e).1
     exact (List.contains_iff_mem.2 (e▸(cn.mem p hp).2.2)).symm
    |false=>
     cases hc:G.fails.contains s with
     |false=>rfl
     |true=>
      obtain ⟨c,hcm⟩:=cn.all s (List.contains_iff_mem.1 hc)
      have h1:=(cn.mem _ hcm).1
      rw [QY cn.nd hcm,decide_eq_true (by dsimp only at h1;omega)] at hf
      cases hf
 ·exact fun _ h=>h.elim
 ·exact fun _ _ h=>h.elim
end
end Go.Proofs.YtjecgaiaiophpaaGreatDoor
namespace Go.Proofs.YtjecgaiaiophpaaGreatDoor
open Go Wk
theorem PX {N:Nat→Bn} {fl:Nm→Bool} {S S':St} {i:Nat} (h:qY N fl S i=some S'):S i=0∧S' i≠0∧ ∀k,S k≠0→S' k≠0:=by
 unfold qY at h
 split at h
 ·rename_i hc
  cases h
  refine ⟨hc.2.1,?_,fun k hk=>?_⟩
  ·dsimp only
   rw [if_pos rfl]
   split<;>omega
  ·dsimp only
   split
   ·split<;>omega
   ·exact hk
 ·cases h
theorem wV {N:Nat→Bn} {fl:Nm→Bool}: ∀(l:List Nat) (S:St),(∀k,S k≠0→(oI N fl l S).2 k≠0)∧ ∀j∈(oI N fl l S).1.tried,j∈l∧S j=0∧(oI N fl l S).2 j≠0
 | [],S=>⟨fun k h=>by rw [oI];exact h,fun j hj=>by rw [oI] at hj;cases hj⟩
 |i::r,S=>by
  rw [sQ]
  by_cases h0:S i≠0
  ·rw [if_pos h0]
   obtain ⟨h1,h2⟩:=wV (N:=N) (fl:=fl) r S
   exact ⟨h1,fun j hj=>⟨List.mem_cons_of_mem _ (h2 j hj).1,(h2 j hj).2⟩⟩
  ·rw [if_neg h0]
   cases hl:qY N fl S i with
   |none=>
    obtain ⟨h1,h2⟩:=wV (N:=N) (fl:=fl) r S
    exact ⟨h1,fun j hj=>⟨List.mem_cons_of_mem _ (h2 j hj).1,(h2 j hj).2⟩⟩
   |some S'=>
    obtain ⟨h1,h2⟩:=wV (N:=N) (fl:=fl) r S'
    obtain ⟨k0,k1,k2⟩:=PX hl
    refine ⟨fun k hk=>h1 k (k2 k hk),fun j hj=>?_⟩
    rcases List.mem_cons.1 hj with e|hj
    ·subst e
     exact ⟨List.mem_cons_self,k0,h1 _ k1⟩
    ·obtain ⟨a1,a2,a3⟩:=h2 j hj
     refine ⟨List.mem_cons_of_mem _ a1,?_,a3⟩
     exact Decidable.byContradiction fun e=>k2 j e a2
theorem yw {N:Nat→Bn} {fl:Nm→Bool}: ∀(l:List Nat) (S:St),(oI N fl l S).1.tried.length+(oI N fl l S).1.waits.length≤l.length
 | [],S=>by rw [oI];simp
 |i::r,S=>by
  rw [sQ]
  by_cases h0:S i≠0
  ·rw [if_pos h0]
   have:=yw (N:=N) (fl:=fl) r S
   rw [List.length_cons];omega
  ·rw [if_neg h0]
   cases hl:qY N fl S i with
   |none=>
    have:=yw (N:=N) (fl:=fl) r S
    simp only [List.length_cons];omega
   |some S'=>
    have:=yw (N:=N) (fl:=fl) r S'
    simp only [List.length_cons];omega
theorem zY {N:Nat→Bn} {fl:Nm→Bool}: ∀(l:List Nat) (S:St),(∀k,S k≤2)→ ∀k,(oI N fl l S).2 k≤2
 | [],S,h,k=>by rw [oI];exact h k
 |i::r,S,h,k=>by
  rw [sQ]
  by_cases h0:S i≠0
  ·rw [if_pos h0];exact zY r S h k
  ·rw [if_neg h0]
   cases hl:qY N fl S i with
   |none=>exact zY r S h k
   |some S'=>
    have:=NI (N:=N) (fl:=fl) (i:=i) h
    rw [hl] at this
    exact zY r S' this k
def left0 (l:List Nat) (S:St):Nat:=(l.filter fun i=>S i == 0).length
theorem filter_lt {α:Type} {p q:α→Bool}: ∀ {l:List α},(∀x∈l,q x=true→p x=true)→(∃x∈l,p x=true∧q x=false)→(l.filter q).length<(l.filter p).length
 | [],_,h=>by obtain ⟨x,hx,_⟩:=h;cases hx
 |a::r,hs,h=>by
  have hr:(r.filter q).length≤(r.filter p).length:=by
   have:r.filter q=(r.filter p).filter q:=by
    rw [List.filter_filter]
    apply List.filter_congr
    intro x hx
    cases hq:q x with
    |false=>rfl
    |true=>rw [hs x (List.mem_cons_of_mem _ hx) hq];rfl
   rw [this];exact List.length_filter_le _ _
  obtain ⟨x,hx,hp,hq⟩:=h
  rcases List.mem_cons.1 hx with e|hx
  ·subst e
   rw [List.filter_cons,List.filter_cons,hp,hq]
   simp only [Bool.false_eq_true,if_false,if_true,List.length_cons]
   omega
  ·have:=filter_lt (p:=p) (q:=q) (fun y hy=>hs y (List.mem_cons_of_mem _ hy)) ⟨x,hx,hp,hq⟩
   rw [List.filter_cons,List.filter_cons]
   cases hqa:q a with
   |false=>
    simp only [Bool.false_eq_true,if_false]
    split
    ·simp only [List.length_cons];omega
    ·exact this
   |true=>
    rw [hs a List.mem_cons_self hqa]
    simp only [if_true,List.length_cons];omega
theorem PY {N:Nat→Bn} {fl:Nm→Bool} {l:List Nat} {S:St} (h:(oI N fl l S).1.tried≠ []):left0 l (oI N fl l S).2<left0 l S:=by
 obtain ⟨h1,h2⟩:=wV (N:=N) (fl:=fl) l S
 obtain ⟨j,hj⟩:=List.exists_mem_of_ne_nil _ h
 obtain ⟨a1,a2,a3⟩:=h2 j hj
 refine filter_lt (fun x _ hx=>?_) ⟨j,a1,by simpa using a2,by simpa using a3⟩
 have hx:=eq_of_beq hx
 exact beq_iff_eq.2 (Decidable.byContradiction fun e=>h1 x e hx)
end Go.Proofs.YtjecgaiaiophpaaGreatDoor
namespace Go.Proofs.YtjecgaiaiophpaaGreatDoor
open Go Wk
open Go.RowKit (Below)
attribute [local irreducible] Go.Calls
theorem Wk.results3 {P:Program} {n:Nat} {F:Fr} {w:World} {fn:Func} {a b c:ResultVar} {u v x:Value} (h:fn.results= #[a,b,c]) (h1:(Hr (arr n F) a).run P w=.ok u w) (h2:(Hr (arr n F) b).run P w=.ok v w) (h3:(Hr (arr n F) c).run P w=.ok x w):(results fn (arr n F)).run P w=.ok (.tuple #[u,v,x]) w:=by
 rw [CW,h]
 simp [h1,h2,h3]
section
variable {Pb:Nat→Prop} {w:World} {g:Giv} {tv cv fv gv:Value}
theorem Tz (h:RdG Pb w g tv cv fv gv) (hok:oG g.tree=true)
 (hnew: ∀w',New w w'→Calls Tryz.prog 13 #[.agg #[tv,cv,fv,gv]] w' (Ret fun r w''=>QZ g w'.heap.size r w''∧New w' w'')):
 Calls Tryz.prog 39 #[.agg #[tv,cv,fv,gv]] w (Ret fun r w'=>NJ g w.heap.size r w'∧New w w'):=by
 obtain ⟨ta,tc,rfl,_,_⟩:=h.t.form
 obtain ⟨ca,cc,rfl,_,_⟩:=h.c.form
 obtain ⟨fa,fc,rfl,_,_⟩:=h.f.form
 obtain ⟨ga,gc,rfl,_,_⟩:=h.g.form
 refine nI Tryz.func39 rfl Tryz.ntmps39 rfl ?_
 (repeat' (first|refine au ?_|refine ak ?_))
 refine bC rfl fun w1 b1 n1 s1=>?_
 replace b1:Bk w1 w.heap.size 27 [.slice ta g.tree.length tc,.slice ca g.cards.length cc,.slice fa g.fails.length fc,.slice ga g.gone.length gc]:=b1
 refine Wl.alloc fun w2 b2 n2 s2=>?_
 replace b2:Bk w2 w1.heap.size 33 [.slice none 0 0,.slice none 0 0,.slice none 0 0,.slice none 0 0]:=b2
 (repeat' (first|refine aa1 ?_|refine af ?_|refine ah ?_|refine au ?_|refine ak ?_))
 refine bM (b1.chg n2 fun e=>e) rfl rfl ?_
 refine aB (hnew w2 (New.trans n1 n2)) rfl ?_
 rintro _ w3 ⟨⟨bw,bm,N,fl,nv,ov,rfl,gW,hN,hbn,hst,hfl⟩,n3⟩
 (repeat' (first|refine aa0 ?_|refine aa1 ?_|refine af ?_|refine pG ?_|refine ah ?_|refine au ?_|refine ak ?_|refine Wc.skip ?_|refine aa4 ?_|(refine qf (fun _=>?_) (fun _=>?_)<;>(first|(exfalso;omega)|skip))))
 refine Wl.alloc fun w4 b7 n4 s4=>?_
 replace b7:Bk w4 w3.heap.size 33 [.slice none 0 0,.slice none 0 0,.slice none 0 0,.slice none 0 0]:=b7
 have hz1:=n1.size
 have hz2:=n2.size
 have hz3:=n3.size
 have n04:=New.trans (New.trans n1 n2) (New.trans n3 n4)
 have b1':=b1.chg (New.trans n2 (New.trans n3 n4)) fun e=>e
 have b2':=b2.chg (New.trans n3 n4) fun e=>e
 have hb1:=b1.lt
 have hb2:=b2.lt
 have hb7:=b7.lt
 have gW4:=(gW.mono (Pb':=fun b=>w2.heap.size≤b∧b<w3.heap.size) fun b hb e=>⟨e,hb⟩).new n4
 have hol:(qm (nR g) g.tree.length).length≤g.tree.length:=by
  unfold qm
  rw [List.length_mergeSort]
  exact Nat.le_trans (List.length_filter_le _ _) (by rw [List.length_range];exact Nat.le_refl _)
 have hin: ∀i∈qm (nR g) g.tree.length,i<g.tree.length∧(nR g i).reason=0:=fun i hi=>by
  have:=List.mem_filter.1 (List.mem_mergeSort.1 hi)
  exact ⟨List.mem_range.1 this.1,of_decide_eq_true this.2⟩
 have htl:g.tree.length≤512:=by rw [←hN];exact gW4.nl
 have aaI:stF N=S0:=by funext i;exact hst i
 obtain ⟨DG,hDG⟩: ∃x,x=doneGo (nR g) (flF fl) (qm (nR g) g.tree.length) (g.tree.length+1) S0:=⟨_,rfl⟩
 (repeat' (first|refine af ?_|refine ah ?_))
 refine au ?_
 refine Wc.block ?_
 refine aP (σ:=Nat×List Nb×List Rnd×Value) (fun q=>[(1,pT w.heap.size),(2,pT w1.heap.size),(5,pT bw),(7,pT w3.heap.size)])
  (fun q w'=>WkM (fun b=>w2.heap.size≤b∧b<w3.heap.size) bw bm q.2.1 (qm (nR g) g.tree.length) fl nv ov w'∧q.2.1.length=g.tree.length∧bnF q.2.1=nR g∧(∀i,stF q.2.1 i≤2)∧left0 (qm (nR g) g.tree.length) (stF q.2.1)<q.1∧q.2.2.1.length+q.1≤g.tree.length+1∧DG=(q.2.2.1++(doneGo (nR g) (flF fl) (qm (nR g) g.tree.length) q.1 (stF q.2.1)).1,(doneGo (nR g) (flF fl) (qm (nR g) g.tree.length) q.1 (stF q.2.1)).2)∧Bk w' w3.heap.size 33 [.slice none 0 0,q.2.2.2,.slice none 0 0,.slice none 0 0]∧nO rRd 76 2 (fun b=>w4.heap.size≤b) (fun b=>w4.heap.size≤b) w' q.2.2.2 q.2.2.1∧Bk w' w.heap.size 27 [.slice ta g.tree.length tc,.slice ca g.cards.length cc,.slice fa g.fails.length fc,.slice ga g.gone.length gc]∧Bk w' w1.heap.size 33 [.slice none 0 0,.slice none 0 0,.slice none 0 0,.slice none 0 0]∧w4.heap.size≤w'.heap.size∧New w w') (fun q=>q.1)
  (g.tree.length+1,N,[],.slice none 0 0) ⟨rfl,rfl,rfl,rfl,trivial⟩ ⟨gW4,hN,hbn,fun i=>by rw [hst i];omega,by
    have:left0 (qm (nR g) g.tree.length) (stF N)≤(qm (nR g) g.tree.length).length:=List.length_filter_le _ _
    show left0 (qm (nR g) g.tree.length) (stF N)<g.tree.length+1
    omega,by simp,by rw [hDG,aaI];rfl,b7,bF,b1',b2',Nat.le_refl _,n04⟩ ?_
 clear gW4 gW b7 b1' b2' hst aaI n04 hN hbn
 rintro ⟨f,N1,acc,bv⟩ G w5 ⟨g5,hN,hbn,hst,hlf,hal,hgo,b7,ob,b1',b2',hz5,n05⟩
 dsimp only at g5 hN hbn hst hlf hal hgo b7 ob b1' b2' hz5 n05
 simp only [oU]
 obtain ⟨f,rfl⟩: ∃k,f=k+1:=⟨f-1,by omega⟩
 rw [uH] at hgo
 obtain ⟨ba,bc,rfl,_,_⟩:=ob.form
 (repeat' (first|refine aa0 ?_|refine au ?_|refine ak ?_|refine Wc.block ?_))
 refine aB (PD g5 (fun i hi=>by rw [hN,hbn];exact hin i hi) hst (by omega)) rfl ?_
 rintro _ w6 ⟨N2,tr,wr,rfl,g6,hl6,hb6,hs6,ot,ow,c6⟩
 rw [hbn] at hs6 ot ow
 have n56:New w w6:=Chg.trans n05 c6 fun k hk e=>by
  have h1:=(g5.nd.row.lt e).1.1
  omega
 have hnv: ∀k,nv.ownBlock=some k→w2.heap.size≤k∧k<w3.heap.size:=fun k e=>(g5.nd.row.lt e).1
 have b76:=b7.chg c6 fun e=>by have:=hnv _ e;omega
 have b16:=b1'.chg c6 fun e=>by have:=hnv _ e;omega
 have b26:=b2'.chg c6 fun e=>by have:=hnv _ e;omega
 have ob6:=ob.vY Dk c6 (fun k hk e=>by have h9:w4.heap.size≤k:=(ob.lt hk).1;have:=hnv _ e;omega) (fun k hk _ e=>by have h9:w4.heap.size≤k:=hk;have:=hnv _ e;omega)
 have YV: ∀k,(Value.slice ba acc.length bc).ownBlock=some k→k<w5.heap.size:=fun k hk=>(ob.lt hk).2
 have hz6:=c6.size
 clear g5 b7 b1' b2' ob n05 c6
 have hrl:=yw (N:=nR g) (fl:=flF fl) (qm (nR g) g.tree.length) (stF N1)
 have hle:=zY (N:=nR g) (fl:=flF fl) (qm (nR g) g.tree.length) (stF N1) hst
 have hrs:=PY (N:=nR g) (fl:=flF fl) (l:=qm (nR g) g.tree.length) (S:=stF N1)
 rw [←hs6] at hgo hrs hle
 generalize hR:(oI (nR g) (flF fl) (qm (nR g) g.tree.length) (stF N1)).1=R at*
 obtain ⟨ra,rc,rfl,_,_⟩:=ot.form
 obtain ⟨ua,uc,rfl,_,_⟩:=ow.form
 refine Wl.alloc fun w7 b8 n7 s7=>?_
 refine aX (new:=[.slice ra R.tried.length rc,.slice ua R.waits.length uc]) b8 rfl rfl rfl rfl (show (2:Nat)≤2 from Nat.le_refl 2) (by intro c hc;simp at hc;rcases hc with rfl|rfl<;>rfl) fun w8 b8' c8 s8=>?_
 replace b8':Bk w8 w6.heap.size 76 [.slice ra R.tried.length rc,.slice ua R.waits.length uc]:=b8'
 have n68:New w6 w8:=(Chg.trans n7.any c8 fun _ _ e=>e).toNew fun k hk e=>by omega
 clear b8 n7 c8
 (repeat' (first|refine af ?_|refine ah ?_))
 have hz8:=n68.size
 have g8:=g6.new n68
 have b78:=b76.chg n68 fun e=>e
 have b18:=b16.chg n68 fun e=>e
 have b28:=b26.chg n68 fun e=>e
 have ob8:=ob6.vY Dk n68 (fun _ _ e=>e) (fun _ _ _ e=>e)
 have ot8:=ot.new (nM _) n68
 have ow8:=ow.new (nH wtC) n68
 have n08:=New.trans n56 n68
 clear g6 b76 b16 b26 ob6 ot ow n56 n68
 refine dV (fun F W=> ∃bv',agrees F [(1,pT w.heap.size),(2,pT w1.heap.size),(5,pT bw),(7,pT w3.heap.size),(8,pT w6.heap.size)]∧WkM (fun b=>w2.heap.size≤b∧b<w3.heap.size) bw bm N2 (qm (nR g) g.tree.length) fl nv ov W∧Bk W w6.heap.size 76 [.slice ra R.tried.length rc,.slice ua R.waits.length uc]∧Bk W w3.heap.size 33 [.slice none 0 0,bv',.slice none 0 0,.slice none 0 0]∧nO rRd 76 2 (fun b=>w4.heap.size≤b) (fun b=>w4.heap.size≤b) W bv' (acc++if R.tried=[]∧R.waits=[] then [] else [R])∧Bk W w.heap.size 27 [.slice ta g.tree.length tc,.slice ca g.cards.length cc,.slice fa g.fails.length fc,.slice ga g.gone.length gc]∧Bk W w1.heap.size 33 [.slice none 0 0,.slice none 0 0,.slice none 0 0,.slice none 0 0]∧w4.heap.size≤W.heap.size∧New w W) ?_ ?_
 ·(repeat' (first|refine au ?_|refine ak ?_|refine aa5 ?_))
  refine ay (u:=.slice ra R.tried.length rc) rfl (b8'.cell (o:=0) rfl) ?_
  (repeat' (first|refine pz ?_|refine aa5 ?_))
  refine ay (u:=.slice ua R.waits.length uc) rfl (b8'.cell (o:=1) rfl) ?_
  (repeat' (first|refine af ?_|refine pz ?_|refine ah ?_|refine ak ?_|refine Wc.skip ?_|refine aa3 ?_|refine aa4 ?_|refine aa5 ?_|refine aa7 ?_|refine bH rfl rfl (fun _=>?_) (fun _=>?_)))
  ·have hne: ¬(R.tried=[]∧R.waits=[]):=fun e=>by
    have e1:=congrArg List.length e.1
    have e2:=congrArg List.length e.2
    simp only [List.length_nil] at e1 e2
    omega
   refine ay (u:=.slice ba acc.length bc) rfl (b78.cell (o:=1) rfl) ?_
   skip
   refine bM b8' rfl rfl ?_
   refine dw (R:=rRd) (y:=R) Dk ob8 rfl rfl rfl rfl ⟨_,_,rfl,ot8.mono (nU _) (fun b hb e=>?_) (fun _ _ e=>e),ow8.mono (nP wtC) (fun b hb e=>?_) (fun _ _ e=>e)⟩ (by omega) (by omega) (by simp only [maxLen];omega) (by omega) rfl rfl fun v9 w9 p o9 c9 lie=>?_
   ·have h9:w5.heap.size≤b:=e
    exact ⟨by omega,fun h=>by have:=YV b h;omega⟩
   ·have h9:w5.heap.size≤b:=e
    exact ⟨by omega,fun h=>by have:=YV b h;omega⟩
   have hz9:=c9.size
   have hab: ∀k,(Value.slice ba acc.length bc).ownBlock=some k→w4.heap.size≤k:=fun k hk=>(ob8.lt hk).1
   have b79:=b78.chg c9 fun e=>by have:=hab _ e;omega
   (repeat' (refine aa5 ?_))
   refine aY (u:=v9) b79 rfl (show (1:Nat)<4 by omega) rfl (by obtain ⟨_,_,rfl,_⟩:=o9.form;rfl) fun w10 b10 c10=>?_
   have Xe:=c10.size
   (repeat' (refine af ?_))
   refine cu ⟨v9,⟨rfl,rfl,rfl,rfl,rfl,trivial⟩,(g8.chg c9 fun k hk e=>by have:=hab k e;have:=hk.2;omega).chg c10 (fun k hk e=>by have:=hk.2;omega),(b8'.chg c9 fun e=>by have:=YV _ e;omega).chg c10 (fun e=>by omega),b10,?_,(b18.chg c9 fun e=>by have:=hab _ e;omega).chg c10 (fun e=>by omega),(b28.chg c9 fun e=>by have:=hab _ e;omega).chg c10 (fun e=>by omega),by omega,(Chg.trans (Chg.trans (M:=fun k=>w4.heap.size≤k∨k=w3.heap.size) n08.any c9 fun k _ e=>.inl (hab k e)) c10 fun k _ e=>.inr e).toNew fun k hk e=>by omega⟩
   rw [if_neg hne]
   exact (o9.mono E5 (fun b _ e=>by rcases e with e|e;exact e;omega) (fun _ _ e=>e)).vY Dk c10 (fun k hk e=>by rcases (o9.lt hk).1 with h|h<;>omega) (fun k hk _ e=>by have h9:w4.heap.size≤k:=hk;omega)
  ·have h1:R.tried=[]:=List.length_eq_zero_iff.1 (by omega)
   have h2:R.waits=[]:=List.length_eq_zero_iff.1 (by omega)
   exact cu ⟨_,⟨rfl,rfl,rfl,rfl,rfl,trivial⟩,g8,b8',b78,by rw [if_pos ⟨h1,h2⟩,List.append_nil];exact ob8,b18,b28,by omega,n08⟩
 ·rintro F W ⟨bv',hF,gW,b8,b7,ob',b1',b2',hzW,nW⟩
  rw [←oN hF]
  simp only [oU]
  clear hF
  (repeat' (first|refine au ?_|refine ak ?_|refine aa5 ?_))
  refine ay (u:=.slice ra R.tried.length rc) rfl (b8.cell (o:=0) rfl) ?_
  (repeat' (first|refine aa0 ?_|refine af ?_|refine pz ?_|refine ah ?_|refine au ?_|refine ak ?_|refine Wc.skip ?_|refine aJ ?_|refine aH ?_|refine aI ?_|refine je rfl ?_|refine aO ?_|refine aa3 ?_|refine aa4 ?_|refine bJ rfl rfl (fun _=>?_) (fun _=>?_)))
  ·have hR0:R.tried=[]:=List.length_eq_zero_iff.1 (by omega)
   rw [if_pos hR0] at hgo
   refine aB (SY gW) rfl ?_
   rintro rv w11 ⟨orw,n11⟩
   have U9:=n11.size
   have orv: ∃a c,rv=.slice a (rowsOf (bnF N2) (stF N2) N2.length).length c:=by obtain ⟨a,c,e,_⟩:=orw.form;exact ⟨a,c,e⟩
   obtain ⟨rwa,rwc,rfl⟩:=orv
   (repeat' (refine aa5 ?_))
   refine aY (u:=.slice rwa (rowsOf (bnF N2) (stF N2) N2.length).length rwc) (b7.chg n11 fun e=>e) rfl (show (0:Nat)<4 by omega) rfl rfl fun w12 b12 c12=>?_
   have aae:=c12.size
   have g12:=(gW.new n11).chg c12 fun k hk e=>by have:=hk.2;omega
   have hN2:N2.length=g.tree.length:=by omega
   obtain ⟨na,nc,rfl,_,_⟩:=g12.nd.row.form
   (repeat' (first|refine aa0 ?_|refine af ?_|refine ah ?_|refine au ?_|refine ak ?_|refine bK rfl ?_|refine aa5 ?_))
   refine ay (u:=.slice na N2.length nc) rfl (g12.b.cell (o:=0) rfl) ?_
   (repeat' (refine pz ?_))
   refine eF (f:=vbo) (y0:=false) (Pe:=NoB) rfl rfl rfl (by omega) (by omega) (by omega) fun dv w13 o13 n13=>?_
   rw [Int.toNat_natCast] at o13
   have aio:=n13.size
   have g13:=g12.new n13
   have aaJ:nO (Wk.one vbo) 4 1 (fun b=>w12.heap.size≤b) NoB w13 dv (List.replicate N2.length false):=o13
   obtain ⟨da,dc,hdv,_,_⟩:=aaJ.form
   rw [List.length_replicate] at hdv
   subst hdv
   (repeat' (first|refine aa0 ?_|refine aa1 ?_|refine af ?_|refine ah ?_|refine au ?_|refine ak ?_|refine bK rfl ?_|refine aa5 ?_))
   refine ay (u:=.slice na N2.length nc) rfl (g13.b.cell (o:=0) rfl) ?_
   (repeat' (first|refine aa0 ?_|refine af ?_|refine pz ?_|refine ah ?_|refine Wc.block ?_))
   refine aP (σ:=Nat×List Bool) (fun q=>[(1,pT w.heap.size),(2,pT w1.heap.size),(5,pT bw),(7,pT w3.heap.size),(9,.slice da N2.length dc),(53,.slice na N2.length nc),(54,vi N2.length),(55,vi q.1)])
    (fun q W'=>q.1≤N2.length∧q.2.length=N2.length∧(∀k,k<q.1→q.2[k]? =some (stF N2 k == 1))∧nO (Wk.one vbo) 4 1 (fun b=>w12.heap.size≤b) NoB W' (.slice da N2.length dc) q.2∧Chg (fun k=>(Value.slice da N2.length dc).ownBlock=some k) w13 W') (fun q=>N2.length-q.1)
    (0,List.replicate N2.length false) ⟨rfl,rfl,rfl,rfl,rfl,rfl,rfl,rfl,trivial⟩ ⟨Nat.zero_le _,by simp,fun k hk=>by omega,aaJ,aQ _ _⟩ ?_
   rintro ⟨k,B⟩ G2 w14 ⟨hk,hBl,hB,oB,c14⟩
   dsimp only at hk hBl hB oB c14
   simp only [oU]
   have hdb: ∀j,(Value.slice da N2.length dc).ownBlock=some j→w12.heap.size≤j:=fun j e=>(oB.lt e).1
   have g14:=g13.chg c14 fun j hj e=>by have:=hdb j e;have:=hj.2;omega
   (repeat' (first|refine aa0 ?_|refine af ?_|refine ah ?_|refine au ?_|refine ak ?_|refine Wc.block ?_|refine Wc.skip ?_|refine aJ ?_|refine aK ?_|refine aI ?_|refine aO ?_|refine aa3 ?_|refine aa4 ?_|refine aa5 ?_|refine oZ (fun _=>?_) (fun _=>?_)))
   ·obtain ⟨x,hx⟩:=nV N2 (k:=k) (by omega)
    have hne:B≠ []:=by intro e;rw [e] at hBl;simp at hBl;omega
    obtain ⟨dg,dc',hde,_,aip,_⟩:=oB.blk hne
    rw [hBl] at hde
    cases hde
    refine aU (g14.nd.row.rd (nP nbC)) rfl rfl (by omega) (by rw [Int.toNat_natCast];exact hx) fun b o cs hl hR hat=>?_
    obtain rfl:cs=nbC x:=hR
    refine bG hat rfl rfl ?_
    clear hat
    refine Wl.alloc fun w15 b5 n15 s15=>?_
    (repeat' (refine aa1 ?_))
    refine aX (new:=nbC x) b5 rfl rfl rfl rfl (show (9:Nat)≤9 from Nat.le_refl 9) (Vz x) fun w16 b5' c16 s16=>?_
    replace b5':Bk w16 w14.heap.size 118 (nbC x):=b5'
    have aaK:New w14 w16:=(Chg.trans n15.any c16 fun _ _ e=>e).toNew fun k hk e=>by omega
    clear b5 n15 c16
    (repeat' (first|refine aa0 ?_|refine af ?_|refine ah ?_|refine ak ?_|refine aa5 ?_))
    refine ay (u:=.bool (x.st == 1)) rfl (b5'.cell (o:=7) rfl) ?_
    skip
    refine dJ rfl rfl (by omega) (by omega) ?_
    refine dQ (f:=vbo) (q:=(x.st == 1)) (j:=k) (cap:=dc) (oB.new (nM _) aaK) (by rw [hBl]) (by omega) (by show Value.pointer (some ⟨dg,0+(k:Int).toNat*1,none⟩)=_;simp) rfl rfl rfl fun w17 o17 c17=>?_
    (repeat' (first|refine aa0 ?_|refine af ?_|refine ah ?_|refine ak ?_|refine aH ?_|refine aa7 ?_))
    refine aG (k+1,B.set k (x.st == 1)) ⟨rfl,rfl,rfl,rfl,rfl,rfl,rfl,rfl,trivial⟩ ⟨by dsimp only;omega,by dsimp only;rw [List.length_set];exact hBl,fun j hj=>?_,o17,Chg.trans (Chg.trans c14 aaK.any fun _ _ e=>e) c17 fun _ _ e=>e⟩ (by dsimp only;omega)
    dsimp only at hj ⊢
    rw [List.getElem?_set]
    by_cases e:k=j
    ·subst e
     rw [if_pos rfl,if_pos (by omega),wU hx]
    ·rw [if_neg e]
     exact hB j (by omega)
   ·obtain rfl:k=N2.length:=by omega
    have aiq:w.heap.size≤w2.heap.size:=by omega
    have aaL:New w w14:=(Chg.trans (Chg.trans (Chg.trans (M:=fun k=>k=w3.heap.size∨w12.heap.size≤k) (New.trans nW n11).any c12 fun k _ e=>.inl e) n13.any fun _ _ e=>e) c14 fun k _ e=>.inr (hdb k e)).toNew fun k hk e=>by omega
    have hWn:w3.heap.size<W.heap.size:=by omega
    have b1e:=((((b1'.chg n11 fun e=>e).chg c12 fun e=>by omega).chg n13 fun e=>e).chg c14 fun e=>by have:=hdb _ e;omega)
    skip
    refine ay (u:=.slice ta g.tree.length tc) rfl (b1e.cell (o:=0) rfl) ?_
    (repeat' (refine aa0 ?_))
    have hBt: ∀k,thM B k=(stF N2 k == 1):=fun k=>by
     unfold thM
     by_cases hk:k<N2.length
     ·rw [hB k hk];rfl
     ·rw [List.getElem?_eq_none (by omega)]
      unfold stF
      rw [List.getD_eq_getElem?_getD,List.getElem?_eq_none (by omega)];rfl
    refine aB (SN (h.t.keep oz aaL.keep) (oB.rd Dh.mo) hok (by omega)) rfl ?_
    rintro _ w18 ⟨⟨q1,q2,rfl,hq1,hq2⟩,n18⟩
    obtain ⟨qa,qc,rfl,_,_⟩:=hq1.form
    obtain ⟨ra2,rc2,rfl,_,_⟩:=hq2.form
    have aeW:=c14.size
    have b7e:=((b12.chg n13 fun e=>e).chg c14 fun e=>by have:=hdb _ e;omega).chg n18 fun e=>e
    (repeat' (first|refine aa0 ?_|refine pG ?_|refine aa5 ?_))
    refine aY (u:=.slice qa _ qc) b7e rfl (show (2:Nat)<4 by omega) rfl rfl fun w19 b19 c19=>?_
    (repeat' (refine aa5 ?_))
    refine aY (u:=.slice ra2 _ rc2) b19 rfl (show (3:Nat)<4 by omega) rfl rfl fun w20 b20 c20=>?_
    (repeat' (first|refine af ?_|refine ah ?_|refine au ?_|refine ak ?_))
    refine bM b20 rfl rfl ?_
    have b2e:=((((((b2'.chg n11 fun e=>e).chg c12 fun e=>by omega).chg n13 fun e=>e).chg c14 fun e=>by have:=hdb _ e;omega).chg n18 fun e=>e).chg c19 fun e=>by omega).chg c20 fun e=>by omega
    (repeat' (refine aa0 ?_))
    refine aX (new:=[.slice rwa (rowsOf (bnF N2) (stF N2) N2.length).length rwc,bv',.slice qa _ qc,.slice ra2 _ rc2]) b2e rfl rfl rfl rfl (show (4:Nat)≤4 from Nat.le_refl 4) (by obtain ⟨_,_,rfl,_,_⟩:=ob'.form;intro c hc;simp at hc;rcases hc with rfl|rfl|rfl|rfl<;>rfl) fun w21 b21 c21 s21=>?_
    have ahu:=n13.size
    have air:=n18.size
    have c18:Chg (fun k=>k=w3.heap.size∨k=w1.heap.size) w18 w21:=Chg.trans (Chg.trans (c19.mono fun k _ e=>.inl e) c20 fun k _ e=>.inl e) c21 fun k _ e=>.inr e
    have aaM:Chg (fun k=>k=w3.heap.size∨k=w1.heap.size∨w12.heap.size≤k) w11 w14:=Chg.trans (Chg.trans (c12.mono fun k _ e=>.inl e) n13.any fun k _ e=>e) c14 fun k _ e=>.inr (.inr (hdb k e))
    have c11:Chg (fun k=>k=w3.heap.size∨k=w1.heap.size∨w12.heap.size≤k) w11 w21:=Chg.trans (Chg.trans aaM n18.any fun k _ e=>e) c18 fun k _ e=>e.elim .inl fun e=>.inr (.inl e)
    have cW:Chg (fun k=>k=w3.heap.size∨k=w1.heap.size) W w21:=Chg.trans n11.any c11 fun k hk e=>by rcases e with e|e|e;exact .inl e;exact .inr e;omega
    have afF:flF fl=g.fails.contains:=funext hfl
    have hDM:rG (nR g) g.fails.contains g.tree.length=DG:=by rw [←afF,hDG];rfl
    have aaN:bnF N2=nR g:=hb6.trans hbn
    have hth:(fun k=>(rG (nR g) g.fails.contains g.tree.length).2 k == 1)=thM B:=funext fun k=>by rw [hBt k,hDM,hgo]
    have hrw:rowsOf (nR g) (rG (nR g) g.fails.contains g.tree.length).2 g.tree.length=rowsOf (bnF N2) (stF N2) N2.length:=by rw [hDM,hgo,aaN,hN2]
    have ex: ∀k,(fun b=>w14.heap.size≤b) k→ ¬(k=w3.heap.size∨k=w1.heap.size):=fun k hk e=>by have hk:w14.heap.size≤k:=hk;omega
    (repeat' (first|refine aa1 ?_|refine af ?_|refine ah ?_|refine aA ?_))
    refine fA (results3 rfl (ul rfl rfl b21 rfl) (qN rfl) (qN rfl)) ⟨_,rfl,⟨_,_,_,_,bw,bm,N2,fl,.slice na N2.length nc,ov,rfl,⟨?_,?_,?_,?_⟩,?_,hN2,aaN,fun i _=>by rw [hDM,hgo],hfl⟩,?_⟩
    ·rw [hrw]
     exact (orw.chg (nH rwC) c11 fun k hk e=>by have h9:=orw.lt hk;have:W.heap.size≤k:=h9.1;omega).mono (nP rwC) (fun b _ e=>by have e:W.heap.size≤b:=e;show w.heap.size≤b;omega) (fun _ _ e=>e)
    ·rw [hDM,hgo]
     exact (ob'.vY Dk cW (fun k hk e=>by have h9:w4.heap.size≤k:=(ob'.lt hk).1;omega) (fun k hk _ e=>by have h9:w4.heap.size≤k:=hk;omega)).mono E5 (fun b _ e=>by have e:w4.heap.size≤b:=e;show w.heap.size≤b;omega) (fun b _ e=>by have e:w4.heap.size≤b:=e;show w.heap.size≤b;omega)
    ·rw [hth]
     exact (hq1.keep rP (c18.keep fun b _ hb=>ex b hb)).mono qJ fun b _ e=>by have e:w14.heap.size≤b:=e;show w.heap.size≤b;omega
    ·rw [hth]
     exact (hq2.keep rP (c18.keep fun b _ hb=>ex b hb)).mono qJ fun b _ e=>by have e:w14.heap.size≤b:=e;show w.heap.size≤b;omega
    ·exact ((g14.new n18).chg c18 fun k hk e=>by have:=hk.1;have:=hk.2;omega).mono fun b _ e=>by have:=e.1;show w.heap.size≤b;omega
    ·exact (Chg.trans (M:=fun k=>w.heap.size≤k) (New.trans aaL n18).any c18 fun k _ e=>by omega).toNew fun k hk e=>by omega
  ·have hR1:R.tried≠ []:=fun e=>by have:=congrArg List.length e;simp only [List.length_nil] at this;omega
   rw [if_neg hR1] at hgo
   have ais:=hrs hR1
   refine aG (f,N2,acc++(if R.tried=[]∧R.waits=[] then [] else [R]),_) ⟨rfl,rfl,rfl,rfl,trivial⟩ ⟨gW,by dsimp only;omega,hb6.trans hbn,hle,by dsimp only;omega,?_,?_,b7,ob',b1',b2',hzW,nW⟩ (by dsimp only;omega)
   ·dsimp only
    rw [List.length_append]
    split
    ·rw [List.length_nil];omega
    ·rw [List.length_singleton];omega
   ·dsimp only
    rw [hgo,List.append_assoc]
end
end Go.Proofs.YtjecgaiaiophpaaGreatDoor
namespace Go.Proofs.YtjecgaiaiophpaaGreatDoor
open Go Wk
open Go.RowKit (Below)
attribute [local irreducible] Go.Calls
structure NR (g:Giv):Prop where
 f: ∀x∈g.fails,x.length≤100000000
 g: ∀x∈g.gone,x.length≤100000000
noncomputable abbrev pV (g:Giv):List Rnd×St:=rG (nR g) g.fails.contains g.tree.length
noncomputable abbrev tN (g:Giv):List Rws:=rowsOf (nR g) (pV g).2 g.tree.length
noncomputable abbrev Q7 (g:Giv):List Ed×List Ed:=Eg g.tree fun k=>(pV g).2 k == 1
abbrev Gf:List Value:=[.slice none 0 0,.slice none 0 0,.slice none 0 0,.slice none 0 0]
theorem Q8: ∀c∈Gf,c.oneCell'=true:=by
 intro c hc
 simp at hc
 rw [hc];rfl
theorem I9 {w:World}:(Instr.build 33 #[]).run Tryz.prog w=.ok (.agg Gf.toArray) w:=by
 kernel_rfl
section
variable {Pb:Nat→Prop} {w:World} {g:Giv} {tv cv fv gv:Value}
theorem VL (h:RdG Pb w g tv cv fv gv) (sh:NR g) (he:ql g≠0):
 Calls Tryz.prog 39 #[.agg #[tv,cv,fv,gv]] w (Ret fun r w'=>r=.tuple #[.agg Gf.toArray,.pointer none,vi (ql g)]∧New w w'):=by
 obtain ⟨ta,tc,rfl,_,_⟩:=h.t.form
 obtain ⟨ca,cc,rfl,_,_⟩:=h.c.form
 obtain ⟨fa,fc,rfl,_,_⟩:=h.f.form
 obtain ⟨ga,gc,rfl,_,_⟩:=h.g.form
 refine nI Tryz.func39 rfl Tryz.ntmps39 rfl ?_
 (repeat' (first|refine au ?_|refine ak ?_))
 refine bC rfl fun w1 b1 n1 s1=>?_
 replace b1:Bk w1 w.heap.size 27 [.slice ta g.tree.length tc,.slice ca g.cards.length cc,.slice fa g.fails.length fc,.slice ga g.gone.length gc]:=b1
 refine Wl.alloc fun w2 b2 n2 s2=>?_
 replace b2:Bk w2 w1.heap.size 33 Gf:=b2
 have n02:=New.trans n1 n2
 (repeat' (first|refine aa1 ?_|refine af ?_|refine ah ?_|refine au ?_|refine ak ?_))
 refine bM (b1.chg n2 fun e=>e) rfl rfl ?_
 refine aB (NP (h.keep n02.keep pW) sh.f sh.g) rfl ?_
 rintro _ w3 ⟨hr,n3⟩
 rw [if_neg he] at hr
 subst hr
 have hz1:=n1.size
 (repeat' (first|refine aa0 ?_|refine aa1 ?_|refine af ?_|refine pG ?_|refine ah ?_|refine au ?_|refine ak ?_|refine aa3 ?_|(refine qf (fun _=>?_) (fun _=>?_)<;>(first|(exfalso;omega)|skip))))
 refine fK (ps:=[]) (parts:=[]) rfl I9 ?_
 (repeat' (refine aa0 ?_))
 refine aX (new:=Gf) (b2.chg n3 fun e=>e) rfl rfl rfl rfl (show (4:Nat)≤4 from Nat.le_refl 4) Q8 fun w4 b4 c4 s4=>?_
 (repeat' (first|refine aa1 ?_|refine af ?_|refine ah ?_|refine aA ?_|refine aN ?_))
 exact fA (results3 rfl (ul rfl rfl b4 rfl) (qN rfl) (qN rfl)) ⟨_,rfl,rfl,(Chg.trans (M:=fun k=>k=w1.heap.size) (New.trans n02 n3).any c4 fun k _ e=>e).toNew fun k hk e=>by omega⟩
theorem JO (h:RdG Pb w g tv cv fv gv) (sh:NR g):
 Calls Tryz.prog 39 #[.agg #[tv,cv,fv,gv]] w (Ret fun r w'=>(if ql g=0 then NJ g w.heap.size r w' else r=.tuple #[.agg Gf.toArray,.pointer none,vi (ql g)])∧New w w'):=by
 by_cases he:ql g=0
 ·refine (Tz h (wo.1 he).1 fun w' n=>?_).mono ?_
  ·refine (NP (h.keep n.keep pW) sh.f sh.g).mono ?_
   rintro _ w'' ⟨r,rfl,h1,h2⟩
   rw [if_pos he] at h1
   exact ⟨r,rfl,h1,h2⟩
  ·rintro _ w'' ⟨r,rfl,h1,h2⟩
   exact ⟨r,rfl,by rw [if_pos he];exact h1,h2⟩
 ·refine (VL h sh he).mono ?_
  rintro _ w'' ⟨r,rfl,h1,h2⟩
  exact ⟨r,rfl,by rw [if_neg he];exact h1,h2⟩
def xM (g:Giv) (lo:Nat) (r:Value) (w':World):Prop:=
 if ql g=0 then ∃a b c d,r=.tuple #[.agg #[a,b,c,d],vi 0]∧RdR (fun b=>lo≤b) w' (tN g) (pV g).1 (Q7 g).1 (Q7 g).2 a b c d
 else r=.tuple #[.agg Gf.toArray,vi (ql g)]
theorem RdR.form {Pb:Nat→Prop} {w:World} {rw:List Rws} {rs:List Rnd} {us ds:List Ed} {a b c d:Value} (h:RdR Pb w rw rs us ds a b c d):(∃p q,a=.slice p rw.length q)∧(∃p q,b=.slice p rs.length q)∧(∃p q,c=.slice p us.length q)∧ ∃p q,d=.slice p ds.length q:=by
 obtain ⟨p1,q1,e1,_⟩:=h.rows.form
 obtain ⟨p2,q2,e2,_⟩:=h.rounds.form
 obtain ⟨p3,q3,e3,_⟩:=h.used.form
 obtain ⟨p4,q4,e4,_⟩:=h.drop.form
 exact ⟨⟨_,_,e1⟩,⟨_,_,e2⟩,⟨_,_,e3⟩,⟨_,_,e4⟩⟩
theorem RdR.new {Pb:Nat→Prop} {w w':World} {rw:List Rws} {rs:List Rnd} {us ds:List Ed} {a b c d:Value} (h:RdR Pb w rw rs us ds a b c d) (n:New w w'):RdR Pb w' rw rs us ds a b c d:=
 ⟨h.rows.new (nH _) n,h.rounds.vY Dk n (fun _ _ e=>e) (fun _ _ _ e=>e),h.used.keep rP n.keep,h.drop.keep rP n.keep⟩
theorem RdR.mono {Pb Pb':Nat→Prop} {w:World} {rw:List Rws} {rs:List Rnd} {us ds:List Ed} {a b c d:Value} (h:RdR Pb w rw rs us ds a b c d) (hP: ∀b,b<w.heap.size→Pb b→Pb' b):RdR Pb' w rw rs us ds a b c d:=
 ⟨h.rows.mono (nP _) hP (fun _ _ e=>e),h.rounds.mono E5 hP hP,h.used.mono qJ hP,h.drop.mono qJ hP⟩
theorem RdR.chg {Pb M:Nat→Prop} {w w':World} {rw:List Rws} {rs:List Rnd} {us ds:List Ed} {a b c d:Value} (h:RdR Pb w rw rs us ds a b c d) (n:Chg M w w') (hd: ∀k,Pb k→ ¬M k):RdR Pb w' rw rs us ds a b c d:=
 ⟨h.rows.chg (nH _) n fun k hk=>hd k (h.rows.lt hk).1,h.rounds.vY Dk n (fun k hk=>hd k (h.rounds.lt hk).1) (fun k hk _=>hd k hk),h.used.keep rP (n.keep fun b _ hb=>hd b hb),h.drop.keep rP (n.keep fun b _ hb=>hd b hb)⟩
theorem E8 (h:RdG Pb w g tv cv fv gv) (sh:NR g):
 Calls Tryz.prog 11 #[.agg #[tv,cv,fv,gv]] w (Ret fun r w'=>xM g w.heap.size r w'∧New w w'):=by
 obtain ⟨ta,tc,rfl,_,_⟩:=h.t.form
 obtain ⟨ca,cc,rfl,_,_⟩:=h.c.form
 obtain ⟨fa,fc,rfl,_,_⟩:=h.f.form
 obtain ⟨ga,gc,rfl,_,_⟩:=h.g.form
 refine nI Tryz.func11 rfl Tryz.ntmps11 rfl ?_
 (repeat' (first|refine au ?_|refine ak ?_))
 refine bC rfl fun w1 b1 n1 s1=>?_
 replace b1:Bk w1 w.heap.size 27 [.slice ta g.tree.length tc,.slice ca g.cards.length cc,.slice fa g.fails.length fc,.slice ga g.gone.length gc]:=b1
 refine Wl.alloc fun w2 b2 n2 s2=>?_
 replace b2:Bk w2 w1.heap.size 33 Gf:=b2
 have n02:=New.trans n1 n2
 have hz1:=n1.size
 have hz2:=n2.size
 (repeat' (first|refine aa1 ?_|refine af ?_|refine ah ?_|refine au ?_|refine ak ?_))
 refine bM (b1.chg n2 fun e=>e) rfl rfl ?_
 refine aB (JO (h.keep n02.keep pW) sh) rfl ?_
 rintro _ w3 ⟨hr,n3⟩
 have hz3:=n3.size
 unfold xM
 by_cases he:ql g=0
 ·rw [if_pos he] at hr
  obtain ⟨a,b,c,d,bw,bm,N,fl,nv,ov,rfl,hR,_⟩:=hr
  obtain ⟨⟨p1,q1,rfl⟩,⟨p2,q2,rfl⟩,⟨p3,q3,rfl⟩,⟨p4,q4,rfl⟩⟩:=hR.form
  (repeat' (first|refine aa0 ?_|refine pG ?_))
  refine Wl.alloc fun w4 b4 n4 s4=>?_
  refine aX (new:=[.slice p1 _ q1,.slice p2 _ q2,.slice p3 _ q3,.slice p4 _ q4]) b4 rfl rfl rfl rfl (show (4:Nat)≤4 from Nat.le_refl 4) (by intro c hc;simp at hc;rcases hc with rfl|rfl|rfl|rfl<;>rfl) fun w5 b5 c5 s5=>?_
  have n35:New w3 w5:=(Chg.trans n4.any c5 fun _ _ e=>e).toNew fun k hk e=>by omega
  (repeat' (first|refine aa1 ?_|refine af ?_|refine ah ?_|refine au ?_|refine ak ?_))
  refine bM b5 rfl rfl ?_
  (repeat' (refine aa0 ?_))
  refine aX (new:=[.slice p1 _ q1,.slice p2 _ q2,.slice p3 _ q3,.slice p4 _ q4]) ((b2.chg n3 fun e=>e).chg n35 fun e=>e) rfl rfl rfl rfl (show (4:Nat)≤4 from Nat.le_refl 4) (by intro c hc;simp at hc;rcases hc with rfl|rfl|rfl|rfl<;>rfl) fun w6 b6 c6 s6=>?_
  have hb2:=b2.lt
  (repeat' (first|refine aa1 ?_|refine af ?_|refine ah ?_|refine aA ?_))
  refine fA (vW rfl (ul rfl rfl b6 rfl) (qN rfl)) ⟨_,rfl,?_,(Chg.trans (M:=fun k=>k=w1.heap.size) (New.trans (New.trans n02 n3) n35).any c6 fun k _ e=>e).toNew fun k hk e=>by omega⟩
  rw [if_pos he]
  refine ⟨.slice p1 _ q1,.slice p2 _ q2,.slice p3 _ q3,.slice p4 _ q4,rfl,((hR.new n35).chg c6 fun k hk e=>?_).mono fun b _ e=>?_⟩
  ·have hk:w2.heap.size≤k:=hk
   omega
  ·have e:w2.heap.size≤b:=e
   show w.heap.size≤b
   omega
 ·rw [if_neg he] at hr
  subst hr
  (repeat' (first|refine aa0 ?_|refine pG ?_))
  refine Wl.alloc fun w4 b4 n4 s4=>?_
  refine aX (new:=Gf) b4 rfl rfl rfl rfl (show (4:Nat)≤4 from Nat.le_refl 4) Q8 fun w5 b5 c5 s5=>?_
  have n35:New w3 w5:=(Chg.trans n4.any c5 fun _ _ e=>e).toNew fun k hk e=>by omega
  (repeat' (first|refine aa1 ?_|refine af ?_|refine ah ?_|refine au ?_|refine ak ?_))
  refine bM b5 rfl rfl ?_
  (repeat' (refine aa0 ?_))
  refine aX (new:=Gf) ((b2.chg n3 fun e=>e).chg n35 fun e=>e) rfl rfl rfl rfl (show (4:Nat)≤4 from Nat.le_refl 4) Q8 fun w6 b6 c6 s6=>?_
  have hb2:=b2.lt
  (repeat' (first|refine aa1 ?_|refine af ?_|refine ah ?_|refine aA ?_))
  refine fA (vW rfl (ul rfl rfl b6 rfl) (qN rfl)) ⟨_,rfl,?_,(Chg.trans (M:=fun k=>k=w1.heap.size) (New.trans (New.trans n02 n3) n35).any c6 fun k _ e=>e).toNew fun k hk e=>by omega⟩
  rw [if_neg he]
  rfl
end
end Go.Proofs.YtjecgaiaiophpaaGreatDoor
namespace Go.Proofs.YtjecgaiaiophpaaGreatDoor
open Go Wk
open Go.RowKit (Below)
attribute [local irreducible] Go.Calls
structure RcS (W0:World) (nf:FuncId) (yK:Array Value) (b1 b2 b3:Nat) (sv:Value) (W:World):Prop where
 n:New W0 W
 v1:Bk W b1 163 [.func (.func nf) #[] yK]
 v2:Bk W b2 128 [sv]
 v3:Bk W b3 233 [.func (.func 126) #[] #[pT b1,pT b2,pT b3]]
theorem RcS.new {W0 W W':World} {nf:FuncId} {yK:Array Value} {b1 b2 b3:Nat} {sv:Value} (h:RcS W0 nf yK b1 b2 b3 sv W) (c:New W W'):RcS W0 nf yK b1 b2 b3 sv W':=
 ⟨New.trans h.n c,h.v1.chg c fun e=>e,h.v2.chg c fun e=>e,h.v3.chg c fun e=>e⟩
theorem RcS.chg {W0 W W':World} {nf:FuncId} {yK:Array Value} {b1 b2 b3:Nat} {sv:Value} {S:List Bool} {Pb:Nat→Prop} (h:RcS W0 nf yK b1 b2 b3 sv W) (own:nO (Wk.one vbo) 4 1 Pb NoB W sv S) (hlo: ∀k,sv.ownBlock=some k→W0.heap.size≤k) (c:Chg (fun k=>sv.ownBlock=some k) W W'):RcS W0 nf yK b1 b2 b3 sv W':=
 ⟨(Chg.trans h.n.any c fun k _ e=>e).toNew fun k hk e=>by have:=hlo k e;omega,h.v1.chg c fun e=>own.pO h.v1 rfl e rfl,h.v2.chg c fun e=>own.pO h.v2 rfl e rfl,h.v3.chg c fun e=>own.pO h.v3 rfl e rfl⟩
def VN (W0:World) (nf:FuncId) (yK:Array Value) (n:Nat) (Wn:Nat→List Nat):Prop:= ∀W,New W0 W→ ∀i,i<n→Calls Tryz.prog nf (vi i::yK.toList).toArray W (Ret fun v W'=>RdS (Wk.one viN) 1 (fun b=>W.heap.size≤b∨b<W0.heap.size) W' v (Wn i)∧New W W')
theorem La {b1 b2 b3 n:Nat} {nf:FuncId} {yK:Array Value} {sv:Value} {W0:World} {Wn:Nat→List Nat} [nK Tryz.prog nf]
 (hnx:VN W0 nf yK n Wn) (hIn: ∀i,i<n→ ∀k∈Wn i,k<n) (hn:n≤512) (hlo: ∀k,sv.ownBlock=some k→W0.heap.size≤k):
 ∀(N:Nat) (w:World) (S:List Bool) (i:Nat),opn S≤N→i<n→S.length=n→RcS W0 nf yK b1 b2 b3 sv w→nO (Wk.one vbo) 4 1 (fun b=>W0.heap.size≤b) NoB w sv S→
  Calls Tryz.prog 126 #[vi i,pT b1,pT b2,pT b3] w (Ret fun _ w'=> ∃S',Mrk Wn i (Wn i) S S'∧nO (Wk.one vbo) 4 1 (fun b=>W0.heap.size≤b) NoB w' sv S'∧Chg (fun k=>sv.ownBlock=some k) w w'):=by
 intro N
 induction N using Nat.strongRecOn with
 |ind N IH=>
  intro w S i hN hi hS rc own
  refine nI Tryz.func126 rfl Tryz.ntmps126 rfl ?_
  (repeat' (first|refine au ?_|refine ak ?_))
  refine ay (u:=.func (.func nf) #[] yK) rfl (rc.v1.cell (o:=0) rfl) ?_
  (repeat' (refine aa0 ?_))
  refine dA (f:=nf) (first:= #[]) (cap:=yK) (vs:=vi i::yK.toList) rfl (hnx w rc.n i hi) rfl ?_
  rintro lv w1 ⟨hl,n1⟩
  have hsl0: ∀k,sv.ownBlock=some k→k<w.heap.size:=fun k hk=>(own.lt hk).2
  obtain ⟨xa,xc,rfl,Vr,KR⟩:=hl.form
  simp only [maxLen] at KR
  replace hl:=hl.mono (Pb':=fun b=> ¬sv.ownBlock=some b) (nU _) fun b _ hb e=>by
   have h1:=hlo b e
   have h2:=hsl0 b e
   rcases hb with hb|hb<;>omega
  have rc0:=rc.new n1
  have WW:=own.new (nM _) n1
  clear rc own
  (repeat' (first|refine aa0 ?_|refine af ?_|refine pz ?_|refine ah ?_|refine Wc.block ?_))
  refine aP (σ:=Nat×List Bool) (fun q=>[(1,pT b1),(2,pT b2),(3,pT b3),(9,.slice xa (Wn i).length xc),(10,vi (Wn i).length),(11,vi q.1)])
   (fun q W=>q.1≤(Wn i).length∧Mrk Wn i ((Wn i).take q.1) S q.2∧nO (Wk.one vbo) 4 1 (fun b=>W0.heap.size≤b) NoB W sv q.2∧RcS W0 nf yK b1 b2 b3 sv W∧Chg (fun k=>sv.ownBlock=some k) w1 W) (fun q=>(Wn i).length-q.1) (0,S) ⟨rfl,rfl,rfl,rfl,rfl,rfl,trivial⟩ ⟨Nat.zero_le _,jV ..,WW,rc0,aQ _ _⟩ ?_
  rintro ⟨j,S1⟩ G W ⟨hj,hM,yJ,rc1,c1⟩
  dsimp only at hj hM yJ rc1 c1
  simp only [oU]
  have hl1:S1.length=n:=by rw [hM.len];exact hS
  obtain ⟨sg,scp,hsv,hsl,hsl2,afi⟩:=yJ.blk (by intro e;rw [e] at hl1;simp at hl1;omega)
  have hlW:=hl.keep (nS _) (c1.keep fun b _ hb=>hb)
  (repeat' (first|refine af ?_|refine ah ?_|refine au ?_|refine ak ?_|refine Wc.block ?_|refine Wc.skip ?_|refine aJ ?_|refine aK ?_|refine aI ?_|refine aO ?_|refine aa3 ?_|refine aa4 ?_|refine oZ (fun _=>?_) (fun _=>?_)))
  ·obtain ⟨k,hk⟩:=nV (Wn i) (k:=j) (by omega)
   have hkm:=List.mem_of_getElem? hk
   have hkl:=hIn i hi k hkm
   refine bI hlW rfl rfl (by omega) (by rw [Int.toNat_natCast];exact hk) fun b o hcell=>?_
   refine ay (u:=vi k) rfl hcell ?_
   (repeat' (first|refine aa1 ?_|refine af ?_|refine ah ?_|refine au ?_|refine ak ?_))
   refine ay (u:=sv) rfl (rc1.v2.cell (o:=0) rfl) ?_
   (repeat' (refine aa0 ?_))
   obtain ⟨mb,hmb⟩:=nV S1 (k:=k) (by omega)
   refine bI (yJ.rd Dh.mo) rfl rfl (by omega) (by rw [Int.toNat_natCast];exact hmb) fun b o hcell=>?_
   refine ay (u:=.bool mb) rfl hcell ?_
   cases mb
   ·(repeat' (first|refine af ?_|refine aV rfl ?_|refine ah ?_|refine au ?_|refine ak ?_|refine aa3 ?_))
    refine ay (u:=sv) rfl (rc1.v2.cell (o:=0) rfl) ?_
    (repeat' (refine aa0 ?_))
    rw [hl1] at hsv
    refine dJ (b:=sg) (off:=0) (l:=n) (cap:=scp) hsv rfl (by omega) (by omega) ?_
    refine dQ (f:=vbo) (q:=true) (j:=k) (cap:=scp) yJ (by rw [hl1];exact hsv) (by omega) (by show Value.pointer (some ⟨sg,0+(k:Int).toNat*1,none⟩)=_;simp) rfl rfl rfl fun w2 o2 c2=>?_
    have rc2:=rc1.chg yJ hlo c2
    (repeat' (first|refine af ?_|refine ah ?_|refine ak ?_))
    refine ay (u:=.func (.func 126) #[] #[pT b1,pT b2,pT b3]) rfl (rc2.v3.cell (o:=0) rfl) ?_
    (repeat' (refine aa0 ?_))
    have hop:=QV hmb
    have hop1:=hM.opn
    refine dA (dst:=some 25) rfl (IH (opn (S1.set k true)) (by omega) w2 (S1.set k true) k (Nat.le_refl _) hkl (by rw [List.length_set];exact hl1) rc2 o2) rfl ?_
    rintro u w3 ⟨S3,hM3,o3,c3⟩
    simp only [Am]
    have rc3:=rc2.chg o2 hlo c3
    (repeat' (first|refine aa0 ?_|refine af ?_|refine ah ?_|refine ak ?_|refine aH ?_|refine aa7 ?_))
    refine aG (j+1,S3) ⟨rfl,rfl,rfl,rfl,rfl,rfl,trivial⟩ ⟨by dsimp only;omega,?_,o3,rc3,Chg.trans (Chg.trans c1 c2 fun _ _ e=>e) c3 fun _ _ e=>e⟩ (by dsimp only;omega)
    dsimp only
    rw [take_snoc hk]
    exact hM.step hkm (by omega) hM3
   ·(repeat' (first|refine aa0 ?_|refine af ?_|refine aV rfl ?_|refine ah ?_|refine ak ?_|refine Wc.skip ?_|refine aH ?_|refine aa4 ?_|refine aa7 ?_))
    refine aG (j+1,S1) ⟨rfl,rfl,rfl,rfl,rfl,rfl,trivial⟩ ⟨by dsimp only;omega,?_,yJ,rc1,c1⟩ (by dsimp only;omega)
    dsimp only
    rw [take_snoc hk]
    exact hM.skip hmb
  ·obtain rfl:j=(Wn i).length:=by omega
   rw [List.take_length] at hM
   exact dF rfl ⟨_,rfl,S1,hM,yJ,Chg.trans n1.any c1 fun _ _ e=>e⟩
end Go.Proofs.YtjecgaiaiophpaaGreatDoor
namespace Go.Proofs.YtjecgaiaiophpaaGreatDoor
open Go Wk
open Go.RowKit (Below)
open Classical
attribute [local irreducible] Go.Calls
noncomputable def Dn (W:Nat→List Nat) (n i:Nat):List Nat:=(List.range n).filter fun k=>decide (Rch W i k)
theorem TA (W:Nat→List Nat) (k i:Nat):Dn W (k+1) i=Dn W k i++if Rch W i k then [k] else []:=by
 unfold Dn
 rw [Iw,List.filter_append]
 congr 1
 by_cases h:Rch W i k
 ·rw [if_pos h];simp [h]
 ·rw [if_neg h];simp [h]
theorem NS (W:Nat→List Nat) (n i:Nat):(Dn W n i).length≤n:=by
 have:=List.length_filter_le (fun k=>decide (Rch W i k)) (List.range n)
 rwa [List.length_range] at this
theorem NT {n i:Nat} {nf:FuncId} {yK:Array Value} {w:World} {Wn:Nat→List Nat} [nK Tryz.prog nf] (hnx:VN w nf yK n Wn) (hIn: ∀i,i<n→ ∀k∈Wn i,k<n) (hn:n≤512) (hi:i<n):
 Calls Tryz.prog 74 #[vi n,vi i,.func (.func nf) #[] yK] w (Ret fun r w'=>nO (Wk.one viN) 3 1 (fun b=>w.heap.size≤b) NoB w' r (Dn Wn n i)∧New w w'):=by
 refine nI Tryz.func74 rfl Tryz.ntmps74 rfl ?_
 (repeat' (first|refine au ?_|refine ak ?_))
 refine bC rfl fun w1 b1 n1 s1=>?_
 replace b1:Bk w1 w.heap.size 163 [.func (.func nf) #[] yK]:=b1
 (repeat' (first|refine aa0 ?_|refine aa1 ?_|refine af ?_|refine ah ?_|refine au ?_|refine ak ?_))
 refine eF (f:=vbo) (y0:=false) (Pe:=NoB) rfl rfl rfl (by omega) (by omega) (by omega) fun sv w2 o2 n2=>?_
 rw [Int.toNat_natCast] at o2
 obtain ⟨sa,sc,rfl,_,_⟩:=o2.form
 refine Wl.alloc fun w3 b3 n3 s3=>?_
 have hz1:=n1.size
 have hz2:=n2.size
 refine aY (u:=.slice sa (List.replicate n false).length sc) b3 rfl (show (0:Nat)<1 by omega) (by rw [List.length_replicate];rfl) rfl fun w4 b4 c4=>?_
 replace b4:Bk w4 w2.heap.size 128 [.slice sa (List.replicate n false).length sc]:=b4
 have n24:New w2 w4:=(Chg.trans n3.any c4 fun _ _ e=>e).toNew fun k hk e=>by omega
 have hz4:=n24.size
 (repeat' (first|refine af ?_|refine ah ?_|refine au ?_|refine ak ?_))
 refine Wl.alloc fun w5 b5 n5 s5=>?_
 replace b5:Bk w5 w4.heap.size 233 [.nilFunc]:=b5
 (repeat' (first|refine af ?_|refine ah ?_|refine au ?_|refine ak ?_))
 refine dH (f1:=[]) (c1:=[pT w.heap.size,pT w2.heap.size,pT w4.heap.size]) rfl rfl ?_
 refine aY (u:=.func (.func 126) #[] #[pT w.heap.size,pT w2.heap.size,pT w4.heap.size]) b5 rfl (show (0:Nat)<1 by omega) rfl rfl fun w6 b6' c6=>?_
 replace b6':Bk w6 w4.heap.size 233 [.func (.func 126) #[] #[pT w.heap.size,pT w2.heap.size,pT w4.heap.size]]:=b6'
 have n46:New w4 w6:=(Chg.trans n5.any c6 fun _ _ e=>e).toNew fun k hk e=>by omega
 have n26:=New.trans n24 n46
 have rc:RcS w nf yK w.heap.size w2.heap.size w4.heap.size (.slice sa (List.replicate n false).length sc) w6:=⟨New.trans (New.trans n1 n2) n26,b1.chg (New.trans n2 n26) (fun e=>e),b4.chg n46 (fun e=>e),b6'⟩
 have o6:=o2.new (nM _) n26
 (repeat' (first|refine af ?_|refine ah ?_|refine au ?_|refine ak ?_))
 refine ay (u:=.func (.func 126) #[] #[pT w.heap.size,pT w2.heap.size,pT w4.heap.size]) rfl (rc.v3.cell (o:=0) rfl) ?_
 (repeat' (refine aa0 ?_))
 refine dA (dst:=some 17) rfl (La (Wn:=Wn) hnx hIn hn (fun k hk=>by have h9:w1.heap.size≤k:=(o6.lt hk).1;omega) _ w6 (List.replicate n false) i (Nat.le_refl _) hi (by simp) rc (o6.mono (nU _) (fun b _ e=>by have h9:w1.heap.size≤b:=e;omega) (fun _ _ e=>e))) rfl ?_
 rintro u w7 ⟨S',hM,o7,c7⟩
 simp only [Am]
 have rc7:=rc.chg o6 (fun k hk=>by have h9:w1.heap.size≤k:=(o6.lt hk).1;omega) c7
 (repeat' (first|refine aa1 ?_|refine af ?_|refine ah ?_|refine au ?_|refine ak ?_))
 refine ay (u:=.slice sa (List.replicate n false).length sc) rfl (rc7.v2.cell (o:=0) rfl) ?_
 have:=hM.full
 subst this
 rw [List.length_replicate] at o7 ⊢
 have n07:=rc7.n
 clear rc7 rc b1 b3 b4 b5 b6' o6 o2 hM n1 n2 n3 n24 n26 n46
 have oR:=o7.rd (nU _)
 (repeat' (first|refine aa0 ?_|refine af ?_|refine pz ?_|refine ah ?_|refine Wc.block ?_))
 refine aP (σ:=Nat×Value) (fun q=>[(9,q.2),(18,.slice sa n sc),(19,vi n),(20,vi q.1)]) (fun q W=>q.1≤n∧nO (Wk.one viN) 3 1 (fun b=>w7.heap.size≤b) NoB W q.2 (Dn Wn q.1 i)∧New w7 W) (fun q=>n-q.1)
  (0,.slice none 0 0) ⟨rfl,rfl,rfl,rfl,trivial⟩ ⟨Nat.zero_le _,bF,aQ _ _⟩ ?_
 rintro ⟨k,rv⟩ G W ⟨hk,own,nW⟩
 dsimp only at hk own nW
 simp only [oU]
 have hrl:=NS Wn k i
 obtain ⟨ra,rcp,rfl,_,_⟩:=own.form
 (repeat' (first|refine aa0 ?_|refine aa1 ?_|refine af ?_|refine ah ?_|refine au ?_|refine ak ?_|refine Wc.block ?_|refine Wc.skip ?_|refine aJ ?_|refine aA ?_|refine aK ?_|refine aI ?_|refine aO ?_|refine aa3 ?_|refine aa4 ?_|refine oZ (fun _=>?_) (fun _=>?_)))
 ·obtain ⟨b,hb,hbr⟩:=y9 (W:=Wn) (i:=i) (n:=n) (k:=k) (by omega)
  have hsn:=TA Wn k i
  refine bI (oR.keep (nS _) nW.keep) rfl rfl (by omega) (by rw [Int.toNat_natCast];exact hb) fun b' o hcell=>?_
  refine ay (u:=.bool b) rfl hcell ?_
  cases b with
  |true=>
   rw [if_pos (hbr.1 rfl)] at hsn
   (repeat' (first|refine aa0 ?_|refine aa1 ?_|refine af ?_|refine ah ?_|refine au ?_|refine ak ?_|refine aa3 ?_))
   refine dw (R:=Wk.one viN) (y:=k) qH own rfl rfl rfl rfl rfl (by omega) (by omega) (by simp only [maxLen];omega) (by omega) rfl rfl fun v5 w8 p BL c5 lie=>?_
   rw [←hsn] at BL
   have hz7:=nW.size
   (repeat' (first|refine aa0 ?_|refine aa1 ?_|refine af ?_|refine ah ?_|refine ak ?_|refine aH ?_|refine aa7 ?_))
   exact aG (k+1,v5) ⟨rfl,rfl,rfl,rfl,trivial⟩ ⟨by dsimp only;omega,BL.mono (nU _) (fun b _ e=>by rcases e with e|e;exact e;omega) (fun _ _ e=>e),(Chg.trans nW.any c5 fun _ _ e=>e).toNew fun q hq e=>by have h9:w7.heap.size≤q:=(own.lt e).1;omega⟩ (by dsimp only;omega)
  |false=>
   rw [if_neg (fun e=>by have:=hbr.2 e;cases this),List.append_nil] at hsn
   (repeat' (first|refine aa0 ?_|refine aa1 ?_|refine af ?_|refine ah ?_|refine au ?_|refine ak ?_|refine Wc.skip ?_|refine aH ?_|refine aa4 ?_|refine aa7 ?_))
   exact aG (k+1,_) ⟨rfl,rfl,rfl,rfl,trivial⟩ ⟨by dsimp only;omega,by dsimp only;rw [hsn];exact own,nW⟩ (by dsimp only;omega)
 ·obtain rfl:k=n:=by omega
  have hz7:=n07.size
  skip
  exact aF rfl rfl ⟨_,rfl,own.mono (nU _) (fun b _ e=>by have e:w7.heap.size≤b:=e;show w.heap.size≤b;omega) (fun _ _ e=>e),New.trans n07 nW⟩
end Go.Proofs.YtjecgaiaiophpaaGreatDoor
namespace Go.Proofs.YtjecgaiaiophpaaGreatDoor
open Go Wk
inductive Run (N:Nat→Bn) (fl:Nm→Bool):St→List Nat→St→Prop
 |nil (S:St):Run N fl S [] S
 |cons {S S1 S':St} {i:Nat} {l:List Nat}:qY N fl S i=some S1→Run N fl S1 l S'→Run N fl S (i::l) S'
section
variable {N:Nat→Bn} {fl:Nm→Bool}
theorem Run.append {S S1 S2:St} {l k:List Nat} (h:Run N fl S l S1) (h2:Run N fl S1 k S2):Run N fl S (l++k) S2:=by
 induction h with
 |nil S=>exact h2
 |cons a _ ih=>exact .cons a (ih h2)
theorem iK: ∀(l:List Nat) (S:St),Run N fl S (oI N fl l S).1.tried (oI N fl l S).2
 | [],S=>by rw [oI];exact .nil S
 |i::r,S=>by
  rw [sQ]
  by_cases h0:S i≠0
  ·rw [if_pos h0];exact iK r S
  ·rw [if_neg h0]
   cases hl:qY N fl S i with
   |none=>exact iK r S
   |some S'=>exact .cons hl (iK r S')
theorem Run.done {order:List Nat}: ∀(f:Nat) (S:St),Run N fl S ((doneGo N fl order f S).1.flatMap fun r=>r.tried) (doneGo N fl order f S).2
 |0,S=>by rw [doneGo];exact .nil S
 |f+1,S=>by
  rw [uH]
  have h1:=iK (N:=N) (fl:=fl) order S
  split
  ·rename_i ht
   rw [ht] at h1
   split
   ·exact h1
   ·rw [List.flatMap_cons,List.flatMap_nil,List.append_nil,ht];exact h1
  ·rename_i ht
   rw [if_neg fun e=>ht e.1]
   dsimp only
   rw [List.flatMap_append,List.flatMap_cons,List.flatMap_nil,List.append_nil]
   exact h1.append (Run.done f _)
theorem Run.mem {S S':St} {l:List Nat} (h:Run N fl S l S'):l.Nodup∧(∀i∈l,S i=0)∧(∀i,S' i≠0↔(S i≠0∨i∈l)):=by
 induction h with
 |nil S=>exact ⟨List.nodup_nil,by simp,fun i=>by simp⟩
 | @cons S S1 S' i l a _ ih=>
   obtain ⟨h1,h2,h3⟩:=ih
   obtain ⟨k1,k2,k3,k4⟩:=Bc a
   refine ⟨List.nodup_cons.2 ⟨fun e=>k2 (h2 i e),h1⟩,fun j hj=>?_,fun j=>?_⟩
   ·rcases List.mem_cons.1 hj with e|hj
    ·rw [e];exact k1
    ·exact Decidable.byContradiction fun e=>e ((k3 j e).symm.trans (h2 j hj))
   ·rw [h3 j,List.mem_cons]
    by_cases e:j=i
    ·subst e
     exact ⟨fun _=>.inr (.inl rfl),fun _=>.inl k2⟩
    ·rw [k4 j e]
     simp [e]
theorem Run.take {S S':St} {l:List Nat} (h:Run N fl S l S'): ∀(p:Nat) (i:Nat),l[p]? =some i→(N i).reason=0∧ ∀k∈(N i).wants,S k≠0∨k∈l.take p:=by
 induction h with
 |nil S=>intro p i hp;simp at hp
 | @cons S S1 S' j l a _ ih=>
   intro p i hp
   have ha:=a
   unfold qY at ha
   split at ha
   ·rename_i hc
    cases p with
    |zero=>
     rw [List.getElem?_cons_zero] at hp
     cases hp
     refine ⟨hc.1,fun k hk=>.inl ?_⟩
     rw [Ba.1 hc.2.2 k hk];decide
    |succ p=>
     rw [List.getElem?_cons_succ] at hp
     obtain ⟨h1,h2⟩:=ih p i hp
     refine ⟨h1,fun k hk=>?_⟩
     obtain ⟨k1,k2,k3,k4⟩:=Bc a
     rw [List.take_succ_cons,List.mem_cons]
     rcases h2 k hk with e|e
     ·by_cases e2:k=j
      ·exact .inr (.inl e2)
      ·rw [k4 k e2] at e;exact .inl e
     ·exact .inr (.inr e)
   ·cases ha
theorem IA {order:List Nat}: ∀(f:Nat) (S:St),(doneGo N fl order f S).1.length≤f
 |0,S=>by rw [doneGo];simp
 |f+1,S=>by
  rw [uH]
  split
  ·split<;>simp
  ·have:=IA (order:=order) f (oI N fl order S).2
   rw [List.length_append]
   split
   ·simp only [List.length_nil];omega
   ·simp only [List.length_singleton];omega
theorem Em {order:List Nat}: ∀(f:Nat) (S:St) (r:Nat) (q:Rnd),(doneGo N fl order f S).1[r]? =some q→r+1<(doneGo N fl order f S).1.length→q.tried≠ []
 |0,S,r,q,h,_=>by rw [doneGo] at h;simp at h
 |f+1,S,r,q,h,hl=>by
  rw [uH] at h hl
  split at h
  ·rename_i ht
   rw [if_pos ht] at hl
   split at hl
   ·simp at hl
   ·simp at hl
  ·rename_i ht
   rw [if_neg ht,if_neg fun e=>ht e.1] at hl
   rw [if_neg fun e=>ht e.1] at h
   dsimp only at h hl
   rw [List.singleton_append] at h hl
   cases r with
   |zero=>rw [List.getElem?_cons_zero] at h;cases h;exact ht
   |succ r=>
    rw [List.getElem?_cons_succ] at h
    rw [List.length_cons] at hl
    exact Em f _ r q h (by omega)
end
theorem TB (g:Giv) (i:Nat):(firstM g i).1≤6:=by
 unfold firstM
 dsimp only
 repeat' split
 all_goals (dsimp only;omega)
theorem Bf (g:Giv) (i:Nat):(nR g i).reason≤6:=by
 unfold nR
 split
 ·exact TB g i
 ·exact Nat.zero_le _
theorem IB {g:Giv} {i:Nat} (h:(firstM g i).1=0) (hd:qK g.tree i=true):qP g.cards g.tree i≠none∧ ∀l∈rJ g.tree,i∉l:=by
 unfold firstM at h
 dsimp only at h
 by_cases h1:onM g.tree i=false
 ·rw [if_pos h1] at h;exact absurd h (by decide)
 rw [if_neg h1] at h
 by_cases h2:qK g.tree i=true∧qP g.cards g.tree i=none
 ·rw [if_pos h2] at h;exact absurd h (by decide)
 rw [if_neg h2] at h
 refine ⟨fun e=>h2 ⟨hd,e⟩,?_⟩
 cases hb:(if qK g.tree i=true then F8 (qM g.cards g.tree).2 i else none) with
 |some b=>rw [hb] at h;dsimp only at h;exact absurd h (by decide)
 |none=>
  rw [hb] at h
  dsimp only at h
  by_cases h3:qK g.tree i=true∧ ∃e∈nZ g.tree,e.src=i∧e.soft=false∧e.dst=none
  ·rw [if_pos h3] at h;exact absurd h (by decide)
  rw [if_neg h3,if_pos hd] at h
  have hn:Di (rJ g.tree) i=none:=by
   cases hr:Di (rJ g.tree) i with
   |none=>rfl
   |some b=>rw [hr] at h;dsimp only at h;exact absurd h (by decide)
  have key: ∀(rs:List (List Nat)) (a:Option Nat),rs.foldl (fun a l=>if i∈l then some (l.headD 0) else a) a=none→a=none∧ ∀l∈rs,i∉l:=by
   intro rs
   induction rs with
   |nil=>intro a h;exact ⟨h,by simp⟩
   |cons x r ih=>
    intro a h
    rw [List.foldl_cons] at h
    obtain ⟨h5,h6⟩:=ih _ h
    split at h5
    ·cases h5
    ·rename_i h7
     refine ⟨h5,fun l hl=>?_⟩
     rcases List.mem_cons.1 hl with e|hl
     ·rw [e];exact h7
     ·exact h6 l hl
  exact (key _ _ hn).2
open Classical in
theorem Bg {W:Nat→List Nat} {order:List Nat} {i:Nat} (hi:Rch W i i) (ho:i∈order): ∀(l seen:List Nat),i∈l→i∉seen→ ∃c∈rO W order seen l,i∈c
 | [],seen,h,_=>by cases h
 |j::r,seen,h,hs=>by
  rw [rO]
  by_cases hc:j∈seen∨ ¬Rch W j j
  ·rw [if_pos hc]
   rcases List.mem_cons.1 h with e|h
   ·subst e
    rcases hc with hc|hc
    ·exact absurd hc hs
    ·exact absurd hi hc
   ·exact Bg hi ho r seen h hs
  ·rw [if_neg hc]
   by_cases hin:i∈order.filter fun k=>decide (Rch W j k∧Rch W k j)
   ·exact ⟨_,List.mem_cons_self,hin⟩
   ·rcases List.mem_cons.1 h with e|h
    ·subst e
     exact absurd (List.mem_filter.2 ⟨ho,decide_eq_true ⟨hi,hi⟩⟩) hin
    ·obtain ⟨c,h1,h2⟩:=Bg hi ho r (seen++order.filter fun k=>decide (Rch W j k∧Rch W k j)) h (fun e=>(List.mem_append.1 e).elim hs hin)
     exact ⟨c,List.mem_cons_of_mem _ h1,h2⟩
theorem PZ {t:List Nd} {i:Nat} (hi:Rch (pR t) i i) (hl:i<t.length): ∃c∈rJ t,i∈c:=
 Bg hi (xI.2 hl) _ _ (xI.2 hl) (by simp)
def sV (N:Nat→Bn) (S:St) (i:Nat):List Nat:=(N i).wants.filter fun k=>decide (S k≠1)
theorem uI {N:Nat→Bn} {S:St} {i k:Nat}:k∈sV N S i↔k∈(N i).wants∧S k≠1:=by unfold sV;rw [List.mem_filter,decide_eq_true_eq]
theorem Rch.mono {W W':Nat→List Nat} {a b:Nat} (h:Rch W a b) (hW: ∀i k,k∈W i→k∈W' i):Rch W' a b:=by
 induction h with
 |one h1=>exact .one (hW _ _ h1)
 |more _ h1 ih=>exact .more ih (hW _ _ h1)
theorem Rch.last {W:Nat→List Nat} {a b:Nat} (h:Rch W a b): ∃c,b∈W c:=by
 cases h with
 |one h1=>exact ⟨_,h1⟩
 |more _ h1=>exact ⟨_,h1⟩
theorem Rch.down {W:Nat→List Nat} {D:Nat→Prop} (hd: ∀i k,k∈W i→D i∨k<i) {a b:Nat} (h:Rch W a b):b<a∨ ∃j,D j∧(j=a∨Rch W a j)∧Rch W j b:=by
 induction h with
 |one h1=>
  rcases hd _ _ h1 with e|e
  ·exact .inr ⟨_,e,.inl rfl,.one h1⟩
  ·exact .inl e
 | @more b c h0 h1 ih=>
   rcases hd _ _ h1 with e|e
   ·exact .inr ⟨_,e,.inr h0,.one h1⟩
   ·rcases ih with h|⟨j,h3,h4,h5⟩
    ·exact .inl (by omega)
    ·exact .inr ⟨j,h3,h4,.more h5 h1⟩
open Classical in
theorem ny {W:Nat→List Nat} {n:Nat} (hn: ∀i k,i<n→k∈W i→k<n): ∀(c i:Nat),i<n→((List.range n).filter fun k=>decide (Rch W i k)).length=c→W i≠ []→(∀k,Rch W i k→W k≠ [])→ ∃k,(k=i∨Rch W i k)∧Rch W k k:=by
 intro c
 induction c using Nat.strongRecOn with
 |ind c ih=>
  intro i hi hc h0 hr
  by_cases hii:Rch W i i
  ·exact ⟨i,.inl rfl,hii⟩
  ·obtain ⟨m,hm⟩:=List.exists_mem_of_ne_nil _ h0
   have h1:Rch W i m:=.one hm
   have hmn:=hn _ _ hi hm
   by_cases hmm:Rch W m m
   ·exact ⟨m,.inr h1,hmm⟩
   ·have hlt:((List.range n).filter fun k=>decide (Rch W m k)).length<c:=by
     rw [←hc]
     refine filter_lt (p:=fun k=>decide (Rch W i k)) (q:=fun k=>decide (Rch W m k)) (fun x _ hx=>?_) ⟨m,List.mem_range.2 hmn,decide_eq_true h1,decide_eq_false hmm⟩
     exact decide_eq_true (Rch.trans h1 (of_decide_eq_true hx))
    obtain ⟨k,h2,h3⟩:=ih _ hlt m hmn rfl (hr m h1) (fun k hk=>hr k (Rch.trans h1 hk))
    refine ⟨k,.inr ?_,h3⟩
    rcases h2 with e|e
    ·rw [e];exact h1
    ·exact Rch.trans h1 e
theorem TD {g:Giv} {i k:Nat} (h:k∈(wL g i).wants):k∈pR g.tree i:=by
 rw [wz] at h
 unfold pR
 rcases List.mem_append.1 h with h|h
 ·exact List.mem_append_left _ h
 ·obtain ⟨e,he,h1,h2,h3,h4⟩:=zh.1 h
  exact List.mem_append_right _ (List.mem_filterMap.2 ⟨e,he,by rw [if_pos ⟨h1,h2⟩];exact h4⟩)
theorem yx {N:Nat→Bn} {S:St} {i:Nat} (hN:(N i).reason≤6) (h:(rowOf N S i).1=8):(N i).reason=0∧S i≠1∧S i≠2:=by
 unfold rowOf at h
 split at h
 ·dsimp only at h;omega
 ·rename_i hc
  rw [not_or,Decidable.not_not] at hc
  split at h
  ·cases h
  ·rename_i h2;exact ⟨hc.1,hc.2,h2⟩
theorem Ja {g:Giv} (hok:oG g.tree=true) {fl:Nm→Bool} {i:Nat} (hi:i<g.tree.length) (h8:(rowOf (nR g) (rG (nR g) fl g.tree.length).2 i).1=8):
 ∃k,Rch (sV (nR g) (rG (nR g) fl g.tree.length).2) i k∧(rowOf (nR g) (rG (nR g) fl g.tree.length).2 k).1≠8:=by
 obtain ⟨v,f⟩:=EZ (nR g) fl g.tree.length
 generalize (rG (nR g) fl g.tree.length).2=S at*
 refine Classical.byContradiction fun hno=>?_
 have hall: ∀k,Rch (sV (nR g) S) i k→(rowOf (nR g) S k).1=8:=fun k hk=>Classical.byContradiction fun e=>hno ⟨k,hk,e⟩
 have hin:=vJ hok
 have hstep: ∀a b,a<g.tree.length→b∈sV (nR g) S a→b<g.tree.length:=fun a b ha hb=>hin a ha b (uI.1 hb).1
 have hlt: ∀k,Rch (sV (nR g) S) i k→k<g.tree.length:=by
  intro k hk
  induction hk with
  |one h1=>exact hstep _ _ hi h1
  |more _ h1 ih=>exact hstep _ _ ih h1
 have hne: ∀k,k<g.tree.length→(rowOf (nR g) S k).1=8→sV (nR g) S k≠ []:=by
  intro k hk h
  obtain ⟨h1,h2,h3⟩:=yx (Bf g k) h
  have h4:=v.le k
  obtain ⟨m,hm,e⟩:=f k hk h1 (by omega)
  exact List.ne_nil_of_mem (uI.2 ⟨hm,e⟩)
 obtain ⟨k,hk,hkk⟩:=ny hstep _ i hi rfl (hne i hi h8) fun k hk=>hne k (hlt k hk) (hall k hk)
 have hdn: ∀a b,b∈sV (nR g) S a→(a<g.tree.length∧qK g.tree a=true)∨b<a:=by
  intro a b hb
  have hb:=(uI.1 hb).1
  by_cases ha:a<g.tree.length
  ·rw [wu ha,wz] at hb
   rcases List.mem_append.1 hb with hb|hb
   ·split at hb
    ·rw [List.mem_singleton.1 hb]
     exact .inr (uf hok (by omega) ha).1
    ·cases hb
   ·obtain ⟨e,_,_,_,h3,_⟩:=zh.1 hb
    exact .inl ⟨ha,h3⟩
  ·rw [Iz ha] at hb;cases hb
 rcases Rch.down hdn hkk with h|⟨j,⟨hj1,hj2⟩,hkj,hjk⟩
 ·omega
 ·have hjj:Rch (sV (nR g) S) j j:=by
   rcases hkj with e|e
   ·rw [e];exact hkk
   ·exact Rch.trans hjk e
  have hij:j=i∨Rch (sV (nR g) S) i j:=by
   rcases hk with e|e
   ·subst e;exact hkj
   ·rcases hkj with e2|e2
    ·rw [e2];exact .inr e
    ·exact .inr (Rch.trans e e2)
  have h8j:(rowOf (nR g) S j).1=8:=by
   rcases hij with e|e
   ·rw [e];exact h8
   ·exact hall j e
  have hr0:=(yx (Bf g j) h8j).1
  rw [wu hj1] at hr0
  have hrj:Rch (pR g.tree) j j:=by
   refine Rch.mono hjj fun a b hb=>?_
   have hb:=(uI.1 hb).1
   by_cases ha:a<g.tree.length
   ·rw [wu ha] at hb;exact TD hb
   ·rw [Iz ha] at hb;cases hb
  obtain ⟨c,hc,hjc⟩:=PZ hrj hj1
  exact (IB hr0 hj2).2 c hc hjc
end Go.Proofs.YtjecgaiaiophpaaGreatDoor
namespace Go.Proofs.YtjecgaiaiophpaaGreatDoor
open Go Wk
open Go.RowKit (Below)
attribute [local irreducible] Go.Calls
theorem TF {g:Giv} (hok:oG g.tree=true) (i:Nat):(nR g i).wants.length≤6000000:=by
 unfold nR
 split
 ·unfold wL
  dsimp only
  have h1:=tK hok g.tree.length (Nat.le_refl _)
  have htl:=oP hok
  have h2:(zf g.tree i).length≤((List.range g.tree.length).flatMap (xH g.tree)).length:=by
   unfold zf
   exact List.length_filterMap_le _ _
  rw [List.length_append]
  split
  ·simp only [List.length_cons,List.length_nil];omega
  ·simp only [List.length_nil];omega
 ·exact Nat.zero_le _
section
variable {Pb:Nat→Prop} {bw bm bc:Nat} {N:List Nb} {ord:List Nat} {fl:List (Nm×Int)} {nv ov:Value} {W W':World}
theorem Jb {i:Nat} (g:WkM Pb bw bm N ord fl nv ov W) (hb:Bk W bc 42 [pT bw]) (hi:i<N.length) (hwl:(bnF N i).wants.length≤6000000):
 Calls Tryz.prog 75 #[vi i,pT bc] W (Ret fun r w'=>nO (Wk.one viN) 3 1 (fun b=>W.heap.size≤b) NoB w' r (sV (bnF N) (stF N) i)∧New W w'):=by
 have hnl:=g.nl
 obtain ⟨na,nc,rfl,_,_⟩:=g.nd.row.form
 have hrd:=g.nd.row.rd (nP nbC)
 obtain ⟨x,hx⟩:=nV N hi
 have hw:=(g.nd.el x (List.mem_of_getElem? hx)).rd qH.mo
 have hwin:=g.win x (List.mem_of_getElem? hx)
 unfold sV
 rw [sO hx] at hwl ⊢
 obtain ⟨bn,wv,st⟩:=x
 obtain ⟨wa,wl,wc⟩:=wv
 obtain ⟨a',c',e',hwc,hwm⟩:=hw.form
 have SK:wl=bn.wants.length:=by injection e'
 subst SK
 dsimp only at hw hwin hwc hwl ⊢
 clear e'
 refine nI Tryz.func75 rfl Tryz.ntmps75 rfl ?_
 (repeat' (first|refine aa1 ?_|refine af ?_|refine ah ?_|refine au ?_|refine ak ?_))
 refine ay (u:=pT bw) rfl (hb.cell (o:=0) rfl) ?_
 (repeat' (first|refine bK rfl ?_|refine aa5 ?_))
 refine ay (u:=.slice na N.length nc) rfl (g.b.cell (o:=0) rfl) ?_
 (repeat' (refine aa0 ?_))
 refine aU hrd rfl rfl (by omega) (by rw [Int.toNat_natCast];exact hx) fun b o cs hl hR hat=>?_
 obtain rfl:cs=nbC _:=hR
 (repeat' (refine aa5 ?_))
 refine ay (u:=.slice wa bn.wants.length wc) rfl (hat.get 6 rfl) ?_
 clear hat
 (repeat' (first|refine aa0 ?_|refine af ?_|refine pz ?_|refine ah ?_|refine Wc.block ?_))
 refine aP (σ:=Nat×Value) (fun q=>[(1,pT bc),(4,q.2),(14,.slice wa bn.wants.length wc),(15,vi bn.wants.length),(16,vi q.1)])
  (fun q w'=>q.1≤bn.wants.length∧nO (Wk.one viN) 3 1 (fun b=>W.heap.size≤b) NoB w' q.2 ((bn.wants.take q.1).filter fun k=>decide (stF N k≠1))∧New W w') (fun q=>bn.wants.length-q.1)
  (0,.slice none 0 0) ⟨rfl,rfl,rfl,rfl,rfl,trivial⟩ ⟨Nat.zero_le _,bF,aQ _ _⟩ ?_
 rintro ⟨k,rv⟩ G w1 ⟨hk,own,n1⟩
 dsimp only at hk own n1
 simp only [oU]
 have g1:=g.new n1
 have Pq:=hrd.keep (nY nbC) n1.keep
 have hrl:((bn.wants.take k).filter fun k=>decide (stF N k≠1)).length≤k:=by
  refine Nat.le_trans (List.length_filter_le _ _) ?_
  rw [List.length_take];omega
 obtain ⟨ra,rcp,rfl,_,_⟩:=own.form
 (repeat' (first|refine aa0 ?_|refine aa1 ?_|refine af ?_|refine ah ?_|refine au ?_|refine ak ?_|refine Wc.block ?_|refine Wc.skip ?_|refine aJ ?_|refine aA ?_|refine aK ?_|refine aI ?_|refine aO ?_|refine aa3 ?_|refine aa4 ?_|refine oZ (fun _=>?_) (fun _=>?_)))
 ·obtain ⟨m,hm⟩:=nV bn.wants (k:=k) (by omega)
  have hml:=hwin m (List.mem_of_getElem? hm)
  obtain ⟨y,hy⟩:=nV N hml
  have hsn:(bn.wants.take (k+1)).filter (fun k=>decide (stF N k≠1))=(bn.wants.take k).filter (fun k=>decide (stF N k≠1))++if y.st=1 then [] else [m]:=by
   rw [take_snoc hm,List.filter_append]
   congr 1
   rw [List.filter_cons,List.filter_nil,wU hy]
   by_cases e:y.st=1
   ·rw [if_pos e];simp [e]
   ·rw [if_neg e];simp [e]
  refine bI (hw.keep (nS _) n1.keep) rfl rfl (by omega) (by rw [Int.toNat_natCast];exact hm) fun b o hcell=>?_
  refine ay (u:=vi m) rfl hcell ?_
  (repeat' (first|refine aa1 ?_|refine af ?_|refine ah ?_|refine au ?_|refine ak ?_))
  refine ay (u:=pT bw) rfl ((hb.chg n1 fun e=>e).cell (o:=0) rfl) ?_
  (repeat' (first|refine bK rfl ?_|refine aa5 ?_))
  refine ay (u:=.slice na N.length nc) rfl (g1.b.cell (o:=0) rfl) ?_
  (repeat' (refine aa0 ?_))
  refine aU Pq rfl rfl (by omega) (by rw [Int.toNat_natCast];exact hy) fun b o cs hl hR hat=>?_
  obtain rfl:cs=nbC y:=hR
  (repeat' (refine aa5 ?_))
  refine ay (u:=.bool (y.st == 1)) rfl (hat.get 7 rfl) ?_
  clear hat
  cases hst:(y.st == 1) with
  |true=>
   rw [if_pos (by simpa using hst),List.append_nil] at hsn
   (repeat' (first|refine aa0 ?_|refine af ?_|refine aV rfl ?_|refine ah ?_|refine ak ?_|refine Wc.skip ?_|refine aH ?_|refine aa4 ?_|refine aa7 ?_))
   exact aG (k+1,_) ⟨rfl,rfl,rfl,rfl,rfl,trivial⟩ ⟨by dsimp only;omega,by dsimp only;rw [hsn];exact own,n1⟩ (by dsimp only;omega)
  |false=>
   rw [if_neg (by simpa using hst)] at hsn
   have hz1:=n1.size
   (repeat' (first|refine aa0 ?_|refine af ?_|refine aV rfl ?_|refine ah ?_|refine ak ?_|refine aa3 ?_))
   refine dw (R:=Wk.one viN) (y:=m) qH own rfl rfl rfl rfl rfl (by omega) (by omega) (by simp only [maxLen];omega) (by omega) rfl rfl fun v5 w5 p BL c5 lie=>?_
   rw [←hsn] at BL
   (repeat' (first|refine aa0 ?_|refine aa1 ?_|refine af ?_|refine ah ?_|refine ak ?_|refine aH ?_|refine aa7 ?_))
   exact aG (k+1,v5) ⟨rfl,rfl,rfl,rfl,rfl,trivial⟩ ⟨by dsimp only;omega,BL.mono (nU _) (fun b _ e=>by rcases e with e|e;exact e;omega) (fun _ _ e=>e),(Chg.trans n1.any c5 fun _ _ e=>e).toNew fun q hq e=>by have h9:W.heap.size≤q:=(own.lt e).1;omega⟩ (by dsimp only;omega)
 ·obtain rfl:k=bn.wants.length:=by omega
  rw [List.take_length] at own ⊢
  exact aF rfl rfl ⟨_,rfl,own,n1⟩
end
end Go.Proofs.YtjecgaiaiophpaaGreatDoor
namespace Go.Proofs.YtjecgaiaiophpaaGreatDoor
open Go Wk
open Go.RowKit (Below)
attribute [local irreducible] Go.Calls
def sZ (Pb:Nat→Prop) (w:World) (v:Value) (l:List Nm):Prop:= ∃a cap,v=.slice a l.length cap∧nO (Wk.one vs) 9 1 Pb NoB w (.slice a (l.length+1) cap) (l++ [[33]])
section
variable {Pb Pb' M:Nat→Prop} {w w':World} {v:Value} {l:List Nm}
theorem sZ.rd (h:sZ Pb w v l):RdS (Wk.one vs) 1 Pb w v l:=by
 obtain ⟨a,cap,rfl,o⟩:=h
 have:=((o.rd qR.mo).mono (Pb':=Pb) (nU _) fun b _ e=>e.elim id fun e=>e.elim).take (m:=l.length) (by simp) rfl
 rwa [List.take_left] at this
theorem sZ.keep (h:sZ Pb w v l) (hk:Keep Pb w w'):sZ Pb w' v l:=by
 obtain ⟨a,cap,rfl,o⟩:=h
 exact ⟨a,cap,rfl,o.Ug hk⟩
theorem sZ.mono (h:sZ Pb w v l) (hP: ∀b,b<w.heap.size→Pb b→Pb' b):sZ Pb' w v l:=by
 obtain ⟨a,cap,rfl,o⟩:=h
 exact ⟨a,cap,rfl,o.mono (nU _) hP (fun _ _ e=>e)⟩
theorem sZ.form (h:sZ Pb w v l): ∃a cap,v=.slice a l.length cap:=by
 obtain ⟨a,cap,rfl,_⟩:=h
 exact ⟨a,cap,rfl⟩
theorem wZ (h:RdS (Wk.one vs) 1 Pb w v l) (hl:l.length≤2000000000):
 Calls Tryz.prog 38 #[v] w (Ret fun r w'=>sZ (fun b=>w.heap.size≤b) w' r l∧New w w'):=by
 obtain ⟨a,cap,rfl,_,_⟩:=h.form
 refine nI Tryz.func38 rfl Tryz.ntmps38 rfl ?_
 (repeat' (first|refine aa1 ?_|refine af ?_|refine ah ?_|refine au ?_|refine ak ?_))
 refine gY (R:=Wk.one vs) (Pe:=NoB) fun v1 w1 o1 n1=>?_
 (repeat' (refine aa0 ?_))
 refine bU qR o1 (h.keep (nS _) n1.keep) (fun y cs hy=>hy) rfl rfl (by omega) (by simp only [maxLen,List.length_nil];omega) (by simp only [List.length_nil];omega) fun v2 w2 o2 c2 ait _=>?_
 refine bT (R:=Wk.one vs) (Pe:=NoB) (y:=[33]) qR rfl rfl rfl rfl (by omega) (by omega) fun v3 w3 o3 n3 s3 e3=>?_
 refine bU qR (o2.new (nM _) n3) (o3.rd qR.mo) (fun y cs hy=>hy) rfl rfl (by omega) (by simp only [maxLen,List.nil_append,List.length_singleton];omega) (by simp only [List.nil_append,List.length_singleton];omega) fun v4 w4 o4 c4 aiu _=>?_
 obtain ⟨ua,uc,rfl,_,_⟩:=o4.form
 have hz1:=n1.size
 have hz2:=c2.size
 have hz3:=n3.size
 have hl4:([]++l++ [[33]]).length=l.length+1:=by simp
 (repeat' (first|refine aa0 ?_|refine pz ?_))
 refine iY (b:=l.length) rfl rfl (by omega) ?_
 (repeat' (first|refine aa1 ?_|refine af ?_|refine ah ?_|refine aA ?_))
 refine aF rfl rfl ⟨_,rfl,⟨ua,uc,rfl,?_⟩,?_⟩
 ·rw [←hl4]
  exact o4.mono (nU _) (fun b _ e=>by
   rcases e with (e|e)|e
   ·exact e
   ·show w.heap.size≤b;omega
   ·show w.heap.size≤b;omega) (fun _ _ e=>e)
 ·have h1: ∀k,v1.ownBlock=some k→w.heap.size≤k:=fun k hk=>(o1.lt hk).1
  have h2: ∀k,v2.ownBlock=some k→w.heap.size≤k:=fun k hk=>by
   rcases (o2.lt hk).1 with e|e
   ·exact e
   ·omega
  exact (Chg.trans (M:=fun k=>w.heap.size≤k) (Chg.trans (M:=fun k=>w.heap.size≤k) n1.any (Chg.trans (M:=fun k=>w.heap.size≤k) (c2.mono fun k _ e=>h1 k e) n3.any fun _ _ e=>e) fun _ _ e=>e) c4 fun k _ e=>h2 k e).toNew fun k hk e=>by omega
end
end Go.Proofs.YtjecgaiaiophpaaGreatDoor
namespace Go.Proofs.YtjecgaiaiophpaaGreatDoor
open Go Wk
open Go.RowKit (Below)
attribute [local irreducible] Go.Calls
structure SzG (g:Giv):Prop where
 t:g.tree.length≤2000000
 p: ∀x∈g.tree,x.oH.length≤2000000
 c:g.cards.length≤2000000
 k: ∀c∈g.cards,c.compat.length≤2000000
 f:g.fails.length≤2000000
 g:g.gone.length≤2000000
abbrev mkP:Pr:=([33],[])
abbrev mkN:Nd×SV:=(⟨-9,[],[]⟩,(none,0,0))
abbrev mkC:Cd×SV:=(⟨[33],[],0,[],0,[],0⟩,(none,0,0))
abbrev noV (p:Nd×SV):List Value:=[vi p.1.parent,vs p.1.name,svV p.2]
abbrev cdV (p:Cd×SV):List Value:=cdC p.1 (svV p.2)
theorem afG (p:Nd×SV): ∀c∈noV p,c.oneCell'=true:=by
 intro c hc
 simp at hc
 rcases hc with rfl|rfl|rfl<;>rfl
theorem aaO (p:Cd×SV): ∀c∈cdV p,c.oneCell'=true:=by
 intro c hc
 simp [cdC] at hc
 rcases hc with rfl|rfl|rfl|rfl|rfl|rfl|rfl<;>rfl
theorem Gm:qQ (flat noV) 3:=qU _ (fun _=>rfl) afG
theorem Gn:qQ (flat cdV) 7:=qU _ (fun _=>rfl) aaO
def uJ (Pb:Nat→Prop) (w:World) (v:SV) (l:List Pr):Prop:= ∃a cap,v=(a,l.length,cap)∧nO rPr 99 2 Pb NoB w (.slice a (l.length+1) cap) (l++ [mkP])
theorem uJ.rd {Pb:Nat→Prop} {w:World} {v:SV} {l:List Pr} (h:uJ Pb w v l):RdS rPr 2 Pb w (svV v) l:=by
 obtain ⟨a,cap,rfl,o⟩:=h
 have:=((o.rd (nP pC)).mono (Pb':=Pb) (nP pC) fun b _ e=>e.elim id fun e=>e.elim).take (m:=l.length) (by simp) rfl
 rwa [List.take_left] at this
theorem uJ.mono {Pb Pb':Nat→Prop} {w:World} {v:SV} {l:List Pr} (h:uJ Pb w v l) (hP: ∀b,b<w.heap.size→Pb b→Pb' b):uJ Pb' w v l:=by
 obtain ⟨a,cap,e,o⟩:=h
 exact ⟨a,cap,e,o.mono (nP pC) hP (fun _ _ e=>e)⟩
theorem uJ.chg {Pb M:Nat→Prop} {w w':World} {v:SV} {l:List Pr} (h:uJ Pb w v l) (c:Chg M w w') (hd: ∀k,Pb k→ ¬M k):uJ Pb w' v l:=by
 obtain ⟨a,cap,e,o⟩:=h
 exact ⟨a,cap,e,o.chg (nH pC) c fun k hk=>hd k (o.lt hk).1⟩
theorem uJ.qZ {Pb:Nat→Prop} {w w':World} {v:SV} {l:List Pr} {b:Nat} {T:TypeId} {cs:List Value} (h:uJ Pb w v l) (hb:Bk w b T cs) (ne:Nat.beq 99 T=false) (c:Chg (fun k=>k=b) w w'):uJ Pb w' v l:=by
 obtain ⟨a,cap,e,o⟩:=h
 exact ⟨a,cap,e,o.chg (nH pC) c fun k hk q=>o.pO hb ne hk q⟩
theorem uJ.row {α:Type} {R:Rel α} {ty:TypeId} {sz:Nat} {Qb Qe:Nat→Prop} {u:Value} {xs:List α} {Pb:Nat→Prop} {w w':World} {v:SV} {l:List Pr} (h:uJ Pb w v l) (ho:nO R ty sz Qb Qe w u xs) (ne:Nat.beq 99 ty=false) (c:Chg (fun k=>u.ownBlock=some k) w w'):uJ Pb w' v l:=by
 obtain ⟨a,cap,e,o⟩:=h
 exact ⟨a,cap,e,o.chg (nH pC) c fun k hk q=>o.um ho ne k hk q⟩
theorem sZ.row {α:Type} {R:Rel α} {ty:TypeId} {sz:Nat} {Qb Qe:Nat→Prop} {u:Value} {xs:List α} {Pb:Nat→Prop} {w w':World} {v:Value} {l:List Nm} (h:sZ Pb w v l) (ho:nO R ty sz Qb Qe w u xs) (ne:Nat.beq 9 ty=false) (c:Chg (fun k=>u.ownBlock=some k) w w'):sZ Pb w' v l:=by
 obtain ⟨a,cap,e,o⟩:=h
 exact ⟨a,cap,e,o.chg (nM _) c fun k hk q=>o.um ho ne k hk q⟩
structure YW (Pb:Nat→Prop) (w:World) (g:Giv) (tv cv fv gv:Value):Prop where
 t: ∃(a:Option Addr) (cap:Nat) (L:List (Nd×SV)),tv=.slice a g.tree.length cap∧L.map (·.1)=g.tree∧nO (flat noV) 51 3 Pb NoB w (.slice a (g.tree.length+1) cap) (L++ [mkN])∧ ∀p∈L,uJ Pb w p.2 p.1.oH
 c: ∃(a:Option Addr) (cap:Nat) (L:List (Cd×SV)),cv=.slice a g.cards.length cap∧L.map (·.1)=g.cards∧nO (flat cdV) 69 7 Pb NoB w (.slice a (g.cards.length+1) cap) (L++ [mkC])∧ ∀p∈L,sZ Pb w (svV p.2) p.1.compat
 f:sZ Pb w fv g.fails
 g:sZ Pb w gv g.gone
theorem Gp {α β:Type} {R:Rel α} {R':Rel β} {sz:Nat} {Pb:Nat→Prop} {w:World} {v:Value} {xs:List α} (f:α→β) (h:RdS R sz Pb w v xs) (hf: ∀x∈xs, ∀cs,R Pb w x cs→R' Pb w (f x) cs):RdS R' sz Pb w v (xs.map f):=by
 rcases h with ⟨rfl,rfl⟩|⟨a,cap,rfl,rfl,hc⟩|⟨b,off,cap,cur,e,fr,rfl,hb,hh,h1,h2,h3,h4⟩
 ·exact .inl ⟨rfl,rfl⟩
 ·exact .inr (.inl ⟨a,cap,rfl,rfl,hc⟩)
 ·refine .inr<| .inr ⟨b,off,cap,cur,e,fr,by rw [List.length_map],hb,hh,by rw [List.length_map];exact h1,h2,by rw [List.length_map];exact h3,fun i y hy=>?_⟩
  rw [List.getElem?_map] at hy
  obtain ⟨x,hx,rfl⟩:=Option.map_eq_some_iff.1 hy
  exact hf x (List.mem_of_getElem? hx) _ (h4 i x hx)
theorem YW.rd {Pb:Nat→Prop} {w:World} {g:Giv} {tv cv fv gv:Value} (h:YW Pb w g tv cv fv gv):RdG Pb w g tv cv fv gv:=by
 refine ⟨?_,?_,h.f.rd,h.g.rd⟩
 ·obtain ⟨a,cap,L,rfl,hL,o,hp⟩:=h.t
  have h1:=((o.rd (nP noV)).mono (Pb':=Pb) (nP noV) fun b _ e=>e.elim id fun e=>e.elim).take (m:=L.length) (by simp) rfl
  rw [List.take_left] at h1
  have hl:L.length=g.tree.length:=by rw [←hL,List.length_map]
  rw [hl] at h1
  have h2:=Gp (R':=rNd) (fun p:Nd×SV=>p.1) h1 fun x hx cs hcs=>⟨svV x.2,hcs,(hp x hx).rd⟩
  rwa [hL] at h2
 ·obtain ⟨a,cap,L,rfl,hL,o,hp⟩:=h.c
  have h1:=((o.rd (nP cdV)).mono (Pb':=Pb) (nP cdV) fun b _ e=>e.elim id fun e=>e.elim).take (m:=L.length) (by simp) rfl
  rw [List.take_left] at h1
  have hl:L.length=g.cards.length:=by rw [←hL,List.length_map]
  rw [hl] at h1
  have h2:=Gp (R':=rCd) (fun p:Cd×SV=>p.1) h1 fun x hx cs hcs=>⟨svV x.2,hcs,(hp x hx).rd⟩
  rwa [hL] at h2
theorem Wk.Wc.post {P:Program} {n:Nat} {ds:List Deferred} {Q:Po} {F:Fr} {w:World} {c:Code} (M:Fr→World→Prop) (h:Wc P n ds (fun e F w=>e=.normal∧M F w) c F w) (k: ∀F w,M F w→Q .normal F w):Wc P n ds Q c F w:=by
 unfold Wc at*
 refine wp_mono h ?_
 rintro e a' w' ⟨F',rfl,rfl,hM⟩
 exact ⟨F',rfl,k F' w' hM⟩
section
variable {P:Program} {n:Nat} {ds:List Deferred} {C:World→Prop} {K:Fr→Prop} {F:Fr} {ops rest:List Oper} {d:Nat} {ty:TypeId} {pos:String} {aft:Array Edge}
theorem fE {x hi:Operand} {t e sz bytes:Nat} {agg:Bool} {z:Value} {k:IntKind} {p:Option Addr} {l cap b:Nat} [ht:Und P t (.slice e)] [he:ElT P e sz bytes agg z] (hx:ev n F x=.slice p l cap) (hh:ev n F hi=.int k b) (h1:b≤cap)
 (c:Wq P n ds C K ops rest (upd F d (.slice p b cap))):Wq P n ds C K ops (⟨some d,.slice t x none (some hi) none,ty,pos,aft,none⟩::rest) F:=
 Wq.val (fun w hw=>by
  have:=tq (P:=P) (w:=w) (p:=p) (l:=l) (lo:=none) (hi:=some (.int k b)) (a:=0) (b:=b) ht.h he (.inl ⟨rfl,rfl⟩) (.inr ⟨k,rfl⟩) (Nat.zero_le _) h1
  have hp:(if cap=0 then p else p.map (·.add (0*sz)))=p:=by
   split
   ·rfl
   ·cases p with
    |none=>rfl
    |some a=>simp [Addr.add]
  simp only [execOp,hx,hh,Option.map_none,Option.map_some,Sem.run_bind,this,Result.andThen_ok,Sem.run_pure,hp,Nat.sub_zero]) c
end
theorem sZ.qZ {Pb:Nat→Prop} {w w':World} {v:Value} {l:List Nm} {b:Nat} {T:TypeId} {cs:List Value} (h:sZ Pb w v l) (hb:Bk w b T cs) (ne:Nat.beq 9 T=false) (c:Chg (fun k=>k=b) w w'):sZ Pb w' v l:=by
 obtain ⟨a,cap,e,o⟩:=h
 exact ⟨a,cap,e,o.chg (nM _) c fun k hk q=>o.pO hb ne hk q⟩
theorem Xx (a b:Option Addr) (i j k l:Nat): ∀x∈([.slice none 0 0,.slice none 0 0,.slice a i j,.slice b k l]:List Value),x.oneCell'=true:=by
 intro x hx
 simp at hx
 rcases hx with rfl|rfl|rfl<;>rfl
section
variable {Pg:Nat→Prop} {w:World} {g:Giv} {tv cv fv gv:Value}
theorem VO (r:RdG Pg w g tv cv fv gv) (z:SzG g):
 Calls Tryz.prog 10 #[.agg #[tv,cv,fv,gv]] w (Ret fun v w'=>(∃a b c d,v=.agg #[a,b,c,d]∧YW (fun b=>w.heap.size≤b) w' g a b c d)∧New w w'):=by
 obtain ⟨ta,tc,rfl,_,_⟩:=r.t.form
 obtain ⟨ca,cc,rfl,_,_⟩:=r.c.form
 obtain ⟨fa,fc,rfl,_,_⟩:=r.f.form
 obtain ⟨ga,gc,rfl,_,_⟩:=r.g.form
 have zt:=z.t
 have zc:=z.c
 refine nI Tryz.func10 rfl Tryz.ntmps10 rfl ?_
 (repeat' (first|refine au ?_|refine ak ?_))
 refine bC rfl fun w1 b1 n1 s1=>?_
 replace b1:Bk w1 w.heap.size 26 [.slice ta g.tree.length tc,.slice ca g.cards.length cc,.slice fa g.fails.length fc,.slice ga g.gone.length gc]:=b1
 refine Wl.alloc fun w2 b2 n2 s2=>?_
 replace b2:Bk w2 w1.heap.size 27 Gf:=b2
 have b12:=b1.chg n2 fun e=>e
 have n02:=New.trans n1 n2
 (repeat' (first|refine af ?_|refine ah ?_|refine au ?_))
 refine Wc.post (fun F w'=> ∃(xv yv:Value) (gb:Nat),agrees F [(1,pT w.heap.size),(2,pT w1.heap.size),(3,pT gb)]∧Bk w' gb 27 [.slice none 0 0,.slice none 0 0,xv,yv]∧w2.heap.size≤gb∧sZ (fun b=>w2.heap.size≤b) w' xv g.fails∧sZ (fun b=>w2.heap.size≤b) w' yv g.gone∧New w2 w') ?_ ?_
 ·refine jF (m:=9) rfl (by kernel_rfl) (New w2) (Chg.drew _ _) rfl ?_
  intro w3 nC
  (repeat' (refine dB rfl rfl rfl (aa8 (ax ?_))))
  refine dB rfl rfl rfl (aC (u:=.slice fa g.fails.length fc) rfl (fun w' hw=>(b12.chg hw fun e=>e).cell (o:=2) rfl) (ax ?_))
  (repeat' (refine dB rfl rfl rfl (aa8 (ax ?_))))
  refine dB rfl rfl rfl (aC (u:=.slice ga g.gone.length gc) rfl (fun w' hw=>(b12.chg hw fun e=>e).cell (o:=3) rfl) (ax ?_))
  skip
  refine fD rfl rfl rfl rfl rfl rfl rfl rfl (aB (wZ (r.f.keep (nS _) (New.trans n02 nC).keep) (by have:=z.f;omega)) rfl fun fv w20 ⟨of,n20⟩=>af ⟨rfl,New.trans nC n20,?_⟩) (Wl.alloc fun w20 b3 n20 s20=>af ⟨rfl,New.trans nC n20,?_⟩)
  ·obtain ⟨xa,xc,rfl⟩:=of.form
   replace of:=of.mono (Pb':=fun b=>w2.heap.size≤b) fun b _ e=>Nat.le_trans nC.size e
   have nC:=New.trans nC n20
   refine fD rfl rfl rfl rfl rfl rfl rfl rfl (aB (wZ (r.g.keep (nS _) (New.trans n02 nC).keep) (by have:=z.g;omega)) rfl fun gv w21 ⟨og,n21⟩=>af ⟨rfl,New.trans nC n21,?_⟩) (Wl.alloc fun w21 b3 n21 s21=>af ⟨rfl,New.trans nC n21,?_⟩)
   ·obtain ⟨ya,yc,rfl⟩:=og.form
    replace og:=og.mono (Pb':=fun b=>w2.heap.size≤b) fun b _ e=>Nat.le_trans nC.size e
    replace of:=of.keep n21.keep
    have nC:=New.trans nC n21
    refine fD rfl rfl rfl rfl rfl rfl rfl rfl (bV (ps:=[(2,.tmp 10),(3,.tmp 13)]) (parts:=[(2,.slice xa g.fails.length xc),(3,.slice ya g.gone.length yc)]) rfl rfl (by simp [Value.cells]) (af ⟨rfl,nC,?_⟩)) (Wl.alloc fun w22 b3 n22 s22=>af ⟨rfl,New.trans nC n22,?_⟩)
    ·refine dD rfl rfl rfl rfl rfl (Wl.alloc fun w23 b3 n23 s23=>af ⟨rfl,New.trans nC n23,?_⟩)
     have P5:=nC.size
     replace of:=of.keep n23.keep
     replace og:=og.keep n23.keep
     have nC:=New.trans nC n23
     exact Wg.last rfl rfl rfl rfl (aX (new:=[.slice none 0 0,.slice none 0 0,.slice xa g.fails.length xc,.slice ya g.gone.length yc]) b3 rfl rfl rfl rfl (show (4:Nat)≤4 from Nat.le_refl 4) (Xx _ _ _ _ _ _) fun w9 b9 c9 s9=>af ⟨rfl,_,_,_,⟨rfl,rfl,rfl,trivial⟩,b9,P5,of.qZ b3 rfl c9,og.qZ b3 rfl c9,(Chg.trans (M:=fun k=>w2.heap.size≤k) nC.any c9 fun k _ e=>by omega).toNew fun k hk e=>by omega⟩)
    ·have P5:=nC.size
     replace of:=of.keep n22.keep
     replace og:=og.keep n22.keep
     have nC:=New.trans nC n22
     refine dD rfl rfl rfl rfl rfl (bV (ps:=[(2,.tmp 10),(3,.tmp 13)]) (parts:=[(2,.slice xa g.fails.length xc),(3,.slice ya g.gone.length yc)]) rfl rfl (by simp [Value.cells]) (af ⟨rfl,nC,?_⟩))
     exact Wg.last rfl rfl rfl rfl (aX (new:=[.slice none 0 0,.slice none 0 0,.slice xa g.fails.length xc,.slice ya g.gone.length yc]) b3 rfl rfl rfl rfl (show (4:Nat)≤4 from Nat.le_refl 4) (Xx _ _ _ _ _ _) fun w9 b9 c9 s9=>af ⟨rfl,_,_,_,⟨rfl,rfl,rfl,trivial⟩,b9,P5,of.qZ b3 rfl c9,og.qZ b3 rfl c9,(Chg.trans (M:=fun k=>w2.heap.size≤k) nC.any c9 fun k _ e=>by omega).toNew fun k hk e=>by omega⟩)
   ·have P5:=nC.size
    replace of:=of.keep n21.keep
    have nC:=New.trans nC n21
    refine dD rfl rfl rfl rfl rfl (aB (wZ (r.g.keep (nS _) (New.trans n02 nC).keep) (by have:=z.g;omega)) rfl fun gv w22 ⟨og,n22⟩=>af ⟨rfl,New.trans nC n22,?_⟩)
    obtain ⟨ya,yc,rfl⟩:=og.form
    replace og:=og.mono (Pb':=fun b=>w2.heap.size≤b) fun b _ e=>Nat.le_trans nC.size e
    replace of:=of.keep n22.keep
    replace b3:=b3.chg n22 fun e=>e
    have nC:=New.trans nC n22
    refine dD rfl rfl rfl rfl rfl (bV (ps:=[(2,.tmp 10),(3,.tmp 13)]) (parts:=[(2,.slice xa g.fails.length xc),(3,.slice ya g.gone.length yc)]) rfl rfl (by simp [Value.cells]) (af ⟨rfl,nC,?_⟩))
    exact Wg.last rfl rfl rfl rfl (aX (new:=[.slice none 0 0,.slice none 0 0,.slice xa g.fails.length xc,.slice ya g.gone.length yc]) b3 rfl rfl rfl rfl (show (4:Nat)≤4 from Nat.le_refl 4) (Xx _ _ _ _ _ _) fun w9 b9 c9 s9=>af ⟨rfl,_,_,_,⟨rfl,rfl,rfl,trivial⟩,b9,P5,of.qZ b3 rfl c9,og.qZ b3 rfl c9,(Chg.trans (M:=fun k=>w2.heap.size≤k) nC.any c9 fun k _ e=>by omega).toNew fun k hk e=>by omega⟩)
  ·have P5:=nC.size
   have nC:=New.trans nC n20
   refine dD rfl rfl rfl rfl rfl (aB (wZ (r.f.keep (nS _) (New.trans n02 nC).keep) (by have:=z.f;omega)) rfl fun fv w21 ⟨of,n21⟩=>af ⟨rfl,New.trans nC n21,?_⟩)
   obtain ⟨xa,xc,rfl⟩:=of.form
   replace of:=of.mono (Pb':=fun b=>w2.heap.size≤b) fun b _ e=>Nat.le_trans nC.size e
   replace b3:=b3.chg n21 fun e=>e
   have nC:=New.trans nC n21
   refine dD rfl rfl rfl rfl rfl (aB (wZ (r.g.keep (nS _) (New.trans n02 nC).keep) (by have:=z.g;omega)) rfl fun gv w22 ⟨og,n22⟩=>af ⟨rfl,New.trans nC n22,?_⟩)
   obtain ⟨ya,yc,rfl⟩:=og.form
   replace og:=og.mono (Pb':=fun b=>w2.heap.size≤b) fun b _ e=>Nat.le_trans nC.size e
   replace of:=of.keep n22.keep
   replace b3:=b3.chg n22 fun e=>e
   have nC:=New.trans nC n22
   refine dD rfl rfl rfl rfl rfl (bV (ps:=[(2,.tmp 10),(3,.tmp 13)]) (parts:=[(2,.slice xa g.fails.length xc),(3,.slice ya g.gone.length yc)]) rfl rfl (by simp [Value.cells]) (af ⟨rfl,nC,?_⟩))
   exact Wg.last rfl rfl rfl rfl (aX (new:=[.slice none 0 0,.slice none 0 0,.slice xa g.fails.length xc,.slice ya g.gone.length yc]) b3 rfl rfl rfl rfl (show (4:Nat)≤4 from Nat.le_refl 4) (Xx _ _ _ _ _ _) fun w9 b9 c9 s9=>af ⟨rfl,_,_,_,⟨rfl,rfl,rfl,trivial⟩,b9,P5,of.qZ b3 rfl c9,og.qZ b3 rfl c9,(Chg.trans (M:=fun k=>w2.heap.size≤k) nC.any c9 fun k _ e=>by omega).toNew fun k hk e=>by omega⟩)
 rintro F w3 ⟨xv,yv,gb,hF,b3,hgb,of,og,n3⟩
 refine ah ?_
 refine Wc.frame _ hF fun G1=>?_
 simp only [oU]
 clear hF
 have hz1:=n1.size
 have hz2:=n2.size
 have hz3:=n3.size
 have aiv:=b12.lt
 have aaz:=b2.lt
 have b13:=b12.chg n3 fun e=>e
 have b23:=b2.chg n3 fun e=>e
 have n03:=New.trans n02 n3
 have aiw:=b3.lt
 clear b1 b12 b2 n1 n2 n02 n3
 (repeat' (first|refine aa1 ?_|refine af ?_|refine ah ?_|refine au ?_|refine ak ?_|refine Wc.block ?_))
 refine aP (σ:=Nat×Value×List (Nd×SV)) (fun q=>[(1,pT w.heap.size),(2,pT w1.heap.size),(3,pT gb),(4,vi q.1)])
  (fun q W=>q.1≤g.tree.length∧Bk W gb 27 [q.2.1,.slice none 0 0,xv,yv]∧q.2.2.map (·.1)=g.tree.take q.1∧nO (flat noV) 51 3 (fun b=>w3.heap.size≤b) NoB W q.2.1 q.2.2∧(∀p∈q.2.2,uJ (fun b=>w3.heap.size≤b) W p.2 p.1.oH)∧Chg (fun k=>k=gb) w3 W) (fun q=>g.tree.length-q.1)
  (0,.slice none 0 0,[]) ⟨rfl,rfl,rfl,rfl,trivial⟩ ⟨Nat.zero_le _,b3,rfl,bF,by simp,aQ _ _⟩ ?_
 rintro ⟨i,xt,L⟩ G2 W ⟨hi,b3W,hL,oL,hP,cW⟩
 dsimp only at hi b3W hL oL hP cW
 obtain ⟨qa,qc,rfl,_,_⟩:=oL.form
 have hLl:L.length=i:=by
  have:=congrArg List.length hL
  rw [List.length_map,List.length_take] at this
  omega
 simp only [oU]
 have b1W:=b13.chg cW fun e=>by omega
 have nW:New w W:=(Chg.trans (M:=fun k=>w.heap.size≤k) n03.any cW fun k _ e=>by omega).toNew fun k hk e=>by omega
 have hzW:=cW.size
 (repeat' (first|refine aa0 ?_|refine au ?_|refine ak ?_|refine aa5 ?_))
 refine ay (u:=.slice ta g.tree.length tc) rfl (b1W.cell (o:=0) rfl) ?_
 (repeat' (first|refine af ?_|refine pz ?_|refine ah ?_|refine au ?_|refine ak ?_|refine Wc.block ?_|refine Wc.skip ?_|refine aJ ?_|refine aK ?_|refine aI ?_|refine aO ?_|refine aa3 ?_|refine aa4 ?_|refine aa5 ?_|refine oZ (fun _=>?_) (fun _=>?_)))
 ·obtain ⟨x,hx⟩:=nV g.tree (k:=i) (by omega)
  have hpz:=z.p x (List.mem_of_getElem? hx)
  refine ay (u:=.slice ta g.tree.length tc) rfl (b1W.cell (o:=0) rfl) ?_
  (repeat' (refine aa0 ?_))
  refine aU (r.t.keep oz nW.keep) rfl rfl (by omega) (by rw [Int.toNat_natCast];exact hx) fun b o cs hl hR hat=>?_
  obtain ⟨xv',rfl,hpr⟩:=hR
  obtain ⟨xa,xc,rfl,Vr,KR⟩:=hpr.form
  refine bG hat rfl rfl ?_
  clear hat
  refine Wl.alloc fun w5 b5 n5 s5=>?_
  skip
  refine aX (new:=[vi x.parent,vs x.name,.slice xa x.oH.length xc]) b5 rfl rfl rfl rfl (show (3:Nat)≤3 from Nat.le_refl 3) (by intro c hc;simp at hc;rcases hc with rfl|rfl|rfl<;>rfl) fun w4 b4 c4 s4=>?_
  replace b4:Bk w4 W.heap.size 51 [vi x.parent,vs x.name,.slice xa x.oH.length xc]:=b4
  have n14:New W w4:=(Chg.trans n5.any c4 fun _ _ e=>e).toNew fun k hk e=>by omega
  have hb4: ∀w',New w4 w'→Bk w' W.heap.size 51 [vi x.parent,vs x.name,.slice xa x.oH.length xc]:=fun w' hw=>b4.chg hw id
  have hdk: ∀w',New w4 w'→RdS rPr 2 Pg w' (.slice xa x.oH.length xc) x.oH:=fun w' hw=>hpr.keep (nY pC) (New.trans n14 hw).keep
  have hz4:=n14.size
  have YQ:=b4.lt
  clear b5 n5 c4
  (repeat' (first|refine af ?_|refine ah ?_|refine au ?_))
  refine Wc.post (fun F w10=> ∃(da:Option Addr) (dc:Nat) (w9:World),agrees F [(1,pT w.heap.size),(2,pT w1.heap.size),(3,pT gb),(4,vi i),(5,pT W.heap.size)]∧nO rPr 99 2 (fun b=>w4.heap.size≤b) NoB w9 (.slice da (x.oH.length+1) dc) (x.oH++ [mkP])∧New w4 w9∧
   Bk w10 W.heap.size 51 [vi x.parent,vs x.name,.slice da x.oH.length dc]∧Chg (fun k=>k=W.heap.size) w9 w10) ?_ ?_
  ·refine jF (m:=13) rfl (by kernel_rfl) (New w4) (Chg.drew _ _) rfl ?_
   intro w5 nC
   have zC:=nC.size
   (repeat' (refine dB rfl rfl rfl (aa8 (ax ?_))))
   refine dB rfl rfl rfl (aC rfl (fun w' hw=>(hb4 w' hw).cell (o:=2) rfl) (ax ?_))
   (repeat' (refine dB rfl rfl rfl (aa8 (ax ?_))))
   refine dB rfl rfl rfl (aC rfl (fun w' hw=>(hb4 w' hw).cell (o:=2) rfl) (ax ?_))
   (repeat' (refine dB rfl rfl rfl (iq rfl (ax ?_))))
   refine fD rfl rfl rfl rfl rfl rfl rfl rfl (iU fun w20 hg n20=>af ⟨rfl,New.trans nC n20,?_⟩) (bV (ps:=[(0,.const (vs [33]))]) (parts:=[(0,vs [33])]) rfl rfl (by simp [Value.cells]) (af ⟨rfl,nC,?_⟩))
   ·have hgl:=rX hg
    have nC:=New.trans nC n20
    have zC:=nC.size
    refine fD rfl rfl rfl rfl rfl rfl rfl rfl (fO (Pe:=NoB) rH hg (hdk _ nC) (fun y cs hy=>hy) rfl rfl (by omega) (by simp only [maxLen];omega) (by omega) fun aix w21 oD n21=>af ⟨rfl,New.trans nC n21,?_⟩) (bV (ps:=[(0,.const (vs [33]))]) (parts:=[(0,vs [33])]) rfl rfl (by simp [Value.cells]) (af ⟨rfl,nC,?_⟩))
    ·have nC:=New.trans nC n21
     have zC:=nC.size
     refine dD rfl rfl rfl rfl rfl (bV (ps:=[(0,.const (vs [33]))]) (parts:=[(0,vs [33])]) rfl rfl (by simp [Value.cells]) (af ⟨rfl,nC,?_⟩))
     refine dD rfl rfl rfl rfl rfl (bT (R:=rPr) (y:=mkP) (Pe:=NoB) rH rfl rfl rfl rfl (by omega) (by omega) fun mv w23 oM n23 s23 XZ=>af ⟨rfl,New.trans nC n23,?_⟩)
     replace oD:=oD.new (nH pC) n23
     have nC:=New.trans nC n23
     have zC:=nC.size
     refine dD rfl rfl rfl rfl rfl (bU (R:=rPr) (Pe:=NoB) rH oD (oM.rd (nP pC)) (fun y cs hy=>hy) rfl rfl (by omega) (by simp only [maxLen,List.length_singleton];omega) (by simp only [List.length_singleton];omega) fun dv9 w9 o9 c9 VP _=>?_)
     have n49:New w4 w9:=Chg.trans nC c9 (fun b hb e=>by have:=(oD.lt e).1;omega)
     refine af ⟨rfl,n49,?_⟩
     obtain ⟨da,dc,rfl,hdc,_⟩:=o9.form
     rw [List.length_append,List.length_singleton] at hdc o9 ⊢
     refine dB rfl rfl rfl (fE (b:=x.oH.length) rfl rfl (by omega) (ax ?_))
     (repeat' (refine dB rfl rfl rfl (aa8 (ax ?_))))
     refine Wg.last rfl rfl rfl rfl (aY (hb4 w9 n49) rfl (show (2:Nat)<3 by omega) rfl rfl fun w10 b10 c10=>?_)
     exact af ⟨rfl,da,dc,w9,⟨rfl,rfl,rfl,rfl,rfl,trivial⟩,o9.mono (nP pC) (fun b hb e=>by rcases e with e|e<;>omega) (fun _ _ e=>e),n49,b10,c10⟩
    ·refine fD rfl rfl rfl rfl rfl rfl rfl rfl (fO (Pe:=NoB) rH hg (hdk _ nC) (fun y cs hy=>hy) rfl rfl (by omega) (by simp only [maxLen];omega) (by omega) fun afH w22 oD n22=>af ⟨rfl,New.trans nC n22,?_⟩) (bT (R:=rPr) (y:=mkP) (Pe:=NoB) rH rfl rfl rfl rfl (by omega) (by omega) fun mv w22 oM n22 s22 aaP=>af ⟨rfl,New.trans nC n22,?_⟩)
     ·have nC:=New.trans nC n22
      have zC:=nC.size
      refine dD rfl rfl rfl rfl rfl (bT (R:=rPr) (y:=mkP) (Pe:=NoB) rH rfl rfl rfl rfl (by omega) (by omega) fun mv w23 oM n23 s23 XZ=>af ⟨rfl,New.trans nC n23,?_⟩)
      replace oD:=oD.new (nH pC) n23
      have nC:=New.trans nC n23
      have zC:=nC.size
      refine dD rfl rfl rfl rfl rfl (bU (R:=rPr) (Pe:=NoB) rH oD (oM.rd (nP pC)) (fun y cs hy=>hy) rfl rfl (by omega) (by simp only [maxLen,List.length_singleton];omega) (by simp only [List.length_singleton];omega) fun dv9 w9 o9 c9 VP _=>?_)
      have n49:New w4 w9:=Chg.trans nC c9 (fun b hb e=>by have:=(oD.lt e).1;omega)
      refine af ⟨rfl,n49,?_⟩
      obtain ⟨da,dc,rfl,hdc,_⟩:=o9.form
      rw [List.length_append,List.length_singleton] at hdc o9 ⊢
      refine dB rfl rfl rfl (fE (b:=x.oH.length) rfl rfl (by omega) (ax ?_))
      (repeat' (refine dB rfl rfl rfl (aa8 (ax ?_))))
      refine Wg.last rfl rfl rfl rfl (aY (hb4 w9 n49) rfl (show (2:Nat)<3 by omega) rfl rfl fun w10 b10 c10=>?_)
      exact af ⟨rfl,da,dc,w9,⟨rfl,rfl,rfl,rfl,rfl,trivial⟩,o9.mono (nP pC) (fun b hb e=>by rcases e with e|e<;>omega) (fun _ _ e=>e),n49,b10,c10⟩
     ·replace hg:=(n22.block _ (by have:=rX hg;omega) id).trans hg
      have nC:=New.trans nC n22
      have zC:=nC.size
      refine dD rfl rfl rfl rfl rfl (fO (Pe:=NoB) rH hg (hdk _ nC) (fun y cs hy=>hy) rfl rfl (by omega) (by simp only [maxLen];omega) (by omega) fun aaQ w23 oD n23=>af ⟨rfl,New.trans nC n23,?_⟩)
      replace oM:=oM.new (nH pC) n23
      have nC:=New.trans nC n23
      have zC:=nC.size
      refine dD rfl rfl rfl rfl rfl (bU (R:=rPr) (Pe:=NoB) rH oD (oM.rd (nP pC)) (fun y cs hy=>hy) rfl rfl (by omega) (by simp only [maxLen,List.length_singleton];omega) (by simp only [List.length_singleton];omega) fun dv9 w9 o9 c9 VP _=>?_)
      have n49:New w4 w9:=Chg.trans nC c9 (fun b hb e=>by have:=(oD.lt e).1;omega)
      refine af ⟨rfl,n49,?_⟩
      obtain ⟨da,dc,rfl,hdc,_⟩:=o9.form
      rw [List.length_append,List.length_singleton] at hdc o9 ⊢
      refine dB rfl rfl rfl (fE (b:=x.oH.length) rfl rfl (by omega) (ax ?_))
      (repeat' (refine dB rfl rfl rfl (aa8 (ax ?_))))
      refine Wg.last rfl rfl rfl rfl (aY (hb4 w9 n49) rfl (show (2:Nat)<3 by omega) rfl rfl fun w10 b10 c10=>?_)
      exact af ⟨rfl,da,dc,w9,⟨rfl,rfl,rfl,rfl,rfl,trivial⟩,o9.mono (nP pC) (fun b hb e=>by rcases e with e|e<;>omega) (fun _ _ e=>e),n49,b10,c10⟩
   ·refine fD rfl rfl rfl rfl rfl rfl rfl rfl (iU fun w21 hg n21=>af ⟨rfl,New.trans nC n21,?_⟩) (bT (R:=rPr) (y:=mkP) (Pe:=NoB) rH rfl rfl rfl rfl (by omega) (by omega) fun mv w21 oM n21 s21 ahv=>af ⟨rfl,New.trans nC n21,?_⟩)
    ·have hgl:=rX hg
     have nC:=New.trans nC n21
     have zC:=nC.size
     refine fD rfl rfl rfl rfl rfl rfl rfl rfl (fO (Pe:=NoB) rH hg (hdk _ nC) (fun y cs hy=>hy) rfl rfl (by omega) (by simp only [maxLen];omega) (by omega) fun afH w22 oD n22=>af ⟨rfl,New.trans nC n22,?_⟩) (bT (R:=rPr) (y:=mkP) (Pe:=NoB) rH rfl rfl rfl rfl (by omega) (by omega) fun mv w22 oM n22 s22 aaP=>af ⟨rfl,New.trans nC n22,?_⟩)
     ·have nC:=New.trans nC n22
      have zC:=nC.size
      refine dD rfl rfl rfl rfl rfl (bT (R:=rPr) (y:=mkP) (Pe:=NoB) rH rfl rfl rfl rfl (by omega) (by omega) fun mv w23 oM n23 s23 XZ=>af ⟨rfl,New.trans nC n23,?_⟩)
      replace oD:=oD.new (nH pC) n23
      have nC:=New.trans nC n23
      have zC:=nC.size
      refine dD rfl rfl rfl rfl rfl (bU (R:=rPr) (Pe:=NoB) rH oD (oM.rd (nP pC)) (fun y cs hy=>hy) rfl rfl (by omega) (by simp only [maxLen,List.length_singleton];omega) (by simp only [List.length_singleton];omega) fun dv9 w9 o9 c9 VP _=>?_)
      have n49:New w4 w9:=Chg.trans nC c9 (fun b hb e=>by have:=(oD.lt e).1;omega)
      refine af ⟨rfl,n49,?_⟩
      obtain ⟨da,dc,rfl,hdc,_⟩:=o9.form
      rw [List.length_append,List.length_singleton] at hdc o9 ⊢
      refine dB rfl rfl rfl (fE (b:=x.oH.length) rfl rfl (by omega) (ax ?_))
      (repeat' (refine dB rfl rfl rfl (aa8 (ax ?_))))
      refine Wg.last rfl rfl rfl rfl (aY (hb4 w9 n49) rfl (show (2:Nat)<3 by omega) rfl rfl fun w10 b10 c10=>?_)
      exact af ⟨rfl,da,dc,w9,⟨rfl,rfl,rfl,rfl,rfl,trivial⟩,o9.mono (nP pC) (fun b hb e=>by rcases e with e|e<;>omega) (fun _ _ e=>e),n49,b10,c10⟩
     ·replace hg:=(n22.block _ (by have:=rX hg;omega) id).trans hg
      have nC:=New.trans nC n22
      have zC:=nC.size
      refine dD rfl rfl rfl rfl rfl (fO (Pe:=NoB) rH hg (hdk _ nC) (fun y cs hy=>hy) rfl rfl (by omega) (by simp only [maxLen];omega) (by omega) fun aaQ w23 oD n23=>af ⟨rfl,New.trans nC n23,?_⟩)
      replace oM:=oM.new (nH pC) n23
      have nC:=New.trans nC n23
      have zC:=nC.size
      refine dD rfl rfl rfl rfl rfl (bU (R:=rPr) (Pe:=NoB) rH oD (oM.rd (nP pC)) (fun y cs hy=>hy) rfl rfl (by omega) (by simp only [maxLen,List.length_singleton];omega) (by simp only [List.length_singleton];omega) fun dv9 w9 o9 c9 VP _=>?_)
      have n49:New w4 w9:=Chg.trans nC c9 (fun b hb e=>by have:=(oD.lt e).1;omega)
      refine af ⟨rfl,n49,?_⟩
      obtain ⟨da,dc,rfl,hdc,_⟩:=o9.form
      rw [List.length_append,List.length_singleton] at hdc o9 ⊢
      refine dB rfl rfl rfl (fE (b:=x.oH.length) rfl rfl (by omega) (ax ?_))
      (repeat' (refine dB rfl rfl rfl (aa8 (ax ?_))))
      refine Wg.last rfl rfl rfl rfl (aY (hb4 w9 n49) rfl (show (2:Nat)<3 by omega) rfl rfl fun w10 b10 c10=>?_)
      exact af ⟨rfl,da,dc,w9,⟨rfl,rfl,rfl,rfl,rfl,trivial⟩,o9.mono (nP pC) (fun b hb e=>by rcases e with e|e<;>omega) (fun _ _ e=>e),n49,b10,c10⟩
    ·have nC:=New.trans nC n21
     have zC:=nC.size
     refine dD rfl rfl rfl rfl rfl (iU fun w22 hg n22=>af ⟨rfl,New.trans nC n22,?_⟩)
     have hgl:=rX hg
     replace oM:=oM.new (nH pC) n22
     have nC:=New.trans nC n22
     have zC:=nC.size
     refine dD rfl rfl rfl rfl rfl (fO (Pe:=NoB) rH hg (hdk _ nC) (fun y cs hy=>hy) rfl rfl (by omega) (by simp only [maxLen];omega) (by omega) fun aaQ w23 oD n23=>af ⟨rfl,New.trans nC n23,?_⟩)
     replace oM:=oM.new (nH pC) n23
     have nC:=New.trans nC n23
     have zC:=nC.size
     refine dD rfl rfl rfl rfl rfl (bU (R:=rPr) (Pe:=NoB) rH oD (oM.rd (nP pC)) (fun y cs hy=>hy) rfl rfl (by omega) (by simp only [maxLen,List.length_singleton];omega) (by simp only [List.length_singleton];omega) fun dv9 w9 o9 c9 VP _=>?_)
     have n49:New w4 w9:=Chg.trans nC c9 (fun b hb e=>by have:=(oD.lt e).1;omega)
     refine af ⟨rfl,n49,?_⟩
     obtain ⟨da,dc,rfl,hdc,_⟩:=o9.form
     rw [List.length_append,List.length_singleton] at hdc o9 ⊢
     refine dB rfl rfl rfl (fE (b:=x.oH.length) rfl rfl (by omega) (ax ?_))
     (repeat' (refine dB rfl rfl rfl (aa8 (ax ?_))))
     refine Wg.last rfl rfl rfl rfl (aY (hb4 w9 n49) rfl (show (2:Nat)<3 by omega) rfl rfl fun w10 b10 c10=>?_)
     exact af ⟨rfl,da,dc,w9,⟨rfl,rfl,rfl,rfl,rfl,trivial⟩,o9.mono (nP pC) (fun b hb e=>by rcases e with e|e<;>omega) (fun _ _ e=>e),n49,b10,c10⟩
  ·rintro F w10 ⟨da,dc,w9,hF,o9,n9,b10,c10⟩
   refine ah ?_
   refine Wc.frame _ hF fun G3=>?_
   simp only [oU]
   clear hF
   have z9:=n9.size
   have z10:=c10.size
   have o10:=o9.chg (nH pC) c10 fun b hb e=>by have h9:w4.heap.size≤b:=(o9.lt hb).1;omega
   have Lc:New W w10:=(Chg.trans (M:=fun k=>W.heap.size≤k) (New.trans n14 n9).any c10 fun k _ e=>by omega).toNew fun k hk e=>by omega
   have I5:=b3W.chg Lc fun e=>e
   have Ld:=oL.new (nH _) Lc
   clear o9 n9 c10 hb4 hdk b4
   (repeat' (first|refine ak ?_|refine aa5 ?_))
   refine ay (u:=.slice qa L.length qc) rfl (I5.cell (o:=0) rfl) ?_
   skip
   refine bM b10 rfl rfl ?_
   refine dw (R:=flat noV) (y:=(x,(da,x.oH.length,dc))) Gm Ld rfl rfl rfl rfl rfl (by omega) (by omega) (by simp only [maxLen];omega) (by omega) rfl rfl fun v11 w11 p11 o11 c11 lie=>?_
   obtain ⟨ra,rc,rfl,_,_⟩:=o11.form
   have Iy:=I5.chg c11 fun e=>Ld.pO I5 rfl e rfl
   have z11:=c11.size
   have hown: ∀k,(Value.slice qa L.length qc).ownBlock=some k→w3.heap.size≤k:=fun k e=>(oL.lt e).1
   (repeat' (refine aa5 ?_))
   refine aY (u:=.slice ra (L++ [(x,(da,x.oH.length,dc))]).length rc) Iy rfl (show (0:Nat)<4 by omega) rfl rfl fun w12 b12 c12=>?_
   have VQ:=o11.mono (Pb':=fun b=>w3.heap.size≤b) (nP _) (fun b _ e=>by rcases e with e|e;exact e;show w3.heap.size≤b;omega) (fun _ _ e=>e)
   (repeat' (first|refine aa0 ?_|refine aa1 ?_|refine af ?_|refine ah ?_|refine ak ?_|refine aH ?_|refine aa7 ?_))
   refine aG (i+1,_,L++ [(x,(da,x.oH.length,dc))]) ⟨rfl,rfl,rfl,rfl,trivial⟩ ⟨by dsimp only;omega,b12,?_,VQ.chg (nH _) c12 fun k hk e=>VQ.pO Iy rfl hk e,fun p hp=>?_,Chg.trans (Chg.trans (Chg.trans cW Lc.any (M':=fun _=>False) fun _ _ e=>e.elim) c11 fun k hk e=>by have:=hown k e;omega) c12 fun _ _ e=>e⟩ (by dsimp only;omega)
   ·rw [List.map_append,hL,take_snoc hx];rfl
   ·rcases List.mem_append.1 hp with hp|hp
    ·exact (((hP p hp).chg Lc fun _ _ e=>e).row Ld rfl c11).qZ Iy rfl c12
    ·rw [List.mem_singleton.1 hp]
     have hn:uJ (fun b=>w3.heap.size≤b) w10 (da,x.oH.length,dc) x.oH:=⟨da,dc,rfl,o10.mono (nP pC) (fun b _ e=>by have e:w4.heap.size≤b:=e;show w3.heap.size≤b;omega) (fun _ _ e=>e)⟩
     exact (hn.row Ld rfl c11).qZ Iy rfl c12
 ·obtain rfl:i=g.tree.length:=by omega
  rw [List.take_length] at hL
  have ofW:=of.qZ b3 rfl cW
  have ogW:=og.qZ b3 rfl cW
  have b2W:=b23.chg cW fun e=>by omega
  clear b3 of og b13 b23 hi
  have hown: ∀k,(Value.slice qa L.length qc).ownBlock=some k→w3.heap.size≤k:=fun k e=>(oL.lt e).1
  skip
  refine bQ rfl (by kernel_rfl) (fun w'=>Chg (fun j=>(Value.slice qa L.length qc).ownBlock=some j) W w') (Chg.drew _ _) ?_
  intro w5 m5
  (repeat' (refine aa2 (aa8 (ax ?_))))
  refine aa2 (aC (u:=.slice qa L.length qc) rfl (fun w' c=>(b3W.chg c fun e=>oL.pO b3W rfl e rfl).cell (o:=0) rfl) (ax ?_))
  refine aT rfl (bV (ps:=[(0,.const (vi (-9)))]) (parts:=[(0,vi (-9))]) rfl rfl (by simp [Value.cells]) (af ⟨rfl,m5.any,?_⟩))
  refine aT rfl (bT (R:=flat noV) (Pe:=NoB) (y:=mkN) Gm rfl rfl rfl rfl (by omega) (by omega) fun v6 w6 o6 n6 s6 e6=>?_)
  have m6:=New.trans m5 n6
  refine af ⟨rfl,m6.any,?_⟩
  refine aT rfl (bU (R:=flat noV) Gm (oL.new (nH _) m6) (o6.rd (nP _)) (fun z cs hz=>hz) rfl rfl (by omega) (by simp only [maxLen,List.length_singleton];omega) (by simp only [List.length_singleton];omega) fun u7 w7 o7 c7 lie _=>?_)
  have cW7:Chg (fun j=>(Value.slice qa L.length qc).ownBlock=some j) W w7:=Chg.trans m6.any c7 fun _ _ e=>e
  refine af ⟨rfl,cW7,?_⟩
  (repeat' (refine aa2 (aa8 (ax ?_))))
  refine aa2 (aC (u:=.slice ta g.tree.length tc) rfl (fun w' c=>(b1W.chg c fun e=>by have:=hown _ e;omega).cell (o:=0) rfl) (ax ?_))
  (repeat' (refine aa2 (iq rfl (ax ?_))))
  have hz6:=m6.size
  have hz7:=cW7.size
  have hl7:(L++ [mkN]).length=g.tree.length+1:=by rw [List.length_append,List.length_singleton];omega
  obtain ⟨ra,rc,rfl,_,_⟩:=o7.form
  rw [hl7] at o7
  refine aa2 (fE (b:=g.tree.length) rfl rfl (by omega) (ax ?_))
  (repeat' (refine aa2 (aa8 (ax ?_))))
  have b37:=b3W.chg cW7 fun e=>oL.pO b3W rfl e rfl
  refine Wt.last rfl (aY (u:=.slice ra g.tree.length rc) b37 rfl (show (0:Nat)<4 by omega) rfl rfl fun w8 b8 c8=>?_)
  refine af ?_
  have hz8:=c8.size
  have o7':=o7.mono (Pb':=fun b=>w3.heap.size≤b) (nP _) (fun b _ e=>by rcases e with e|e;exact e;show w3.heap.size≤b;omega) (fun _ _ e=>e)
  have oT:=o7'.chg (nH _) c8 fun k hk e=>o7'.pO b37 rfl hk e
  have hPT: ∀p∈L,uJ (fun b=>w3.heap.size≤b) w8 p.2 p.1.oH:=fun p hp=>((hP p hp).row oL rfl cW7).qZ b37 rfl c8
  have ofT:=(ofW.row oL rfl cW7).qZ b37 rfl c8
  have ogT:=(ogW.row oL rfl cW7).qZ b37 rfl c8
  have c38:Chg (fun k=>w3.heap.size≤k∨k=gb) W w8:=Chg.trans (cW7.mono fun k _ e=>.inl (hown k e)) c8 fun k _ e=>.inr e
  have b1T:=b1W.chg c38 fun e=>by omega
  have b2T:=b2W.chg c38 fun e=>by omega
  have nT:New w w8:=(Chg.trans (M:=fun k=>w.heap.size≤k) nW.any c38 fun k _ e=>by omega).toNew fun k hk e=>by omega
  have aiy:=c38.size
  clear b3W oL hP cW b1W b2W nW ofW ogW m5 m6 c7 o6 o7 o7' b37 c8 cW7 c38
  (repeat' (first|refine aa1 ?_|refine af ?_|refine ah ?_|refine au ?_|refine ak ?_|refine Wc.block ?_))
  refine aP (σ:=Nat×Value×List (Cd×SV)) (fun q=>[(1,pT w.heap.size),(2,pT w1.heap.size),(3,pT gb),(6,vi q.1)])
   (fun q W'=>q.1≤g.cards.length∧Bk W' gb 27 [.slice ra g.tree.length rc,q.2.1,xv,yv]∧q.2.2.map (·.1)=g.cards.take q.1∧nO (flat cdV) 69 7 (fun b=>w8.heap.size≤b) NoB W' q.2.1 q.2.2∧(∀p∈q.2.2,sZ (fun b=>w8.heap.size≤b) W' (svV p.2) p.1.compat)∧Chg (fun k=>k=gb) w8 W') (fun q=>g.cards.length-q.1)
   (0,.slice none 0 0,[]) ⟨rfl,rfl,rfl,rfl,trivial⟩ ⟨Nat.zero_le _,b8,rfl,bF,by simp,aQ _ _⟩ ?_
  rintro ⟨i,xt,L2⟩ G2 W ⟨hi,b3W,hL2,oL,hP,cW⟩
  dsimp only at hi b3W hL2 oL hP cW
  obtain ⟨qa,qc,rfl,_,_⟩:=oL.form
  have aiz:L2.length=i:=by
   have:=congrArg List.length hL2
   rw [List.length_map,List.length_take] at this
   omega
  simp only [oU]
  have b1W:=b1T.chg cW fun e=>by omega
  have nW:New w W:=(Chg.trans (M:=fun k=>w.heap.size≤k) nT.any cW fun k _ e=>by omega).toNew fun k hk e=>by omega
  have hzW:=cW.size
  (repeat' (first|refine aa0 ?_|refine au ?_|refine ak ?_|refine aa5 ?_))
  refine ay (u:=.slice ca g.cards.length cc) rfl (b1W.cell (o:=1) rfl) ?_
  (repeat' (first|refine af ?_|refine pz ?_|refine ah ?_|refine au ?_|refine ak ?_|refine Wc.block ?_|refine Wc.skip ?_|refine aJ ?_|refine aK ?_|refine aI ?_|refine aO ?_|refine aa3 ?_|refine aa4 ?_|refine aa5 ?_|refine oZ (fun _=>?_) (fun _=>?_)))
  ·obtain ⟨x,hx⟩:=nV g.cards (k:=i) (by omega)
   have hkz:=z.k x (List.mem_of_getElem? hx)
   refine ay (u:=.slice ca g.cards.length cc) rfl (b1W.cell (o:=1) rfl) ?_
   (repeat' (refine aa0 ?_))
   refine aU (r.c.keep pW nW.keep) rfl rfl (by omega) (by rw [Int.toNat_natCast];exact hx) fun b o cs hl hR hat=>?_
   obtain ⟨xv',rfl,hpr⟩:=hR
   obtain ⟨xa,xc,rfl,Vr,KR⟩:=hpr.form
   refine bG hat rfl rfl ?_
   clear hat
   refine Wl.alloc fun w5 b5 n5 s5=>?_
   skip
   refine aX (new:=cdC x (.slice xa x.compat.length xc)) b5 rfl rfl rfl rfl (show (7:Nat)≤7 from Nat.le_refl 7) (aaO (x,(xa,x.compat.length,xc))) fun w4 b4 c4 s4=>?_
   replace b4:Bk w4 W.heap.size 69 (cdC x (.slice xa x.compat.length xc)):=b4
   have n14:New W w4:=(Chg.trans n5.any c4 fun _ _ e=>e).toNew fun k hk e=>by omega
   have hz4:=n14.size
   have YQ:=b4.lt
   clear b5 n5 c4
   (repeat' (first|refine af ?_|refine ah ?_|refine au ?_|refine ak ?_|refine aa5 ?_))
   refine ay (u:=.slice xa x.compat.length xc) rfl (b4.cell (o:=3) rfl) ?_
   skip
   refine aB (wZ (hpr.keep (nS _) n14.keep) (by omega)) rfl ?_
   rintro kv w9 ⟨ok,n9⟩
   obtain ⟨ka,kc,rfl⟩:=ok.form
   have z9:=n9.size
   (repeat' (refine aa5 ?_))
   refine aY (u:=.slice ka x.compat.length kc) (b4.chg n9 fun e=>e) rfl (show (3:Nat)<7 by omega) rfl rfl fun w10 b10 c10=>?_
   replace b10:Bk w10 W.heap.size 69 (cdC x (.slice ka x.compat.length kc)):=b10
   have z10:=c10.size
   have afI:=ok.qZ (b4.chg n9 fun e=>e) rfl c10
   have Lc:New W w10:=(Chg.trans (M:=fun k=>W.heap.size≤k) (New.trans n14 n9).any c10 fun k _ e=>by omega).toNew fun k hk e=>by omega
   have I5:=b3W.chg Lc fun e=>e
   have Ld:=oL.new (nH _) Lc
   clear ok n9 c10 b4
   (repeat' (first|refine af ?_|refine ah ?_|refine ak ?_|refine aa5 ?_))
   refine ay (u:=.slice qa L2.length qc) rfl (I5.cell (o:=1) rfl) ?_
   skip
   refine bM b10 rfl rfl ?_
   refine dw (R:=flat cdV) (y:=(x,(ka,x.compat.length,kc))) Gn Ld rfl rfl rfl rfl rfl (by omega) (by omega) (by simp only [maxLen];omega) (by omega) rfl rfl fun v11 w11 p11 o11 c11 lie=>?_
   obtain ⟨ya,yc,rfl,_,_⟩:=o11.form
   have Iy:=I5.chg c11 fun e=>Ld.pO I5 rfl e rfl
   have z11:=c11.size
   have hown: ∀k,(Value.slice qa L2.length qc).ownBlock=some k→w8.heap.size≤k:=fun k e=>(oL.lt e).1
   (repeat' (refine aa5 ?_))
   refine aY (u:=.slice ya (L2++ [(x,(ka,x.compat.length,kc))]).length yc) Iy rfl (show (1:Nat)<4 by omega) rfl rfl fun w12 b12 c12=>?_
   have VQ:=o11.mono (Pb':=fun b=>w8.heap.size≤b) (nP _) (fun b _ e=>by rcases e with e|e;exact e;show w8.heap.size≤b;omega) (fun _ _ e=>e)
   (repeat' (first|refine aa0 ?_|refine aa1 ?_|refine af ?_|refine ah ?_|refine ak ?_|refine aH ?_|refine aa7 ?_))
   refine aG (i+1,_,L2++ [(x,(ka,x.compat.length,kc))]) ⟨rfl,rfl,rfl,rfl,trivial⟩ ⟨by dsimp only;omega,b12,?_,VQ.chg (nH _) c12 fun k hk e=>VQ.pO Iy rfl hk e,fun p hp=>?_,Chg.trans (Chg.trans (Chg.trans cW Lc.any (M':=fun _=>False) fun _ _ e=>e.elim) c11 fun k hk e=>by have:=hown k e;omega) c12 fun _ _ e=>e⟩ (by dsimp only;omega)
   ·rw [List.map_append,hL2,take_snoc hx];rfl
   ·rcases List.mem_append.1 hp with hp|hp
    ·exact ((((hP p hp).keep Lc.keep)).row Ld rfl c11).qZ Iy rfl c12
    ·rw [List.mem_singleton.1 hp]
     have hn:=afI.mono (Pb':=fun b=>w8.heap.size≤b) fun b _ e=>by have e:w4.heap.size≤b:=e;show w8.heap.size≤b;omega
     exact (hn.row Ld rfl c11).qZ Iy rfl c12
  ·obtain rfl:i=g.cards.length:=by omega
   rw [List.take_length] at hL2
   have ofW:=ofT.qZ b8 rfl cW
   have ogW:=ogT.qZ b8 rfl cW
   have b2W:=b2T.chg cW fun e=>by omega
   have oTW:=oT.chg (nH _) cW fun k hk e=>oT.pO b8 rfl hk e
   have hPW: ∀p∈L,uJ (fun b=>w3.heap.size≤b) W p.2 p.1.oH:=fun p hp=>(hPT p hp).qZ b8 rfl cW
   clear b8 ofT ogT b1T b2T hi oT hPT nT
   have hown: ∀k,(Value.slice qa L2.length qc).ownBlock=some k→w8.heap.size≤k:=fun k e=>(oL.lt e).1
   skip
   refine bQ rfl (by kernel_rfl) (fun w'=>Chg (fun j=>(Value.slice qa L2.length qc).ownBlock=some j) W w') (Chg.drew _ _) ?_
   intro w5 m5
   (repeat' (refine aa2 (aa8 (ax ?_))))
   refine aa2 (aC (u:=.slice qa L2.length qc) rfl (fun w' c=>(b3W.chg c fun e=>oL.pO b3W rfl e rfl).cell (o:=1) rfl) (ax ?_))
   refine aT rfl (bV (ps:=[(0,.const (vs [33]))]) (parts:=[(0,vs [33])]) rfl rfl (by simp [Value.cells]) (af ⟨rfl,m5.any,?_⟩))
   refine aT rfl (bT (R:=flat cdV) (Pe:=NoB) (y:=mkC) Gn rfl rfl rfl rfl (by omega) (by omega) fun v6 w6 o6 n6 s6 e6=>?_)
   have m6:=New.trans m5 n6
   refine af ⟨rfl,m6.any,?_⟩
   refine aT rfl (bU (R:=flat cdV) Gn (oL.new (nH _) m6) (o6.rd (nP _)) (fun z cs hz=>hz) rfl rfl (by omega) (by simp only [maxLen,List.length_singleton];omega) (by simp only [List.length_singleton];omega) fun u7 w7 o7 c7 lie _=>?_)
   have cW7:Chg (fun j=>(Value.slice qa L2.length qc).ownBlock=some j) W w7:=Chg.trans m6.any c7 fun _ _ e=>e
   refine af ⟨rfl,cW7,?_⟩
   (repeat' (refine aa2 (aa8 (ax ?_))))
   refine aa2 (aC (u:=.slice ca g.cards.length cc) rfl (fun w' c=>(b1W.chg c fun e=>by have:=hown _ e;omega).cell (o:=1) rfl) (ax ?_))
   (repeat' (refine aa2 (iq rfl (ax ?_))))
   have aiA:=m6.size
   have aiB:=cW7.size
   have afJ:(L2++ [mkC]).length=g.cards.length+1:=by rw [List.length_append,List.length_singleton];omega
   obtain ⟨ya,yc,rfl,_,_⟩:=o7.form
   rw [afJ] at o7
   refine aa2 (fE (b:=g.cards.length) rfl rfl (by omega) (ax ?_))
   (repeat' (refine aa2 (aa8 (ax ?_))))
   have b37:=b3W.chg cW7 fun e=>oL.pO b3W rfl e rfl
   refine Wt.last rfl (aY (u:=.slice ya g.cards.length yc) b37 rfl (show (1:Nat)<4 by omega) rfl rfl fun w10 b10 c10=>?_)
   refine af ?_
   have Xe:=c10.size
   have o7':=o7.mono (Pb':=fun b=>w8.heap.size≤b) (nP _) (fun b _ e=>by rcases e with e|e;exact e;show w8.heap.size≤b;omega) (fun _ _ e=>e)
   have oC:=o7'.chg (nH _) c10 fun k hk e=>o7'.pO b37 rfl hk e
   have hPC: ∀p∈L2,sZ (fun b=>w8.heap.size≤b) w10 (svV p.2) p.1.compat:=fun p hp=>((hP p hp).row oL rfl cW7).qZ b37 rfl c10
   have ofC:=(ofW.row oL rfl cW7).qZ b37 rfl c10
   have ogC:=(ogW.row oL rfl cW7).qZ b37 rfl c10
   have oTC:=(oTW.chg (nH _) cW7 fun k hk e=>oTW.um oL rfl k hk e)
   have aaR:=oTC.chg (nH _) c10 fun k hk e=>oTC.pO b37 rfl hk e
   have afK: ∀p∈L,uJ (fun b=>w3.heap.size≤b) w10 p.2 p.1.oH:=fun p hp=>((hPW p hp).row oL rfl cW7).qZ b37 rfl c10
   have YX:Chg (fun k=>w8.heap.size≤k∨k=gb) W w10:=Chg.trans (cW7.mono fun k _ e=>.inl (hown k e)) c10 fun k _ e=>.inr e
   have b2C:=b2W.chg YX fun e=>by omega
   have nC2:New w w10:=(Chg.trans (M:=fun k=>w.heap.size≤k) nW.any YX fun k _ e=>by omega).toNew fun k hk e=>by omega
   have ahw:=YX.size
   have aaE:=b10.lt
   obtain ⟨fa',fc',hfv⟩:=ofC.form
   obtain ⟨ga',gc',hgv⟩:=ogC.form
   (repeat' (first|refine ah ?_|refine au ?_|refine ak ?_))
   refine bM b10 rfl rfl ?_
   refine aX (new:=[.slice ra g.tree.length rc,.slice ya g.cards.length yc,xv,yv]) b2C rfl rfl rfl rfl (show (4:Nat)≤4 from Nat.le_refl 4) (by rw [hfv,hgv];intro c hc;simp at hc;rcases hc with rfl|rfl|rfl|rfl<;>rfl) fun w11 b11 c11 s11=>?_
   (repeat' (first|refine af ?_|refine ah ?_|refine aA ?_))
   refine fA (yX rfl (ul rfl rfl b11 rfl)) ⟨_,rfl,⟨_,_,_,_,rfl,⟨⟨ra,rc,L,rfl,hL,(aaR.chg (nH _) c11 fun k hk e=>aaR.pO b2C rfl hk e).mono (nP _) (fun b _ e=>?_) (fun _ _ e=>e),fun p hp=>((afK p hp).qZ b2C rfl c11).mono fun b _ e=>?_⟩,⟨ya,yc,L2,rfl,hL2,(oC.chg (nH _) c11 fun k hk e=>oC.pO b2C rfl hk e).mono (nP _) (fun b _ e=>?_) (fun _ _ e=>e),fun p hp=>((hPC p hp).qZ b2C rfl c11).mono fun b _ e=>?_⟩,(ofC.qZ b2C rfl c11).mono fun b _ e=>?_,(ogC.qZ b2C rfl c11).mono fun b _ e=>?_⟩⟩,(Chg.trans (M:=fun k=>w.heap.size≤k) nC2.any c11 fun k _ e=>by omega).toNew fun k hk e=>by omega⟩
   ·have e:w3.heap.size≤b:=e
    show w.heap.size≤b;omega
   ·have e:w3.heap.size≤b:=e
    show w.heap.size≤b;omega
   ·have e:w8.heap.size≤b:=e
    show w.heap.size≤b;omega
   ·have e:w8.heap.size≤b:=e
    show w.heap.size≤b;omega
   ·have e:w2.heap.size≤b:=e
    show w.heap.size≤b;omega
   ·have e:w2.heap.size≤b:=e
    show w.heap.size≤b;omega
end
end Go.Proofs.YtjecgaiaiophpaaGreatDoor
namespace Go.Proofs.YtjecgaiaiophpaaGreatDoor
open Go Wk
section
variable (N:Nat→Bn) (c:Nat→Option Nat) (fl:Nm→Bool)
abbrev wc (N:Nat→Bn) (c:Nat→Option Nat):Nat→Bn:=fun i=>{N i with card:=c i}
theorem IC (S:St): ∀(l:List Nat) (b:Option Nat),rQ (wc N c) S b l=rQ N S b l
 | [],b=>rfl
 |n::r,b=>by rw [rQ,rQ];exact IC S r _
theorem TI (S:St) (i:Nat):rV (wc N c) S i=rV N S i:=IC N c S _ _
theorem VR (S:St) (i:Nat):(rowOf (wc N c) S i).1=(rowOf N S i).1∧(rowOf (wc N c) S i).2.2=(rowOf N S i).2.2∧(rowOf (wc N c) S i).2.1=c i∧(rowOf N S i).2.1=(N i).card:=by
 unfold rowOf
 rw [TI]
 split
 ·exact ⟨rfl,rfl,rfl,rfl⟩
 split
 ·exact ⟨rfl,rfl,rfl,rfl⟩
 ·exact ⟨rfl,rfl,rfl,rfl⟩
end
end Go.Proofs.YtjecgaiaiophpaaGreatDoor
