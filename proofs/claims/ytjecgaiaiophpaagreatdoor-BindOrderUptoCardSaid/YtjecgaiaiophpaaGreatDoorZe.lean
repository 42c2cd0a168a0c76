/-
  Texts of this claim, one behind the other: E4, E5, E6, E7, E8, E9, L1, F0, L2, L3, V1, Im, G1, G2, G4, G3, G5, F1, G6, G7, G8, V2, L4.
-/
import Derived.Test.YtjecgaiaiophpaaGreatDoorZd
set_option linter.all false
set_option maxHeartbeats 16000000
set_option maxRecDepth 8000
namespace Go.Proofs.YtjecgaiaiophpaaGreatDoor
open Go Wk
open Go.RowKit (Below)
attribute [local irreducible] Go.Calls
section
variable {Pb:Nat→Prop} {bw bm:Nat} {N:List Nb} {ord:List Nat} {fl:List (Nm×Int)} {nv ov:Value} {W W':World}
theorem JD {i:Nat} (g:WkM Pb bw bm N ord fl nv ov W) (hi:i<N.length) (hst:stF N i≤2):
 Calls Tryz.prog 61 #[pT bw,vi i] W (Ret fun r w'=>r=.bool (qH (bnF N) (flF fl) (stF N) i).isSome∧ND Pb bw bm N ord fl nv ov i W w'):=by
 have hnl:=g.nl
 obtain ⟨x,hx⟩:=nP N hi
 have hxN:=List.mem_of_getElem? hx
 have hne0:N≠ []:=by intro e;rw [e] at hi;simp at hi
 obtain ⟨ng,nc,rfl,Ig,afh,afi⟩:=g.nd.row.blk hne0
 have hbx:=sS hx
 have hsx:=wG hx
 rw [hsx] at hst
 have hpl:=g.fn.2 x hxN
 have hno: ∀w',New W w'→qH (bnF N) (flF fl) (stF N) i=none→(Value.bool false=.bool (qH (bnF N) (flF fl) (stF N) i).isSome∧ND Pb bw bm N ord fl (.slice (some ⟨ng,0,none⟩) N.length nc) ov i W w'):=fun w' n e=>by
  rw [e]
  exact ⟨rfl,N,g.new n,rfl,rfl,by rw [e];rfl,n.any⟩
 have Xt: ∀w',New W w'→At w' ng (0+(i:Int).toNat*9) (nbC x):=fun w' n=>by
  rw [Nat.zero_add,Int.toNat_natCast]
  exact (g.new n).nd.row.at rfl rfl hx
 have hlk:qH (bnF N) (flF fl) (stF N) i=if x.bn.reason=0∧x.st=0∧qM (bnF N) (stF N) i=none then some (fun k=>if k=i then (if x.bn.device&&flF fl x.bn.path then 2 else 1) else stF N k) else none:=by
  unfold qH
  rw [hbx,hsx]
 refine nH Tryz.func61 rfl Tryz.ntmps61 rfl ?_
 (repeat' (first|refine aa0 ?_|refine aa1 ?_|refine af ?_|refine ah ?_|refine au ?_|refine ak ?_|refine bK rfl ?_|refine aa5 ?_))
 refine ay (u:=.slice (some ⟨ng,0,none⟩) N.length nc) rfl (g.b.cell (o:=0) rfl) ?_
 (repeat' (refine aa0 ?_))
 refine dO rfl rfl (by omega) (by omega) ?_
 (repeat' (first|refine aa0 ?_|refine aa1 ?_|refine af ?_|refine ah ?_|refine au ?_|refine ak ?_|refine bK rfl ?_|refine aa5 ?_))
 refine ay (u:=.int .u8 x.bn.reason) rfl ((Xt W (aQ _ _)).get 3 rfl) ?_
 (repeat' (first|refine aa0 ?_|refine aa1 ?_|refine af ?_|refine aa6 ?_|refine qo ?_|refine pU ?_|refine ah ?_|refine au ?_|refine ak ?_|refine aA ?_|refine aO ?_|refine aa3 ?_|refine bK rfl ?_|refine aa5 ?_|refine pV (fun _=>?_) (fun _=>?_)))
 ·have hr:x.bn.reason≠0:=by omega
  obtain ⟨h1,h2⟩:=hno W (aQ _ _) (by rw [hlk,if_neg (fun e=>hr e.1)])
  exact aF rfl rfl ⟨_,rfl,h1,h2⟩
 have hr:x.bn.reason=0:=by omega
 refine ay (u:=.bool (x.st == 1)) rfl ((Xt W (aQ _ _)).get 7 rfl) ?_
 cases hs1:(x.st == 1) with
 |true=>
  have hs1':x.st=1:=by simpa using hs1
  obtain ⟨h1,h2⟩:=hno W (aQ _ _) (by rw [hlk,if_neg (fun e=>by have:=e.2.1;omega)])
  (repeat' (first|refine aa0 ?_|refine aa1 ?_|refine af ?_|refine qo ?_|refine pU ?_|refine pJ ?_|refine ah ?_|refine au ?_|refine ak ?_|refine aA ?_|refine aO ?_|refine aa3 ?_))
  exact aF rfl rfl ⟨_,rfl,h1,h2⟩
 |false=>
 have hs1':x.st≠1:=by simpa using hs1
 (repeat' (first|refine aa0 ?_|refine aa6 ?_|refine pJ ?_|refine bK rfl ?_|refine aa5 ?_))
 refine ay (u:=.bool (x.st == 2)) rfl ((Xt W (aQ _ _)).get 8 rfl) ?_
 cases hs2:(x.st == 2) with
 |true=>
  have hs2':x.st=2:=by simpa using hs2
  obtain ⟨h1,h2⟩:=hno W (aQ _ _) (by rw [hlk,if_neg (fun e=>by have:=e.2.1;omega)])
  (repeat' (first|refine aa0 ?_|refine aa1 ?_|refine af ?_|refine qo ?_|refine pU ?_|refine pJ ?_|refine ah ?_|refine au ?_|refine ak ?_|refine aA ?_|refine aO ?_|refine aa3 ?_))
  exact aF rfl rfl ⟨_,rfl,h1,h2⟩
 |false=>
 have hs2':x.st≠2:=by simpa using hs2
 have hs0:x.st=0:=by omega
 (repeat' (first|refine aa0 ?_|refine aa6 ?_|refine pJ ?_))
 refine aB (zI g hi) rfl ?_
 rintro _ w1 ⟨rfl,n1⟩
 cases hw:qM (bnF N) (stF N) i with
 |some k=>
  rw [show qx (some k)=(k:Int) from rfl]
  obtain ⟨h1,h2⟩:=hno w1 n1 (by rw [hlk,if_neg (fun e=>by rw [hw] at e;cases e.2.2)])
  (repeat' (first|refine aa1 ?_|refine af ?_|refine aa6 ?_|refine pJ ?_|refine ah ?_|refine au ?_|refine ak ?_|refine aA ?_|refine aO ?_|refine aa3 ?_|(refine di rfl rfl (fun _=>?_) (fun _=>?_)<;>(first|(exfalso;omega)|skip))))
  exact aF rfl rfl ⟨_,rfl,h1,h2⟩
 |none=>
 rw [show qx none= -1 from rfl]
 rw [if_pos ⟨hr,hs0,hw⟩] at hlk
 clear hno
 have g1:=g.new n1
 obtain ⟨q,hq⟩:=KP (s:=x.bn.path) (by omega)
 (repeat' (first|refine af ?_|refine aa6 ?_|refine pJ ?_|refine ah ?_|refine Wc.skip ?_|refine aa4 ?_|(refine di rfl rfl (fun _=>?_) (fun _=>?_)<;>(first|(exfalso;omega)|skip))))
 refine dS (fun F w3=> ∃fb:Bool,agrees F [(0,pT bw),(1,vi i),(5,.pointer (some ⟨ng,i*9,none⟩))]∧fb=(x.bn.device&&flF fl x.bn.path)∧WkM Pb bw bm (N.set i {x with st:=if fb=true then 2 else 0}) ord fl (.slice (some ⟨ng,0,none⟩) N.length nc) ov w3∧Chg (fun k=>(Value.slice (some (⟨ng,0,none⟩:Addr)) N.length nc).ownBlock=some k) W w3) ?_ ?_
 ·refine bP rfl (by kernel_rfl) (fun w'=>New w1 w') (Chg.drew _ _) ?_
  intro w2 n2
  have aaw: ∀w',New w1 w'→At w' ng (0+(i:Int).toNat*9) (nbC x):=fun w' n=>Xt w' (New.trans n1 n)
  (repeat' (first|refine aa2 (aa9 (ax ?_))|refine aa2 (bD rfl (ax ?_))|refine aa2 (aa7 (ax ?_))))
  refine aa2 (aC (u:=.bool x.bn.device) rfl (fun w' hw=>(aaw w' hw).get 1 rfl) (ax ?_))
  cases hd:x.bn.device with
  |false=>
   (repeat' (first|refine gX rfl rfl (by assumption) ?_|refine aa2 (aa9 (ax ?_))|refine aa2 (wz (ax ?_))|refine aa2 (bD rfl (ax ?_))|refine aa2 (aa7 (ax ?_))))
   refine Wt.last rfl (fC (f:=nbC) (sz:=9) (p:=x) (q:={x with st:=if false=true then 2 else 0}) (j:=i) (o:=8) (cap:=nc) (u:=.bool false) (fun _=>rfl) (show (8:Nat)<9 by omega) rfl hx (by rw [show nbC x=[vs x.bn.path,.bool x.bn.device,.int .u8 x.bn.level,.int .u8 x.bn.reason,vi (qx x.bn.card),vi x.bn.why,svV x.wv,.bool (x.st == 1),.bool (x.st == 2)] from rfl,hs1];rfl) (g1.new n2).nd.row rfl (by show Value.pointer (some ⟨ng,0+(i:Int).toNat*9+6+2,none⟩)=_;rw [Nat.zero_add,Int.toNat_natCast]) rfl fun w3 o3 c3=>?_)
   exact af (cZ ⟨false,⟨rfl,rfl,by show Value.pointer (some ⟨ng,0+(i:Int).toNat*9,none⟩)=_;rw [Nat.zero_add,Int.toNat_natCast],trivial⟩,by rw [Bool.false_and],(g1.new n2).put hx o3 c3,Chg.trans (New.trans n1 n2).any c3 fun _ _ e=>e⟩)
  |true=>
   (repeat' (first|refine bZ rfl rfl ?_|refine aa2 (aa9 (ax ?_))|refine aa2 (bD rfl (ax ?_))|refine aa2 (aa7 (ax ?_))))
   refine aa2 (aC (u:=.map (some bm)) rfl (fun w' hw=>(g1.b.chg hw fun e=>e).cell (o:=2) rfl) (ax ?_))
   (repeat' (first|refine bZ rfl rfl ?_|refine aa2 (aa9 (ax ?_))|refine aa2 (bD rfl (ax ?_))|refine aa2 (aa7 (ax ?_))))
   refine aa2 (aC (u:=vs x.bn.path) rfl (fun w' hw=>(aaw w' hw).get 0 rfl) (ax ?_))
   (repeat' (refine bZ rfl rfl ?_))
   refine aa2 (jW (Maps.string_keyed Tryz.underlying9) (fun w' hw=>g1.mp.chg hw fun e=>e) (fun r r' h1 h2=>?_) hq rfl rfl (fun r hr2=>ax ?_) (fun hr2=>ax ?_))
   ·obtain ⟨⟨a,b⟩,hm,e⟩:=List.mem_map.1 h1
    obtain ⟨⟨a',b'⟩,hm',e'⟩:=List.mem_map.1 h2
    simp only [Prod.mk.injEq] at e e'
    obtain ⟨e1,rfl⟩:=e
    obtain ⟨e1',rfl⟩:=e'
    obtain rfl:=wS e1
    obtain rfl:=wS e1'
    rw [FX g.fn.1 hm hm']
   ·obtain ⟨⟨s',c⟩,hm,e⟩:=List.mem_map.1 hr2
    simp only [Prod.mk.injEq] at e
    obtain ⟨e1,rfl⟩:=e
    obtain rfl:=wS e1
    have hf:=Rh g.fn.1 hm
    by_cases hc:0<c
    ·rw [decide_eq_true hc] at hf
     (repeat' (first|refine bZ rfl rfl ?_|refine aa2 (dG rfl (by conv=>{lhs;whnf}) (ax ?_))|refine aa2 (bD rfl (ax ?_))|refine aa2 (aa7 (ax ?_))|(refine aa2 (fM rfl rfl (fun _=>ax ?_) (fun _=>ax ?_))<;>(first|(exfalso;omega)|skip))))
     skip
     refine Wt.last rfl (fC (f:=nbC) (sz:=9) (p:=x) (q:={x with st:=if true=true then 2 else 0}) (j:=i) (o:=8) (cap:=nc) (u:=.bool true) (fun _=>rfl) (show (8:Nat)<9 by omega) rfl hx (by rw [show nbC x=[vs x.bn.path,.bool x.bn.device,.int .u8 x.bn.level,.int .u8 x.bn.reason,vi (qx x.bn.card),vi x.bn.why,svV x.wv,.bool (x.st == 1),.bool (x.st == 2)] from rfl,hs1];rfl) (g1.new n2).nd.row rfl (by show Value.pointer (some ⟨ng,0+(i:Int).toNat*9+6+2,none⟩)=_;rw [Nat.zero_add,Int.toNat_natCast]) rfl fun w3 o3 c3=>?_)
     exact af (cZ ⟨true,⟨rfl,rfl,by show Value.pointer (some ⟨ng,0+(i:Int).toNat*9,none⟩)=_;rw [Nat.zero_add,Int.toNat_natCast],trivial⟩,by rw [hf];rfl,(g1.new n2).put hx o3 c3,Chg.trans (New.trans n1 n2).any c3 fun _ _ e=>e⟩)
    ·rw [decide_eq_false hc] at hf
     (repeat' (first|refine bZ rfl rfl ?_|refine aa2 (dG rfl (by conv=>{lhs;whnf}) (ax ?_))|refine aa2 (bD rfl (ax ?_))|refine aa2 (aa7 (ax ?_))|(refine aa2 (fM rfl rfl (fun _=>ax ?_) (fun _=>ax ?_))<;>(first|(exfalso;omega)|skip))))
     skip
     refine Wt.last rfl (fC (f:=nbC) (sz:=9) (p:=x) (q:={x with st:=if false=true then 2 else 0}) (j:=i) (o:=8) (cap:=nc) (u:=.bool false) (fun _=>rfl) (show (8:Nat)<9 by omega) rfl hx (by rw [show nbC x=[vs x.bn.path,.bool x.bn.device,.int .u8 x.bn.level,.int .u8 x.bn.reason,vi (qx x.bn.card),vi x.bn.why,svV x.wv,.bool (x.st == 1),.bool (x.st == 2)] from rfl,hs1];rfl) (g1.new n2).nd.row rfl (by show Value.pointer (some ⟨ng,0+(i:Int).toNat*9+6+2,none⟩)=_;rw [Nat.zero_add,Int.toNat_natCast]) rfl fun w3 o3 c3=>?_)
     exact af (cZ ⟨false,⟨rfl,rfl,by show Value.pointer (some ⟨ng,0+(i:Int).toNat*9,none⟩)=_;rw [Nat.zero_add,Int.toNat_natCast],trivial⟩,by rw [hf];rfl,(g1.new n2).put hx o3 c3,Chg.trans (New.trans n1 n2).any c3 fun _ _ e=>e⟩)
   ·have hf:flF fl x.bn.path=false:=YI fun p hp e=>hr2 (vs p.1,vi p.2) (List.mem_map.2 ⟨p,hp,rfl⟩) (by rw [e])
    (repeat' (first|refine bZ rfl rfl ?_|refine aa2 (dG rfl (by conv=>{lhs;whnf}) (ax ?_))|refine aa2 (bD rfl (ax ?_))|refine aa2 (aa7 (ax ?_))|(refine aa2 (fM rfl rfl (fun _=>ax ?_) (fun _=>ax ?_))<;>(first|(exfalso;omega)|skip))))
    skip
    refine Wt.last rfl (fC (f:=nbC) (sz:=9) (p:=x) (q:={x with st:=if false=true then 2 else 0}) (j:=i) (o:=8) (cap:=nc) (u:=.bool false) (fun _=>rfl) (show (8:Nat)<9 by omega) rfl hx (by rw [show nbC x=[vs x.bn.path,.bool x.bn.device,.int .u8 x.bn.level,.int .u8 x.bn.reason,vi (qx x.bn.card),vi x.bn.why,svV x.wv,.bool (x.st == 1),.bool (x.st == 2)] from rfl,hs1];rfl) (g1.new n2).nd.row rfl (by show Value.pointer (some ⟨ng,0+(i:Int).toNat*9+6+2,none⟩)=_;rw [Nat.zero_add,Int.toNat_natCast]) rfl fun w3 o3 c3=>?_)
    exact af (cZ ⟨false,⟨rfl,rfl,by show Value.pointer (some ⟨ng,0+(i:Int).toNat*9,none⟩)=_;rw [Nat.zero_add,Int.toNat_natCast],trivial⟩,by rw [hf];rfl,(g1.new n2).put hx o3 c3,Chg.trans (New.trans n1 n2).any c3 fun _ _ e=>e⟩)
 ·rintro F w3 ⟨fb,hF,hfb,g3,c3⟩
  rw [←oK hF]
  simp only [oP]
  clear hF
  have hil:=(List.getElem?_eq_some_iff.1 hx).1
  have hx':(N.set i {x with st:=if fb=true then 2 else 0})[i]? =some {x with st:=if fb=true then 2 else 0}:=by rw [List.getElem?_set,if_pos rfl,if_pos hil]
  have hset: ∀y:Nb,(N.set i {x with st:=if fb=true then 2 else 0}).set i y=N.set i y:=fun y=>List.set_set ..
  have hat:At w3 ng (i*9) (nbC {x with st:=if fb=true then 2 else 0}):=g3.nd.row.at rfl rfl hx'
  have hfs:((if fb=true then 2 else 0) == 2)=fb:=by cases fb<;>rfl
  have hlen':(N.set i {x with st:=if fb=true then 2 else 0}).length=N.length:=by rw [List.length_set]
  (repeat' (first|refine aa0 ?_|refine au ?_|refine ak ?_|refine bK rfl ?_|refine aa5 ?_))
  refine ay (u:=.bool fb) rfl (by have:=hat.get 8 rfl;rw [hfs] at this;exact this) ?_
  (repeat' (first|refine aX rfl ?_|refine bK rfl ?_|refine aa5 ?_))
  refine fC (f:=nbC) (sz:=9) (p:={x with st:=if fb=true then 2 else 0}) (q:={x with st:=if fb=true then 2 else 1}) (j:=i) (o:=7) (cap:=nc) (u:=.bool (!fb)) (fun _=>rfl) (show (7:Nat)<9 by omega) rfl hx' (by cases fb<;>rfl) g3.nd.row (by rw [hlen']) rfl rfl fun w4 o4 c4=>?_
  (repeat' (first|refine aa1 ?_|refine af ?_|refine ah ?_|refine au ?_|refine ak ?_|refine aA ?_))
  have g4:=g3.put hx' (s:=if fb=true then 2 else 1) o4 c4
  rw [hset] at g4
  refine aF rfl rfl ⟨_,rfl,by rw [hlk];rfl,N.set i {x with st:=if fb=true then 2 else 1},g4,by rw [List.length_set],Xq hx,?_,Chg.trans c3 c4 fun _ _ e=>e⟩
  rw [Xr hx,hlk,Option.getD_some,hfb]
end
end Go.Proofs.YtjecgaiaiophpaaGreatDoor
namespace Go.Proofs.YtjecgaiaiophpaaGreatDoor
open Go Wk
open Go.RowKit (Below)
attribute [local irreducible] Go.Calls
theorem YJ:qP (flat rwC) 3:=qU _ (fun _=>rfl) fun x c hc=>by simp at hc;rcases hc with rfl|rfl|rfl<;>rfl
abbrev Rws:Type:=Nat×Option Nat×Int
def rowsOf (N:Nat→Bn) (S:Nat→Nat) (n:Nat):List Rws:=(List.range n).map (rowOf N S)
theorem Pz (n:Nat):List.range (n+1)=List.range n++ [n]:=List.range_succ
section
variable {Pb:Nat→Prop} {bw bm:Nat} {N:List Nb} {ord:List Nat} {fl:List (Nm×Int)} {nv ov:Value} {W W':World}
theorem JE (g:WkM Pb bw bm N ord fl nv ov W):
 Calls Tryz.prog 18 #[pT bw] W (Ret fun r w'=>nN (flat rwC) 39 3 (fun b=>W.heap.size≤b) NoB w' r (rowsOf (bnF N) (stF N) N.length)∧New W w'):=by
 have hnl:=g.nl
 obtain ⟨na,nc,rfl,_,_⟩:=g.nd.row.form
 refine nH Tryz.func18 rfl Tryz.ntmps18 rfl ?_
 (repeat' (first|refine aa0 ?_|refine aa1 ?_|refine af ?_|refine ah ?_|refine au ?_|refine ak ?_))
 refine gU rfl rfl ?_
 (repeat' (first|refine aa0 ?_|refine aa1 ?_|refine af ?_|refine ah ?_|refine au ?_|refine ak ?_|refine Wc.skip ?_|refine aa4 ?_|refine bK rfl ?_|refine aa5 ?_))
 refine ay (u:=.slice na N.length nc) rfl (g.b.cell (o:=0) rfl) ?_
 (repeat' (first|refine aa0 ?_|refine af ?_|refine aI rfl ?_|refine ah ?_|refine Wc.block ?_))
 refine aS (σ:=Nat×Value) (fun q=>[(0,pT bw),(3,q.2),(11,vi N.length),(12,vi q.1)]) (fun q w'=>q.1≤N.length∧nN (flat rwC) 39 3 (fun b=>W.heap.size≤b) NoB w' q.2 (rowsOf (bnF N) (stF N) q.1)∧New W w') (fun q=>N.length-q.1)
  (0,.slice none 0 0) ⟨rfl,rfl,rfl,rfl,trivial⟩ ⟨Nat.zero_le _,bH,aQ _ _⟩ ?_
 rintro ⟨k,rv⟩ G w1 ⟨hk,own,n1⟩
 dsimp only at hk own n1
 simp only [oP]
 have hrl:(rowsOf (bnF N) (stF N) k).length=k:=by unfold rowsOf;rw [List.length_map,List.length_range]
 obtain ⟨ra,rc,rfl,_,_⟩:=own.form
 (repeat' (first|refine aa0 ?_|refine aa1 ?_|refine af ?_|refine ah ?_|refine au ?_|refine ak ?_|refine Wc.block ?_|refine Wc.skip ?_|refine aK ?_|refine aA ?_|refine aN ?_|refine aJ ?_|refine aP ?_|refine aa3 ?_|refine aa4 ?_|refine pF (fun _=>?_) (fun _=>?_)))
 ·refine aB (NC (g.new n1) (i:=k) (by omega)) rfl ?_
  rintro _ w2 ⟨rfl,n2⟩
  have n02:=New.trans n1 n2
  have hz2:=n02.size
  refine dn (R:=flat rwC) (y:=rowOf (bnF N) (stF N) k) YJ (own.new (nG rwC) n2) rfl rfl rfl rfl rfl (by omega) (by omega) (by simp only [maxLen];omega) (by omega) rfl rfl fun v3 w3 p uQ c3 lie=>?_
  have hsn:rowsOf (bnF N) (stF N) k++ [rowOf (bnF N) (stF N) k]=rowsOf (bnF N) (stF N) (k+1):=by unfold rowsOf;rw [Pz,List.map_append];rfl
  rw [hsn] at uQ
  (repeat' (first|refine aa0 ?_|refine aa1 ?_|refine af ?_|refine ah ?_|refine ak ?_|refine aH ?_|refine aa8 ?_))
  exact aG (k+1,v3) ⟨rfl,rfl,rfl,rfl,trivial⟩ ⟨by dsimp only;omega,uQ.mono (nO rwC) (fun b _ e=>by rcases e with e|e;exact e;omega) (fun _ _ e=>e),(Chg.trans n02.any c3 fun _ _ e=>e).toNew fun j hj e=>by have h9:W.heap.size≤j:=(own.lt e).1;omega⟩ (by dsimp only;omega)
 ·obtain rfl:k=N.length:=by omega
  exact aF rfl rfl ⟨_,rfl,own,n1⟩
def rJ (N:Nat→Bn) (S:Nat→Nat) (l:List Nat):List Nat:=l.filter fun i=>(S i == 0)&&(qM N S i).isNone
theorem Ih (g:WkM Pb bw bm N ord fl nv ov W) (ho: ∀i∈ord,i<N.length) (hst: ∀i,stF N i≤2) (hol:ord.length≤512):
 Calls Tryz.prog 20 #[pT bw] W (Ret fun r w'=>nN (Wk.one viN) 3 1 (fun b=>W.heap.size≤b) NoB w' r (rJ (bnF N) (stF N) ord)∧New W w'):=by
 have hnl:=g.nl
 obtain ⟨na,nc,rfl,_,_⟩:=g.nd.row.form
 obtain ⟨oa,oc,rfl,_,_⟩:=g.od.form
 have hrd:=g.nd.row.rd (nO nbC)
 have hod:=g.od.rd qX.mo
 refine nH Tryz.func20 rfl Tryz.ntmps20 rfl ?_
 (repeat' (first|refine aa0 ?_|refine aa1 ?_|refine af ?_|refine ah ?_|refine au ?_|refine ak ?_))
 refine gU rfl rfl ?_
 (repeat' (first|refine aa0 ?_|refine aa1 ?_|refine af ?_|refine ah ?_|refine au ?_|refine ak ?_|refine Wc.skip ?_|refine aa4 ?_|refine bK rfl ?_|refine aa5 ?_))
 refine ay (u:=.slice oa ord.length oc) rfl (g.b.cell (o:=1) rfl) ?_
 (repeat' (first|refine aa0 ?_|refine af ?_|refine aI rfl ?_|refine ah ?_|refine Wc.block ?_))
 refine aS (σ:=Nat×Value) (fun q=>[(0,pT bw),(3,q.2),(12,.slice oa ord.length oc),(13,vi ord.length),(14,vi q.1)]) (fun q w'=>q.1≤ord.length∧nN (Wk.one viN) 3 1 (fun b=>W.heap.size≤b) NoB w' q.2 (rJ (bnF N) (stF N) (ord.take q.1))∧New W w') (fun q=>ord.length-q.1)
  (0,.slice none 0 0) ⟨rfl,rfl,rfl,rfl,rfl,trivial⟩ ⟨Nat.zero_le _,bH,aQ _ _⟩ ?_
 rintro ⟨k,rv⟩ G w1 ⟨hk,own,n1⟩
 dsimp only at hk own n1
 simp only [oP]
 have hrl:(rJ (bnF N) (stF N) (ord.take k)).length≤k:=by
  unfold rJ
  refine Nat.le_trans (List.length_filter_le _ _) ?_
  rw [List.length_take];omega
 obtain ⟨ra,rc,rfl,_,_⟩:=own.form
 (repeat' (first|refine aa0 ?_|refine aa1 ?_|refine af ?_|refine ah ?_|refine au ?_|refine ak ?_|refine Wc.block ?_|refine Wc.skip ?_|refine aK ?_|refine aA ?_|refine aN ?_|refine aJ ?_|refine aP ?_|refine aa3 ?_|refine aa4 ?_|refine pF (fun _=>?_) (fun _=>?_)))
 ·obtain ⟨j,hj⟩:=nP ord (k:=k) (by omega)
  have hjl:=ho j (List.mem_of_getElem? hj)
  obtain ⟨x,hx⟩:=nP N hjl
  have hsx:=wG hx
  have hx2:=hst j
  rw [hsx] at hx2
  have hstep:rJ (bnF N) (stF N) (ord.take (k+1))=rJ (bnF N) (stF N) (ord.take k)++if ((x.st == 0)&&(qM (bnF N) (stF N) j).isNone)=true then [j] else []:=by
   unfold rJ
   rw [take_snoc hj,List.filter_append]
   congr 1
   simp only [List.filter_cons,List.filter_nil,hsx]
  refine bT (hod.keep (nV _) n1.keep) rfl rfl (by omega) hj fun b o hcell=>?_
  refine ay (u:=vi j) rfl hcell ?_
  (repeat' (first|refine aa0 ?_|refine aa1 ?_|refine af ?_|refine ah ?_|refine au ?_|refine ak ?_|refine bK rfl ?_|refine aa5 ?_))
  refine ay (u:=.slice na N.length nc) rfl ((g.new n1).b.cell (o:=0) rfl) ?_
  (repeat' (refine aa0 ?_))
  refine aZ (hrd.keep (oJ nbC) n1.keep) rfl rfl (by omega) (by rw [Int.toNat_natCast];exact hx) fun b o cs hl hR hat=>?_
  obtain rfl:cs=nbC x:=hR
  refine bG hat rfl rfl ?_
  clear hat
  refine Wl.alloc fun w2 b5 n2 s2=>?_
  refine aV (new:=nbC x) b5 rfl rfl rfl rfl (show (9:Nat)≤9 from Nat.le_refl 9) (Tf x) fun w3 b5' c3 s3=>?_
  replace b5':Bk w3 w1.heap.size 118 (nbC x):=b5'
  have n13:New w1 w3:=(Chg.trans n2.any c3 fun _ _ e=>e).toNew fun k hk e=>by omega
  clear b5 n2 c3
  have n03:=New.trans n1 n13
  have uQ:=own.new (nK _) n13
  have JA: ∀w',New w3 w'→((x.st == 0)&&(qM (bnF N) (stF N) j).isNone)=false→(k+1≤ord.length∧nN (Wk.one viN) 3 1 (fun b=>W.heap.size≤b) NoB w' (.slice ra (rJ (bnF N) (stF N) (ord.take k)).length rc) (rJ (bnF N) (stF N) (ord.take (k+1)))∧New W w'):=fun w' n e=>by
   rw [hstep,e,if_neg (by decide),List.append_nil]
   exact ⟨by omega,uQ.new (nK _) n,New.trans n03 n⟩
  (repeat' (first|refine af ?_|refine ah ?_|refine au ?_|refine ak ?_|refine aa5 ?_))
  refine ay (u:=.bool (x.st == 1)) rfl (b5'.cell (o:=7) rfl) ?_
  cases hs1:(x.st == 1) with
  |true=>
   have hs1':x.st=1:=by simpa using hs1
   (repeat' (first|refine aa0 ?_|refine af ?_|refine qo ?_|refine pJ ?_|refine aX rfl ?_|refine ah ?_|refine ak ?_|refine Wc.skip ?_|refine aH ?_|refine aa4 ?_|refine aa8 ?_))
   exact aG (k+1,_) ⟨rfl,rfl,rfl,rfl,rfl,trivial⟩ (JA w3 (aQ _ _) (by rw [hs1'];rfl)) (by dsimp only;omega)
  |false=>
   have hs1':x.st≠1:=by simpa using hs1
   (repeat' (first|refine aa0 ?_|refine aa6 ?_|refine aX rfl ?_|refine aa5 ?_))
   refine ay (u:=.bool (x.st == 2)) rfl (b5'.cell (o:=8) rfl) ?_
   cases hs2:(x.st == 2) with
   |true=>
    have hs2':x.st=2:=by simpa using hs2
    (repeat' (first|refine aa0 ?_|refine af ?_|refine aa6 ?_|refine qo ?_|refine pU ?_|refine pJ ?_|refine aX rfl ?_|refine ah ?_|refine ak ?_|refine Wc.skip ?_|refine aH ?_|refine aa4 ?_|refine aa8 ?_))
    exact aG (k+1,_) ⟨rfl,rfl,rfl,rfl,rfl,trivial⟩ (JA w3 (aQ _ _) (by rw [hs2'];rfl)) (by dsimp only;omega)
   |false=>
    have hs2':x.st≠2:=by simpa using hs2
    have hs0:x.st=0:=by omega
    (repeat' (first|refine aa0 ?_|refine aa6 ?_|refine pU ?_|refine aX rfl ?_))
    refine aB (zI (g.new n03) hjl) rfl ?_
    rintro _ w4 ⟨rfl,n4⟩
    cases hw:qM (bnF N) (stF N) j with
    |some m=>
     rw [show qx (some m)=(m:Int) from rfl]
     (repeat' (first|refine aa0 ?_|refine af ?_|refine aa6 ?_|refine pU ?_|refine ah ?_|refine ak ?_|refine Wc.skip ?_|refine aH ?_|refine aa4 ?_|refine aa8 ?_|(refine pF (fun _=>?_) (fun _=>?_)<;>(first|(exfalso;omega)|skip))))
     exact aG (k+1,_) ⟨rfl,rfl,rfl,rfl,rfl,trivial⟩ (JA w4 n4 (by rw [hw,hs0];rfl)) (by dsimp only;omega)
    |none=>
     rw [show qx none= -1 from rfl]
     have n04:=New.trans n03 n4
     have hz4:=n04.size
     rw [hw,hs0] at hstep
     replace hstep:rJ (bnF N) (stF N) (ord.take (k+1))=rJ (bnF N) (stF N) (ord.take k)++ [j]:=hstep
     (repeat' (first|refine aa0 ?_|refine af ?_|refine aa6 ?_|refine pU ?_|refine ah ?_|refine ak ?_|refine aa3 ?_|(refine pF (fun _=>?_) (fun _=>?_)<;>(first|(exfalso;omega)|skip))))
     refine dn (R:=Wk.one viN) (y:=j) qX (uQ.new (nK _) n4) rfl rfl rfl rfl rfl (by omega) (by omega) (by simp only [maxLen];omega) (by omega) rfl rfl fun v5 w5 p EG c5 lie=>?_
     rw [←hstep] at EG
     (repeat' (first|refine aa0 ?_|refine aa1 ?_|refine af ?_|refine ah ?_|refine ak ?_|refine aH ?_|refine aa8 ?_))
     exact aG (k+1,v5) ⟨rfl,rfl,rfl,rfl,rfl,trivial⟩ ⟨by dsimp only;omega,EG.mono (nX _) (fun b _ e=>by rcases e with e|e;exact e;omega) (fun _ _ e=>e),(Chg.trans n04.any c5 fun _ _ e=>e).toNew fun q hq e=>by have h9:W.heap.size≤q:=(uQ.lt e).1;omega⟩ (by dsimp only;omega)
 ·obtain rfl:k=ord.length:=by omega
  rw [List.take_length] at own ⊢
  exact aF rfl rfl ⟨_,rfl,own,n1⟩
end
end Go.Proofs.YtjecgaiaiophpaaGreatDoor
namespace Go.Proofs.YtjecgaiaiophpaaGreatDoor
open Go Wk
open Go.RowKit (Below)
attribute [local irreducible] Go.Calls
section
variable {Pb:Nat→Prop} {bw bm:Nat} {N:List Nb} {ord:List Nat} {fl:List (Nm×Int)} {nv ov:Value} {W W':World}
theorem NE {N:Nat→Bn} {fl:Nm→Bool} {S:Nat→Nat} {i:Nat} (h: ∀k,S k≤2): ∀k,((qH N fl S i).getD S) k≤2:=by
 intro k
 unfold qH
 split
 ·dsimp only [Option.getD_some]
  split
  ·split<;>omega
  ·exact h k
 ·exact h k
theorem Vy {i:Nat} (g:WkM Pb bw bm N ord fl nv ov W) (hi:i<N.length) (hst:stF N i≤2):
 Calls Tryz.prog 16 #[pT bw,vi i] W (Ret fun r w'=> ∃N',r=.tuple #[.agg (rwC (rowOf (bnF N) (stF N') i)).toArray,vi 0]∧WkM Pb bw bm N' ord fl nv ov w'∧N'.length=N.length∧bnF N'=bnF N∧stF N'=(qH (bnF N) (flF fl) (stF N) i).getD (stF N)∧Chg (fun k=>nv.ownBlock=some k) W w'):=by
 have hnl:=g.nl
 replace g:=g.mono (Pb':=fun b=>Pb b∧b<W.heap.size) fun b hb e=>⟨e,hb⟩
 obtain ⟨na,nc,rfl,_,_⟩:=g.nd.row.form
 refine nH Tryz.func16 rfl Tryz.ntmps16 rfl ?_
 (repeat' (first|refine au ?_|refine ak ?_))
 refine Wl.alloc fun w1 b4 n1 s1=>?_
 replace b4:Bk w1 W.heap.size 39 [.int .u8 0,vi 0,vi 0]:=b4
 have g1:=g.new n1
 (repeat' (first|refine aa0 ?_|refine aa1 ?_|refine af ?_|refine ah ?_|refine au ?_|refine ak ?_|refine Wc.block ?_))
 refine gU rfl rfl ?_
 (repeat' (first|refine aa0 ?_|refine aa1 ?_|refine af ?_|refine aa6 ?_|refine ah ?_|refine au ?_|refine ak ?_|refine aa4 ?_|refine bK rfl ?_|refine aa5 ?_|(refine pF (fun _=>?_) (fun _=>?_)<;>(first|(exfalso;omega)|skip))))
 refine ay (u:=.slice na N.length nc) rfl (g1.b.cell (o:=0) rfl) ?_
 (repeat' (first|refine aa0 ?_|refine aa1 ?_|refine af ?_|refine aa6 ?_|refine pJ ?_|refine aI rfl ?_|refine ah ?_|refine au ?_|refine ak ?_|refine Wc.skip ?_|refine aH ?_|refine aa4 ?_|(refine di rfl rfl (fun _=>?_) (fun _=>?_)<;>(first|(exfalso;omega)|skip))))
 refine aB (JD g1 hi hst) rfl ?_
 rintro _ w2 ⟨rfl,N',g2,hl2,hb2,hs2,c2⟩
 (repeat' (first|refine aa0 ?_|refine af ?_|refine ah ?_|refine au ?_|refine ak ?_))
 refine aB (NC g2 (i:=i) (by omega)) rfl ?_
 rintro _ w3 ⟨rfl,n3⟩
 have hz1:=n1.size
 have YK:=b4.lt
 have b43:=(b4.chg c2 fun e=>by have:=(g.nd.row.lt e).2;omega).chg n3 fun e=>e
 refine aV (new:=rwC (rowOf (bnF N') (stF N') i)) b43 rfl rfl rfl rfl (show (3:Nat)≤3 from Nat.le_refl 3) (by intro c hc;simp at hc;rcases hc with rfl|rfl|rfl<;>rfl) fun w4 b4' c4 s4=>?_
 replace b4':Bk w4 W.heap.size 39 (rwC (rowOf (bnF N') (stF N') i)):=b4'
 (repeat' (first|refine aa1 ?_|refine af ?_|refine ah ?_|refine aA ?_))
 have g4:=((g2.new n3).chg c4 fun k hk e=>by have:=hk.2;omega).mono (Pb':=Pb) fun b _ e=>e.1
 refine eG (uO (a:=.cell 4 39) (b:=.tmp 5) rfl (tC rfl rfl b4' rfl) (qG rfl)) ⟨_,rfl,N',by rw [hb2];rfl,g4,hl2,hb2,hs2,Chg.trans (Chg.trans (Chg.trans n1.any c2 fun _ _ e=>e) n3.any fun _ _ e=>e) c4 fun k hk e=>by omega⟩
abbrev wtC (p:Nat×Nat):List Value:=[vi p.1,vi p.2]
theorem PD:qP (flat wtC) 2:=qU _ (fun _=>rfl) fun x c hc=>by simp at hc;rcases hc with rfl|rfl<;>rfl
theorem rG (N:Nat→Bn) (fl:Nm→Bool) (i:Nat) (r:List Nat) (S:St):oH N fl (i::r) S=if S i≠0 then oH N fl r S else match qH N fl S i with
 |some S'=>let q:=oH N fl r S';(⟨i::q.1.tried,q.1.waits⟩,q.2)
 |none=>let q:=oH N fl r S;(⟨q.1.tried,(i,(qM N S i).getD 0)::q.1.waits⟩,q.2):=by rw [oH];rfl
end
end Go.Proofs.YtjecgaiaiophpaaGreatDoor
namespace Go.Proofs.YtjecgaiaiophpaaGreatDoor
open Go Wk
open Go.RowKit (Below)
attribute [local irreducible] Go.Calls
section
variable {Pb:Nat→Prop} {bw bm:Nat} {N:List Nb} {ord:List Nat} {fl:List (Nm×Int)} {nv ov:Value} {W W':World}
theorem PE (g:WkM Pb bw bm N ord fl nv ov W) (ho: ∀i∈ord,i<N.length∧(bnF N i).reason=0) (hst: ∀i,stF N i≤2) (hol:ord.length≤512):
 Calls Tryz.prog 88 #[pT bw] W (Ret fun r w'=> ∃N' tv wv,r=.agg #[tv,wv]∧WkM Pb bw bm N' ord fl nv ov w'∧N'.length=N.length∧bnF N'=bnF N∧stF N'=(oH (bnF N) (flF fl) ord (stF N)).2∧nN (Wk.one viN) 3 1 (fun b=>W.heap.size≤b) NoB w' tv (oH (bnF N) (flF fl) ord (stF N)).1.tried∧nN (flat wtC) 161 2 (fun b=>W.heap.size≤b) NoB w' wv (oH (bnF N) (flF fl) ord (stF N)).1.waits∧Chg (fun k=>nv.ownBlock=some k) W w'):=by
 have hnl:=g.nl
 replace g:=g.mono (Pb':=fun b=>Pb b∧b<W.heap.size) fun b hb e=>⟨e,hb⟩
 obtain ⟨na,nc,rfl,_,_⟩:=g.nd.row.form
 obtain ⟨oa,oc,rfl,_,_⟩:=g.od.form
 have Ti: ∀k,(Value.slice na N.length nc).ownBlock=some k→k<W.heap.size:=fun k hk=>(g.nd.row.lt hk).2
 refine nH Tryz.func88 rfl Tryz.ntmps88 rfl ?_
 (repeat' (first|refine au ?_|refine ak ?_))
 refine Wl.alloc fun w1 b2 n1 s1=>?_
 replace b2:Bk w1 W.heap.size 76 [.slice none 0 0,.slice none 0 0]:=b2
 (repeat' (first|refine af ?_|refine ah ?_|refine au ?_|refine ak ?_))
 refine Wl.alloc fun w2 b3 n2 s2=>?_
 replace b3:Bk w2 w1.heap.size 76 [.slice none 0 0,.slice none 0 0]:=b3
 have n02:=New.trans n1 n2
 have g2:=g.new n02
 replace b2:=b2.chg n2 fun e=>e
 (repeat' (first|refine aa0 ?_|refine af ?_|refine ah ?_|refine au ?_|refine ak ?_|refine bK rfl ?_|refine aa5 ?_))
 refine ay (u:=.slice oa ord.length oc) rfl (g2.b.cell (o:=1) rfl) ?_
 (repeat' (first|refine aa0 ?_|refine af ?_|refine aI rfl ?_|refine ah ?_|refine Wc.block ?_))
 refine aS (σ:=Nat×List Nb×Value×Value×List Nat×List (Nat×Nat)) (fun q=>[(0,pT bw),(2,pT W.heap.size),(3,pT w1.heap.size),(10,.slice oa ord.length oc),(11,vi ord.length),(12,vi q.1)])
  (fun q w'=>q.1≤ord.length∧WkM (fun b=>Pb b∧b<W.heap.size) bw bm q.2.1 ord fl (.slice na N.length nc) (.slice oa ord.length oc) w'∧q.2.1.length=N.length∧bnF q.2.1=bnF N∧(∀j,stF q.2.1 j≤2)∧oH (bnF N) (flF fl) ord (stF N)=(⟨q.2.2.2.2.1++(oH (bnF N) (flF fl) (ord.drop q.1) (stF q.2.1)).1.tried,q.2.2.2.2.2++(oH (bnF N) (flF fl) (ord.drop q.1) (stF q.2.1)).1.waits⟩,(oH (bnF N) (flF fl) (ord.drop q.1) (stF q.2.1)).2)∧Bk w' w1.heap.size 76 [q.2.2.1,q.2.2.2.1]∧Bk w' W.heap.size 76 [.slice none 0 0,.slice none 0 0]∧nN (Wk.one viN) 3 1 (fun b=>w2.heap.size≤b) NoB w' q.2.2.1 q.2.2.2.2.1∧nN (flat wtC) 161 2 (fun b=>w2.heap.size≤b) NoB w' q.2.2.2.1 q.2.2.2.2.2∧q.2.2.2.2.1.length+q.2.2.2.2.2.length≤q.1∧w2.heap.size≤w'.heap.size∧Chg (fun k=>(Value.slice na N.length nc).ownBlock=some k) W w') (fun q=>ord.length-q.1)
  (0,N,.slice none 0 0,.slice none 0 0,[],[]) ⟨rfl,rfl,rfl,rfl,rfl,rfl,trivial⟩ ⟨Nat.zero_le _,g2,rfl,rfl,hst,rfl,b3,b2,bH,bH,Nat.le_refl _,Nat.le_refl _,n02.any⟩ ?_
 have hz1:=n1.size
 have hz2:=n2.size
 have aax:=b2.lt
 have afj:=b3.lt
 clear g2 b2 b3 n02
 rintro ⟨k,N',tv,wv,T,Q⟩ G w3 ⟨hk,g3,hN,hbn,hs3,hgo,b3,b2,oT,oQ,hTQ,hz3,c3⟩
 dsimp only at hk g3 hN hbn hs3 hgo b3 b2 oT oQ hTQ hz3 c3
 simp only [oP]
 obtain ⟨ta,tc,rfl,_,_⟩:=oT.form
 obtain ⟨qa,qc,rfl,_,_⟩:=oQ.form
 have hod:=g3.od.rd qX.mo
 have hrd:=g3.nd.row.rd (nO nbC)
 (repeat' (first|refine af ?_|refine ah ?_|refine au ?_|refine ak ?_|refine Wc.block ?_|refine Wc.skip ?_|refine aK ?_|refine aN ?_|refine aJ ?_|refine aP ?_|refine aa3 ?_|refine aa4 ?_|refine pF (fun _=>?_) (fun _=>?_)))
 ·obtain ⟨j,hj⟩:=nP ord (k:=k) (by omega)
  obtain ⟨hjl,hjr⟩:=ho j (List.mem_of_getElem? hj)
  obtain ⟨x,hx⟩:=nP N' (k:=j) (by omega)
  have hsx:=wG hx
  have hx2:=hs3 j
  rw [hsx] at hx2
  rw [drop_cons hj,rG,hsx] at hgo
  refine bT hod rfl rfl (by omega) hj fun b o hcell=>?_
  refine ay (u:=vi j) rfl hcell ?_
  (repeat' (first|refine aa0 ?_|refine aa1 ?_|refine af ?_|refine ah ?_|refine au ?_|refine ak ?_|refine bK rfl ?_|refine aa5 ?_))
  refine ay (u:=.slice na N.length nc) rfl (g3.b.cell (o:=0) rfl) ?_
  (repeat' (refine aa0 ?_))
  refine aZ hrd rfl rfl (by omega) (by rw [Int.toNat_natCast];exact hx) fun b o cs hl hR hat=>?_
  obtain rfl:cs=nbC x:=hR
  refine bG hat rfl rfl ?_
  clear hat
  refine Wl.alloc fun w4 b5 n4 s4=>?_
  refine aV (new:=nbC x) b5 rfl rfl rfl rfl (show (9:Nat)≤9 from Nat.le_refl 9) (Tf x) fun w5 b5' c5 s5=>?_
  replace b5':Bk w5 w3.heap.size 118 (nbC x):=b5'
  have n35:New w3 w5:=(Chg.trans n4.any c5 fun _ _ e=>e).toNew fun k hk e=>by omega
  clear b5 n4 c5
  have g5:=g3.new n35
  have b35:=b3.chg n35 fun e=>e
  have b25:=b2.chg n35 fun e=>e
  have oT5:=oT.new (nK _) n35
  have oQ5:=oQ.new (nG wtC) n35
  have hz5:=n35.size
  have c05:=Chg.trans c3 (n35.any (M:=fun k=>(Value.slice na N.length nc).ownBlock=some k)) fun _ _ e=>e
  clear g3 b3 b2 oT oQ c3 hod hrd
  (repeat' (first|refine af ?_|refine ah ?_|refine au ?_|refine ak ?_|refine Wc.block ?_|refine aa5 ?_))
  refine ay (u:=.bool (x.st == 1)) rfl (b5'.cell (o:=7) rfl) ?_
  have hsame:x.st≠0→(k+1≤ord.length∧WkM (fun b=>Pb b∧b<W.heap.size) bw bm N' ord fl (.slice na N.length nc) (.slice oa ord.length oc) w5∧N'.length=N.length∧bnF N'=bnF N∧(∀j,stF N' j≤2)∧oH (bnF N) (flF fl) ord (stF N)=(⟨T++(oH (bnF N) (flF fl) (ord.drop (k+1)) (stF N')).1.tried,Q++(oH (bnF N) (flF fl) (ord.drop (k+1)) (stF N')).1.waits⟩,(oH (bnF N) (flF fl) (ord.drop (k+1)) (stF N')).2)∧Bk w5 w1.heap.size 76 [.slice ta T.length tc,.slice qa Q.length qc]∧Bk w5 W.heap.size 76 [.slice none 0 0,.slice none 0 0]∧nN (Wk.one viN) 3 1 (fun b=>w2.heap.size≤b) NoB w5 (.slice ta T.length tc) T∧nN (flat wtC) 161 2 (fun b=>w2.heap.size≤b) NoB w5 (.slice qa Q.length qc) Q∧T.length+Q.length≤k+1∧w2.heap.size≤w5.heap.size∧Chg (fun k=>(Value.slice na N.length nc).ownBlock=some k) W w5):=fun e=>by
   rw [if_pos e] at hgo
   exact ⟨by omega,g5,hN,hbn,hs3,hgo,b35,b25,oT5,oQ5,by omega,by omega,c05⟩
  cases hs1:(x.st == 1) with
  |true=>
   have hs1':x.st=1:=by simpa using hs1
   (repeat' (first|refine aa0 ?_|refine aa1 ?_|refine af ?_|refine qo ?_|refine pU ?_|refine ah ?_|refine ak ?_|refine Wc.skip ?_|refine aH ?_|refine aa3 ?_|refine aa8 ?_))
   exact aG (k+1,N',_,_,T,Q) ⟨rfl,rfl,rfl,rfl,rfl,rfl,trivial⟩ (hsame (by omega)) (by dsimp only;omega)
  |false=>
  have hs1':x.st≠1:=by simpa using hs1
  (repeat' (first|refine aa0 ?_|refine aa6 ?_|refine aa5 ?_))
  refine ay (u:=.bool (x.st == 2)) rfl (b5'.cell (o:=8) rfl) ?_
  cases hs2:(x.st == 2) with
  |true=>
   have hs2':x.st=2:=by simpa using hs2
   (repeat' (first|refine aa0 ?_|refine aa1 ?_|refine af ?_|refine pJ ?_|refine ah ?_|refine ak ?_|refine Wc.skip ?_|refine aH ?_|refine aa3 ?_|refine aa8 ?_))
   exact aG (k+1,N',_,_,T,Q) ⟨rfl,rfl,rfl,rfl,rfl,rfl,trivial⟩ (hsame (by omega)) (by dsimp only;omega)
  |false=>
  have hs2':x.st≠2:=by simpa using hs2
  have hs0:x.st=0:=by omega
  clear hsame b5'
  rw [if_neg (fun e=>e hs0)] at hgo
  (repeat' (first|refine aa0 ?_|refine aa1 ?_|refine af ?_|refine pJ ?_|refine ah ?_|refine au ?_|refine ak ?_|refine aa4 ?_))
  refine aB (JD g5 (i:=j) (by omega) (hs3 j)) rfl ?_
  rintro _ w6 ⟨rfl,N2,g6,hl6,hb6,hs6,c6⟩
  have aay:N2.length=N.length:=by omega
  have II:bnF N2=bnF N:=hb6.trans hbn
  have hs62: ∀q,stF N2 q≤2:=by rw [hs6];exact NE hs3
  have hz6:=c6.size
  have b36:=b35.chg c6 fun e=>by have:=Ti _ e;omega
  have b26:=b25.chg c6 fun e=>by have:=Ti _ e;omega
  have oT6:=oT5.chg (nK _) c6 fun q hq e=>by have h9:w2.heap.size≤q:=(oT5.lt hq).1;have:=Ti q e;omega
  have oQ6:=oQ5.chg (nG wtC) c6 fun q hq e=>by have h9:w2.heap.size≤q:=(oQ5.lt hq).1;have:=Ti q e;omega
  have c06:=Chg.trans c05 c6 fun _ _ e=>e
  clear g5 b35 b25 oT5 oQ5 c05 c6
  rw [←hbn] at hgo
  cases hlk:qH (bnF N') (flF fl) (stF N') j with
  |some S'=>
   rw [hlk] at hgo hs6
   rw [hbn] at hgo
   replace hs6:stF N2=S':=hs6
   rw [←hs6] at hgo
   dsimp only at hgo
   (repeat' (first|refine aa1 ?_|refine af ?_|refine ah ?_|refine ak ?_|refine aa3 ?_|refine aa5 ?_))
   refine ay (u:=.slice ta T.length tc) rfl (b36.cell (o:=0) rfl) ?_
   (repeat' (refine aa0 ?_))
   refine dn (R:=Wk.one viN) (y:=j) qX oT6 rfl rfl rfl rfl rfl (by omega) (by omega) (by simp only [maxLen];omega) (by omega) rfl rfl fun v7 w7 p o7 c7 lie=>?_
   have b37:=b36.chg c7 fun e=>oT6.pR b36 rfl e rfl
   have hz7:=c7.size
   (repeat' (refine aa5 ?_))
   refine bf (u:=v7) b37 rfl (show (0:Nat)<2 by omega) rfl (by obtain ⟨_,_,rfl,_⟩:=o7.form;rfl) fun w8 b38 c8=>?_
   have hz8:=c8.size
   (repeat' (first|refine aa0 ?_|refine af ?_|refine ah ?_|refine ak ?_|refine aH ?_|refine aa8 ?_))
   refine aG (k+1,N2,v7,_,T++ [j],Q) ⟨rfl,rfl,rfl,rfl,rfl,rfl,trivial⟩ ⟨by dsimp only;omega,(g6.chg c7 fun q hq e=>by have h9:w2.heap.size≤q:=(oT6.lt e).1;have:=hq.2;omega).chg c8 fun q hq e=>(by have:=hq.2;omega),aay,II,hs62,?_,b38,(b26.chg c7 fun e=>oT6.pR b26 rfl e rfl).chg c8 fun e=>(by omega),(o7.mono (nX _) (fun b _ e=>by rcases e with e|e;exact e;omega) (fun _ _ e=>e)).chg (nK _) c8 fun q hq e=>o7.pR b37 rfl hq e,(oQ6.chg (nG wtC) c7 fun q hq e=>oQ6.tZ oT6 rfl q hq e).chg (nG wtC) c8 fun q hq e=>oQ6.pR b36 rfl hq e,by dsimp only;rw [List.length_append,List.length_singleton];omega,by omega,Chg.trans (Chg.trans c06 c7 fun q hq e=>by have h9:w2.heap.size≤q:=(oT6.lt e).1;omega) c8 fun q hq e=>by omega⟩ (by dsimp only;omega)
   dsimp only
   rw [hgo]
   simp
  |none=>
   rw [hlk] at hgo hs6
   rw [hbn] at hgo
   replace hs6:stF N2=stF N':=hs6
   have hwm: ∃m,qM (bnF N) (stF N') j=some m:=by
    cases hw:qM (bnF N) (stF N') j with
    |some m=>exact ⟨m,rfl⟩
    |none=>unfold qH at hlk;rw [hbn,hjr,hsx,hs0,if_pos ⟨rfl,rfl,hw⟩] at hlk;cases hlk
   obtain ⟨m,hwm⟩:=hwm
   rw [hwm,Option.getD_some] at hgo
   dsimp only at hgo
   (repeat' (first|refine aa1 ?_|refine af ?_|refine ah ?_|refine aa4 ?_))
   refine bP rfl (by kernel_rfl) (fun w'=>Chg (fun q=>(Value.slice qa Q.length qc).ownBlock=some q) w6 w') (Chg.drew _ _) ?_
   intro w7 n7
   (repeat' (refine aa2 (aa7 (ax ?_))))
   refine aa2 (aC (u:=.slice qa Q.length qc) rfl (fun w' hw=>(b36.chg hw fun e=>oQ6.pR b36 rfl e rfl).cell (o:=1) rfl) (ax ?_))
   (repeat' (refine aa2 (aa9 (ax ?_))))
   refine aU rfl (aB (zI (g6.new n7) (i:=j) (by omega)) rfl ?_)
   rintro _ w8 ⟨rfl,n8⟩
   have n68:=n7.trans n8
   rw [II,hs6,hwm,show qx (some m)=(m:Int) from rfl]
   refine af ⟨rfl,n68.any,?_⟩
   refine aU rfl (bU (ps:=[(0,.tmp 25),(1,.tmp 28)]) (parts:=[(0,vi j),(1,vi m)]) rfl rfl (by simp [Value.cells]) (af ⟨rfl,n68.any,?_⟩))
   refine aU rfl (bY (R:=flat wtC) (Pe:=NoB) (y:=(j,m)) PD rfl rfl rfl rfl (by omega) (by omega) fun v9 w9 o9 n9 s9 e9=>?_)
   have n69:=n68.trans n9
   refine af ⟨rfl,n69.any,?_⟩
   refine aU rfl (cu PD (oQ6.new (nG wtC) n69) (o9.rd PD.mo) (fun y cs hy=>hy) rfl rfl (by omega) (by simp only [maxLen,List.length_singleton];omega) (by simp only [List.length_singleton];omega) fun v10 w10 o10 c10 lie _=>?_)
   have afk:=n69.size
   have EN:Chg (fun q=>(Value.slice qa Q.length qc).ownBlock=some q) w6 w10:=Chg.trans n69.any c10 fun _ _ e=>e
   refine af ⟨rfl,EN,?_⟩
   have IL:=b36.chg EN fun e=>oQ6.pR b36 rfl e rfl
   have Xb:=EN.size
   (repeat' (refine aa2 (aa7 (ax ?_))))
   refine Wt.last rfl (bf (u:=v10) IL rfl (show (1:Nat)<2 by omega) rfl (by obtain ⟨_,_,rfl,_⟩:=o10.form;rfl) fun w11 Ii c11=>?_)
   have U7:=c11.size
   refine af ?_
   (repeat' (first|refine aa0 ?_|refine af ?_|refine ah ?_|refine ak ?_|refine aH ?_|refine aa8 ?_))
   refine aG (k+1,N2,_,v10,T,Q++ [(j,m)]) ⟨rfl,rfl,rfl,rfl,rfl,rfl,trivial⟩ ⟨by dsimp only;omega,(g6.chg EN fun q hq e=>by have h9:w2.heap.size≤q:=(oQ6.lt e).1;have:=hq.2;omega).chg c11 fun q hq e=>(by have:=hq.2;omega),aay,II,hs62,?_,Ii,(b26.chg EN fun e=>oQ6.pR b26 rfl e rfl).chg c11 fun e=>(by omega),(oT6.chg (nK _) EN fun q hq e=>oT6.tZ oQ6 rfl q hq e).chg (nK _) c11 fun q hq e=>oT6.pR b36 rfl hq e,(o10.mono (nO wtC) (fun b _ e=>by rcases e with e|e;exact e;omega) (fun _ _ e=>e)).chg (nG wtC) c11 fun q hq e=>o10.pR IL rfl hq e,by dsimp only;rw [List.length_append,List.length_singleton];omega,by omega,Chg.trans (Chg.trans c06 EN fun q hq e=>by have h9:w2.heap.size≤q:=(oQ6.lt e).1;omega) c11 fun q hq e=>by omega⟩ (by dsimp only;omega)
   dsimp only
   rw [hgo,hs6]
   simp
 ·obtain rfl:k=ord.length:=by omega
  rw [List.drop_length,oH] at hgo
  simp only [List.append_nil] at hgo
  refine bM b3 rfl rfl ?_
  refine aV (new:=[.slice ta T.length tc,.slice qa Q.length qc]) b2 rfl rfl rfl rfl (show (2:Nat)≤2 from Nat.le_refl 2) (by intro c hc;simp at hc;rcases hc with rfl|rfl<;>rfl) fun w4 b4 c4 s4=>?_
  replace b4:Bk w4 W.heap.size 76 [.slice ta T.length tc,.slice qa Q.length qc]:=b4
  (repeat' (first|refine af ?_|refine ah ?_|refine aA ?_))
  refine eG (yJ (a:=.cell 2 76) rfl (tC rfl rfl b4 rfl)) ⟨_,rfl,N',.slice ta T.length tc,.slice qa Q.length qc,rfl,(g3.chg c4 fun q hq e=>by have:=hq.2;omega).mono fun b _ e=>e.1,hN,hbn,by rw [hgo],?_,?_,Chg.trans c3 c4 fun q hq e=>by omega⟩
  ·rw [hgo]
   exact (oT.chg (nK _) c4 fun q hq e=>oT.pR b2 rfl hq e).mono (nX _) (fun b _ e=>by have h9:w2.heap.size≤b:=e;omega) (fun _ _ e=>e)
  ·rw [hgo]
   exact (oQ.chg (nG wtC) c4 fun q hq e=>oQ.pR b2 rfl hq e).mono (nO wtC) (fun b _ e=>by have h9:w2.heap.size≤b:=e;omega) (fun _ _ e=>e)
end
end Go.Proofs.YtjecgaiaiophpaaGreatDoor
namespace Go.Proofs.YtjecgaiaiophpaaGreatDoor
open Go Wk
open Go.RowKit (Below)
attribute [local irreducible] Go.Calls
section
variable {bw:Nat} {N:List Nb} {ov:Value} {w:World}
theorem Tj {a c b8:Nat} {na:Option Addr} {nc:Nat} {mv:Value} {Pr:Nat→Prop} (hnl:N.length≤512) (gb:Bk w bw 108 [.slice na N.length nc,ov,mv]) (hrd:RdS (flat nbC) 9 Pr w (.slice na N.length nc) N) (h8:Bk w b8 42 [pT bw]) (ha:a<N.length) (hc:c<N.length):
 Calls Tryz.prog 49 #[vi a,vi c,.pointer (some ⟨b8,0,none⟩)] w (Ret fun r w'=>r=vi (qZ (fun i=>(bnF N i).level) (fun i=>(bnF N i).path) a c)∧Grw w w'):=by
 obtain ⟨x,hx⟩:=nP N ha
 obtain ⟨y,hy⟩:=nP N hc
 have hkey:qZ (fun i=>(bnF N i).level) (fun i=>(bnF N i).path) a c=orM [x8 x.bn.level y.bn.level,DK x.bn.path y.bn.path]:=by
  rw [←sS hx, ←sS hy, ←QB]
 rw [hkey]
 refine nH Tryz.func49 rfl Tryz.ntmps49 rfl ?_
 (repeat' (first|refine aa1 ?_|refine af ?_|refine ah ?_|refine au ?_|refine ak ?_))
 refine gy [0,1,2,3,4,5,6,7,8,9,10,11,12,13,14,15,17,18,19,20,21,22,23,24,25,26,27,28,29,30,31,32] [16,33,34,35,36] rfl (by kernel_rfl) (by simp only [pick,List.getElem?_cons_succ,List.getElem?_cons_zero];rfl) (by simp only [pick,List.getElem?_cons_succ,List.getElem?_cons_zero];rfl) (Grw w) (Grw.drew w) ?_
 skip
 refine aC (u:=pT bw) rfl (fun w' hw=>(h8.chg hw.new fun e=>e).cell (o:=0) rfl) ?_
 (repeat' (first|refine bD rfl ?_|refine aa7 ?_))
 refine aC (u:=.slice na N.length nc) rfl (fun w' hw=>(gb.chg hw.new fun e=>e).cell (o:=0) rfl) ?_
 (repeat' (refine aa9 ?_))
 refine bV hrd (fun w' hw=>hw.new.keep) rfl rfl (by omega) (by rw [Int.toNat_natCast];exact hx) fun bb off cs' hcl hR hat=>?_
 obtain rfl:cs'=nbC x:=hR
 (repeat' (refine aa7 ?_))
 refine aC (u:=.int .u8 x.bn.level) rfl (fun w' hw=>(hat w' hw).get 2 rfl) ?_
 clear hat
 skip
 refine aC (u:=pT bw) rfl (fun w' hw=>(h8.chg hw.new fun e=>e).cell (o:=0) rfl) ?_
 (repeat' (first|refine bD rfl ?_|refine aa7 ?_))
 refine aC (u:=.slice na N.length nc) rfl (fun w' hw=>(gb.chg hw.new fun e=>e).cell (o:=0) rfl) ?_
 (repeat' (refine aa9 ?_))
 refine bV hrd (fun w' hw=>hw.new.keep) rfl rfl (by omega) (by rw [Int.toNat_natCast];exact hy) fun bb off cs' hcl hR hat=>?_
 obtain rfl:cs'=nbC y:=hR
 (repeat' (refine aa7 ?_))
 refine aC (u:=.int .u8 y.bn.level) rfl (fun w' hw=>(hat w' hw).get 2 rfl) ?_
 clear hat
 skip
 refine aC (u:=pT bw) rfl (fun w' hw=>(h8.chg hw.new fun e=>e).cell (o:=0) rfl) ?_
 (repeat' (first|refine bD rfl ?_|refine aa7 ?_))
 refine aC (u:=.slice na N.length nc) rfl (fun w' hw=>(gb.chg hw.new fun e=>e).cell (o:=0) rfl) ?_
 (repeat' (refine aa9 ?_))
 refine bV hrd (fun w' hw=>hw.new.keep) rfl rfl (by omega) (by rw [Int.toNat_natCast];exact hx) fun bb off cs' hcl hR hat=>?_
 obtain rfl:cs'=nbC x:=hR
 (repeat' (refine aa7 ?_))
 refine aC (u:=vs x.bn.path) rfl (fun w' hw=>(hat w' hw).get 0 rfl) ?_
 clear hat
 skip
 refine aC (u:=pT bw) rfl (fun w' hw=>(h8.chg hw.new fun e=>e).cell (o:=0) rfl) ?_
 (repeat' (first|refine bD rfl ?_|refine aa7 ?_))
 refine aC (u:=.slice na N.length nc) rfl (fun w' hw=>(gb.chg hw.new fun e=>e).cell (o:=0) rfl) ?_
 (repeat' (refine aa9 ?_))
 refine bV hrd (fun w' hw=>hw.new.keep) rfl rfl (by omega) (by rw [Int.toNat_natCast];exact hy) fun bb off cs' hcl hR hat=>?_
 obtain rfl:cs'=nbC y:=hR
 (repeat' (refine aa7 ?_))
 refine aC (u:=vs y.bn.path) rfl (fun w' hw=>(hat w' hw).get 0 rfl) ?_
 clear hat
 (repeat' (refine ax ?_))
 refine Wch.cons ?_
 refine aB (x9 (a:=x.bn.level) (b:=y.bn.level)) rfl ?_
 rintro _ _ ⟨rfl,rfl⟩
 refine af ⟨rfl,Grw.drew w,?_⟩
 refine Wch.cons ?_
 refine aB (wF (a:=x.bn.path) (b:=y.bn.path)) rfl ?_
 rintro _ _ ⟨rfl,rfl⟩
 refine af ⟨rfl,Grw.drew w,?_⟩
 refine Wch.cons ?_
 refine jd (us:=[x8 x.bn.level y.bn.level,DK x.bn.path y.bn.path]) rfl rfl (by simp) (by simp) fun v o own=>?_
 obtain ⟨va,ZU,rfl,_,_⟩:=own.form
 have hgr:Grw w (w.drew.alloc o):=(Grw.drew w).alloc o
 refine af ⟨rfl,hgr,?_⟩
 refine Wch.cons ?_
 refine aB (J5 (own.rd (nX _))) rfl ?_
 rintro _ _ ⟨rfl,rfl⟩
 refine af ⟨rfl,hgr,?_⟩
 refine Wch.last ?_
 (repeat' (first|refine aa1 ?_|refine af ?_|refine ah ?_|refine aA ?_))
 exact aF rfl rfl ⟨_,rfl,rfl,hgr⟩
end
end Go.Proofs.YtjecgaiaiophpaaGreatDoor
namespace Go.Proofs.YtjecgaiaiophpaaGreatDoor
open Go Wk
open Go.RowKit (Below)
attribute [local irreducible] Go.Calls
structure RdG (Pb:Nat→Prop) (w:World) (g:Giv) (tv cv fv gv:Value):Prop where
 t:RdS rNd 3 Pb w tv g.tree
 c:RdS rCd 7 Pb w cv g.cards
 f:RdS (Wk.one vs) 1 Pb w fv g.fails
 g:RdS (Wk.one vs) 1 Pb w gv g.gone
theorem RdG.keep {Pb:Nat→Prop} {w w':World} {g:Giv} {tv cv fv gv:Value} (h:RdG Pb w g tv cv fv gv) (hk:Keep Pb w w') (sc:Stable rCd):RdG Pb w' g tv cv fv gv:=
 ⟨h.t.keep nY hk,h.c.keep sc hk,h.f.keep (nV _) hk,h.g.keep (nV _) hk⟩
noncomputable def nS (g:Giv) (i:Nat):Bn:=if i<g.tree.length then zV g i else default
def Ri (g:Giv) (lo:Nat) (r:Value) (w':World):Prop:= ∃bw bm N fl nv ov,r=.tuple #[pT bw,vi 0]∧WkM (fun b=>lo≤b) bw bm N (oV (nS g) g.tree.length) fl nv ov w'∧N.length=g.tree.length∧bnF N=nS g∧(∀i,stF N i=0)∧ ∀s,flF fl s=g.fails.contains s
def rRd:Rel Rnd:=fun Pb w r cs=> ∃tv wv,cs=[tv,wv]∧nN (Wk.one viN) 3 1 Pb NoB w tv r.tried∧nN (flat wtC) 161 2 Pb NoB w wv r.waits
theorem Vz:Stable rRd:=fun _ _ _ _ _ hk ⟨tv,wv,e,h1,h2⟩=>⟨tv,wv,e,h1.keep (nV _) hk (fun _ e=>e.elim),h2.keep (oJ wtC) hk (fun _ e=>e.elim)⟩
theorem KQ:BP rRd:=fun _ _ _ _ _ hP ⟨tv,wv,e,h1,h2⟩=>⟨tv,wv,e,h1.mono (nX _) hP (fun _ _ e=>e),h2.mono (nO wtC) hP (fun _ _ e=>e)⟩
theorem CZ:qP rRd 2:=⟨Vz,KQ,fun Pb w x cs ⟨tv,wv,e,h1,h2⟩ _ c hc=>by
 obtain ⟨_,_,rfl,_,_⟩:=h1.form
 obtain ⟨_,_,rfl,_,_⟩:=h2.form
 subst e
 simp at hc
 rcases hc with rfl|rfl<;>rfl⟩
structure RdR (Pb:Nat→Prop) (w:World) (rw:List Rws) (rs:List Rnd) (us ds:List Ed) (a b c d:Value):Prop where
 rows:nN (flat rwC) 39 3 Pb NoB w a rw
 rounds:nN rRd 76 2 Pb Pb w b rs
 used:RdS rEd 6 Pb w c us
 drop:RdS rEd 6 Pb w d ds
def NF (g:Giv) (lo:Nat) (r:Value) (w':World):Prop:= ∃a b c d bw bm N fl nv ov,r=.tuple #[.agg #[a,b,c,d],pT bw,vi 0]∧
 RdR (fun b=>lo≤b) w' (rowsOf (nS g) (sO (nS g) g.fails.contains g.tree.length).2 g.tree.length) (sO (nS g) g.fails.contains g.tree.length).1 (H9 g.tree fun k=>(sO (nS g) g.fails.contains g.tree.length).2 k == 1).1 (H9 g.tree fun k=>(sO (nS g) g.fails.contains g.tree.length).2 k == 1).2 a b c d∧
 WkM (fun b=>lo≤b) bw bm N (oV (nS g) g.tree.length) fl nv ov w'∧N.length=g.tree.length∧bnF N=nS g∧(∀i,i<g.tree.length→stF N i=(sO (nS g) g.fails.contains g.tree.length).2 i)∧ ∀s,flF fl s=g.fails.contains s
theorem vP (N:Nat→Bn) (fl:Nm→Bool) (order:List Nat) (f:Nat) (S:St):doneGo N fl order (f+1) S=if (oH N fl order S).1.tried=[] then ((if (oH N fl order S).1.tried=[]∧(oH N fl order S).1.waits=[] then [] else [(oH N fl order S).1]),(oH N fl order S).2) else ((if (oH N fl order S).1.tried=[]∧(oH N fl order S).1.waits=[] then [] else [(oH N fl order S).1])++(doneGo N fl order f (oH N fl order S).2).1,(doneGo N fl order f (oH N fl order S).2).2):=by
 rw [doneGo]
end Go.Proofs.YtjecgaiaiophpaaGreatDoor
namespace Go.Proofs.YtjecgaiaiophpaaGreatDoor
open Go Wk
def qI (g:Giv):Int:=if oh g.tree=false then 40 else if rP g.cards=false then 70 else if 512<g.fails.length∨512<g.gone.length then 1 else 0
theorem tJ {g:Giv}:qI g=0↔oh g.tree=true∧rP g.cards=true∧g.fails.length≤512∧g.gone.length≤512:=by
 unfold qI
 cases oh g.tree<;>cases rP g.cards<;>simp
theorem AY {g:Giv} {i:Nat} (h:i<g.tree.length):nS g i=zV g i:=if_pos h
theorem VA {g:Giv} {i:Nat} (h: ¬i<g.tree.length):nS g i=default:=if_neg h
theorem NG (g:Giv) (i:Nat):(zV g i).wants=(if 0<i then [par g.tree i] else [])++AV g.tree i:=rfl
theorem Tm {t:List Nd} {i k:Nat}:k∈AV t i↔ ∃e∈oz t,e.src=i∧e.soft=false∧qN t i=true∧e.dst=some k:=by
 unfold AV
 rw [List.mem_filterMap]
 constructor
 ·rintro ⟨e,he,h⟩
  split at h
  ·rename_i hc;exact ⟨e,he,hc.1,hc.2.1,hc.2.2,h⟩
  ·cases h
 ·rintro ⟨e,he,h1,h2,h3,h4⟩
  exact ⟨e,he,by rw [if_pos ⟨h1,h2,h3⟩];exact h4⟩
theorem Tn {g:Giv} (hok:oh g.tree=true):InN (zV g) g.tree.length:=by
 intro i hi k hk
 rw [NG] at hk
 rcases List.mem_append.1 hk with hk|hk
 ·split at hk
  ·rename_i h0
   rw [List.mem_singleton.1 hk]
   have:=(uK hok (by omega) hi).1
   omega
  ·cases hk
 ·obtain ⟨e,he,_,_,_,h4⟩:=Tm.1 hk
  exact (wK e he).2 k h4
theorem JF {g:Giv} (hok:oh g.tree=true):InN (nS g) g.tree.length:=by
 intro i hi k hk
 rw [AY hi] at hk
 exact Tn hok i hi k hk
end Go.Proofs.YtjecgaiaiophpaaGreatDoor
namespace Go.Proofs.YtjecgaiaiophpaaGreatDoor
open Go Wk
theorem PG {N:Nat→Bn} {fl:Nm→Bool} {S S':St} {i:Nat} (h:qH N fl S i=some S'):S i=0∧S' i≠0∧ ∀k,S k≠0→S' k≠0:=by
 unfold qH at h
 split at h
 ·rename_i hc
  cases h
  refine ⟨hc.2.1,?_,fun k hk=>?_⟩
  ·dsimp only
   rw [if_pos rfl]
   split<;>omega
  ·dsimp only
   split
   ·split<;>omega
   ·exact hk
 ·cases h
theorem wH {N:Nat→Bn} {fl:Nm→Bool}: ∀(l:List Nat) (S:St),(∀k,S k≠0→(oH N fl l S).2 k≠0)∧ ∀j∈(oH N fl l S).1.tried,j∈l∧S j=0∧(oH N fl l S).2 j≠0
 | [],S=>⟨fun k h=>by rw [oH];exact h,fun j hj=>by rw [oH] at hj;cases hj⟩
 |i::r,S=>by
  rw [rG]
  by_cases h0:S i≠0
  ·rw [if_pos h0]
   obtain ⟨h1,h2⟩:=wH (N:=N) (fl:=fl) r S
   exact ⟨h1,fun j hj=>⟨List.mem_cons_of_mem _ (h2 j hj).1,(h2 j hj).2⟩⟩
  ·rw [if_neg h0]
   cases hl:qH N fl S i with
   |none=>
    obtain ⟨h1,h2⟩:=wH (N:=N) (fl:=fl) r S
    exact ⟨h1,fun j hj=>⟨List.mem_cons_of_mem _ (h2 j hj).1,(h2 j hj).2⟩⟩
   |some S'=>
    obtain ⟨h1,h2⟩:=wH (N:=N) (fl:=fl) r S'
    obtain ⟨k0,k1,k2⟩:=PG hl
    refine ⟨fun k hk=>h1 k (k2 k hk),fun j hj=>?_⟩
    rcases List.mem_cons.1 hj with e|hj
    ·subst e
     exact ⟨List.mem_cons_self,k0,h1 _ k1⟩
    ·obtain ⟨a1,a2,a3⟩:=h2 j hj
     refine ⟨List.mem_cons_of_mem _ a1,?_,a3⟩
     exact Decidable.byContradiction fun e=>k2 j e a2
theorem xO {N:Nat→Bn} {fl:Nm→Bool}: ∀(l:List Nat) (S:St),(oH N fl l S).1.tried.length+(oH N fl l S).1.waits.length≤l.length
 | [],S=>by rw [oH];simp
 |i::r,S=>by
  rw [rG]
  by_cases h0:S i≠0
  ·rw [if_pos h0]
   have:=xO (N:=N) (fl:=fl) r S
   rw [List.length_cons];omega
  ·rw [if_neg h0]
   cases hl:qH N fl S i with
   |none=>
    have:=xO (N:=N) (fl:=fl) r S
    simp only [List.length_cons];omega
   |some S'=>
    have:=xO (N:=N) (fl:=fl) r S'
    simp only [List.length_cons];omega
theorem zJ {N:Nat→Bn} {fl:Nm→Bool}: ∀(l:List Nat) (S:St),(∀k,S k≤2)→ ∀k,(oH N fl l S).2 k≤2
 | [],S,h,k=>by rw [oH];exact h k
 |i::r,S,h,k=>by
  rw [rG]
  by_cases h0:S i≠0
  ·rw [if_pos h0];exact zJ r S h k
  ·rw [if_neg h0]
   cases hl:qH N fl S i with
   |none=>exact zJ r S h k
   |some S'=>
    have:=NE (N:=N) (fl:=fl) (i:=i) h
    rw [hl] at this
    exact zJ r S' this k
def left0 (l:List Nat) (S:St):Nat:=(l.filter fun i=>S i == 0).length
theorem filter_lt {α:Type} {p q:α→Bool}: ∀ {l:List α},(∀x∈l,q x=true→p x=true)→(∃x∈l,p x=true∧q x=false)→(l.filter q).length<(l.filter p).length
 | [],_,h=>by obtain ⟨x,hx,_⟩:=h;cases hx
 |a::r,hs,h=>by
  have hr:(r.filter q).length≤(r.filter p).length:=by
   have:r.filter q=(r.filter p).filter q:=by
    rw [List.filter_filter]
    apply List.filter_congr
    intro x hx
    cases hq:q x with
    |false=>rfl
    |true=>rw [hs x (List.mem_cons_of_mem _ hx) hq];rfl
   rw [this];exact List.length_filter_le _ _
  obtain ⟨x,hx,hp,hq⟩:=h
  rcases List.mem_cons.1 hx with e|hx
  ·subst e
   rw [List.filter_cons,List.filter_cons,hp,hq]
   simp only [Bool.false_eq_true,if_false,if_true,List.length_cons]
   omega
  ·have:=filter_lt (p:=p) (q:=q) (fun y hy=>hs y (List.mem_cons_of_mem _ hy)) ⟨x,hx,hp,hq⟩
   rw [List.filter_cons,List.filter_cons]
   cases hqa:q a with
   |false=>
    simp only [Bool.false_eq_true,if_false]
    split
    ·simp only [List.length_cons];omega
    ·exact this
   |true=>
    rw [hs a List.mem_cons_self hqa]
    simp only [if_true,List.length_cons];omega
theorem PI {N:Nat→Bn} {fl:Nm→Bool} {l:List Nat} {S:St} (h:(oH N fl l S).1.tried≠ []):left0 l (oH N fl l S).2<left0 l S:=by
 obtain ⟨h1,h2⟩:=wH (N:=N) (fl:=fl) l S
 obtain ⟨j,hj⟩:=List.exists_mem_of_ne_nil _ h
 obtain ⟨a1,a2,a3⟩:=h2 j hj
 refine filter_lt (fun x _ hx=>?_) ⟨j,a1,by simpa using a2,by simpa using a3⟩
 have hx:=eq_of_beq hx
 exact beq_iff_eq.2 (Decidable.byContradiction fun e=>h1 x e hx)
end Go.Proofs.YtjecgaiaiophpaaGreatDoor
namespace Go.Proofs.YtjecgaiaiophpaaGreatDoor
open Go Wk
end Go.Proofs.YtjecgaiaiophpaaGreatDoor
namespace Go.Proofs.YtjecgaiaiophpaaGreatDoor
open Go Wk
theorem Fz: ∀(l:List Cd) (i:Nat) (seen:List Nm),i+l.length≤64→(∀c∈l,Gu c=true)→(l.map Cd.name).Nodup→(∀c∈l,c.name∉seen)→vz i seen l=true
 | [],i,seen,_,_,_,_=>by rw [vz]
 |c::r,i,seen,h1,h2,h3,h4=>by
  rw [vz]
  simp only [List.length_cons] at h1
  rw [List.map_cons,List.nodup_cons] at h3
  simp only [Bool.and_eq_true,decide_eq_true_eq,Bool.not_eq_true',List.contains_eq_mem,decide_eq_false_iff_not]
  refine ⟨by omega,h2 c List.mem_cons_self,h4 c List.mem_cons_self,Fz r (i+1) _ (by omega) (fun x hx=>h2 x (List.mem_cons_of_mem _ hx)) h3.2 fun x hx e=>?_⟩
  rcases List.mem_append.1 e with e|e
  ·exact h4 x (List.mem_cons_of_mem _ hx) e
  ·exact h3.1 (List.mem_map.2 ⟨x,hx,List.mem_singleton.1 e⟩)
theorem xP {l:List Cd}:rP l=true↔l.length≤64∧(∀c∈l,Gu c=true)∧(l.map Cd.name).Nodup:=
 ⟨fun h=>⟨E8 h,(zq l 0 [] h).2.1,Iy h⟩,fun h=>Fz l 0 [] (by rw [Nat.zero_add];exact h.1) h.2.1 h.2.2 (by simp)⟩
theorem KR {l l':List Cd} (h:l'.Perm l) (hc:rP l=true):rP l'=true:=by
 obtain ⟨h1,h2,h3⟩:=xP.1 hc
 exact xP.2 ⟨by rw [h.length_eq];exact h1,fun c hm=>h2 c (h.mem_iff.1 hm),(h.map Cd.name).nodup_iff.2 h3⟩
theorem KT {a b c:Cd} (h:better a b=true) (h2:better b c=true):better a c=true:=by
 unfold better at h h2 ⊢
 split at h<;>split at h2<;>split<;>simp only [decide_eq_true_eq] at h h2 ⊢ <;>try omega
 exact List.lt_trans h h2
theorem NH {a b:Cd} (h:better a b=false) (h2:better b a=false):a.name=b.name:=by
 unfold better at h h2
 split at h
 ·rename_i e
  rw [if_pos e.symm] at h2
  rw [decide_eq_false_iff_not] at h h2
  rcases Std.lt_trichotomy a.name b.name with h3|h3|h3
  ·exact absurd h3 h
  ·exact h3
  ·exact absurd h3 h2
 ·rename_i e
  rw [if_neg fun q=>e q.symm] at h2
  rw [decide_eq_false_iff_not] at h h2
  omega
theorem PK (a:Cd):better a a=false:=by
 unfold better
 rw [if_pos rfl,decide_eq_false_iff_not]
 exact List.lt_irrefl _
def PL (cs:List Cd) (s:Nm) (seen:List Cd) (b:Option Nat):Prop:=match b with
 |none=> ∀c∈seen,c.compat.contains s=false
 |some j=> ∃c,cs[j]? =some c∧c.compat.contains s=true∧ ∀d∈seen,d.compat.contains s=true→better d c=false
theorem JG {cs:List Cd} {s:Nm}: ∀(l seen:List Cd) (b:Option Nat),cs=seen++l→PL cs s seen b→PL cs s cs (tq cs s seen.length b l)
 | [],seen,b,e,h=>by
   rw [tq]
   rw [List.append_nil] at e
   rw [e];rw [e] at h;exact h
 |c::r,seen,b,e,h=>by
  rw [tq]
  have hc:cs[seen.length]? =some c:=by rw [e];simp
  have e2:cs=(seen++ [c])++r:=by rw [e];simp
  have:=JG (s:=s) r (seen++ [c]) (if c.compat.contains s=true∧(∀j,b=some j→better c (cs.getD j default)=true) then some seen.length else b) e2 ?_
  ·rw [List.length_append,List.length_singleton] at this;exact this
  ·by_cases h1:c.compat.contains s=true
   ·by_cases h2: ∀j,b=some j→better c (cs.getD j default)=true
    ·rw [if_pos ⟨h1,h2⟩]
     refine ⟨c,hc,h1,fun d hd hs=>?_⟩
     rcases List.mem_append.1 hd with hd|hd
     ·cases b with
      |none=>have:=h d hd;rw [hs] at this;cases this
      |some j=>
       obtain ⟨x,hx,_,hx2⟩:=h
       have h3:better c x=true:=by
        have:=h2 j rfl
        rw [List.getD_eq_getElem?_getD,hx] at this;exact this
       cases hb:better d c with
       |false=>rfl
       |true=>have:=hx2 d hd hs;rw [KT hb h3] at this;cases this
     ·rw [List.mem_singleton.1 hd];exact PK c
    ·rw [if_neg fun q=>h2 q.2]
     cases b with
     |none=>exact absurd (fun j e=>by cases e) h2
     |some j=>
      obtain ⟨x,hx,hx1,hx2⟩:=h
      refine ⟨x,hx,hx1,fun d hd hs=>?_⟩
      rcases List.mem_append.1 hd with hd|hd
      ·exact hx2 d hd hs
      ·rw [List.mem_singleton.1 hd]
       cases hb:better c x with
       |false=>rfl
       |true=>
        refine absurd (fun k e=>?_) h2
        cases e
        rw [List.getD_eq_getElem?_getD,hx];exact hb
   ·rw [if_neg fun q=>h1 q.1]
    have h1:c.compat.contains s=false:=by simpa using h1
    cases b with
    |none=>
     intro d hd
     rcases List.mem_append.1 hd with hd|hd
     ·exact h d hd
     ·rw [List.mem_singleton.1 hd];exact h1
    |some j=>
     obtain ⟨x,hx,hx1,hx2⟩:=h
     refine ⟨x,hx,hx1,fun d hd hs=>?_⟩
     rcases List.mem_append.1 hd with hd|hd
     ·exact hx2 d hd hs
     ·rw [List.mem_singleton.1 hd,h1] at hs;cases hs
theorem NI (cs:List Cd) (s:Nm):PL cs s cs (yC cs s):=JG cs [] none rfl (fun c hc=>by cases hc)
abbrev IQ (cs:List Cd) (k:Nat):Cd:=cs.getD k default
theorem PN {cs:List Cd} (h:(cs.map Cd.name).Nodup): ∀ {a b:Cd},a∈cs→b∈cs→a.name=b.name→a=b:=by
 induction cs with
 |nil=>intro a b ha;cases ha
 |cons x r ih=>
  intro a b ha hb e
  rw [List.map_cons,List.nodup_cons] at h
  rcases List.mem_cons.1 ha with ea|ha'
  ·rcases List.mem_cons.1 hb with eb|hb'
   ·rw [ea,eb]
   ·exact absurd (List.mem_map.2 ⟨b,hb',by rw [←e,ea]⟩) h.1
  ·rcases List.mem_cons.1 hb with eb|hb'
   ·exact absurd (List.mem_map.2 ⟨a,ha',by rw [e,eb]⟩) h.1
   ·exact ih h.2 ha' hb' e
theorem PO {cs cs':List Cd} (hp:cs'.Perm cs) (hn:(cs.map Cd.name).Nodup) (s:Nm):(yC cs' s).map (IQ cs')=(yC cs s).map (IQ cs):=by
 have h:=NI cs s
 have h':=NI cs' s
 cases hb:yC cs s with
 |none=>
  rw [hb] at h
  cases hb':yC cs' s with
  |none=>rfl
  |some j=>
   rw [hb'] at h'
   obtain ⟨c,hc,hs,_⟩:=h'
   have:=h c (hp.mem_iff.1 (List.mem_of_getElem? hc))
   rw [hs] at this;cases this
 |some k=>
  rw [hb] at h
  obtain ⟨c,hc,hs,hm⟩:=h
  cases hb':yC cs' s with
  |none=>
   rw [hb'] at h'
   have:=h' c (hp.mem_iff.2 (List.mem_of_getElem? hc))
   rw [hs] at this;cases this
  |some j=>
   rw [hb'] at h'
   obtain ⟨c',hc',hs',hm'⟩:=h'
   have m1:=List.mem_of_getElem? hc
   have m2:=hp.mem_iff.1 (List.mem_of_getElem? hc')
   have e:=PN hn m1 m2 (NH (hm' c (hp.mem_iff.2 m1) hs) (hm c' m2 hs'))
   simp only [Option.map_some,IQ,List.getD_eq_getElem?_getD,hc,hc',Option.getD_some,e]
theorem PS {cs cs':List Cd} (hp:cs'.Perm cs) (hn:(cs.map Cd.name).Nodup) (texts:List Nm):(uJ cs' texts).map (fun p=>IQ cs' p.1)=(uJ cs texts).map fun p=>IQ cs p.1:=by
 unfold uJ
 generalize 0=k
 induction texts generalizing k with
 |nil=>rfl
 |cons s r ih=>
  rw [zu,zu]
  have:=PO hp hn s
  cases hb:yC cs s with
  |none=>
   cases hb':yC cs' s with
   |none=>exact ih (k+1)
   |some j=>rw [hb,hb'] at this;cases this
  |some i=>
   cases hb':yC cs' s with
   |none=>rw [hb,hb'] at this;cases this
   |some j=>rw [hb,hb'] at this;exact this
def Ij (cs:List Cd) (t:List Nd) (i:Nat):Option Cd:=(qh cs t i).map (IQ cs)
theorem zK {cs cs':List Cd} (hp:cs'.Perm cs) (hn:(cs.map Cd.name).Nodup) (t:List Nd) (i:Nat):Ij cs' t i=Ij cs t i:=by
 unfold Ij qh
 rw [Option.map_map,Option.map_map]
 exact PS hp hn _
theorem Ik {cs cs':List Cd} (hp:cs'.Perm cs) (hn:(cs.map Cd.name).Nodup) (t:List Nd) (i:Nat):qh cs' t i=none↔qh cs t i=none:=by
 have:=zK hp hn t i
 unfold Ij at this
 rw [←Option.map_eq_none_iff (f:=IQ cs'),this,Option.map_eq_none_iff]
theorem JH (cs:List Cd) (t:List Nd) (i:Nat):xY cs t i=match Ij cs t i with|some c=>c.level|none=>0:=by
 unfold xY Ij
 cases qh cs t i<;>rfl
theorem NJ {cs cs':List Cd} (hp:cs'.Perm cs) (hn:(cs.map Cd.name).Nodup) (t:List Nd):xY cs' t=xY cs t:=by
 funext i
 rw [JH,JH,zK hp hn]
theorem PU {cs cs':List Cd} (hp:cs'.Perm cs) (hn:(cs.map Cd.name).Nodup) (t:List Nd):zT cs' t=zT cs t:=by
 unfold zT
 rw [NJ hp hn]
 have: ∀i,(qh cs' t i).isSome=(qh cs t i).isSome:=fun i=>by
  have:=Ik hp hn t i
  cases h1:qh cs' t i<;>cases h2:qh cs t i<;>simp_all
 congr 1
 apply List.filter_congr
 intro i _
 rw [this]
theorem KU {cs cs':List Cd} (hp:cs'.Perm cs) (hn:(cs.map Cd.name).Nodup) (t:List Nd):qC cs' t=qC cs t:=by
 unfold qC;rw [PU hp hn]
abbrev Giv.with (g:Giv) (cs:List Cd):Giv:=⟨g.tree,cs,g.fails,g.gone⟩
theorem NK {g:Giv} {cs':List Cd} (hp:cs'.Perm g.cards) (hn:(g.cards.map Cd.name).Nodup) (i:Nat):firstM (g.with cs') i=firstM g i:=by
 unfold firstM
 dsimp only
 rw [KU hp hn]
 have hi:(qN g.tree i=true∧qh cs' g.tree i=none)↔(qN g.tree i=true∧qh g.cards g.tree i=none):=by rw [Ik hp hn]
 have hg:uj (g.with cs') i=uj g i:=rfl
 rw [hg]
 split
 ·rfl
 ·by_cases h:qN g.tree i=true∧qh g.cards g.tree i=none
  ·rw [if_pos h,if_pos (hi.2 h)]
  ·rw [if_neg h,if_neg fun e=>h (hi.1 e)]
theorem PV {g:Giv} {cs':List Cd} (hp:cs'.Perm g.cards) (hn:(g.cards.map Cd.name).Nodup) (i:Nat):nS (g.with cs') i={nS g i with card:=(nS (g.with cs') i).card}:=by
 unfold nS
 dsimp only
 split
 ·unfold zV
  dsimp only
  rw [NK hp hn]
  have hl: ∀d:Bool,(match (if d=true then qh cs' g.tree i else none) with|some k=>(cs'.getD k default).level|none=>(0:Int))=match (if d=true then qh g.cards g.tree i else none) with|some k=>(g.cards.getD k default).level|none=>0:=by
   intro d
   cases d with
   |false=>rfl
   |true=>
    have:=zK hp hn g.tree i
    unfold Ij at this
    rw [if_pos rfl,if_pos rfl]
    cases h1:qh g.cards g.tree i with
    |none=>
     cases h2:qh cs' g.tree i with
     |none=>rfl
     |some j=>rw [h1,h2] at this;cases this
    |some k=>
     cases h2:qh cs' g.tree i with
     |none=>rw [h1,h2] at this;cases this
     |some j=>
      rw [h1,h2] at this
      simp only [Option.map_some,Option.some.injEq] at this
      exact congrArg Cd.level this
  congr 1
  exact hl _
 ·rfl
section
variable (N:Nat→Bn) (c:Nat→Option Nat) (fl:Nm→Bool)
abbrev wc (N:Nat→Bn) (c:Nat→Option Nat):Nat→Bn:=fun i=>{N i with card:=c i}
theorem Il (S:St): ∀(l:List Nat) (b:Option Nat),qO (wc N c) S b l=qO N S b l
 | [],b=>rfl
 |n::r,b=>by rw [qO,qO];exact Il S r _
theorem EP (S:St) (i:Nat):qM (wc N c) S i=qM N S i:=Il N c S _ _
theorem VB (S:St) (i:Nat):qH (wc N c) fl S i=qH N fl S i:=by unfold qH;rw [EP]
theorem C9: ∀(l:List Nat) (S:St),oH (wc N c) fl l S=oH N fl l S
 | [],S=>by rw [oH,oH]
 |i::r,S=>by
  rw [rG,rG,VB,C9 r S]
  cases qH N fl S i with
  |none=>dsimp only;rw [EP]
  |some S'=>dsimp only;rw [C9 r S']
theorem JI (order:List Nat): ∀(f:Nat) (S:St),doneGo (wc N c) fl order f S=doneGo N fl order f S
 |0,S=>by rw [doneGo,doneGo]
 |f+1,S=>by rw [vP,vP,C9,JI order f]
theorem VD (n:Nat):sO (wc N c) fl n=sO N fl n:=JI N c fl _ _ _
theorem NM (S:St) (i:Nat):(rowOf (wc N c) S i).1=(rowOf N S i).1∧(rowOf (wc N c) S i).2.2=(rowOf N S i).2.2∧(rowOf (wc N c) S i).2.1=c i∧(rowOf N S i).2.1=(N i).card:=by
 unfold rowOf
 rw [EP]
 split
 ·exact ⟨rfl,rfl,rfl,rfl⟩
 split
 ·exact ⟨rfl,rfl,rfl,rfl⟩
 ·exact ⟨rfl,rfl,rfl,rfl⟩
end
theorem NP {g:Giv} {cs':List Cd} (hp:cs'.Perm g.cards) (hn:(g.cards.map Cd.name).Nodup):nS (g.with cs')=wc (nS g) fun i=>(nS (g.with cs') i).card:=by
 funext i;exact PV hp hn i
theorem Tq {g:Giv} {cs':List Cd} (hp:cs'.Perm g.cards) (hn:(g.cards.map Cd.name).Nodup) (i:Nat):((nS (g.with cs') i).card).map (IQ cs')=((nS g i).card).map (IQ g.cards):=by
 unfold nS
 dsimp only
 split
 ·unfold zV
  dsimp only
  split
  ·exact zK hp hn g.tree i
  ·rfl
 ·rfl
theorem BM {g:Giv} {i k:Nat} (h:(nS g i).card=some k):k<g.cards.length:=by
 unfold nS at h
 split at h
 ·unfold zV at h
  dsimp only at h
  split at h
  ·unfold qh at h
   cases hf:uJ g.cards (rQ g.tree i) with
   |none=>rw [hf] at h;cases h
   |some p=>rw [hf] at h;cases h;exact (Gv (i:=p.1) (k:=p.2) hf).1
  ·cases h
 ·cases h
end Go.Proofs.YtjecgaiaiophpaaGreatDoor
namespace Go.Proofs.YtjecgaiaiophpaaGreatDoor
open Go
theorem Eb {N:Nat→Bn} {S S':St}: ∀(l:List Nat) (b:Option Nat),(∀n∈l,S n=S' n)→qO N S b l=qO N S' b l
 | [],_,_=>rfl
 |n::r,b,h=>by
  rw [qO,qO,h n List.mem_cons_self]
  exact Eb r _ fun m hm=>h m (List.mem_cons_of_mem _ hm)
theorem PW {N:Nat→Bn} {S S':St} {n i:Nat} (hn:InN N n) (hi:i<n) (h: ∀k,k<n→S k=S' k):rowOf N S i=rowOf N S' i:=by
 unfold rowOf qM
 rw [h i hi,Eb (N i).wants none fun k hk=>h k (hn i hi k hk)]
theorem NQ {N:Nat→Bn} {S S':St} {n:Nat} (hn:InN N n) (h: ∀k,k<n→S k=S' k):rowsOf N S n=rowsOf N S' n:=by
 unfold rowsOf
 exact List.map_congr_left fun i hi=>PW hn (List.mem_range.1 hi) h
theorem Dc {N:Nat→Bn} {S:St} {l:List Nat} {i:Nat}:i∈rJ N S l↔i∈l∧S i=0∧qM N S i=none:=by
 unfold rJ
 rw [List.mem_filter,Bool.and_eq_true,beq_iff_eq,Option.isNone_iff_eq_none]
theorem PX {N:Nat→Bn} {S:St} {fl:Nm→Bool} {l:List Nat} {i:Nat} (h:i∈rJ N S l) (hr:(N i).reason=0): ∃S',qH N fl S i=some S'∧((rowOf N S' i).1=0∨(rowOf N S' i).1=7):=by
 obtain ⟨_,h0,hw⟩:=Dc.1 h
 unfold qH
 rw [if_pos ⟨hr,h0,hw⟩]
 refine ⟨_,rfl,?_⟩
 unfold rowOf
 cases hb:(N i).device&&fl (N i).path with
 |true=>
  right
  rw [if_neg (by rw [hr];simp),if_pos (by simp)]
 |false=>
  left
  rw [if_pos (by simp)]
  exact hr
theorem ready_nil {N:Nat→Bn} {S:St} {fl:Nm→Bool} {n:Nat} (h:rJ N S (oV N n)=[]):Fin N n S:=by
 refine JB (fl:=fl) fun i hi h0=>?_
 cases hl:qH N fl S i with
 |none=>rfl
 |some S'=>
  exfalso
  unfold qH at hl
  split at hl
  ·rename_i hc
   have:i∈rJ N S (oV N n):=Dc.2 ⟨hi,hc.2.1,hc.2.2⟩
   rw [h] at this
   cases this
  ·cases hl
theorem EQ {α:Type}: ∀(r:List α) (k:Nat) (x b:α),r[k]? =some b→(b::r.set k x).Perm (x::r)
 | [],k,x,b,h=>by simp at h
 |y::r,0,x,b,h=>by
  cases h
  exact List.Perm.swap _ _ _
 |y::r,k+1,x,b,h=>by
  have ih:=EQ r k x b (by simpa using h)
  exact (List.Perm.swap _ _ _).trans ((ih.cons y).trans (List.Perm.swap _ _ _))
theorem swap_perm {α:Type}: ∀(l:List α) (i k:Nat) (a b:α),l[i]? =some a→l[k]? =some b→((l.set i b).set k a).Perm l
 | [],i,k,a,b,h,_=>by simp at h
 |x::r,0,0,a,b,h,h'=>by
  cases h;cases h'
  exact List.Perm.refl _
 |x::r,0,k+1,a,b,h,h'=>by
  cases h
  exact EQ r k x b (by simpa using h')
 |x::r,i+1,0,a,b,h,h'=>by
  cases h'
  exact EQ r i x a (by simpa using h)
 |x::r,i+1,k+1,a,b,h,h'=>(swap_perm r i k a b (by simpa using h) (by simpa using h')).cons x
end Go.Proofs.YtjecgaiaiophpaaGreatDoor
namespace Go.Proofs.YtjecgaiaiophpaaGreatDoor
open Go Wk
open Go.RowKit (Below)
abbrev imP (L:List (Nat×Int)):List (Value×Value):=L.map fun p=>(vi p.1,vi p.2)
def ImL (W:World) (b:Nat) (f:Nat→Option Int):Prop:= ∃L:List (Nat×Int),(L.map (·.1)).Nodup∧ru Tryz.prog 3 W b (imP L)∧ ∀i v,f i=some v↔(i,v)∈L
theorem YL:Maps.Keyed Tryz.prog 3:=Maps.int_keyed Tryz.underlying3
theorem YM {i:Nat} (h:i<9223372036854775808):keyOf Tryz.prog 3 (vi i)=some (.int .i64 i):=
 Maps.keyOf_int_mk Tryz.underlying3 (by simp [Lit.wf,IntKind.min,IntKind.max,IntKind.signed,IntKind.bits];omega)
section
variable {W W':World} {b:Nat} {f:Nat→Option Int} {M:Nat→Prop}
theorem ImL.chg (h:ImL W b f) (c:Chg M W W') (hb: ¬M b):ImL W' b f:=by
 obtain ⟨L,h1,h2,h3⟩:=h
 exact ⟨L,h1,h2.chg c hb,h3⟩
theorem ImL.afl (h:ru Tryz.prog 3 W b []):ImL W b (fun _=>none):=⟨[],by simp,h,fun i v=>by simp⟩
def FT (f:Nat→Option Int) (k:Nat) (u:Int):Nat→Option Int:=fun i=>if i=k then some u else f i
theorem YN {L:List (Nat×Int)} {j k:Nat} {v u:Int} (hn:(L.map (·.1)).Nodup) (hj:L[j]? =some (k,v)):((L.set j (k,u)).map (·.1)).Nodup∧ ∀i x,(i,x)∈L.set j (k,u)↔(i=k∧x=u)∨(i≠k∧(i,x)∈L):=by
 have hjl:=(List.getElem?_eq_some_iff.1 hj).1
 have e1:(L.set j (k,u)).map (·.1)=L.map (·.1):=by
  apply List.ext_getElem?
  intro m
  rw [List.getElem?_map,List.getElem?_map,List.getElem?_set]
  by_cases e:j=m
  ·subst e;rw [if_pos rfl,if_pos hjl,hj];rfl
  ·rw [if_neg e]
 have key: ∀(m:Nat) (p:Nat×Int),L[m]? =some p→p.1=k→m=j:=by
  intro m p hm e
  have hml:=(List.getElem?_eq_some_iff.1 hm).1
  refine ((List.getElem?_inj (by simpa using hml) hn).1 ?_)
  rw [List.getElem?_map,List.getElem?_map,hm,hj];simp [e]
 refine ⟨by rw [e1];exact hn,fun i x=>?_⟩
 rw [List.mem_iff_getElem?]
 constructor
 ·rintro ⟨m,hm⟩
  rw [List.getElem?_set] at hm
  by_cases e:j=m
  ·rw [if_pos e,if_pos (by omega)] at hm
   cases hm;exact .inl ⟨rfl,rfl⟩
  ·rw [if_neg e] at hm
   refine .inr ⟨fun e2=>e (key m _ hm e2).symm,List.mem_of_getElem? hm⟩
 ·rintro (⟨rfl,rfl⟩|⟨h1,h2⟩)
  ·exact ⟨j,by rw [List.getElem?_set,if_pos rfl,if_pos hjl]⟩
  ·obtain ⟨m,hm⟩:=List.mem_iff_getElem?.1 h2
   refine ⟨m,?_⟩
   rw [List.getElem?_set,if_neg]
   ·exact hm
   ·intro e
    subst e
    rw [hj] at hm;cases hm;exact h1 rfl
end
section
variable {n:Nat} {ds:List Deferred} {Q:Po} {F:Fr} {w w':World} {ops rest:List Oper} {d:Nat} {ty:TypeId} {pos:String} {aft:Array Edge}
theorem je {x i y:Operand} {t e:TypeId} {b k:Nat} {u:Int} {f:Nat→Option Int} [ht:Und Tryz.prog t (.map 3 e)] (h:ImL w b f) (hk:k<9223372036854775808)
 (hx:ev n F x=.map (some b)) (hi:ev n F i=vi k) (hy:ev n F y=vi u) (c: ∀w',ImL w' b (FT f k u)→Chg (fun j=>j=b) w w'→w'.heap.size=w.heap.size→Wl Tryz.prog n ds Q ops rest F w'):
 Wl Tryz.prog n ds Q ops (⟨none,.mapUpdate t x i y,ty,pos,aft,none⟩::rest) F w:=by
 obtain ⟨L,h1,h2,h3⟩:=h
 by_cases hin: ∃v,(k,v)∈L
 ·obtain ⟨v,hv⟩:=hin
  have hvm:((vi k,vi v):Value×Value)∈imP L:=List.mem_map.2 ⟨_,hv,rfl⟩
  refine jJ YL h2 (YM hk) hvm hx hi hy fun w' j v' hj m c' s=>c w' ?_ c' s
  rw [List.getElem?_map] at hj
  obtain ⟨⟨k',v2⟩,hj1,hj2⟩:=Option.map_eq_some_iff.1 hj
  simp only [Prod.mk.injEq,Value.int.injEq,true_and] at hj2
  obtain rfl:k'=k:=by omega
  obtain ⟨q1,q2⟩:=YN (u:=u) h1 hj1
  refine ⟨L.set j (k',u),q1,?_,fun i x=>?_⟩
  ·rw [imP,List.map_set];exact m
  ·rw [q2]
   unfold FT
   by_cases e:i=k'
   ·rw [if_pos e];simp [e];exact eq_comm
   ·rw [if_neg e,h3];simp [e]
 ·have hno: ∀p∈imP L,p.1≠vi k:=by
   intro p hp e
   obtain ⟨⟨k',v⟩,hm,rfl⟩:=List.mem_map.1 hp
   simp only [Value.int.injEq,true_and] at e
   obtain rfl:k'=k:=by omega
   exact hin ⟨v,hm⟩
  refine gq YL h2 (YM hk) hno hx hi hy fun w' m c' s=>c w' ⟨L++ [(k,u)],?_,?_,fun i x=>?_⟩ c' s
  ·rw [List.map_append,List.nodup_append]
   refine ⟨h1,by simp,fun a ha b hb e=>?_⟩
   simp at hb
   obtain ⟨p,hp,rfl⟩:=List.mem_map.1 ha
   refine hin ⟨p.2,?_⟩
   rw [←hb, ←e];exact hp
  ·rw [imP,List.map_append];exact m
  ·unfold FT
   by_cases e:i=k
   ·rw [if_pos e,List.mem_append]
    subst e
    constructor
    ·intro q;cases q;simp
    ·rintro (q|q)
     ·exact absurd ⟨x,q⟩ hin
     ·simp at q;rw [q]
   ·rw [if_neg e,h3,List.mem_append];simp [e]
theorem Wk.Wl.afm {x i:Operand} {t e:TypeId} {b k:Nat} {bytes:Nat} {f:Nat→Option Int} [ht:Und Tryz.prog t (.map 3 e)] [he:ElT Tryz.prog e 1 bytes false (vi 0)] (h:ImL w b f) (hk:k<9223372036854775808)
 (hx:ev n F x=.map (some b)) (hi:ev n F i=vi k) (c:Wl Tryz.prog n ds Q ops rest (upd F d (.tuple #[vi ((f k).getD 0),.bool (f k).isSome])) w):
 Wl Tryz.prog n ds Q ops (⟨some d,.lookup t x i true,ty,pos,aft,none⟩::rest) F w:=by
 obtain ⟨L,h1,h2,h3⟩:=h
 refine jI YL h2 (YM hk) hx hi (fun r hr=>?_) (fun hr=>?_)
 ·obtain ⟨⟨k',v⟩,hm,e⟩:=List.mem_map.1 hr
  simp only [Prod.mk.injEq,Value.int.injEq,true_and] at e
  obtain ⟨e1,rfl⟩:=e
  obtain rfl:k'=k:=by omega
  rw [(h3 _ _).2 hm] at c
  exact c
 ·have:f k=none:=by
   cases hf:f k with
   |none=>rfl
   |some v=>exact absurd rfl (hr _ (List.mem_map.2 ⟨_,(h3 _ _).1 hf,rfl⟩))
  rw [this] at c
  exact c
end
end Go.Proofs.YtjecgaiaiophpaaGreatDoor
namespace Go.Proofs.YtjecgaiaiophpaaGreatDoor
open Go Wk
open Go.RowKit (Below)
attribute [local irreducible] Go.Calls
theorem PY {g:Giv} (hok:oh g.tree=true) {i:Nat} (hi:i<g.tree.length):uj g i=if g.gone.contains (oO g.tree i)=true then some i else if i=0 then none else uj g (par g.tree i):=by
 unfold uj
 by_cases h0:i=0
 ·subst h0
  rw [Bf,List.nil_append,List.find?_cons,if_pos rfl]
  cases g.gone.contains (oO g.tree 0)<;>rfl
 ·rw [Bg hok h0 hi,List.cons_append,List.find?_cons,if_neg h0]
  cases g.gone.contains (oO g.tree i)<;>rfl
section
variable {Pb:Nat→Prop} {bw bm:Nat} {N:List Nb} {ord:List Nat} {fl:List (Nm×Int)} {nv ov:Value} {W W':World}
theorem NR {b2 i:Nat} (g:WkM Pb bw bm N ord fl nv ov W) (h2:Bk W b2 42 [pT bw]) (hi:i<N.length):
 Calls Tryz.prog 102 #[vi i,pT b2] W (Ret fun r w'=>r=.tuple #[.bool ((bnF N i).device&&(bnF N i).card.isNone),vi (-1)]∧w'=W):=by
 have hnl:=g.nl
 obtain ⟨na,nc,rfl,_,_⟩:=g.nd.row.form
 have hrd:=g.nd.row.rd (nO nbC)
 obtain ⟨x,hx⟩:=nP N hi
 rw [sS hx]
 refine nH Tryz.func102 rfl Tryz.ntmps102 rfl ?_
 (repeat' (first|refine aa1 ?_|refine af ?_|refine ah ?_|refine au ?_|refine ak ?_))
 refine ay (u:=pT bw) rfl (h2.cell (o:=0) rfl) ?_
 (repeat' (first|refine bK rfl ?_|refine aa5 ?_))
 refine ay (u:=.slice na N.length nc) rfl (g.b.cell (o:=0) rfl) ?_
 (repeat' (refine aa0 ?_))
 refine aZ hrd rfl rfl (by omega) (by rw [Int.toNat_natCast];exact hx) fun b o cs hl hR hat=>?_
 obtain rfl:cs=nbC x:=hR
 (repeat' (refine aa5 ?_))
 refine ay (u:=.bool x.bn.device) rfl (hat.get 1 rfl) ?_
 cases hd:x.bn.device with
 |false=>
  (repeat' (first|refine aa0 ?_|refine aa1 ?_|refine af ?_|refine qo ?_|refine pJ ?_|refine ah ?_|refine aA ?_))
  exact aT rfl rfl rfl ⟨_,rfl,rfl,rfl⟩
 |true=>
  (repeat' (first|refine aa0 ?_|refine aa6 ?_))
  refine ay (u:=pT bw) rfl (h2.cell (o:=0) rfl) ?_
  (repeat' (first|refine aa6 ?_|refine bK rfl ?_|refine aa5 ?_))
  refine ay (u:=.slice na N.length nc) rfl (g.b.cell (o:=0) rfl) ?_
  (repeat' (first|refine aa0 ?_|refine aa6 ?_))
  refine aZ hrd rfl rfl (by omega) (by rw [Int.toNat_natCast];exact hx) fun b o cs hl hR hat=>?_
  obtain rfl:cs=nbC x:=hR
  (repeat' (first|refine aa6 ?_|refine aa5 ?_))
  refine ay (u:=vi (qx x.bn.card)) rfl (hat.get 4 rfl) ?_
  clear hat
  cases hc:x.bn.card with
  |none=>
   rw [show qx none= -1 from rfl]
   (repeat' (first|refine aa1 ?_|refine af ?_|refine aa6 ?_|refine pU ?_|refine ah ?_|refine aA ?_|(refine pF (fun _=>?_) (fun _=>?_)<;>(first|(exfalso;omega)|skip))))
   exact aT rfl rfl rfl ⟨_,rfl,rfl,rfl⟩
  |some k=>
   rw [show qx (some k)=(k:Int) from rfl]
   (repeat' (first|refine aa1 ?_|refine af ?_|refine aa6 ?_|refine pU ?_|refine ah ?_|refine aA ?_|(refine pF (fun _=>?_) (fun _=>?_)<;>(first|(exfalso;omega)|skip))))
   exact aT rfl rfl rfl ⟨_,rfl,rfl,rfl⟩
theorem KW {b2 b4 bq i m r:Nat} {mc:List Value} {f:Nat→Option Int} (g:WkM Pb bw bm N ord fl nv ov W) (h2:Bk W b2 42 [pT bw]) (h4:Bk W b4 188 mc) (hq:Bk W bq 5 [.int .u8 r]) (hr:r<7) (hm:mc[r]? =some (.map (some m))) (hf:ImL W m f) (hi:i<N.length):
 Calls Tryz.prog 101 #[vi i,pT b4,pT bq,pT b2] W (Ret fun v w'=>v=.tuple #[.bool ((f i).isSome&&(bnF N i).device),vi ((f i).getD 0)]∧w'=W):=by
 have hnl:=g.nl
 obtain ⟨na,nc,rfl,_,_⟩:=g.nd.row.form
 have hrd:=g.nd.row.rd (nO nbC)
 obtain ⟨x,hx⟩:=nP N hi
 rw [sS hx]
 refine nH Tryz.func101 rfl Tryz.ntmps101 rfl ?_
 (repeat' (first|refine aa1 ?_|refine af ?_|refine ah ?_|refine au ?_|refine ak ?_))
 refine ay (u:=.int .u8 r) rfl (hq.cell (o:=0) rfl) ?_
 skip
 refine iq rfl rfl (by omega) (by omega) ?_
 skip
 refine ay (u:=.map (some m)) rfl (h4.cell (o:=r) hm) ?_
 (repeat' (refine aa0 ?_))
 refine Wl.afm hf (by omega) rfl rfl ?_
 (repeat' (first|refine aa0 ?_|refine aa1 ?_|refine af ?_|refine pI ?_|refine ah ?_|refine au ?_|refine ak ?_))
 cases hs:f i with
 |none=>
  rw [show (none:Option Int).isSome=false from rfl]
  (repeat' (first|refine aa0 ?_|refine aa1 ?_|refine af ?_|refine qo ?_|refine pJ ?_|refine ah ?_|refine aA ?_))
  exact aT rfl rfl rfl ⟨_,rfl,rfl,rfl⟩
 |some u=>
  rw [show (some u).isSome=true from rfl]
  (repeat' (refine aa6 ?_))
  refine ay (u:=pT bw) rfl (h2.cell (o:=0) rfl) ?_
  (repeat' (first|refine aa6 ?_|refine bK rfl ?_|refine aa5 ?_))
  refine ay (u:=.slice na N.length nc) rfl (g.b.cell (o:=0) rfl) ?_
  (repeat' (first|refine aa0 ?_|refine aa6 ?_))
  refine aZ hrd rfl rfl (by omega) (by rw [Int.toNat_natCast];exact hx) fun b o cs hl hR hat=>?_
  obtain rfl:cs=nbC x:=hR
  (repeat' (first|refine aa6 ?_|refine aa5 ?_))
  refine ay (u:=.bool x.bn.device) rfl (hat.get 1 rfl) ?_
  (repeat' (first|refine aa0 ?_|refine aa1 ?_|refine af ?_|refine pU ?_|refine ah ?_|refine aA ?_))
  exact aT rfl rfl rfl ⟨_,rfl,rfl,rfl⟩
theorem AZ {b2 b4 r:Nat}:Calls Tryz.prog 100 #[.int .u8 r,pT b4,pT b2] W (Ret fun v w'=> ∃bq,v=.agg #[.int .u8 r,.func (.func 101) #[] #[pT b4,pT bq,pT b2]]∧W.heap.size≤bq∧Bk w' bq 5 [.int .u8 r]∧New W w'):=by
 refine nH Tryz.func100 rfl Tryz.ntmps100 rfl ?_
 (repeat' (first|refine au ?_|refine ak ?_))
 refine bI rfl fun w1 b1 n1 s1=>?_
 replace b1:Bk w1 W.heap.size 5 [.int .u8 r]:=b1
 refine Wl.alloc fun w2 h2 n2 s2=>?_
 replace h2:Bk w2 w1.heap.size 203 [.int .u8 0,.nilFunc]:=h2
 (repeat' (first|refine af ?_|refine ah ?_|refine au ?_|refine ak ?_))
 refine ay (u:=.int .u8 r) rfl ((b1.chg n2 fun e=>e).cell (o:=0) rfl) ?_
 skip
 refine dL (f1:=[]) (c1:=[pT b4,pT W.heap.size,pT b2]) rfl rfl ?_
 skip
 refine bU (ps:=[(0,.tmp 5),(1,.tmp 6)]) (parts:=[(0,.int .u8 r),(1,.func (.func 101) #[] #[pT b4,pT W.heap.size,pT b2])]) rfl rfl (by simp [Value.cells]) ?_
 refine aV (new:=[.int .u8 r,.func (.func 101) #[] #[pT b4,pT W.heap.size,pT b2]]) h2 rfl rfl rfl rfl (show (2:Nat)≤2 from Nat.le_refl 2) (by intro c hc;simp at hc;rcases hc with rfl|rfl<;>rfl) fun w3 b3 c3 s3=>?_
 (repeat' (first|refine af ?_|refine ah ?_|refine aA ?_))
 have hz:=n1.size
 have hb1:=b1.lt
 refine eG (yJ rfl (tC rfl rfl b3 rfl)) ⟨_,rfl,W.heap.size,rfl,Nat.le_refl _,(b1.chg n2 fun e=>e).chg c3 fun e=>by omega,(Chg.trans (M:=fun k=>k=w1.heap.size) (New.trans n1 n2).any c3 fun k _ e=>e).toNew fun k hk e=>by omega⟩
theorem NS {b1 b2 b3 gm i:Nat} {L:List (Nm×Int)} {G:Giv} {tv cv fv gv:Value} {Pt:Nat→Prop} (g:WkM Pb bw bm N ord fl nv ov W) (h1:Bk W b1 104 [.map (some gm)]) (h2:Bk W b2 42 [pT bw]) (h3:Bk W b3 27 [tv,cv,fv,gv]) (ht:RdS rNd 3 Pt W tv G.tree) (mp:ru Tryz.prog 9 W gm (IK L)) (cn:Cnt G.gone L)
 (hok:oh G.tree=true) (hN:N.length=G.tree.length) (hp: ∀k,k<N.length→(bnF N k).path=oO G.tree k) (hi:i<N.length):
 Calls Tryz.prog 103 #[vi i,pT b1,pT b2,pT b3] W (Ret fun v w'=>v=.tuple #[.bool (uj G i).isSome,vi (qx (uj G i))]∧New W w'):=by
 have hnl:=g.nl
 obtain ⟨na,nc,rfl,_,_⟩:=g.nd.row.form
 have hrd:=g.nd.row.rd (nO nbC)
 obtain ⟨ta,tc,rfl,_,_⟩:=ht.form
 refine nH Tryz.func103 rfl Tryz.ntmps103 rfl ?_
 (repeat' (first|refine aa1 ?_|refine af ?_|refine ah ?_|refine au ?_|refine ak ?_|refine Wc.block ?_))
 refine aS (σ:=Option Nat) (fun q=>[(0,vi (qx q)),(1,pT b1),(2,pT b2),(3,pT b3)])
  (fun q w'=>(∀k,q=some k→k<N.length∧uj G i=uj G k)∧(q=none→uj G i=none)∧New W w') (fun q=>(qx q+1).toNat) (some i) ⟨rfl,rfl,rfl,rfl,trivial⟩ ⟨fun k e=>by cases e;exact ⟨hi,rfl⟩,fun e=>(by cases e),aQ _ _⟩ ?_
 rintro q F w1 ⟨hs,hno,n1⟩
 simp only [oP]
 cases q with
 |none=>
  rw [hno rfl,show qx none= -1 from rfl]
  (repeat' (refine au ?_))
  refine dZ rfl (by kernel_rfl) ?_
  (repeat' (first|refine aa9 ?_|refine ax ?_|refine fK rfl rfl ?_|refine wz ?_|(refine fU rfl rfl (fun _=>?_) (fun _=>?_)<;>(first|(exfalso;omega)|skip))))
  intro w2 n2
  (repeat' (first|refine aa0 ?_|refine aa1 ?_|refine af ?_|refine ah ?_|refine au ?_|refine ak ?_|refine aK ?_|refine aA ?_|refine aN ?_|refine aJ ?_|refine aP ?_|refine aa4 ?_|(refine di rfl rfl (fun _=>?_) (fun _=>?_)<;>(first|(exfalso;omega)|skip))))
  exact aT rfl rfl rfl ⟨_,rfl,rfl,New.trans n1 n2⟩
 |some k=>
  obtain ⟨hk,he⟩:=hs k rfl
  rw [he,PY hok (by omega)]
  rw [show qx (some k)=(k:Int) from rfl]
  obtain ⟨x,hx⟩:=nP N hk
  have hxp:x.bn.path=oO G.tree k:=by rw [←sS hx];exact hp k hk
  have hpl:=g.fn.2 x (List.mem_of_getElem? hx)
  obtain ⟨qk,hqk⟩:=KP (s:=x.bn.path) (by omega)
  obtain ⟨y,hy⟩:=nP G.tree (k:=k) (by omega)
  have hyk:=qJ hok hy
  have hya:ndA G.tree k=y:=by unfold ndA;rw [List.getD_eq_getElem?_getD,hy];rfl
  (repeat' (refine au ?_))
  refine dZ rfl (by kernel_rfl) ?_
  (repeat' (first|refine aa9 ?_|refine qE ?_|(refine fU rfl rfl (fun _=>?_) (fun _=>?_)<;>(first|(exfalso;omega)|skip))))
  refine aC (u:=.map (some gm)) rfl (fun w' hw=>(h1.chg (New.trans n1 hw) fun e=>e).cell (o:=0) rfl) ?_
  (repeat' (refine qE ?_))
  refine aC (u:=pT bw) rfl (fun w' hw=>(h2.chg (New.trans n1 hw) fun e=>e).cell (o:=0) rfl) ?_
  (repeat' (first|refine qE ?_|refine bD rfl ?_|refine aa7 ?_))
  refine aC (u:=.slice na N.length nc) rfl (fun w' hw=>(g.b.chg (New.trans n1 hw) fun e=>e).cell (o:=0) rfl) ?_
  (repeat' (first|refine aa9 ?_|refine qE ?_))
  refine bV hrd (fun w' hw=>(New.trans n1 hw).keep) rfl rfl (by omega) (by rw [Int.toNat_natCast];exact hx) fun b o cs hl hR hat=>?_
  obtain rfl:cs=nbC x:=hR
  (repeat' (first|refine qE ?_|refine aa7 ?_))
  refine aC (u:=vs x.bn.path) rfl (fun w' hw=>(hat w' hw).get 0 rfl) ?_
  clear hat
  (repeat' (refine qE ?_))
  refine jW (l:=IK L) (Maps.string_keyed Tryz.underlying9) (fun w' hw=>mp.chg (New.trans n1 hw) fun e=>e) (fun r r' m1 m2=>?_) hqk rfl rfl (fun r hr=>?_) (fun hr=>?_)
  ·obtain ⟨⟨s1,c1⟩,q1,e1⟩:=List.mem_map.1 m1
   obtain ⟨⟨s2,c2⟩,q2,e2⟩:=List.mem_map.1 m2
   simp only [Prod.mk.injEq] at e1 e2
   obtain rfl:=wS e1.1
   obtain rfl:=wS e2.1
   rw [←e1.2, ←e2.2,FX cn.nd q1 q2]
  ·obtain ⟨⟨s1,c1⟩,q1,e1⟩:=List.mem_map.1 hr
   simp only [Prod.mk.injEq] at e1
   obtain ⟨e1,rfl⟩:=e1
   obtain rfl:=wS e1
   have hc:=cn.mem _ q1
   dsimp only at hc
   (repeat' (first|refine ax ?_|refine qE ?_|refine dG rfl (by conv=>{lhs;whnf}) ?_|(refine Wq.eql rfl rfl (fun _=>?_) (fun _=>?_)<;>(first|(exfalso;omega)|skip))))
   intro w2 n2
   rw [if_pos (List.contains_iff_mem.2 (hxp▸hc.2.2))]
   (repeat' (first|refine aa0 ?_|refine aa1 ?_|refine af ?_|refine ah ?_|refine au ?_|refine ak ?_|refine aK ?_|refine aA ?_|refine aN ?_|refine aJ ?_|refine aP ?_|refine aa4 ?_|(refine di rfl rfl (fun _=>?_) (fun _=>?_)<;>(first|(exfalso;omega)|skip))))
   exact aT rfl rfl rfl ⟨_,rfl,rfl,New.trans n1 n2⟩
  ·have hcn: ¬G.gone.contains (oO G.tree k)=true:=fun e=>by
    obtain ⟨c,hc⟩:=cn.all _ (List.contains_iff_mem.1 e)
    exact hr _ (List.mem_map.2 ⟨_,hc,rfl⟩) (by rw [hxp])
   (repeat' (first|refine ax ?_|refine qE ?_|refine dG rfl (by conv=>{lhs;whnf}) ?_|(refine Wq.eql rfl rfl (fun _=>?_) (fun _=>?_)<;>(first|(exfalso;omega)|skip))))
   intro w2 n2
   rw [if_neg hcn]
   have n12:=New.trans n1 n2
   (repeat' (first|refine ah ?_|refine ak ?_|refine Wc.block ?_|refine Wc.skip ?_|refine aa3 ?_|refine aa5 ?_))
   refine ay (u:=.slice ta G.tree.length tc) rfl ((h3.chg n12 fun e=>e).cell (o:=0) rfl) ?_
   (repeat' (refine aa0 ?_))
   refine aZ (ht.keep nY n12.keep) rfl rfl (by omega) (by rw [Int.toNat_natCast];exact hy) fun b o cs hl hR hat=>?_
   obtain ⟨pvn,rfl,hpv⟩:=hR
   (repeat' (refine aa5 ?_))
   refine ay (u:=vi y.parent) rfl (hat.get 0 rfl) ?_
   clear hat
   (repeat' (first|refine aa1 ?_|refine af ?_|refine aH ?_))
   by_cases h0:k=0
   ·subst h0
    rw [(hyk.root rfl).1]
    refine aG none ⟨rfl,rfl,rfl,rfl,trivial⟩ ⟨fun k e=>(by cases e),fun _=>?_,n12⟩ (by simp [qx])
    exact if_pos rfl
   ·have hpar:=uK hok h0 (by omega)
    rw [hya] at hpar
    rw [hpar.2]
    rw [if_neg h0]
    exact aG (some (par G.tree k)) ⟨rfl,rfl,rfl,rfl,trivial⟩ ⟨fun j e=>by cases e;exact ⟨by omega,rfl⟩,fun e=>(by cases e),n12⟩ (by simp only [qx];omega)
end
end Go.Proofs.YtjecgaiaiophpaaGreatDoor
namespace Go.Proofs.YtjecgaiaiophpaaGreatDoor
open Go Wk
open Go.RowKit (Below)
attribute [local irreducible] Go.Calls
def xh (G:Giv) (es:List Ed) (i:Nat):Bn:=
 {path:=oO G.tree i,device:=qN G.tree i,level:=match (if qN G.tree i=true then qh G.cards G.tree i else none) with|some k=>(G.cards.getD k default).level|none=>0,
  reason:=if onM G.tree i=false then 1 else 0,card:=if qN G.tree i=true then qh G.cards G.tree i else none,why:= -1,
  wants:=(if 0<i then [par G.tree i] else [])++es.filterMap fun e=>if e.src=i∧e.soft=false∧qN G.tree i=true then e.dst else none}
def xk (G:Giv) (es:List Ed) (i:Nat):Bn:=if i<G.tree.length then xh G es i else default
abbrev cnts (t:List Nd) (e:Ed):Bool:= !e.soft&&qN t e.src
def uX (t:List Nd) (es:List Ed) (i:Nat):Option Int:=if es.any (fun e=>decide (e.src=i)&&(cnts t e&&e.dst.isNone))=true then some (-1) else none
theorem PZ (t:List Nd) (es:List Ed) (e:Ed):uX t (es++ [e])=if (cnts t e&&e.dst.isNone)=true then FT (uX t es) e.src (-1) else uX t es:=by
 funext i
 unfold uX
 rw [List.any_append,List.any_cons,List.any_nil,Bool.or_false]
 cases hc:(cnts t e&&e.dst.isNone) with
 |false=>rw [if_neg (by decide: ¬false=true),Bool.and_false,Bool.or_false]
 |true=>
  rw [if_pos rfl,Bool.and_true]
  unfold FT
  by_cases hi:i=e.src
  ·rw [if_pos hi,if_pos];simp [hi]
  ·rw [if_neg hi]
   have:decide (e.src=i)=false:=decide_eq_false fun h=>hi h.symm
   rw [this,Bool.or_false]
theorem P5 (G:Giv) (es:List Ed) (e:Ed) (i:Nat):xh G (es++ [e]) i=if i=e.src∧cnts G.tree e=true then (match e.dst with|some d=>{xh G es i with wants:=(xh G es i).wants++ [d]}|none=>xh G es i) else xh G es i:=by
 unfold xh
 rw [List.filterMap_append]
 by_cases hi:i=e.src∧cnts G.tree e=true
 ·rw [if_pos hi]
  obtain ⟨rfl,hc⟩:=hi
  simp only [cnts,Bool.and_eq_true,Bool.not_eq_true'] at hc
  cases hd:e.dst with
  |none=>simp [hc.1,hc.2,hd]
  |some d=>simp [hc.1,hc.2,hd]
 ·rw [if_neg hi]
  have: ¬(e.src=i∧e.soft=false∧qN G.tree i=true):=fun h=>hi ⟨h.1.symm,by rw [←h.1] at h;simp [cnts,h.2.1,h.2.2]⟩
  rw [List.filterMap_cons,if_neg this]
  simp
theorem P6 (G:Giv) (es:List Ed) (e:Ed):xk G (es++ [e])=if cnts G.tree e=true∧e.src<G.tree.length then (match e.dst with|some d=>fun i=>if i=e.src then {xk G es i with wants:=(xk G es i).wants++ [d]} else xk G es i|none=>xk G es) else xk G es:=by
 funext i
 unfold xk
 rw [P5]
 by_cases hc:cnts G.tree e=true∧e.src<G.tree.length
 ·rw [if_pos hc]
  cases e.dst with
  |none=>by_cases hl:i<G.tree.length<;>simp [hl]
  |some d=>
   dsimp only
   by_cases hi:i=e.src
   ·subst hi;simp [hc.1,hc.2]
   ·simp [hi]
 ·rw [if_neg hc]
  by_cases hl:i<G.tree.length
  ·rw [if_pos hl,if_pos hl,if_neg]
   rintro ⟨rfl,h⟩
   exact hc ⟨h,hl⟩
  ·rw [if_neg hl,if_neg hl]
def xQ (rs:List (List Nat)) (i:Nat):Option Int:=(Ic rs i).map fun k=>(k:Int)
theorem P7 (rs:List (List Nat)) (l:List Nat) (i:Nat):xQ (rs++ [l]) i=if i∈l then some ((l.headD 0:Nat):Int) else xQ rs i:=by
 unfold xQ Ic
 rw [List.foldl_append,List.foldl_cons,List.foldl_nil]
 split<;>rfl
theorem Tt (rs:List Rfs) (r:Rfs):Ib (rs++ [r])=FT (Ib rs) r.node r.by_:=by
 funext i
 unfold Ib FT
 rw [List.foldl_append,List.foldl_cons,List.foldl_nil]
 by_cases h:i=r.node
 ·rw [if_pos h,if_pos h.symm]
 ·rw [if_neg h,if_neg fun e=>h e.symm]
noncomputable def zY (G:Giv) (i:Nat):Nat→Option Int
 |0=>if qN G.tree i=true∧qh G.cards G.tree i=none then some (-1) else none
 |1=>if qN G.tree i=true then Ib (qC G.cards G.tree).2 i else none
 |2=>if qN G.tree i=true then uX G.tree (oz G.tree) i else none
 |3=>if qN G.tree i=true then xQ (sQ G.tree) i else none
 |_=>(uj G i).map fun k=>(k:Int)
def A7 (p:Nat×Int) (r:Nat) (o:Option Int):Nat×Int:=if p.1=0 then (match o with|some y=>(r,y)|none=>p) else p
noncomputable def Df (G:Giv) (i:Nat):Nat→Nat×Int
 |0=>(if onM G.tree i=false then 1 else 0, -1)
 |m+1=>A7 (Df G i m) (m+2) (zY G i m)
theorem Tv {t:List Nd} {i:Nat} (hd:qN t i=true):uX t (oz t) i=if (∃e∈oz t,e.src=i∧e.soft=false∧e.dst=none) then some (-1) else none:=by
 unfold uX
 by_cases h: ∃e∈oz t,e.src=i∧e.soft=false∧e.dst=none
 ·rw [if_pos h,if_pos]
  obtain ⟨e,he,h1,h2,h3⟩:=h
  refine List.any_eq_true.2 ⟨e,he,?_⟩
  simp [cnts,h1,h2,h3,hd]
 ·rw [if_neg h,if_neg]
  intro e
  obtain ⟨x,hx,h1⟩:=List.any_eq_true.1 e
  simp [cnts] at h1
  exact h ⟨x,hx,h1.1,h1.2.1.1,h1.2.2⟩
theorem P8 (G:Giv) (i:Nat):Df G i 5=firstM G i:=by
 have hd0:onM G.tree i=false→qN G.tree i=false:=fun h=>by unfold qN;rw [h];simp
 simp only [Df]
 unfold firstM
 dsimp only
 by_cases h1:onM G.tree i=false
 ·rw [if_pos h1,if_pos h1];rfl
 rw [if_neg h1,if_neg h1]
 by_cases h2:qN G.tree i=true∧qh G.cards G.tree i=none
 ·rw [if_pos h2]
  simp only [zY,if_pos h2];rfl
 rw [if_neg h2]
 simp only [zY,if_neg h2]
 cases hd:qN G.tree i with
 |false=>
  simp only [Bool.false_eq_true,if_false,false_and]
  cases uj G i<;>rfl
 |true=>
  simp only [if_true,true_and,Tv hd]
  cases Ib (qC G.cards G.tree).2 i with
  |some b=>rfl
  |none=>
   by_cases h3: ∃e∈oz G.tree,e.src=i∧e.soft=false∧e.dst=none
   ·simp only [if_pos h3];rfl
   ·simp only [if_neg h3]
    unfold xQ
    cases Ic (sQ G.tree) i with
    |some k=>rfl
    |none=>cases uj G i<;>rfl
noncomputable def yP (G:Giv) (m i:Nat):Bn:={xh G (oz G.tree) i with reason:=(Df G i m).1,why:=(Df G i m).2}
theorem Tz (G:Giv) (i:Nat):yP G 5 i=zV G i:=by
 unfold yP xh zV AV
 rw [P8]
 rfl
theorem P9 (G:Giv) (i:Nat):yP G 0 i=xh G (oz G.tree) i:=rfl
theorem KX {N:List Nb} {i:Nat} {y:Nb} (hi:i<N.length):bnF (N.set i y)=fun k=>if k=i then y.bn else bnF N k:=by
 funext k
 unfold bnF
 rw [List.getD_eq_getElem?_getD,List.getD_eq_getElem?_getD,List.getElem?_set]
 by_cases e:i=k
 ·subst e
  rw [if_pos rfl,if_pos hi,if_pos rfl];rfl
 ·rw [if_neg e,if_neg fun h=>e h.symm]
theorem KY {N:List Nb} {i:Nat} {y:Nb} (h: ∀k,stF N k=0) (hy:y.st=0): ∀k,stF (N.set i y) k=0:=by
 intro k
 have:=h k
 unfold stF at this ⊢
 rw [List.getD_eq_getElem?_getD] at this ⊢
 rw [List.getElem?_set]
 split
 ·split
  ·exact hy
  ·rfl
 ·exact this
section
variable {Pb:Nat→Prop} {bw bm:Nat} {N:List Nb} {fl:List (Nm×Int)} {nv:Value} {W W':World}
theorem WkM.want (g:WkM Pb bw bm N [] fl nv (.slice none 0 0) W) {i d:Nat} {x:Nb} {w1:World} {v':SV} (hx:N[i]? =some x) (hd:d<N.length) (ho:nN (Wk.one viN) 3 1 Pb NoB w1 (svV v') (x.bn.wants++ [d])) (c1:Chg (fun k=>(svV x.wv).ownBlock=some k) W w1) (lie:(svV v').ownBlock=(svV x.wv).ownBlock∨ ∀k,(svV v').ownBlock=some k→W.heap.size≤k)
 (hr:nN (flat nbC) 118 9 Pb NoB W' nv (N.set i {x with wv:=v',bn:={x.bn with wants:=x.bn.wants++ [d]}})) (c2:Chg (fun k=>nv.ownBlock=some k) w1 W'):WkM Pb bw bm (N.set i {x with wv:=v',bn:={x.bn with wants:=x.bn.wants++ [d]}}) [] fl nv (.slice none 0 0) W':=by
 have hxm:=List.mem_of_getElem? hx
 have hel:=g.nd.el x hxm
 have b1:=g.b.chg c1 fun e=>hel.pR g.b rfl e rfl
 have m1:=g.mp.chg c1 fun e=>hel.rD g.mp e rfl
 have hrow:=g.nd.row.chg (nG nbC) c1 fun k hk e=>g.nd.yK x hxm k e hk
 refine ⟨b1.chg c2 fun e=>hrow.pR b1 rfl e rfl,g.nd.set hx ho c1 lie hr c2,bH,m1.chg c2 fun e=>hrow.rD m1 e rfl,fun y hy k e1 e2=>(by cases e2),fun y hy k hk=>?_,by rw [List.length_set];exact g.nl,⟨g.fn.1,fun y hy=>?_⟩,g.lo2⟩
 ·rw [List.length_set]
  rcases List.mem_or_eq_of_mem_set hy with hy|rfl
  ·exact g.win y hy k hk
  ·rcases List.mem_append.1 hk with hk|hk
   ·exact g.win x hxm k hk
   ·rw [List.mem_singleton.1 hk];exact hd
 ·rcases List.mem_or_eq_of_mem_set hy with hy|rfl
  ·exact g.fn.2 y hy
  ·exact g.fn.2 x hxm
theorem WkM.aaz (g:WkM Pb bw bm N [] fl nv (.slice none 0 0) W) {i:Nat} {x y:Nb} (hx:N[i]? =some x) (hw:y.wv=x.wv) (hn:y.bn.wants=x.bn.wants) (hp:y.bn.path=x.bn.path) (hr:nN (flat nbC) 118 9 Pb NoB W' nv (N.set i y)) (c:Chg (fun k=>nv.ownBlock=some k) W W'):WkM Pb bw bm (N.set i y) [] fl nv (.slice none 0 0) W':=by
 have hxm:=List.mem_of_getElem? hx
 refine ⟨g.b.chg c fun e=>g.nd.row.pR g.b rfl e rfl,g.nd.put hx (by rw [hw]) hn hr c,bH,g.mp.chg c fun e=>g.nd.row.rD g.mp e rfl,fun z hz k e1 e2=>(by cases e2),fun z hz k hk=>?_,by rw [List.length_set];exact g.nl,⟨g.fn.1,fun z hz=>?_⟩,g.lo2⟩
 ·rw [List.length_set]
  rcases List.mem_or_eq_of_mem_set hz with hz|rfl
  ·exact g.win z hz k hk
  ·rw [hn] at hk;exact g.win x hxm k hk
 ·rcases List.mem_or_eq_of_mem_set hz with hz|rfl
  ·exact g.fn.2 z hz
  ·rw [hp];exact g.fn.2 x hxm
end
structure JdE (bw b2 b3 b4:Nat) (mb:List Nat) (ff:Nat→Nat→Option Int) (tv cv fv gv:Value) (W:World):Prop where
 h2:Bk W b2 42 [pT bw]
 h3:Bk W b3 27 [tv,cv,fv,gv]
 h4:Bk W b4 188 (mb.map fun b=>.map (some b))
 im: ∀(r b:Nat),mb[r]? =some b→ImL W b (ff r)
 ml:mb.length=7
 nd:mb.Nodup
section
variable {bw b2 b3 b4:Nat} {mb:List Nat} {ff:Nat→Nat→Option Int} {tv cv fv gv:Value} {W W':World} {M:Nat→Prop}
theorem JdE.chg (e:JdE bw b2 b3 b4 mb ff tv cv fv gv W) (c:Chg M W W') (n2: ¬M b2) (n3: ¬M b3) (n4: ¬M b4) (nm: ∀b∈mb, ¬M b):JdE bw b2 b3 b4 mb ff tv cv fv gv W':=
 ⟨e.h2.chg c n2,e.h3.chg c n3,e.h4.chg c n4,fun r b h=>(e.im r b h).chg c (nm b (List.mem_of_getElem? h)),e.ml,e.nd⟩
theorem JdE.new (e:JdE bw b2 b3 b4 mb ff tv cv fv gv W) (c:New W W'):JdE bw b2 b3 b4 mb ff tv cv fv gv W':=e.chg c (fun e=>e) (fun e=>e) (fun e=>e) (fun _ _ e=>e)
theorem ImL.ml {b:Nat} {f:Nat→Option Int} (h:ImL W b f): ∃l,ru Tryz.prog 3 W b l:=by obtain ⟨L,_,h,_⟩:=h;exact ⟨_,h⟩
theorem JdE.own (e:JdE bw b2 b3 b4 mb ff tv cv fv gv W) {α:Type} {R:Rel α} {ty:TypeId} {sz:Nat} {Pb Pe:Nat→Prop} {v:Value} {xs:List α} (o:nN R ty sz Pb Pe W v xs) (c:Chg (fun k=>v.ownBlock=some k) W W') (n2:Nat.beq ty 42=false) (n3:Nat.beq ty 27=false) (n4:Nat.beq ty 188=false):JdE bw b2 b3 b4 mb ff tv cv fv gv W':=
 e.chg c (fun h=>o.pR e.h2 n2 h rfl) (fun h=>o.pR e.h3 n3 h rfl) (fun h=>o.pR e.h4 n4 h rfl) fun b hb h=>by
  obtain ⟨r,hr⟩:=List.mem_iff_getElem?.1 hb
  obtain ⟨l,hl⟩:=(e.im r b hr).ml
  exact o.rD hl h rfl
theorem JdE.put (e:JdE bw b2 b3 b4 mb ff tv cv fv gv W) {r b:Nat} {f:Nat→Option Int} (hr:mb[r]? =some b) (h:ImL W' b f) (c:Chg (fun k=>k=b) W W'):JdE bw b2 b3 b4 mb (fun s=>if s=r then f else ff s) tv cv fv gv W':=by
 obtain ⟨l,hl⟩:=(e.im r b hr).ml
 refine ⟨e.h2.chg c fun q=>e.h2.rD hl q,e.h3.chg c fun q=>e.h3.rD hl q,e.h4.chg c fun q=>e.h4.rD hl q,fun s d hs=>?_,e.ml,e.nd⟩
 by_cases hsr:s=r
 ·subst hsr
  rw [if_pos rfl]
  rw [hr] at hs
  cases hs
  exact h
 ·rw [if_neg hsr]
  refine (e.im s d hs).chg c fun q=>?_
  subst q
  refine hsr ?_
  exact (List.getElem?_inj (by have:=(List.getElem?_eq_some_iff.1 hs).1;exact this) e.nd).1 (hs.trans hr.symm)
end
end Go.Proofs.YtjecgaiaiophpaaGreatDoor
namespace Go.Proofs.YtjecgaiaiophpaaGreatDoor
open Go Wk
open Go.RowKit (Below)
attribute [local irreducible] Go.Calls
abbrev Jd:=Nat×FuncId×List Value
abbrev jdC (e:Jd):List Value:=[.int .u8 e.1,.func (.func e.2.1) #[] e.2.2.toArray]
theorem VF:qP (flat jdC) 2:=qU _ (fun _=>rfl) fun e c hc=>by
 simp at hc
 rcases hc with rfl|rfl<;>rfl
def jdL (b2 b3 b4 q1 q2 q3 q6:Nat):List Jd:=[(2,102,[pT b2]),(3,101,[pT b4,pT q1,pT b2]),(4,101,[pT b4,pT q2,pT b2]),(5,101,[pT b4,pT q3,pT b2]),(6,103,[pT q6,pT b2,pT b3])]
structure JdF (G:Giv) (lo bw b2 b3 b4 q1 q2 q3 q6 gm:Nat) (mb:List Nat) (Lg:List (Nm×Int)) (tv cv fv gv:Value) (W:World):Prop where
 e:JdE bw b2 b3 b4 mb (fun s=>if s=3 then Ib (qC G.cards G.tree).2 else if s=4 then uX G.tree (oz G.tree) else if s=5 then xQ (sQ G.tree) else fun _=>none) tv cv fv gv W
 h1:Bk W q1 5 [.int .u8 (3:Nat)]
 h2:Bk W q2 5 [.int .u8 (4:Nat)]
 h3:Bk W q3 5 [.int .u8 (5:Nat)]
 h6:Bk W q6 104 [.map (some gm)]
 mp:ru Tryz.prog 9 W gm (IK Lg)
 tr:RdS rNd 3 (fun b=>b<lo) W tv G.tree
section
variable {G:Giv} {lo bw b2 b3 b4 q1 q2 q3 q6 gm:Nat} {mb:List Nat} {Lg:List (Nm×Int)} {tv cv fv gv:Value} {W W':World}
theorem JdF.new (h:JdF G lo bw b2 b3 b4 q1 q2 q3 q6 gm mb Lg tv cv fv gv W) (c:New W W'):JdF G lo bw b2 b3 b4 q1 q2 q3 q6 gm mb Lg tv cv fv gv W':=
 ⟨h.e.new c,h.h1.chg c fun e=>e,h.h2.chg c fun e=>e,h.h3.chg c fun e=>e,h.h6.chg c fun e=>e,h.mp.chg c fun e=>e,h.tr.keep nY c.keep⟩
theorem JdF.row (h:JdF G lo bw b2 b3 b4 q1 q2 q3 q6 gm mb Lg tv cv fv gv W) {Pb:Nat→Prop} {v:Value} {xs:List Nb} (o:nN (flat nbC) 118 9 Pb NoB W v xs) (hlo: ∀k,v.ownBlock=some k→lo≤k) (c:Chg (fun k=>v.ownBlock=some k) W W'):JdF G lo bw b2 b3 b4 q1 q2 q3 q6 gm mb Lg tv cv fv gv W':=
 ⟨h.e.own o c rfl rfl rfl,h.h1.chg c fun e=>o.pR h.h1 rfl e rfl,h.h2.chg c fun e=>o.pR h.h2 rfl e rfl,h.h3.chg c fun e=>o.pR h.h3 rfl e rfl,h.h6.chg c fun e=>o.pR h.h6 rfl e rfl,h.mp.chg c fun e=>o.rD h.mp e rfl,
   h.tr.keep nY (c.keep fun b _ hb e=>by have:=hlo b e;have hb:b<lo:=hb;omega)⟩
theorem Qa {m:Nat} {e:Jd} (h:(jdL b2 b3 b4 q1 q2 q3 q6)[m]? =some e):nI Tryz.prog e.2.1:=by
 unfold jdL at h
 match m with
 |0=>cases h;infer_instance
 |1=>cases h;infer_instance
 |2=>cases h;infer_instance
 |3=>cases h;infer_instance
 |4=>cases h;infer_instance
 |n+5=>cases h
theorem Xu {Pb:Nat→Prop} {bm:Nat} {N:List Nb} {ord:List Nat} {fl:List (Nm×Int)} {nv ov:Value} {m k:Nat} {e:Jd} (h:JdF G lo bw b2 b3 b4 q1 q2 q3 q6 gm mb Lg tv cv fv gv W) (g:WkM Pb bw bm N ord fl nv ov W) (cn:Cnt G.gone Lg) (hok:oh G.tree=true) (hN:N.length=G.tree.length)
 (hp: ∀i,i<N.length→(bnF N i).path=oO G.tree i∧(bnF N i).device=qN G.tree i∧(bnF N i).card=if qN G.tree i=true then qh G.cards G.tree i else none) (hk:k<N.length) (he:(jdL b2 b3 b4 q1 q2 q3 q6)[m]? =some e):
 e.1=m+2∧Calls Tryz.prog e.2.1 (vi k::e.2.2).toArray W (Ret fun v w'=>(∃y,v=.tuple #[.bool (zY G k m).isSome,vi y]∧ ∀u,zY G k m=some u→y=u)∧New W w'):=by
 obtain ⟨p1,p2,p3⟩:=hp k hk
 have am: ∀(q r:Nat),Bk W q 5 [.int .u8 r]→r<7→ ∀(o:Option Int),(if qN G.tree k=true then (if r=3 then Ib (qC G.cards G.tree).2 else if r=4 then uX G.tree (oz G.tree) else if r=5 then xQ (sQ G.tree) else fun _=>none) k else none)=o→
  Calls Tryz.prog 101 #[vi k,pT b4,pT q,pT b2] W (Ret fun v w'=>(∃y,v=.tuple #[.bool o.isSome,vi y]∧ ∀u,o=some u→y=u)∧New W w'):=by
  intro q r hq hr o ho
  obtain ⟨mr,hm⟩:=nP mb (k:=r) (by rw [h.e.ml];exact hr)
  refine (KW (m:=mr) (r:=r) g h.e.h2 h.e.h4 hq hr (by rw [List.getElem?_map,hm];rfl) (h.e.im r mr hm) hk).mono ?_
  rintro _ w' ⟨_,rfl,rfl,rfl⟩
  refine ⟨_,rfl,⟨((if r=3 then Ib (qC G.cards G.tree).2 else if r=4 then uX G.tree (oz G.tree) else if r=5 then xQ (sQ G.tree) else fun _=>none) k).getD 0,?_,fun u hu=>?_⟩,aQ _ _⟩
  ·rw [p2, ←ho]
   cases qN G.tree k with
   |false=>simp
   |true=>simp
  ·rw [←ho] at hu
   split at hu
   ·rw [hu];rfl
   ·cases hu
 unfold jdL at he
 match m with
 |0=>
  cases he
  refine ⟨rfl,(NR g h.e.h2 hk).mono ?_⟩
  rintro _ w' ⟨_,rfl,rfl,rfl⟩
  refine ⟨_,rfl,⟨-1,?_,fun u hu=>?_⟩,aQ _ _⟩
  ·rw [p2,p3]
   unfold zY
   cases qN G.tree k with
   |false=>simp
   |true=>cases qh G.cards G.tree k<;>simp
  ·have hu:(if qN G.tree k=true∧qh G.cards G.tree k=none then some (-1) else none)=some u:=hu
   split at hu
   ·cases hu;rfl
   ·cases hu
 |1=>cases he;exact ⟨rfl,am q1 3 h.h1 (by omega) _ rfl⟩
 |2=>cases he;exact ⟨rfl,am q2 4 h.h2 (by omega) _ rfl⟩
 |3=>cases he;exact ⟨rfl,am q3 5 h.h3 (by omega) _ rfl⟩
 |4=>
  cases he
  refine ⟨rfl,(NS g h.h6 h.e.h2 h.e.h3 h.tr h.mp cn hok hN (fun i hi=>(hp i hi).1) hk).mono ?_⟩
  rintro _ w' ⟨_,rfl,rfl,n⟩
  refine ⟨_,rfl,⟨qx (uj G k),?_,fun u hu=>?_⟩,n⟩
  ·unfold zY
   cases uj G k<;>rfl
  ·have hu:(uj G k).map (fun k=>(k:Int))=some u:=hu
   cases hg:uj G k with
   |none=>rw [hg] at hu;cases hu
   |some j=>rw [hg] at hu;cases hu;rfl
 |n+5=>cases he
end
end Go.Proofs.YtjecgaiaiophpaaGreatDoor
namespace Go.Proofs.YtjecgaiaiophpaaGreatDoor
open Go Wk
open Go.RowKit (Below)
attribute [local irreducible] Go.Calls
abbrev mpV (b:Nat):Value:=.map (some b)
theorem Xv {L:List Nat} {m b:Nat} (hL:L.length<m):(L.map mpV++List.replicate (m-L.length) (Value.map none)).set L.length (mpV b)=(L++ [b]).map mpV++List.replicate (m-(L++ [b]).length) (Value.map none):=by
 obtain ⟨k,hk⟩: ∃k,m-L.length=k+1:=⟨m-L.length-1,by omega⟩
 rw [hk,List.replicate_succ,List.set_append_right _ _ (by simp)]
 simp only [List.length_map,Nat.sub_self,List.set_cons_zero,List.map_append,List.map_cons,List.map_nil,List.append_assoc,List.singleton_append,List.length_append,List.length_singleton]
 congr 3
 omega
theorem xR {W:Nat→List Nat} {order:List Nat}: ∀(l seen:List Nat),(sF W order seen l).length≤l.length∧ ∀c∈sF W order seen l, ∀i∈c,i∈order
 | [],seen=>by rw [sF];simp
 |i::r,seen=>by
  rw [D8]
  split
  ·obtain ⟨h1,h2⟩:=xR (W:=W) (order:=order) r seen
   exact ⟨by rw [List.length_cons];omega,h2⟩
  ·obtain ⟨h1,h2⟩:=xR (W:=W) (order:=order) r (seen++order.filter (qB W i))
   refine ⟨by rw [List.length_cons,List.length_cons];omega,fun c hc k hk=>?_⟩
   rcases List.mem_cons.1 hc with rfl|hc
   ·exact (List.mem_filter.1 hk).1
   ·exact h2 c hc k hk
theorem yQ {t:List Nd}: ∀(l:List Nat) (out:List Cm),(uh t out l).2.length≤l.length∧ ∀r∈(uh t out l).2,r.node∈l
 | [],out=>by rw [uh];simp
 |n::r,out=>by
  rw [uh]
  split
  ·obtain ⟨h1,h2⟩:=yQ (t:=t) r out
   refine ⟨by simp only [List.length_cons];omega,fun x hx=>?_⟩
   rcases List.mem_cons.1 hx with rfl|hx
   ·exact List.mem_cons_self
   ·exact List.mem_cons_of_mem _ (h2 x hx)
  ·split
   ·obtain ⟨h1,h2⟩:=yQ (t:=t) r out
    refine ⟨by simp only [List.length_cons];omega,fun x hx=>?_⟩
    rcases List.mem_cons.1 hx with rfl|hx
    ·exact List.mem_cons_self
    ·exact List.mem_cons_of_mem _ (h2 x hx)
   ·have h:=yQ (t:=t) r
    exact ⟨by rw [List.length_cons];exact Nat.le_succ_of_le (h _).1,fun x hx=>List.mem_cons_of_mem _ ((h _).2 x hx)⟩
theorem Qc (t:List Nd):(sQ t).length≤t.length:=by
 have:=(xR (W:=pW t) (order:=pq t) (pq t) []).1
 unfold sQ
 refine Nat.le_trans this ?_
 unfold pq
 rw [List.length_mergeSort,List.length_range]
 exact Nat.le_refl _
theorem TA {t:List Nd}: ∀c∈sQ t, ∀i∈c,i<t.length:=fun c hc i hi=>CY.1 ((xR (W:=pW t) (order:=pq t) (pq t) []).2 c hc i hi)
noncomputable def zM (G:Giv) (k m i:Nat):Bn:=if i<G.tree.length then (if i<k then yP G 5 i else if i=k then yP G m i else yP G 0 i) else default
theorem TB (G:Giv):zM G 0 0=xk G (oz G.tree):=by
 funext i
 unfold zM xk
 split
 ·rw [if_neg (by omega)]
  split<;>exact P9 G i
 ·rfl
theorem TD (G:Giv) (k:Nat):zM G k 5=zM G (k+1) 0:=by
 funext i
 unfold zM
 split
 ·by_cases h1:i<k
  ·rw [if_pos h1,if_pos (by omega)]
  ·rw [if_neg h1]
   by_cases h2:i=k
   ·rw [if_pos h2,if_pos (by omega)]
   ·rw [if_neg h2,if_neg (by omega)]
    split<;>rfl
 ·rfl
theorem VG (G:Giv):zM G G.tree.length 0=nS G:=by
 funext i
 unfold zM nS
 split
 ·exact Tz G i
 ·rfl
theorem VH (G:Giv) (k m:Nat) {i:Nat} (h:i<G.tree.length):(zM G k m i).path=oO G.tree i∧(zM G k m i).device=qN G.tree i∧(zM G k m i).card=if qN G.tree i=true then qh G.cards G.tree i else none:=by
 unfold zM
 rw [if_pos h]
 split
 ·exact ⟨rfl,rfl,rfl⟩
 split<;>exact ⟨rfl,rfl,rfl⟩
theorem Rj (G:Giv) {k m:Nat} (h:k<G.tree.length):zM G k m k=yP G m k:=by
 unfold zM
 rw [if_pos h,if_neg (by omega),if_pos rfl]
theorem JJ (G:Giv) {k m:Nat} (h:k<G.tree.length):zM G k (m+1)=fun i=>if i=k then yP G (m+1) k else zM G k m i:=by
 funext i
 unfold zM
 by_cases hi:i=k
 ·subst hi;rw [if_pos h,if_neg (by omega),if_pos rfl,if_pos rfl]
 ·rw [if_neg hi,if_neg hi,if_neg hi]
theorem Qd {G:Giv} {k m:Nat} (h:A7 (Df G k m) (m+2) (zY G k m)=Df G k m):yP G (m+1) k=yP G m k:=by
 unfold yP
 rw [show Df G k (m+1)=A7 (Df G k m) (m+2) (zY G k m) from rfl,h]
section
variable {w:World} {G:Giv} {lo bw bm:Nat} {N:List Nb} {fl:List (Nm×Int)} {nv tv cv fv gv:Value}
theorem Qg {Pb:Nat→Prop} (hlo: ∀b,Pb b→lo≤b) (hbig: ∀b,w.heap.size≤b→Pb b) (hok:oh G.tree=true) (hco:rP G.cards=true) (hgl: ∀x∈G.gone,x.length≤100000000) (r:RdG (fun b=>b<lo) w G tv cv fv gv) (g:WkM Pb bw bm N [] fl nv (.slice none 0 0) w) (hN:N.length=G.tree.length) (hb:bnF N=xk G []) (hst: ∀k,stF N k=0):
 Calls Tryz.prog 47 #[pT bw,.agg #[tv,cv,fv,gv]] w (Ret fun _ w'=> ∃N',WkM Pb bw bm N' [] fl nv (.slice none 0 0) w'∧N'.length=G.tree.length∧bnF N'=nS G∧(∀k,stF N' k=0)∧Chg Pb w w'):=by
 have hlen:=pz hok
 have hpos:=uw hok
 have hlw:lo≤w.heap.size:=hlo _ (hbig _ (Nat.le_refl _))
 have hE:(oz G.tree).length≤10240*G.tree.length:=xM hok G.tree.length (Nat.le_refl _)
 obtain ⟨ta,tc,rfl,_,_⟩:=r.t.form
 obtain ⟨ca,cc,rfl,_,_⟩:=r.c.form
 obtain ⟨fa,fc,rfl,_,_⟩:=r.f.form
 obtain ⟨ga,gc,rfl,_,_⟩:=r.g.form
 obtain ⟨ng,nc,rfl,Ig,afh,afi⟩:=g.nd.row.blk (by intro e;rw [e] at hN;simp at hN;omega)
 refine nH Tryz.func47 rfl Tryz.ntmps47 rfl ?_
 (repeat' (first|refine au ?_|refine ak ?_))
 refine bI rfl fun w1 b2 n1 s1=>?_
 replace b2:Bk w1 w.heap.size 42 [pT bw]:=b2
 refine bI rfl fun w2 b3 n2 s2=>?_
 replace b3:Bk w2 w1.heap.size 27 [.slice ta G.tree.length tc,.slice ca G.cards.length cc,.slice fa G.fails.length fc,.slice ga G.gone.length gc]:=b3
 (repeat' (first|refine af ?_|refine ah ?_|refine au ?_|refine ak ?_))
 refine Wl.alloc fun w3 b4 n3 s3=>?_
 replace b4:Bk w3 w2.heap.size 188 (List.map mpV []++List.replicate 7 (.map none)):=b4
 have n03:=New.trans n1 (New.trans n2 n3)
 have hz1:=n1.size
 have hz2:=n2.size
 have hz3:=n3.size
 replace b2:=b2.chg (New.trans n2 n3) fun e=>e
 replace b3:=b3.chg n3 fun e=>e
 have aax:=b2.lt
 have afj:=b3.lt
 have YK:=b4.lt
 replace g:=(g.mono (Pb':=fun b=>Pb b∧b<w.heap.size) fun b hb e=>⟨e,hb⟩).new n03
 (repeat' (first|refine aa0 ?_|refine af ?_|refine ah ?_|refine au ?_|refine ak ?_|refine Wc.block ?_))
 refine aS (σ:=List Nat) (fun L=>[(2,pT w.heap.size),(3,pT w1.heap.size),(4,pT w2.heap.size),(31,vi L.length)])
  (fun L W=>L.length≤7∧Bk W w2.heap.size 188 (L.map mpV++List.replicate (7-L.length) (.map none))∧(∀b∈L,w3.heap.size≤b∧ru Tryz.prog 3 W b [])∧L.Nodup∧Chg (fun k=>k=w2.heap.size) w3 W) (fun L=>7-L.length) [] ⟨rfl,rfl,rfl,rfl,trivial⟩ ⟨by simp,b4,by simp,List.nodup_nil,aQ _ _⟩ ?_
 clear b4
 rintro L F W ⟨hL,b4,hm,hnd,cW⟩
 simp only [oP]
 (repeat' (first|refine aa0 ?_|refine aa1 ?_|refine af ?_|refine ah ?_|refine au ?_|refine ak ?_|refine Wc.block ?_|refine Wc.skip ?_|refine aK ?_|refine aN ?_|refine aJ ?_|refine aP ?_|refine aa3 ?_|refine aa4 ?_|refine aa5 ?_|refine pF (fun _=>?_) (fun _=>?_)))
 ·refine fZ (k:=3) fun w4 m4 n4 s4=>?_
  refine iq rfl rfl (by omega) (by omega) ?_
  have hWs:=cW.size
  refine bf (u:=mpV W.heap.size) (b4.chg n4 fun e=>e) rfl (show ((L.length:Nat):Int).toNat<(L.map mpV++List.replicate (7-L.length) (Value.map none)).length by simp only [List.length_append,List.length_map,List.length_replicate];omega) rfl rfl fun w5 b5 c5=>?_
  rw [Int.toNat_natCast,Xv (m:=7) (by omega)] at b5
  (repeat' (first|refine aa0 ?_|refine af ?_|refine ah ?_|refine ak ?_|refine aH ?_|refine aa8 ?_))
  refine aG (L++ [W.heap.size]) ⟨rfl,rfl,rfl,by rw [List.length_append,List.length_singleton];rfl,trivial⟩ ⟨by rw [List.length_append,List.length_singleton];omega,b5,fun b hb=>?_,?_,Chg.trans (Chg.trans cW n4.any fun _ _ e=>e) c5 fun _ _ e=>e⟩ (by rw [List.length_append,List.length_singleton];omega)
  ·rcases List.mem_append.1 hb with hb|hb
   ·exact ⟨(hm b hb).1,((hm b hb).2.chg n4 fun e=>e).chg c5 fun e=>by have:=(hm b hb).1;omega⟩
   ·rw [List.mem_singleton.1 hb]
    exact ⟨hWs,m4.chg c5 fun e=>by omega⟩
  ·rw [List.nodup_append]
   refine ⟨hnd,by simp,fun a ha b hb e=>?_⟩
   rw [List.mem_singleton.1 hb] at e
   have:=(hm a ha).2.lt
   omega
 ·have hL7:L.length=7:=by omega
  rw [hL7,Nat.sub_self,List.replicate_zero,List.append_nil] at b4
  have hWs:=cW.size
  have e0:JdE bw w.heap.size w1.heap.size w2.heap.size L (fun _ _=>none) (.slice ta G.tree.length tc) (.slice ca G.cards.length cc) (.slice fa G.fails.length fc) (.slice ga G.gone.length gc) W:=
   ⟨b2.chg cW fun e=>by omega,b3.chg cW fun e=>by omega,b4,fun s d h=>ImL.afl (hm d (List.mem_of_getElem? h)).2,hL7,hnd⟩
  replace g:=g.chg (M:=fun k=>k=w2.heap.size) cW (fun k hk e=>by have:=hk.2;omega)
  have hLr: ∀b∈L,w.heap.size≤b∧b<W.heap.size:=fun b hb=>⟨by have:=(hm b hb).1;omega,(hm b hb).2.lt⟩
  clear b2 b3 b4 hm hnd
  have cW0:Chg (fun k=>w.heap.size≤k) w W:=Chg.trans n03.any cW fun k _ e=>by omega
  have ah2:w3.heap.size≤W.heap.size:=hWs
  clear cW n03 n1 n2 n3
  generalize hb2:w.heap.size=b2 at*
  generalize hb3:w1.heap.size=b3 at*
  generalize hb4:w2.heap.size=b4 at*
  skip
  refine ay (u:=.slice ta G.tree.length tc) rfl (e0.h3.cell (o:=0) rfl) ?_
  skip
  refine aB (Ph (r.t.keep nY (cW0.keep fun b _ hb=>by have hb:b<lo:=hb;omega)) hok) rfl ?_
  rintro _ wB ⟨⟨q,rfl,hq⟩,nB⟩
  obtain ⟨qa,qc,rfl,_,_⟩:=hq.form
  have hzB:=nB.size
  replace hq:=hq.mono (Pb':=fun b=>W.heap.size≤b∧b<wB.heap.size) qK fun b hb e=>⟨e,hb⟩
  replace g:=(g.mono (Pb':=fun b=>Pb b∧ ¬(b2≤b∧b<wB.heap.size)) fun b hb e=>⟨e.1,by omega⟩).new nB
  have eB:=e0.new nB
  have cB:=Chg.trans cW0 nB.any (M':=fun _=>False) fun _ _ e=>e.elim
  clear e0 cW0 nB
  (repeat' (first|refine aa0 ?_|refine aa1 ?_|refine af ?_|refine pI ?_|refine aI rfl ?_|refine ah ?_|refine au ?_|refine ak ?_|refine Wc.block ?_))
  refine aS (σ:=Nat×List Nb×(Nat→Nat→Option Int)) (fun q=>[(2,pT b2),(3,pT b3),(4,pT b4),(44,.slice qa (oz G.tree).length qc),(45,vi (oz G.tree).length),(46,vi q.1)])
   (fun q W'=>q.1≤(oz G.tree).length∧WkM (fun b=>Pb b∧ ¬(b2≤b∧b<wB.heap.size)) bw bm q.2.1 [] fl (.slice (some ⟨ng,0,none⟩) N.length nc) (.slice none 0 0) W'∧q.2.1.length=N.length∧bnF q.2.1=xk G ((oz G.tree).take q.1)∧(∀k,stF q.2.1 k=0)∧JdE bw b2 b3 b4 L q.2.2 (.slice ta G.tree.length tc) (.slice ca G.cards.length cc) (.slice fa G.fails.length fc) (.slice ga G.gone.length gc) W'∧q.2.2=(fun s=>if s=4 then uX G.tree ((oz G.tree).take q.1) else fun _=>none)∧RdS rEd 6 (fun b=>W.heap.size≤b∧b<wB.heap.size) W' (.slice qa (oz G.tree).length qc) (oz G.tree)∧wB.heap.size≤W'.heap.size∧Chg Pb w W') (fun q=>(oz G.tree).length-q.1)
   (0,N,fun _ _=>none) ⟨rfl,rfl,rfl,rfl,rfl,rfl,trivial⟩ ⟨Nat.zero_le _,g,rfl,hb,hst,eB,by funext s i;split<;>rfl,hq,Nat.le_refl _,cB.mono fun k _ e=>hbig k e⟩ ?_
  clear g hb hst eB hq cB
  rintro ⟨k,N1,ff⟩ F1 W1 ⟨hk,g,hN1,hb,hst,e1,hff,hq,YO,c1⟩
  dsimp only at hk g hN1 hb hst e1 hff hq YO c1
  simp only [oP]
  (repeat' (first|refine af ?_|refine ah ?_|refine au ?_|refine ak ?_|refine Wc.block ?_|refine Wc.skip ?_|refine aK ?_|refine aN ?_|refine aJ ?_|refine aP ?_|refine aa3 ?_|refine aa4 ?_|refine aa5 ?_|refine pF (fun _=>?_) (fun _=>?_)))
  ·obtain ⟨x,hx⟩:=nP (oz G.tree) (k:=k) (by omega)
   have hxs:=(wK x (List.mem_of_getElem? hx)).1
   have hxd:=(wK x (List.mem_of_getElem? hx)).2
   refine aZ hq rfl rfl (by omega) (by rw [Int.toNat_natCast];exact hx) fun b o cs hl hR hat=>?_
   obtain ⟨va,rfl,hva⟩:=hR
   obtain ⟨xa,xc,rfl,_,_⟩:=hva.form
   refine bG hat rfl rfl ?_
   clear hat
   refine Wl.alloc fun w5 b5 n5 s5=>?_
   skip
   refine aV (new:=edC x (.slice xa x.args.length xc)) b5 rfl rfl rfl rfl (show (6:Nat)≤6 from Nat.le_refl 6) Sl fun w6 b6 c6 s6=>?_
   have n6:New W1 w6:=(Chg.trans n5.any c6 fun _ _ e=>e).toNew fun k hk e=>by omega
   replace b6:Bk w6 W1.heap.size 150 (edC x (.slice xa x.args.length xc)):=b6
   clear b5 n5 c6
   obtain ⟨y,hy⟩:=nP N1 (k:=x.src) (by omega)
   have hyb:=sS hy
   have g6:=g.new n6
   have e6:=e1.new n6
   have hq6:=hq.keep sK n6.keep
   have c06:=Chg.trans c1 n6.any (M':=fun _=>False) fun _ _ e=>e.elim
   clear g e1 hq c1
   (repeat' (first|refine af ?_|refine ah ?_|refine au ?_))
   refine dZ rfl (by kernel_rfl) ?_
   skip
   refine aC (u:=pT bw) rfl (fun w' hw=>(e6.h2.chg hw fun e=>e).cell (o:=0) rfl) ?_
   (repeat' (first|refine bD rfl ?_|refine aa7 ?_))
   refine aC (u:=.slice (some ⟨ng,0,none⟩) N.length nc) rfl (fun w' hw=>(g6.b.chg hw fun e=>e).cell (o:=0) rfl) ?_
   (repeat' (refine aa7 ?_))
   refine aC (u:=vi x.src) rfl (fun w' hw=>(b6.chg hw fun e=>e).cell (o:=0) rfl) ?_
   skip
   refine sD ?_
   (repeat' (first|refine eu (by conv=>{lhs;whnf}) ?_|refine ax ?_))
   intro w7 n7
   have g7:=g6.new n7
   have e7:=e6.new n7
   have hq7:=hq6.keep sK n7.keep
   have c07:=Chg.trans c06 n7.any (M':=fun _=>False) fun _ _ e=>e.elim
   have b7:=b6.chg n7 fun e=>e
   have hz7:wB.heap.size≤w7.heap.size:=Nat.le_trans YO (Nat.le_trans n6.size n7.size)
   clear g6 e6 hq6 c06 b6 n6 n7
   have afn:y.bn.device=qN G.tree x.src:=by rw [←hyb,hb];unfold xk;rw [if_pos hxs];rfl
   have hnx:=P6 G ((oz G.tree).take k) x
   have hmx:=PZ G.tree ((oz G.tree).take k) x
   rw [←take_snoc hx] at hnx hmx
   have hsame:cnts G.tree x=false→xk G ((oz G.tree).take (k+1))=xk G ((oz G.tree).take k)∧uX G.tree ((oz G.tree).take (k+1))=uX G.tree ((oz G.tree).take k):=fun h=>by
    rw [hnx,hmx,h];exact ⟨if_neg fun e=>(by cases e.1),if_neg (by simp)⟩
   have hat:At w7 ng (x.src*9) (nbC y):=g7.nd.row.at rfl rfl hy
   (repeat' (first|refine ah ?_|refine au ?_|refine ak ?_|refine Wc.block ?_|refine aa5 ?_))
   refine ay (u:=.bool x.soft) rfl (b7.cell (o:=3) rfl) ?_
   cases hsf:x.soft with
   |true=>
    obtain ⟨h1,h2⟩:=hsame (by simp [cnts,hsf])
    (repeat' (first|refine aa0 ?_|refine aa1 ?_|refine af ?_|refine qo ?_|refine pU ?_|refine ah ?_|refine ak ?_|refine Wc.skip ?_|refine aH ?_|refine aa3 ?_|refine aa8 ?_))
    exact aG (k+1,N1,ff) ⟨rfl,rfl,rfl,rfl,rfl,rfl,trivial⟩ ⟨by dsimp only;omega,g7,hN1,by rw [h1];exact hb,hst,e7,by rw [h2];exact hff,hq7,hz7,c07⟩ (by dsimp only;omega)
   |false=>
    (repeat' (first|refine aa0 ?_|refine aa6 ?_|refine bK rfl ?_|refine aa5 ?_))
    refine ay (u:=.bool y.bn.device) rfl (by have:=hat.get 1 rfl;simpa using this) ?_
    rw [afn]
    cases hdv:qN G.tree x.src with
    |false=>
     obtain ⟨h1,h2⟩:=hsame (by simp [cnts,hsf,hdv])
     (repeat' (first|refine aa0 ?_|refine aa1 ?_|refine af ?_|refine aa6 ?_|refine pJ ?_|refine aX rfl ?_|refine ah ?_|refine ak ?_|refine Wc.skip ?_|refine aH ?_|refine aa3 ?_|refine aa8 ?_))
     exact aG (k+1,N1,ff) ⟨rfl,rfl,rfl,rfl,rfl,rfl,trivial⟩ ⟨by dsimp only;omega,g7,hN1,by rw [h1];exact hb,hst,e7,by rw [h2];exact hff,hq7,hz7,c07⟩ (by dsimp only;omega)
    |true=>
     have hct:cnts G.tree x=true:=by simp [cnts,hsf,hdv]
     rw [hct] at hnx hmx
     rw [if_pos ⟨rfl,hxs⟩] at hnx
     rw [Bool.true_and] at hmx
     clear hsame
     (repeat' (first|refine aa1 ?_|refine af ?_|refine aa6 ?_|refine pJ ?_|refine aX rfl ?_|refine ah ?_|refine au ?_|refine ak ?_|refine aa4 ?_|refine aa5 ?_))
     refine ay (u:=vi (qx x.dst)) rfl (b7.cell (o:=1) rfl) ?_
     cases hds:x.dst with
     |none=>
      rw [hds] at hnx hmx
      dsimp only at hnx
      simp only [Option.isNone_none,if_true] at hmx
      obtain ⟨m4,hm4⟩:=nP L (k:=4) (by omega)
      rw [show qx none= -1 from rfl]
      (repeat' (first|refine aa1 ?_|refine af ?_|refine ah ?_|refine ak ?_|refine aa3 ?_|(refine pF (fun _=>?_) (fun _=>?_)<;>(first|(exfalso;omega)|skip))))
      refine iq rfl rfl (by omega) (by omega) ?_
      skip
      refine ay (u:=mpV m4) rfl (e7.h4.cell (o:=4) (by rw [List.getElem?_map,hm4];rfl)) ?_
      (repeat' (refine aa5 ?_))
      refine ay (u:=vi x.src) rfl (b7.cell (o:=0) rfl) ?_
      skip
      refine je (e7.im 4 m4 hm4) (by omega) rfl rfl rfl fun w8 m8 c8 s8=>?_
      have hmr:=hLr m4 (List.mem_of_getElem? hm4)
      (repeat' (first|refine aa0 ?_|refine af ?_|refine ah ?_|refine ak ?_|refine aH ?_|refine aa8 ?_))
      refine aG (k+1,N1,fun s=>if s=4 then FT (ff 4) x.src (-1) else ff s) ⟨rfl,rfl,rfl,rfl,rfl,rfl,trivial⟩ ⟨by dsimp only;omega,g7.chg c8 fun k hk e=>hk.2 (by omega),hN1,by rw [hnx];exact hb,hst,e7.put hm4 m8 c8,?_,hq7.keep sK (c8.keep fun b _ hb e=>by have:=hb.1;omega),by have:=c8.size;omega,Chg.trans c07 c8 fun k _ e=>hbig k (by omega)⟩ (by dsimp only;omega)
      dsimp only
      funext s
      by_cases hs4:s=4
      ·subst hs4;rw [if_pos rfl,if_pos rfl,hmx,hff];rfl
      ·rw [if_neg hs4,if_neg hs4,hff];exact if_neg hs4
     |some d=>
      rw [hds] at hnx hmx
      dsimp only at hnx
      rw [if_neg (by simp)] at hmx
      rw [show qx (some d)=(d:Int) from rfl]
      have hym:=List.mem_of_getElem? hy
      have hel:=g7.nd.el y hym
      have hrow:=fun (w':World) (c:Chg (fun j=>(svV y.wv).ownBlock=some j) w7 w')=>g7.nd.row.chg (nG nbC) c fun k hk e=>g7.nd.yK y hym k e hk
      have hwl:y.bn.wants.length≤1+k:=by
       rw [←hyb,hb]
       unfold xk
       rw [if_pos hxs]
       unfold xh
       dsimp only
       rw [List.length_append]
       have h1:=List.length_filterMap_le (fun e:Ed=>if e.src=x.src∧e.soft=false∧qN G.tree x.src=true then e.dst else none) ((oz G.tree).take k)
       have h2:=List.length_take_le k (oz G.tree)
       split
       ·rw [List.length_singleton];omega
       ·rw [List.length_nil];omega
      (repeat' (first|refine aa1 ?_|refine af ?_|refine ah ?_|refine aa4 ?_|(refine pF (fun _=>?_) (fun _=>?_)<;>(first|(exfalso;omega)|skip))))
      refine bP rfl (by kernel_rfl) (fun w'=>Chg (fun j=>(svV y.wv).ownBlock=some j) w7 w') (Chg.drew _ _) ?_
      intro w8 m8
      (repeat' (first|refine aa2 (aa9 (ax ?_))|refine aa2 (bD rfl (ax ?_))|refine aa2 (aa7 (ax ?_))))
      refine aa2 (aC (u:=svV y.wv) rfl (fun w' c=>by have:=((hrow w' c).at rfl rfl hy).get 6 rfl;simpa using this) (ax ?_))
      (repeat' (refine aa2 (aa7 (ax ?_))))
      refine aa2 (aC (u:=vi d) rfl (fun w' c=>(b7.chg c fun e=>hel.pR b7 rfl e rfl).cell (o:=1) (by show some (vi (qx x.dst))=_;rw [hds];rfl)) (ax ?_))
      skip
      refine aU rfl (bY (R:=Wk.one viN) (Pe:=NoB) (y:=d) qX rfl rfl rfl rfl (by omega) (by omega) fun v6 w9 o9 n9 s9 e9=>?_)
      have m9:=New.trans m8 n9
      refine af ⟨rfl,m9.any,?_⟩
      refine aU rfl (cu (R:=Wk.one viN) qX (hel.new (nK _) m9) (o9.rd qX.mo) (fun z cs hz=>hz) rfl rfl (by omega) (by simp only [maxLen,List.length_singleton];omega) (by simp only [List.length_singleton];omega) fun u' w10 o10 c10 lie _=>?_)
      have IC:Chg (fun j=>(svV y.wv).ownBlock=some j) w7 w10:=Chg.trans m9.any c10 fun _ _ e=>e
      refine af ⟨rfl,IC,?_⟩
      (repeat' (first|refine aa2 (bD rfl (ax ?_))|refine aa2 (aa7 (ax ?_))))
      obtain ⟨ua,uc,rfl,_,_⟩:=o10.form
      have hz9:=m9.size
      have Xb:=IC.size
      refine Wt.last rfl (fC (f:=nbC) (sz:=9) (p:=y) (q:={y with wv:=(ua,(y.bn.wants++ [d]).length,uc),bn:={y.bn with wants:=y.bn.wants++ [d]}}) (j:=x.src) (o:=6) (cap:=nc) (u:=.slice ua (y.bn.wants++ [d]).length uc) (fun _=>rfl) (show (6:Nat)<9 by omega) rfl hy rfl (hrow w10 IC) (by rw [hN1]) (by show Value.pointer (some ⟨ng,0+(x.src:Int).toNat*9+6,none⟩)=_;rw [Nat.zero_add,Int.toNat_natCast]) rfl fun w11 o11 c11=>?_)
      refine af ?_
      have U7:=c11.size
      have g11:=g7.want hy (d:=d) (by have:=hxd d hds;omega) (v':=(ua,(y.bn.wants++ [d]).length,uc)) (o10.mono (nX _) (fun b _ e=>by rcases e with e|e;exact e;exact ⟨hbig b (by omega),fun h=>by omega⟩) (fun _ _ e=>e)) IC (by rcases lie with l1|l1;exact .inl l1;exact .inr fun k hk=>by have:=l1 k hk;omega) o11 c11
      have VI:=(g7.nd.row.lt (k:=ng) rfl).1
      have e11:=(e7.own hel IC rfl rfl rfl).own (hrow w10 IC) c11 rfl rfl rfl
      (repeat' (first|refine aa0 ?_|refine af ?_|refine ah ?_|refine ak ?_|refine aH ?_|refine aa8 ?_))
      refine aG (k+1,N1.set x.src _,ff) ⟨rfl,rfl,rfl,rfl,rfl,rfl,trivial⟩ ⟨by dsimp only;omega,g11,by dsimp only;rw [List.length_set];exact hN1,?_,KY hst (by rw [←wG hy];exact hst _),e11,by rw [hmx];exact hff,(hq7.keep sK (IC.keep fun b _ hb e=>(hel.lt e).1.2 ⟨by have:=hb.1;omega,hb.2⟩)).keep sK (c11.keep fun b _ hb e=>by have e1:ng=b:=(by cases e;rfl);have h1:=hb.1;have h2:=hb.2;have h3:=VI.2;omega),by omega,Chg.trans (Chg.trans c07 IC fun k _ e=>(hel.lt e).1.1) c11 fun k _ e=>by cases e;exact VI.1⟩ (by dsimp only;omega)
      dsimp only
      rw [KX (by omega),hnx]
      funext i
      by_cases hi:i=x.src
      ·rw [if_pos hi,if_pos hi,hi, ←hb,hyb]
      ·rw [if_neg hi,if_neg hi,hb]
  ·obtain rfl:k=(oz G.tree).length:=by omega
   rw [List.take_length] at hb hff
   clear hq
   subst hff
   skip
   refine ay (u:=.slice ta G.tree.length tc) rfl (e1.h3.cell (o:=0) rfl) ?_
   skip
   refine aB (Pm (r.t.keep nY (c1.keep fun b _ hb e=>by have hb:b<lo:=hb;have:=hlo b e;omega)) hok) rfl ?_
   rintro _ w2 ⟨⟨rq,rs,rfl,LR,hrs⟩,n2⟩
   obtain ⟨ra,rc,rfl,_,_⟩:=LR.row.form
   have g2:=g.new n2
   have e2:=e1.new n2
   have c2:=Chg.trans c1 n2.any (M':=fun _=>False) fun _ _ e=>e.elim
   have hz2:wB.heap.size≤w2.heap.size:=Nat.le_trans YO n2.size
   have hrl:rs.length≤G.tree.length:=by
    have h1:=congrArg List.length hrs
    rw [List.length_map] at h1
    rw [h1]
    exact Qc G.tree
   clear g e1 c1 n2
   (repeat' (first|refine aa0 ?_|refine aa1 ?_|refine af ?_|refine pI ?_|refine aI rfl ?_|refine ah ?_|refine au ?_|refine ak ?_|refine Wc.block ?_))
   refine aS (σ:=Nat×(Nat→Nat→Option Int)) (fun q=>[(2,pT b2),(3,pT b3),(4,pT b4),(93,.slice ra rs.length rc),(94,vi rs.length),(95,vi q.1)])
    (fun q W'=>q.1≤rs.length∧WkM (fun b=>Pb b∧ ¬(b2≤b∧b<wB.heap.size)) bw bm N1 [] fl (.slice (some ⟨ng,0,none⟩) N.length nc) (.slice none 0 0) W'∧JdE bw b2 b3 b4 L q.2 (.slice ta G.tree.length tc) (.slice ca G.cards.length cc) (.slice fa G.fails.length fc) (.slice ga G.gone.length gc) W'∧q.2=(fun s=>if s=4 then uX G.tree (oz G.tree) else if s=5 then xQ ((rs.map (·.2)).take q.1) else fun _=>none)∧RgL W1.heap.size W' (.slice ra rs.length rc) rs∧Chg Pb w W') (fun q=>rs.length-q.1)
    (0,fun s=>if s=4 then uX G.tree (oz G.tree) else fun _=>none) ⟨rfl,rfl,rfl,rfl,rfl,rfl,trivial⟩ ⟨Nat.zero_le _,g2,e2,by funext s;dsimp only;split;rfl;split<;>rfl,LR,c2⟩ ?_
   clear g2 e2 LR c2
   rintro ⟨k,ff⟩ F2 W2 ⟨hk,g2,e2,hff,LR,c2⟩
   dsimp only at hk g2 e2 hff LR c2
   simp only [oP]
   obtain ⟨m5,hm5⟩:=nP L (k:=5) (by omega)
   have ah3:=hLr m5 (List.mem_of_getElem? hm5)
   (repeat' (first|refine af ?_|refine ah ?_|refine au ?_|refine ak ?_|refine Wc.block ?_|refine Wc.skip ?_|refine aK ?_|refine aN ?_|refine aJ ?_|refine aP ?_|refine aa3 ?_|refine aa4 ?_|refine aa5 ?_|refine pF (fun _=>?_) (fun _=>?_)))
   ·obtain ⟨x,hx⟩:=nP rs (k:=k) (by omega)
    have hel:=LR.el x (List.mem_of_getElem? hx)
    obtain ⟨xa,xc,hxv,hxm,afo⟩:=hel.form
    have ah4:x.2.length≤9223372036854775807:=by unfold maxLen at afo;omega
    refine aZ (LR.row.rd (nO _)) rfl rfl (by omega) (by rw [Int.toNat_natCast];exact hx) fun b o cs hl hR hat=>?_
    obtain rfl:cs=wrC x:=hR
    refine ay (u:=.slice xa x.2.length xc) rfl (by rw [←hxv];exact hat.get 0 rfl) ?_
    clear hat
    (repeat' (first|refine aa0 ?_|refine aa1 ?_|refine af ?_|refine aI rfl ?_|refine ah ?_|refine au ?_|refine ak ?_|refine Wc.block ?_))
    refine aS (σ:=Nat×(Nat→Nat→Option Int)) (fun q=>[(2,pT b2),(3,pT b3),(4,pT b4),(14,.slice xa x.2.length xc),(93,.slice ra rs.length rc),(94,vi rs.length),(95,vi k),(99,.slice xa x.2.length xc),(100,vi x.2.length),(101,vi q.1)])
     (fun q W'=>q.1≤x.2.length∧WkM (fun b=>Pb b∧ ¬(b2≤b∧b<wB.heap.size)) bw bm N1 [] fl (.slice (some ⟨ng,0,none⟩) N.length nc) (.slice none 0 0) W'∧JdE bw b2 b3 b4 L q.2 (.slice ta G.tree.length tc) (.slice ca G.cards.length cc) (.slice fa G.fails.length fc) (.slice ga G.gone.length gc) W'∧q.2=(fun s=>if s=4 then uX G.tree (oz G.tree) else if s=5 then (fun i=>if i∈x.2.take q.1 then some ((x.2.headD 0:Nat):Int) else xQ ((rs.map (·.2)).take k) i) else fun _=>none)∧RgL W1.heap.size W' (.slice ra rs.length rc) rs∧Chg Pb w W') (fun q=>x.2.length-q.1)
     (0,ff) ⟨rfl,rfl,rfl,rfl,rfl,rfl,rfl,rfl,rfl,rfl,trivial⟩ ⟨Nat.zero_le _,g2,e2,by rw [hff];funext s;dsimp only;split;rfl;split;(funext i;simp);rfl,LR,c2⟩ ?_
    clear g2 e2 hff LR c2 hel
    rintro ⟨m,ff⟩ F3 W3 ⟨hm,g3,e3,hff,LR,c3⟩
    dsimp only at hm g3 e3 hff LR c3
    simp only [oP]
    (repeat' (first|refine aa0 ?_|refine af ?_|refine ah ?_|refine au ?_|refine ak ?_|refine Wc.block ?_|refine Wc.skip ?_|refine aK ?_|refine aN ?_|refine aH ?_|refine aJ ?_|refine aP ?_|refine aa3 ?_|refine aa4 ?_|refine aa8 ?_|refine pF (fun _=>?_) (fun _=>?_)))
    ·have hel:=LR.el x (List.mem_of_getElem? hx)
     rw [hxv] at hel
     obtain ⟨y,hy⟩:=nP x.2 (k:=m) (by omega)
     obtain ⟨h0,hh0⟩:=nP x.2 (k:=0) (by omega)
     have hh:x.2.headD 0=h0:=by
      cases hx2:x.2 with
      |nil=>rw [hx2] at hh0;cases hh0
      |cons a l=>rw [hx2] at hh0;cases hh0;rfl
     have hyn:y<9223372036854775808:=by
      have h1:x.2∈sQ G.tree:=by rw [←hrs];exact List.mem_map.2 ⟨x,List.mem_of_getElem? hx,rfl⟩
      have:=TA _ h1 y (List.mem_of_getElem? hy)
      omega
     refine bT (hel.rd qX.mo) rfl rfl (by omega) (by rw [Int.toNat_natCast];exact hy) fun b o hcell=>?_
     refine ay (u:=vi y) rfl hcell ?_
     (repeat' (first|refine aa1 ?_|refine af ?_|refine ah ?_))
     refine bP rfl (by kernel_rfl) (fun w'=>New W3 w') (Chg.drew _ _) ?_
     intro w4 n4
     skip
     refine aa2 (jQ rfl rfl (by omega) (by omega) (ax ?_))
     refine aa2 (aC (u:=mpV m5) rfl (fun w' c=>(e3.h4.chg c fun e=>e).cell (o:=5) (by rw [List.getElem?_map,hm5];rfl)) (ax ?_))
     (repeat' (refine aa2 (aa9 (ax ?_))))
     refine aa2 (dD (hel.rd qX.mo) (fun w' c=>c.keep) rfl rfl (by omega) hh0 fun b o hcell=>ax ?_)
     refine aa2 (aC (u:=vi h0) rfl (fun w' c=>hcell w' c) (ax ?_))
     skip
     refine Wt.last rfl (je ((e3.new n4).im 5 m5 hm5) hyn rfl rfl rfl fun w5 i5 c5 s5=>?_)
     refine af ?_
     have hz4:=n4.size
     (repeat' (first|refine aa0 ?_|refine af ?_|refine ah ?_|refine ak ?_|refine aH ?_|refine aa8 ?_))
     refine aG (m+1,fun s=>if s=5 then FT (ff 5) y h0 else ff s) ⟨rfl,rfl,rfl,rfl,rfl,rfl,rfl,rfl,rfl,rfl,trivial⟩ ⟨by dsimp only;omega,(g3.new n4).chg c5 fun k hk e=>hk.2 (by omega),(e3.new n4).put hm5 i5 c5,?_,(LR.new n4).chg c5 fun b hb e=>by have hb:W1.heap.size≤b:=hb;omega,Chg.trans (Chg.trans c3 n4.any (M':=fun _=>False) fun _ _ e=>e.elim) c5 fun k _ e=>hbig k (by omega)⟩ (by dsimp only;omega)
     dsimp only
     rw [take_snoc hy,hff]
     funext s
     by_cases h5:s=5
     ·subst h5
      show FT (fun i=>if i∈x.2.take m then some ((x.2.headD 0:Nat):Int) else xQ ((rs.map (·.2)).take k) i) y h0=fun i=>if i∈x.2.take m++ [y] then some ((x.2.headD 0:Nat):Int) else xQ ((rs.map (·.2)).take k) i
      funext i
      unfold FT
      by_cases hi:i=y
      ·rw [if_pos hi,if_pos (by rw [hi];simp),hh]
      ·rw [if_neg hi]
       dsimp only
       have:i∈x.2.take m++ [y]↔i∈x.2.take m:=by simp [hi]
       by_cases h6:i∈x.2.take m
       ·rw [if_pos h6,if_pos (this.2 h6)]
       ·rw [if_neg h6,if_neg fun e=>h6 (this.1 e)]
     ·rw [if_neg h5]
      dsimp only
      rw [if_neg h5,if_neg h5]
    ·obtain rfl:m=x.2.length:=by omega
     refine aG (k+1,ff) ⟨rfl,rfl,rfl,rfl,rfl,rfl,trivial⟩ ⟨by dsimp only;omega,g3,e3,?_,LR,c3⟩ (by dsimp only;omega)
     dsimp only
     rw [hff,List.take_length,take_snoc (show (rs.map (·.2))[k]? =some x.2 by rw [List.getElem?_map,hx];rfl)]
     funext s
     split
     ·rfl
     split
     ·funext i;rw [P7]
     ·rfl
   ·obtain rfl:k=rs.length:=by omega
    rw [List.take_of_length_le (by rw [List.length_map];exact Nat.le_refl _),hrs] at hff
    clear LR hrs
    subst hff
    skip
    refine ay (u:=.slice ca G.cards.length cc) rfl (e2.h3.cell (o:=1) rfl) ?_
    (repeat' (refine aa5 ?_))
    refine ay (u:=.slice ta G.tree.length tc) rfl (e2.h3.cell (o:=0) rfl) ?_
    skip
    have kp2:Keep (fun b=>b<lo) w W2:=c2.keep fun b _ hb e=>by have hb:b<lo:=hb;have:=hlo b e;omega
    refine aB (Nl (r.c.keep pO kp2) (r.t.keep nY kp2) hco hok) rfl ?_
    rintro _ w3 ⟨⟨dv,uv,rfl,_,ou⟩,n3⟩
    obtain ⟨ua,uc,rfl,_,_⟩:=ou.form
    have g3:=g2.new n3
    have e3:=e2.new n3
    have c3:=Chg.trans c2 n3.any (M':=fun _=>False) fun _ _ e=>e.elim
    clear g2 e2 c2 kp2 n3
    have hul:(qC G.cards G.tree).2.length≤G.tree.length:=Nat.le_trans (yQ (zT G.cards G.tree) []).1 (Jr _ _)
    (repeat' (first|refine aa0 ?_|refine aa1 ?_|refine af ?_|refine pI ?_|refine aI rfl ?_|refine ah ?_|refine au ?_|refine ak ?_|refine Wc.block ?_))
    refine aS (σ:=Nat×(Nat→Nat→Option Int)) (fun q=>[(2,pT b2),(3,pT b3),(4,pT b4),(122,.slice ua (qC G.cards G.tree).2.length uc),(123,vi (qC G.cards G.tree).2.length),(124,vi q.1)])
     (fun q W'=>q.1≤(qC G.cards G.tree).2.length∧WkM (fun b=>Pb b∧ ¬(b2≤b∧b<wB.heap.size)) bw bm N1 [] fl (.slice (some ⟨ng,0,none⟩) N.length nc) (.slice none 0 0) W'∧JdE bw b2 b3 b4 L q.2 (.slice ta G.tree.length tc) (.slice ca G.cards.length cc) (.slice fa G.fails.length fc) (.slice ga G.gone.length gc) W'∧q.2=(fun s=>if s=3 then Ib ((qC G.cards G.tree).2.take q.1) else if s=4 then uX G.tree (oz G.tree) else if s=5 then xQ (sQ G.tree) else fun _=>none)∧nN (flat Ad) 200 5 (fun b=>W2.heap.size≤b) NoB W' (.slice ua (qC G.cards G.tree).2.length uc) (qC G.cards G.tree).2∧Chg Pb w W') (fun q=>(qC G.cards G.tree).2.length-q.1)
     (0,fun s=>if s=4 then uX G.tree (oz G.tree) else if s=5 then xQ (sQ G.tree) else fun _=>none) ⟨rfl,rfl,rfl,rfl,rfl,rfl,trivial⟩ ⟨Nat.zero_le _,g3,e3,?_,ou,c3⟩ ?_
    ·dsimp only
     funext s
     by_cases h3:s=3
     ·subst h3;rfl
     ·rw [if_neg h3]
    clear g3 e3 ou c3
    rintro ⟨k,ff⟩ F3 W3 ⟨hk,g3,e3,hff,ou,c3⟩
    dsimp only at hk g3 e3 hff ou c3
    simp only [oP]
    (repeat' (first|refine af ?_|refine ah ?_|refine au ?_|refine ak ?_|refine Wc.block ?_|refine Wc.skip ?_|refine aK ?_|refine aN ?_|refine aJ ?_|refine aP ?_|refine aa3 ?_|refine aa4 ?_|refine aa5 ?_|refine pF (fun _=>?_) (fun _=>?_)))
    ·obtain ⟨x,hx⟩:=nP (qC G.cards G.tree).2 (k:=k) (by omega)
     have hxn:x.node<9223372036854775808:=by
      have:=Nk _ ((yQ (t:=G.tree) (zT G.cards G.tree) []).2 x (List.mem_of_getElem? hx))
      omega
     obtain ⟨m3,hm3⟩:=nP L (k:=3) (by omega)
     have ah5:=hLr m3 (List.mem_of_getElem? hm3)
     refine aZ (ou.rd (nO _)) rfl rfl (by omega) (by rw [Int.toNat_natCast];exact hx) fun b o cs hl hR hat=>?_
     obtain rfl:cs=Ad x:=hR
     refine bG hat rfl rfl ?_
     clear hat
     refine Wl.alloc fun w5 b5 n5 s5=>?_
     skip
     refine aV (new:=Ad x) b5 rfl rfl rfl rfl (show (5:Nat)≤5 from Nat.le_refl 5) (xK.oc (fun _=>True) w5 x (Ad x) rfl rfl) fun w6 b6 c6 s6=>?_
     have n6:New W3 w6:=(Chg.trans n5.any c6 fun _ _ e=>e).toNew fun k hk e=>by omega
     replace b6:Bk w6 W3.heap.size 200 (Ad x):=b6
     clear b5 n5 c6
     have hz6:=n6.size
     (repeat' (first|refine af ?_|refine ah ?_|refine ak ?_))
     refine iq rfl rfl (by omega) (by omega) ?_
     skip
     refine ay (u:=mpV m3) rfl ((e3.new n6).h4.cell (o:=3) (by rw [List.getElem?_map,hm3];rfl)) ?_
     (repeat' (refine aa5 ?_))
     refine ay (u:=vi x.node) rfl (b6.cell (o:=0) rfl) ?_
     (repeat' (refine aa5 ?_))
     refine ay (u:=vi x.by_) rfl (b6.cell (o:=4) rfl) ?_
     skip
     refine je ((e3.new n6).im 3 m3 hm3) hxn rfl rfl rfl fun w7 i7 c7 s7=>?_
     (repeat' (first|refine aa0 ?_|refine af ?_|refine ah ?_|refine ak ?_|refine aH ?_|refine aa8 ?_))
     refine aG (k+1,fun s=>if s=3 then FT (ff 3) x.node x.by_ else ff s) ⟨rfl,rfl,rfl,rfl,rfl,rfl,trivial⟩ ⟨by dsimp only;omega,(g3.new n6).chg c7 fun k hk e=>hk.2 (by omega),(e3.new n6).put hm3 i7 c7,?_,(ou.new (nG _) n6).chg (nG _) c7 fun b hb e=>by obtain ⟨l3,hl3⟩:=((e3.new n6).im 3 m3 hm3).ml;exact (ou.new (nG _) n6).rD hl3 hb e,Chg.trans (Chg.trans c3 n6.any (M':=fun _=>False) fun _ _ e=>e.elim) c7 fun k _ e=>hbig k (by omega)⟩ (by dsimp only;omega)
     dsimp only
     rw [take_snoc hx,Tt,hff]
     funext s
     by_cases h3:s=3
     ·subst h3;rfl
     ·rw [if_neg h3]
      dsimp only
      rw [if_neg h3,if_neg h3]
    ·obtain rfl:k=(qC G.cards G.tree).2.length:=by omega
     rw [List.take_length] at hff
     subst hff
     clear ou
     skip
     refine ay (u:=.slice ga G.gone.length gc) rfl (e3.h3.cell (o:=3) rfl) ?_
     skip
     have kp3:Keep (fun b=>b<lo) w W3:=c3.keep fun b _ hb e=>by have hb:b<lo:=hb;have:=hlo b e;omega
     refine aB (Ea (r.g.keep (nV _) kp3) hgl) rfl ?_
     rintro _ w4 ⟨⟨gm,Lg,rfl,_,mpg,cn⟩,n4⟩
     refine Wl.alloc fun w5 b5 n5 s5=>?_
     refine bf (u:=.map (some gm)) b5 rfl (show (0:Nat)<1 by omega) rfl rfl fun w6 b6 c6=>?_
     replace b6:Bk w6 w4.heap.size 104 [.map (some gm)]:=b6
     have n46:New w4 w6:=(Chg.trans n5.any c6 fun _ _ e=>e).toNew fun k hk e=>by omega
     clear b5 n5 c6
     generalize hq6:w4.heap.size=q6 at*
     (repeat' (first|refine af ?_|refine ah ?_|refine au ?_|refine ak ?_))
     refine dL (f1:=[]) (c1:=[pT b4,pT b2]) rfl rfl ?_
     (repeat' (first|refine aa1 ?_|refine af ?_|refine ah ?_|refine au ?_|refine ak ?_))
     refine dL (f1:=[]) (c1:=[pT b2]) rfl rfl ?_
     refine bU (ps:=[(0,.const (.int .u8 2)),(1,.tmp 139)]) (parts:=[(0,.int .u8 2),(1,.func (.func 102) #[] #[pT b2])]) rfl rfl (by simp [Value.cells]) ?_
     (repeat' (refine aa0 ?_))
     refine dB (f:=100) (first:= #[]) (cap:= #[pT b4,pT b2]) (vs:=[.int .u8 (3:Nat),pT b4,pT b2]) rfl (AZ (b2:=b2) (b4:=b4) (r:=3)) rfl ?_
     rintro _ w7 ⟨q1,rfl,_,bq1,n7⟩
     (repeat' (refine aa0 ?_))
     refine dB (f:=100) (first:= #[]) (cap:= #[pT b4,pT b2]) (vs:=[.int .u8 (4:Nat),pT b4,pT b2]) rfl (AZ (b2:=b2) (b4:=b4) (r:=4)) rfl ?_
     rintro _ w8 ⟨q2,rfl,_,bq2,n8⟩
     (repeat' (refine aa0 ?_))
     refine dB (f:=100) (first:= #[]) (cap:= #[pT b4,pT b2]) (vs:=[.int .u8 (5:Nat),pT b4,pT b2]) rfl (AZ (b2:=b2) (b4:=b4) (r:=5)) rfl ?_
     rintro _ w9 ⟨q3,rfl,_,bq3,n9⟩
     skip
     refine dL (f1:=[]) (c1:=[pT q6,pT b2,pT b3]) rfl rfl ?_
     refine bU (ps:=[(0,.const (.int .u8 6)),(1,.tmp 147)]) (parts:=[(0,.int .u8 6),(1,.func (.func 103) #[] #[pT q6,pT b2,pT b3])]) rfl rfl (by simp [Value.cells]) ?_
     refine iH (R:=flat jdC) (N:=5) (ps:=[(0,.tmp 140),(1,.tmp 142),(2,.tmp 144),(3,.tmp 146),(4,.tmp 148)]) (xs:=jdL b2 b3 b4 q1 q2 q3 q6) (us:=(jdL b2 b3 b4 q1 q2 q3 q6).map fun e=>.agg (jdC e).toArray) (Pe:=NoB) VF rfl rfl ⟨rfl,rfl,rfl,rfl,rfl,rfl,rfl,rfl,rfl,rfl,trivial⟩ (by show 0<10;omega) (by show 10≤16777216;omega) fun jv w10 oj n10 s10 ah6=>?_
     have n49:=New.trans n46 (New.trans n7 (New.trans n8 n9))
     have nW:=New.trans (New.trans n4 n49) n10
     have gJ:=g3.new nW
     have eJ:JdF G lo bw b2 b3 b4 q1 q2 q3 q6 gm L Lg (.slice ta G.tree.length tc) (.slice ca G.cards.length cc) (.slice fa G.fails.length fc) (.slice ga G.gone.length gc) w10:=
      ⟨e3.new nW,bq1.chg (New.trans n8 (New.trans n9 n10)) fun e=>e,bq2.chg (New.trans n9 n10) fun e=>e,bq3.chg n10 fun e=>e,b6.chg (New.trans n7 (New.trans n8 (New.trans n9 n10))) fun e=>e,mpg.chg (New.trans n49 n10) fun e=>e,(r.t.keep nY kp3).keep nY nW.keep⟩
     have cJ:=Chg.trans c3 nW.any (M':=fun _=>False) fun _ _ e=>e.elim
     obtain ⟨ja,jc,rfl,_,_⟩:=oj.form
     clear e3 g3 c3 kp3 n4 n46 n7 n8 n9 n10 n49 nW bq1 bq2 bq3 b6 mpg
     rw [←TB] at hb
     (repeat' (first|refine aa1 ?_|refine af ?_|refine ah ?_|refine au ?_|refine ak ?_))
     refine ay (u:=pT bw) rfl (eJ.e.h2.cell (o:=0) rfl) ?_
     (repeat' (first|refine bK rfl ?_|refine aa5 ?_))
     refine ay (u:=.slice (some ⟨ng,0,none⟩) N.length nc) rfl (gJ.b.cell (o:=0) rfl) ?_
     (repeat' (first|refine aa0 ?_|refine af ?_|refine aI rfl ?_|refine ah ?_|refine Wc.block ?_))
     refine aS (σ:=Nat×List Nb) (fun q=>[(2,pT b2),(3,pT b3),(4,pT b4),(24,.slice ja 5 jc),(154,vi N.length),(155,vi q.1)])
      (fun q W'=>q.1≤N.length∧WkM (fun b=>Pb b∧ ¬(b2≤b∧b<wB.heap.size)) bw bm q.2 [] fl (.slice (some ⟨ng,0,none⟩) N.length nc) (.slice none 0 0) W'∧q.2.length=N.length∧bnF q.2=zM G q.1 0∧(∀k,stF q.2 k=0)∧JdF G lo bw b2 b3 b4 q1 q2 q3 q6 gm L Lg (.slice ta G.tree.length tc) (.slice ca G.cards.length cc) (.slice fa G.fails.length fc) (.slice ga G.gone.length gc) W'∧nN (flat jdC) 203 2 (fun b=>b=w9.heap.size) NoB W' (.slice ja 5 jc) (jdL b2 b3 b4 q1 q2 q3 q6)∧Chg Pb w W') (fun q=>N.length-q.1)
      (0,N1) ⟨rfl,rfl,rfl,rfl,rfl,rfl,trivial⟩ ⟨Nat.zero_le _,gJ,hN1,hb,hst,eJ,oj,cJ⟩ ?_
     clear gJ hN1 hb hst eJ oj cJ
     rintro ⟨k,N2⟩ F4 W4 ⟨hk,g,hN2,hb,hst,eJ,oj,cJ⟩
     dsimp only at hk g hN2 hb hst eJ oj cJ
     simp only [oP]
     (repeat' (first|refine aa0 ?_|refine aa1 ?_|refine af ?_|refine ah ?_|refine au ?_|refine ak ?_|refine Wc.block ?_|refine Wc.skip ?_|refine aK ?_|refine aN ?_|refine aJ ?_|refine aP ?_|refine aa3 ?_|refine aa4 ?_|refine pF (fun _=>?_) (fun _=>?_)))
     ·refine ay (u:=pT bw) rfl (eJ.e.h2.cell (o:=0) rfl) ?_
      (repeat' (first|refine bK rfl ?_|refine aa5 ?_))
      refine ay (u:=.slice (some ⟨ng,0,none⟩) N.length nc) rfl (g.b.cell (o:=0) rfl) ?_
      (repeat' (refine aa0 ?_))
      refine dO rfl rfl (by omega) (by omega) ?_
      (repeat' (first|refine aa0 ?_|refine aa1 ?_|refine af ?_|refine aI rfl ?_|refine ah ?_|refine au ?_|refine ak ?_|refine Wc.block ?_))
      refine aS (σ:=Nat×List Nb) (fun q=>[(2,pT b2),(3,pT b3),(4,pT b4),(24,.slice ja 5 jc),(25,vi k),(26,.pointer (some ⟨ng,k*9,none⟩)),(154,vi N.length),(155,vi k),(164,.slice ja 5 jc),(165,vi 5),(166,vi q.1)])
       (fun q W'=>q.1≤5∧WkM (fun b=>Pb b∧ ¬(b2≤b∧b<wB.heap.size)) bw bm q.2 [] fl (.slice (some ⟨ng,0,none⟩) N.length nc) (.slice none 0 0) W'∧q.2.length=N.length∧bnF q.2=zM G k q.1∧(∀k,stF q.2 k=0)∧JdF G lo bw b2 b3 b4 q1 q2 q3 q6 gm L Lg (.slice ta G.tree.length tc) (.slice ca G.cards.length cc) (.slice fa G.fails.length fc) (.slice ga G.gone.length gc) W'∧nN (flat jdC) 203 2 (fun b=>b=w9.heap.size) NoB W' (.slice ja 5 jc) (jdL b2 b3 b4 q1 q2 q3 q6)∧Chg Pb w W') (fun q=>5-q.1)
       (0,N2) ⟨rfl,rfl,rfl,rfl,rfl,by show Value.pointer (some ⟨ng,0+(k:Int).toNat*9,none⟩)=_;rw [Nat.zero_add,Int.toNat_natCast],rfl,rfl,rfl,rfl,rfl,trivial⟩ ⟨Nat.zero_le _,g,hN2,hb,hst,eJ,oj,cJ⟩ ?_
      clear g hN2 hb hst eJ oj cJ
      rintro ⟨m,N2⟩ F5 W5 ⟨hm,g,hN2,hb,hst,eJ,oj,cJ⟩
      dsimp only at hm g hN2 hb hst eJ oj cJ
      simp only [oP]
      (repeat' (first|refine aa0 ?_|refine af ?_|refine ah ?_|refine au ?_|refine ak ?_|refine Wc.block ?_|refine Wc.skip ?_|refine aK ?_|refine aN ?_|refine aH ?_|refine aJ ?_|refine aP ?_|refine aa3 ?_|refine aa4 ?_|refine aa8 ?_|refine pF (fun _=>?_) (fun _=>?_)))
      ·obtain ⟨e,he⟩:=nP (jdL b2 b3 b4 q1 q2 q3 q6) (k:=m) (by show m<5;omega)
       obtain ⟨x,hx⟩:=nP N2 (k:=k) (by omega)
       have hxb:=sS hx
       refine aZ (oj.rd (nO _)) rfl rfl (by omega) (by rw [Int.toNat_natCast];exact he) fun b o cs hl hR hat=>?_
       obtain rfl:cs=jdC e:=hR
       refine bG hat rfl rfl ?_
       clear hat
       refine Wl.alloc fun w5 b5 n5 s5=>?_
       skip
       refine aV (new:=jdC e) b5 rfl rfl rfl rfl (show (2:Nat)≤2 from Nat.le_refl 2) (VF.oc (fun _=>True) w5 e (jdC e) rfl rfl) fun w6 b6 c6 s6=>?_
       have n6:New W5 w6:=(Chg.trans n5.any c6 fun _ _ e=>e).toNew fun k hk e=>by omega
       replace b6:Bk w6 W5.heap.size 203 (jdC e):=b6
       clear b5 n5 c6
       (repeat' (first|refine af ?_|refine ah ?_|refine au ?_|refine ak ?_|refine aa5 ?_))
       refine ay (u:=.func (.func e.2.1) #[] e.2.2.toArray) rfl (b6.cell (o:=1) rfl) ?_
       (repeat' (refine aa0 ?_))
       obtain ⟨he1,hcl⟩:=Xu (eJ.new n6) (g.new n6) cn hok (by omega) (fun i hi=>by rw [hb];exact VH G k m (by omega)) (k:=k) (by omega) he
       haveI:=Qa he
       refine dB (f:=e.2.1) (first:= #[]) (cap:=e.2.2.toArray) (vs:=vi k::e.2.2) rfl hcl rfl ?_
       rintro _ w7 ⟨⟨y,rfl,hy⟩,n7⟩
       have n67:=New.trans n6 n7
       have g7:=g.new n67
       have eJ7:=eJ.new n67
       have oj7:=oj.new (nG _) n67
       have cJ7:=Chg.trans cJ n67.any (M':=fun _=>False) fun _ _ e=>e.elim
       have b7:=b6.chg n7 fun e=>e
       clear g eJ oj cJ n67 n6 n7 b6 hcl
       have hkt:k<G.tree.length:=by omega
       have hxr:x.bn=yP G m k:=by rw [←hxb,hb];exact Rj G hkt
       have hsame:A7 (Df G k m) (m+2) (zY G k m)=Df G k m→bnF N2=zM G k (m+1):=fun h=>by
        rw [hb,JJ G hkt,Qd h]
        funext i
        by_cases hi:i=k
        ·rw [if_pos hi,hi,Rj G hkt]
        ·rw [if_neg hi]
       cases hh:zY G k m with
       |none=>
        rw [show (none:Option Int).isSome=false from rfl]
        (repeat' (first|refine aa0 ?_|refine aa1 ?_|refine af ?_|refine pI ?_|refine qo ?_|refine pJ ?_|refine ah ?_|refine au ?_|refine ak ?_|refine Wc.skip ?_|refine aH ?_|refine aa4 ?_|refine aa8 ?_))
        exact aG (m+1,N2) ⟨rfl,rfl,rfl,rfl,rfl,rfl,rfl,rfl,rfl,rfl,rfl,trivial⟩ ⟨by dsimp only;omega,g7,hN2,hsame (by rw [hh];unfold A7;split<;>rfl),hst,eJ7,oj7,cJ7⟩ (by dsimp only;omega)
       |some u=>
        obtain rfl:=hy u hh
        rw [show (some y).isSome=true from rfl]
        have hat:At w7 ng (k*9) (nbC x):=g7.nd.row.at rfl rfl hx
        (repeat' (first|refine aa0 ?_|refine aa1 ?_|refine af ?_|refine pI ?_|refine aa6 ?_|refine ah ?_|refine au ?_|refine ak ?_|refine bK rfl ?_|refine aa5 ?_))
        refine ay (u:=.int .u8 x.bn.reason) rfl (hat.get 3 rfl) ?_
        (repeat' (first|refine aa0 ?_|refine af ?_|refine aa6 ?_|refine pU ?_|refine ah ?_|refine ak ?_|refine Wc.skip ?_|refine aH ?_|refine aa3 ?_|refine aa4 ?_|refine aa5 ?_|refine aa8 ?_|refine cO rfl rfl (fun _=>?_) (fun _=>?_)))
        ·have h0:x.bn.reason=0:=by omega
         have hr0:(Df G k m).1=0:=by rw [hxr] at h0;exact h0
         refine ay (u:=.int .u8 e.1) rfl (b7.cell (o:=0) rfl) ?_
         (repeat' (first|refine aa0 ?_|refine bK rfl ?_|refine aa5 ?_))
         refine fC (f:=nbC) (sz:=9) (p:=x) (q:={x with bn:={x.bn with reason:=e.1}}) (j:=k) (o:=3) (cap:=nc) (u:=.int .u8 e.1) (fun _=>rfl) (show (3:Nat)<9 by omega) rfl hx rfl g7.nd.row (by rw [hN2]) rfl rfl fun w8 o8 c8=>?_
         have g8:=g7.aaz hx (y:={x with bn:={x.bn with reason:=e.1}}) rfl rfl rfl o8 c8
         have VI:=(g7.nd.row.lt (k:=ng) rfl).1
         have eJ8:=eJ7.row g7.nd.row (fun k e=>hlo k (g7.nd.row.lt e).1.1) c8
         have oj8:=oj7.chg (nG _) c8 fun k h1 h2=>oj7.tZ g7.nd.row rfl k h1 h2
         have cJ8:=Chg.trans cJ7 c8 fun k _ e=>by cases e;exact VI.1
         have hx8:(N2.set k {x with bn:={x.bn with reason:=e.1}})[k]? =some {x with bn:={x.bn with reason:=e.1}}:=by rw [List.getElem?_set,if_pos rfl,if_pos (by omega)]
         (repeat' (first|refine bK rfl ?_|refine aa5 ?_))
         refine fC (f:=nbC) (sz:=9) (p:={x with bn:={x.bn with reason:=e.1}}) (q:={x with bn:={x.bn with reason:=e.1,why:=y}}) (j:=k) (o:=5) (cap:=nc) (u:=vi y) (fun _=>rfl) (show (5:Nat)<9 by omega) rfl hx8 rfl g8.nd.row (by rw [List.length_set,hN2]) rfl rfl fun w9' o9 c9=>?_
         have g9:=g8.aaz hx8 (y:={x with bn:={x.bn with reason:=e.1,why:=y}}) rfl rfl rfl o9 c9
         have eJ9:=eJ8.row g8.nd.row (fun k e=>hlo k (g8.nd.row.lt e).1.1) c9
         have oj9:=oj8.chg (nG _) c9 fun k h1 h2=>oj8.tZ g8.nd.row rfl k h1 h2
         have cJ9:=Chg.trans cJ8 c9 fun k _ e=>by cases e;exact VI.1
         (repeat' (first|refine aa0 ?_|refine af ?_|refine ah ?_|refine ak ?_|refine aH ?_|refine aa8 ?_))
         refine aG (m+1,_) ⟨rfl,rfl,rfl,rfl,rfl,rfl,rfl,rfl,rfl,rfl,rfl,trivial⟩ ⟨by dsimp only;omega,g9,by dsimp only;rw [List.length_set,List.length_set];exact hN2,?_,KY (KY hst (by rw [←wG hx];exact hst _)) (by show x.st=0;rw [←wG hx];exact hst _),eJ9,oj9,cJ9⟩ (by dsimp only;omega)
         dsimp only
         rw [KX (by rw [List.length_set];omega),KX (by omega),JJ G hkt]
         funext i
         by_cases hi:i=k
         ·rw [if_pos hi,if_pos hi,hxr,he1]
          unfold yP
          rw [show Df G k (m+1)=A7 (Df G k m) (m+2) (zY G k m) from rfl,hh]
          unfold A7
          rw [if_pos hr0]
         ·rw [if_neg hi,if_neg hi]
          dsimp only
          rw [if_neg hi,hb]
        ·have hr0:(Df G k m).1≠0:=by
          have h0:x.bn.reason≠0:=by omega
          rw [hxr] at h0;exact h0
         exact aG (m+1,N2) ⟨rfl,rfl,rfl,rfl,rfl,rfl,rfl,rfl,rfl,rfl,rfl,trivial⟩ ⟨by dsimp only;omega,g7,hN2,hsame (by unfold A7;rw [if_neg hr0]),hst,eJ7,oj7,cJ7⟩ (by dsimp only;omega)
      ·obtain rfl:m=5:=by omega
       rw [TD] at hb
       exact aG (k+1,N2) ⟨rfl,rfl,rfl,rfl,rfl,rfl,trivial⟩ ⟨by dsimp only;omega,g,hN2,hb,hst,eJ,oj,cJ⟩ (by dsimp only;omega)
     ·obtain rfl:k=N.length:=by omega
      rw [hN,VG] at hb
      exact dF rfl ⟨_,rfl,N2,g.mono fun b _ hb=>hb.1,by omega,hb,hst,cJ⟩
end
end Go.Proofs.YtjecgaiaiophpaaGreatDoor
namespace Go.Proofs.YtjecgaiaiophpaaGreatDoor
open Go Wk
open Go.RowKit (Below)
attribute [local irreducible] Go.Calls
class Wk.Ae (Q:Po):Prop where
 out: ∀F w, ¬Q .outgrown F w
instance {L D:Nat} {W0:World} {I:World→Prop} {Ix:Code→World→Prop}:Ae (Qrd L D W0 I Ix):=⟨Qrd.out⟩
instance {K:Fr→World→Prop}:Ae (Qas K):=⟨Qas.out⟩
instance {P:Program} {n:Nat} {r:Option Nat} {b:Code} {Q:Po} [h:Ae Q]:Ae (Qsr P n r b Q):=⟨Qsr.out h.out⟩
instance {id:Nat} {Q:Po} [h:Ae Q]:Ae (nM id Q):=⟨nM.out h.out⟩
theorem fP {P:Program} {n:Nat} {r:Option Nat} {Q:Po} {F:Fr} {w:World} {a b:Code} (M:Fr→World→Prop) (h1:Wr P n r (Qas M) a F w) (h2: ∀F w,M F w→Wr P n r Q b F w):Wr P n r Q (.seq a b) F w:=by
 refine eH ?_
 unfold Wr at h1 ⊢
 refine wpIn_mono h1 ?_
 rintro e a' w' ⟨F',rfl,hq⟩
 refine ⟨F',rfl,?_⟩
 cases e with
 |normal=>unfold Qsr;exact h2 F' w' hq
 |_=>exact hq.elim
theorem Wk.Wd.frame {P:Program} {n:Nat} {Q:Pd} {ds:List Deferred} {c:Code} {F:Fr} {w:World} (l:List (Nat×Value)) (hF:agrees F l) (h: ∀G,Wd P n Q c ds (oP G l) w):Wd P n Q c ds F w:=by
 have:=h F
 rwa [oK hF] at this
theorem IU {w:World}:(Instr.build 39 #[(1,vi (-1)),(2,vi (-1))]).run Tryz.prog w=.ok (.agg #[.int .u8 0,vi (-1),vi (-1)]) w:=by
 kernel_rfl
theorem IV {w:World} {s:List UInt8} {d:Bool}:(Instr.build 118 #[(0,vs s),(1,.bool d),(3,.agg #[.int .u8 0,vi (-1),vi (-1)])]).run Tryz.prog w=.ok (.agg #[vs s,.bool d,.int .u8 0,.int .u8 0,vi (-1),vi (-1),.slice none 0 0,.bool false,.bool false]) w:=by
 kernel_rfl
abbrev ndV (p:Nm) (d:Bool) (lv:Int) (rs:Nat) (c:Int) (wv:Value):List Value:=[vs p,.bool d,.int .u8 lv,.int .u8 rs,vi c,vi (-1),wv,.bool false,.bool false]
theorem afp (p:Nm) (d:Bool) (lv:Int) (rs:Nat) (c:Int) {a:Option Addr} {l m:Nat}: ∀x∈ndV p d lv rs c (.slice a l m),x.oneCell'=true:=by
 intro x hx
 simp at hx
 rcases hx with rfl|rfl|rfl|rfl|rfl|rfl|rfl|rfl<;>rfl
theorem Wk.LLs.qY {P:Program} {β γ:Type} {f:β→List Value} {g:β→Value} {xs:β→List γ} {h:γ→Value} {te e sz:Nat} {Pb:Nat→Prop} {w w':World} {v:Value} {bs:List β} (H:LLs f g xs h te e sz Pb w v bs) {b:Nat} {T:TypeId} {cs:List Value} (hb:Bk w b T cs) (n1:Nat.beq te T=false) (n2:Nat.beq e T=false) (c:Chg (fun k=>k=b) w w'):LLs f g xs h te e sz Pb w' v bs:=
 ⟨H.row.chg (nG f) c fun k hk e=>H.row.pR hb n1 hk e,fun x hx=>(H.el x hx).chg (nK h) c fun k hk e=>(H.el x hx).pR hb n2 hk e,H.yK,H.sep⟩
theorem JK {α:Type} (l:List α) (y d:α) (i:Nat):(l++ [y]).getD i d=if i=l.length then y else l.getD i d:=by
 rw [List.getD_eq_getElem?_getD,List.getD_eq_getElem?_getD]
 by_cases h:i=l.length
 ·rw [if_pos h,h];simp
 ·rw [if_neg h]
  by_cases h2:i<l.length
  ·rw [List.getElem?_append_left h2]
  ·rw [List.getElem?_eq_none (by simp;omega),List.getElem?_eq_none (by omega)]
theorem VJ (N:List Nb) (y:Nb) (i:Nat):bnF (N++ [y]) i=if i=N.length then y.bn else bnF N i:=by
 unfold bnF;rw [JK];split<;>rfl
theorem VK (N:List Nb) (y:Nb) (i:Nat):stF (N++ [y]) i=if i=N.length then y.st else stF N i:=by
 unfold stF;rw [JK];split<;>rfl
theorem WkM.aaA {Pb:Nat→Prop} {bw bm:Nat} {N:List Nb} {ord aaB:List Nat} {fl:List (Nm×Int)} {nv ov ov':Value} {W W1 W':World} (g:WkM Pb bw bm N ord fl nv ov W) (od:nN (Wk.one viN) 3 1 Pb NoB W1 ov' aaB) (c1:Chg (fun k=>ov.ownBlock=some k) W W1) (lie:ov'.ownBlock=ov.ownBlock∨ ∀k,ov'.ownBlock=some k→W.heap.size≤k) (b':Bk W' bw 108 [nv,ov',.map (some bm)]) (c2:Chg (fun k=>k=bw) W1 W'):WkM Pb bw bm N aaB fl nv ov' W':=by
 have b1:=g.b.chg c1 fun e=>g.od.pR g.b rfl e rfl
 have m1:=g.mp.chg c1 fun e=>g.od.rD g.mp e rfl
 have nd1:LLs nbC (fun x=>svV x.wv) (fun x=>x.bn.wants) viN 118 3 9 Pb W1 nv N:=
  ⟨g.nd.row.chg (nG nbC) c1 fun k hk e=>g.nd.row.tZ g.od rfl k hk e,fun x hx=>(g.nd.el x hx).chg (nK _) c1 fun k hk e=>g.so x hx k hk e,g.nd.yK,g.nd.sep⟩
 refine ⟨b',nd1.qY (P:=Tryz.prog) b1 rfl rfl c2,od.chg (nK _) c2 fun k hk e=>od.pR b1 rfl hk e,m1.chg c2 fun e=>b1.rD m1 e.symm,fun x hx k h1 h2=>?_,g.win,g.nl,g.fn,g.lo2⟩
 rcases lie with e|e
 ·exact g.so x hx k h1 (e▸h2)
 ·have:=e k h2;have:=((g.nd.el x hx).lt h1).2;omega
def lvC (G:Giv) (c:Option Nat):Int:=match c with|some j=>(G.cards.getD j default).level|none=>0
def VL (G:Giv) (k i:Nat):Bn:=if i<k then xh G [] i else default
section
variable {w:World} {G:Giv} {tv cv fv gv:Value} {Pg:Nat→Prop}
theorem Io (r:RdG Pg w G tv cv fv gv) (hfl: ∀x∈G.fails,x.length≤100000000) (hgl: ∀x∈G.gone,x.length≤100000000):
 Calls Tryz.prog 13 #[.agg #[tv,cv,fv,gv]] w (Ret fun v w'=>(if qI G=0 then Ri G w.heap.size v w' else v=.tuple #[.pointer none,vi (qI G)])∧New w w'):=by
 obtain ⟨ta,tc,rfl,_,_⟩:=r.t.form
 obtain ⟨ca,cc,rfl,_,_⟩:=r.c.form
 obtain ⟨fa,fc,rfl,_,_⟩:=r.f.form
 obtain ⟨ga,gc,rfl,_,_⟩:=r.g.form
 refine Fp Tryz.func13 rfl Tryz.ntmps13 rfl ?_
 (repeat' (first|refine dU ?_|refine dV ?_))
 refine bI rfl fun w1 b1 n1 s1=>?_
 replace b1:Bk w1 w.heap.size 27 [.slice ta G.tree.length tc,.slice ca G.cards.length cc,.slice fa G.fails.length fc,.slice ga G.gone.length gc]:=b1
 (repeat' (first|refine aa1 ?_|refine af ?_|refine dU ?_|refine dK ?_|refine dV ?_|refine aa5 ?_))
 refine ay (u:=.slice ta G.tree.length tc) rfl (b1.cell (o:=0) rfl) ?_
 skip
 refine aB (vg (r.t.keep nY n1.keep)) rfl ?_
 rintro _ w2 ⟨rfl,n2⟩
 have n02:=New.trans n1 n2
 have b12:=b1.chg n2 fun e=>e
 unfold EY
 cases hok:oh G.tree with
 |false=>
  have hE:qI G=40:=by unfold qI;rw [hok];rfl
  rw [show (if false=true then (0:Int) else 40)=40 from rfl]
  (repeat' (first|refine aa0 ?_|refine aa1 ?_|refine af ?_|refine pI ?_|refine dU ?_|refine iK rfl ?_|refine dK ?_|refine iJ ?_|refine dV ?_|refine iI ?_|(refine pV (fun _=>?_) (fun _=>?_)<;>(first|(exfalso;omega)|skip))))
  exact gI (uO rfl (qG rfl) (qG rfl)) ⟨_,rfl,by rw [hE,if_neg (by decide)];rfl,n02⟩
 |true=>
 rw [show (if true=true then (0:Int) else 40)=0 from rfl]
 (repeat' (first|refine aa0 ?_|refine aa1 ?_|refine af ?_|refine pI ?_|refine dU ?_|refine iL rfl ?_|refine dK ?_|refine dV ?_|refine Wd.skip ?_|refine aa5 ?_|(refine pV (fun _=>?_) (fun _=>?_)<;>(first|(exfalso;omega)|skip))))
 refine ay (u:=.slice ca G.cards.length cc) rfl (b12.cell (o:=1) rfl) ?_
 skip
 refine aB (Ff (r.c.keep pO n02.keep)) rfl ?_
 rintro _ w3 ⟨⟨ck,rfl⟩,n3⟩
 have n03:=New.trans n02 n3
 have b13:=b12.chg n3 fun e=>e
 unfold G8
 cases hco:rP G.cards with
 |false=>
  have hE:qI G=70:=by unfold qI;rw [hok,hco];rfl
  rw [show (if false=true then (0:Int) else 70)=70 from rfl]
  (repeat' (first|refine aa0 ?_|refine aa1 ?_|refine af ?_|refine pI ?_|refine dU ?_|refine iK rfl ?_|refine dK ?_|refine iJ ?_|refine dV ?_|refine iI ?_|(refine pV (fun _=>?_) (fun _=>?_)<;>(first|(exfalso;omega)|skip))))
  exact gI (uO rfl (qG rfl) (qG rfl)) ⟨_,rfl,by rw [hE,if_neg (by decide)];rfl,n03⟩
 |true=>
 rw [show (if true=true then (0:Int) else 70)=0 from rfl]
 (repeat' (first|refine aa0 ?_|refine aa1 ?_|refine af ?_|refine pI ?_|refine dU ?_|refine iL rfl ?_|refine dK ?_|refine dV ?_|refine Wd.skip ?_|refine aa5 ?_|(refine pV (fun _=>?_) (fun _=>?_)<;>(first|(exfalso;omega)|skip))))
 refine ay (u:=.slice fa G.fails.length fc) rfl (b13.cell (o:=2) rfl) ?_
 have hlo:512<G.fails.length∨512<G.gone.length→qI G=1:=fun h=>by unfold qI;rw [hok,hco,if_neg (by decide),if_neg (by decide),if_pos h]
 have hE0: ¬512<G.fails.length→ ¬512<G.gone.length→qI G=0:=fun h1 h2=>by unfold qI;rw [hok,hco,if_neg (by decide),if_neg (by decide),if_neg fun h=>h.elim h1 h2]
 (repeat' (first|refine aa0 ?_|refine aa1 ?_|refine af ?_|refine aa6 ?_|refine qo ?_|refine pU ?_|refine aI rfl ?_|refine dU ?_|refine iK rfl ?_|refine dK ?_|refine iJ ?_|refine dV ?_|refine iI ?_|refine aa5 ?_|refine bJ rfl rfl (fun _=>?_) (fun _=>?_)))
 ·have hE:=hlo (.inl (by omega))
  exact gI (uO rfl (qG rfl) (qG rfl)) ⟨_,rfl,by rw [hE,if_neg (by decide)];rfl,n03⟩
 refine ay (u:=.slice ga G.gone.length gc) rfl (b13.cell (o:=3) rfl) ?_
 (repeat' (first|refine aa1 ?_|refine af ?_|refine aa6 ?_|refine pJ ?_|refine aI rfl ?_|refine dU ?_|refine iK rfl ?_|refine iL rfl ?_|refine dK ?_|refine iJ ?_|refine dV ?_|refine Wd.skip ?_|refine iI ?_|refine aa5 ?_|refine bJ rfl rfl (fun _=>?_) (fun _=>?_)))
 ·have hE:=hlo (.inr (by omega))
  exact gI (uO rfl (qG rfl) (qG rfl)) ⟨_,rfl,by rw [hE,if_neg (by decide)];rfl,n03⟩
 have hE:=hE0 (by omega) (by omega)
 clear hlo hE0
 refine ay (u:=.slice fa G.fails.length fc) rfl (b13.cell (o:=2) rfl) ?_
 skip
 refine aB (Ea (r.f.keep (nV _) n03.keep) hfl) rfl ?_
 rintro _ w4 ⟨⟨bm,L,rfl,hbm,mpL,cn⟩,n4⟩
 refine bU (ps:=[(2,.tmp 48)]) (parts:=[(2,.map (some bm))]) rfl rfl (by simp [Value.cells]) ?_
 refine bI rfl fun w5 b5 n5 s5=>?_
 replace b5:Bk w5 w4.heap.size 108 [.slice none 0 0,.slice none 0 0,.map (some bm)]:=b5
 refine Wl.alloc fun w6 b6 n6 s6=>?_
 refine bf (u:=pT w4.heap.size) b6 rfl (show (0:Nat)<1 by omega) rfl rfl fun w7 b7 c7=>?_
 replace b7:Bk w7 w5.heap.size 42 [pT w4.heap.size]:=b7
 have n57:New w5 w7:=(Chg.trans n6.any c7 fun _ _ e=>e).toNew fun k hk e=>by omega
 have hz1:=n1.size
 have hz2:=n2.size
 have hz3:=n3.size
 have hz4:=n4.size
 have hz5:=n5.size
 have aeU:=n57.size
 have ah7:=mpL.lt
 have g0:WkM (fun b=>w.heap.size≤b∧b<w5.heap.size) w4.heap.size bm [] [] L (.slice none 0 0) (.slice none 0 0) w7:=
  ⟨b5.chg n57 fun e=>e,jL,bH,mpL.chg (New.trans n5 n57) fun e=>e,by simp,by simp,by simp,⟨cn.nd,by simp⟩,⟨by omega,by have:=b5.lt;omega⟩,⟨by omega,by omega⟩⟩
 have n07:=New.trans n03 (New.trans n4 (New.trans n5 n57))
 have b17:=b13.chg (New.trans n4 (New.trans n5 n57)) fun e=>e
 clear b6 n6 c7 n57 n5 b5 n4 mpL b1 b12 b13 n1 n2 n3 n02 n03
 generalize hbw:w4.heap.size=bw at*
 generalize hb8:w5.heap.size=b8 at*
 (repeat' (first|refine af ?_|refine dU ?_|refine dK ?_|refine dV ?_|refine aa5 ?_))
 refine ay (u:=.slice ca G.cards.length cc) rfl (b17.cell (o:=1) rfl) ?_
 (repeat' (refine aa5 ?_))
 refine ay (u:=.slice ta G.tree.length tc) rfl (b17.cell (o:=0) rfl) ?_
 skip
 refine aB (L9 (r.c.keep pO n07.keep) (r.t.keep nY n07.keep) hco hok) rfl ?_
 rintro _ w8 ⟨⟨mv,rfl,om⟩,n8⟩
 obtain ⟨ma,mc,rfl,_,_⟩:=om.form
 (repeat' (first|refine aa0 ?_|refine pI ?_))
 refine Wl.alloc fun w9 b9 n9 s9=>?_
 refine bf (u:=.slice ma (allM G.cards G.tree).length mc) b9 rfl (show (0:Nat)<1 by omega) rfl rfl fun w10 b10 c10=>?_
 replace b10:Bk w10 w8.heap.size 109 [.slice ma (allM G.cards G.tree).length mc]:=b10
 have TF:New w8 w10:=(Chg.trans n9.any c10 fun _ _ e=>e).toNew fun k hk e=>by omega
 generalize hb9:w8.heap.size=b9' at*
 (repeat' (first|refine aa1 ?_|refine af ?_|refine dU ?_|refine dK ?_|refine dV ?_|refine aa5 ?_))
 refine ay (u:=.slice ta G.tree.length tc) rfl ((b17.chg (New.trans n8 TF) fun e=>e).cell (o:=0) rfl) ?_
 have n0a:=New.trans n07 (New.trans n8 TF)
 skip
 refine aB (Jt (r.t.keep nY n0a.keep) hok) rfl ?_
 rintro _ w11 ⟨⟨bq,sv,rfl,hbq,hq⟩,n11⟩
 have n0b:=New.trans n0a n11
 have hz8:=n8.size
 have ahf:=TF.size
 have U7:=n11.size
 have ahg:=b17.lt
 have aat:=b7.lt
 have aaC:=b10.lt
 have ae6:=hq.1.lt
 have htl:=pz hok
 have hpl:=xe G.tree
 have hal:=L8 G.cards G.tree
 obtain ⟨D,hD⟩: ∃D,D=w11.heap.size:=⟨_,rfl⟩
 have KG:=New.trans n8 (New.trans TF n11)
 have b1a:=b17.chg KG fun e=>e
 have b8a:=b7.chg KG fun e=>e
 have b9a:=b10.chg n11 fun e=>e
 have oma:=(om.new (nG _) (New.trans TF n11)).mono (Pb':=fun b=>b<D) (nO _) (fun b hb _=>by show b<D;omega) (fun _ _ e=>e)
 have g0a:=(g0.new KG).mono (Pb':=fun b=>w.heap.size≤b∧b≠D∧b≠D+1∧b≠b8) fun b hb e=>⟨e.1,by have:=e.2;omega,by have:=e.2;omega,by have:=e.2;omega⟩
 clear b17 b7 b10 om g0 n8 TF n11 n07 n0a KG
 let I:Nat→World→Prop:=fun k W=>New w W∧D+2≤W.heap.size∧SqW (fun b=>w10.heap.size≤b∧b<D) bq sv (pK G.tree) W∧Bk W w.heap.size 27 [.slice ta G.tree.length tc,.slice ca G.cards.length cc,.slice fa G.fails.length fc,.slice ga G.gone.length gc]∧Bk W b8 42 [pT bw]∧Bk W b9' 109 [.slice ma (allM G.cards G.tree).length mc]∧nN OE G9 2 (fun b=>b<D) NoB W (.slice ma (allM G.cards G.tree).length mc) (allM G.cards G.tree)∧ ∃N nv,WkM (fun b=>w.heap.size≤b∧b≠D∧b≠D+1∧b≠b8) bw bm N [] L nv (.slice none 0 0) W∧N.length=k∧bnF N=VL G k∧(∀j,stF N j=0)∧ ∀j,nv.ownBlock=some j→D≤j
 (repeat' (first|refine af ?_|refine Wd.block ?_|refine dK ?_))
 refine Wd.frame [(1,pT w.heap.size),(8,pT b8),(9,pT b9'),(61,.func (.func 95) #[] #[pT bq])] ⟨rfl,rfl,rfl,rfl,trivial⟩ fun G0=>?_
 simp only [oP]
 refine jT (gf:=95) (lb:= #[pT bq]) rfl (fun args _=>su inferInstance args) (iter_walk (Pb:=fun b=>w10.heap.size≤b∧b<D) (bs:=bq) (v:=sv) (l:=pK G.tree)) (fun k=>rfl) I (fun _ _=>False) ?_ ?_ ?_ ?_ ?_ ?_ ?_ ?_ ?_
 ·exact fun k W h=>h.2.2.1
 ·rintro k W W' ⟨h1,h2,h3,h4,h5,h6,h7,N,nv,h8,h9⟩ n
  exact ⟨h1.trans n,Nat.le_trans h2 n.size,h3.new n,h4.chg n fun e=>e,h5.chg n fun e=>e,h6.chg n fun e=>e,h7.new (nG _) n,N,nv,h8.new n,h9⟩
 ·rintro k W r1 r2 ⟨h1,h2,h3,h4,h5,h6,h7,N,nv,h8,h9⟩ hL
  have z:=n0b.size
  have nL:NoC W (w11.heap.size+1):=.loop hL
  exact ⟨h1.put _ (by omega),by simpa using h2,h3.put _ nL (by omega),h4.put _ nL,h5.put _ nL,h6.put _ nL,h7.put _ (nG _) nL,N,nv,h8.chg (Chg.putObj W _ _) (fun k hk e=>hk.2.2.1 (by omega)),h9⟩
 ·exact fun _ _ _ _ h=>h.elim
 ·intro r1
  have n:=jU (w:=w11) (.deferred (some [])) (.loop r1)
  exact ⟨n0b.trans n,by rw [hD];simp,(hD▸hq).new n,b1a.chg n fun e=>e,b8a.chg n fun e=>e,b9a.chg n fun e=>e,oma.new (nG _) n,[],.slice none 0 0,g0a.new n,rfl,by funext i;unfold VL bnF;rw [if_neg (Nat.not_lt_zero i)];rfl,fun j=>rfl,fun j e=>by cases e⟩
 ·rintro k W r1 hk ⟨h1,h2,h3,h4,h5,h6,h7,N,nv,g,hN,hb,hst,hnv⟩ hL hDf
  subst hD
  have hkt:k<G.tree.length:=by omega
  have hgk:(pK G.tree).getD k []=oO G.tree k:=by rw [List.getD_eq_getElem?_getD,tH hkt];rfl
  show Wr _ _ _ _ _ (upd (upd _ 62 (vs ((pK G.tree).getD k []))) 63 (vi k)) W
  rw [hgk]
  (repeat' (first|refine aa1 ?_|refine af ?_|refine dP ?_|refine eH ?_|refine dJ rfl (by repeat' (first|exact Qfn.out (by rintro _ ⟨⟨_,e⟩,_⟩;cases e)|exact Qrd.out|exact Qas.out|refine Qsr.out ?_|refine nJ.out ?_|refine Qsc.out ?_|refine nM.out ?_)) ?_))
  refine ⟨aQ _ _,fun r'=>?_⟩
  have nL:NoC W (w11.heap.size+1):=.loop hL
  have hLt:=nL.lt
  have z0:=n0b.size
  have q1:New w (W.putObj (w11.heap.size+1) (.loop r')):=h1.put _ (by omega)
  have q2:w11.heap.size+2≤(W.putObj (w11.heap.size+1) (.loop r')).heap.size:=by simpa using h2
  have q3:=h3.put (.loop r') nL (by omega)
  have q4:=h4.put (.loop r') nL
  have q5:=h5.put (.loop r') nL
  have q6:=h6.put (.loop r') nL
  have q7:=h7.put (.loop r') (nG _) nL
  have qg:=g.chg (Chg.putObj W (w11.heap.size+1) (.loop r')) (fun k hk e=>hk.2.2.1 e)
  have qL:NoC (W.putObj (w11.heap.size+1) (.loop r')) (w11.heap.size+1):=.loop (World.putObj_heap_same hLt)
  have qD:NoC (W.putObj (w11.heap.size+1) (.loop r')) w11.heap.size:=.mark ((World.putObj_heap_other (by omega)).trans hDf)
  generalize W.putObj (w11.heap.size+1) (.loop r')=W3 at*
  clear h1 h2 h3 h4 h5 h6 h7 g hL hDf nL hLt
  have ah8:=qL.lt
  refine Wr.block ?_
  refine fP (fun F W=>agrees F [(1,pT w.heap.size),(8,pT b8),(9,pT b9'),(11,vs (oO G.tree k)),(12,vi k),(13,.bool (onM G.tree k))]∧New W3 W) ?_ ?_
  ·(repeat' (first|refine dJ rfl Wk.Ae.out ?_|refine aa5 ?_))
   refine ay (u:=.slice ta G.tree.length tc) rfl (q4.cell (o:=0) rfl) ?_
   (repeat' (refine aa0 ?_))
   refine aB (DC (i:=k) (r.t.keep nY q1.keep) hok hkt) rfl ?_
   rintro _ W4 ⟨rfl,n4⟩
   (repeat' (first|refine aa0 ?_|refine aa1 ?_|refine af ?_|refine pI ?_))
   exact ⟨⟨rfl,rfl,rfl,rfl,rfl,rfl,trivial⟩,n4⟩
  rintro F W4 ⟨hF,n4⟩
  rw [←oK hF]
  simp only [oP]
  clear hF
  refine fP (fun F W=>agrees F [(1,pT w.heap.size),(8,pT b8),(9,pT b9'),(11,vs (oO G.tree k)),(12,vi k),(13,.bool (onM G.tree k)),(15,.bool (Cj G.tree k))]∧New W4 W) ?_ ?_
  ·(repeat' (first|refine dJ rfl Wk.Ae.out ?_|refine aa5 ?_))
   refine ay (u:=.slice ta G.tree.length tc) rfl ((q4.chg n4 fun e=>e).cell (o:=0) rfl) ?_
   (repeat' (refine aa0 ?_))
   refine aB (OA (i:=k) (r.t.keep nY (New.trans q1 n4).keep) hok hkt) rfl ?_
   rintro _ W5 ⟨rfl,n5⟩
   (repeat' (first|refine aa0 ?_|refine aa1 ?_|refine af ?_|refine pI ?_))
   exact ⟨⟨rfl,rfl,rfl,rfl,rfl,rfl,rfl,trivial⟩,n5⟩
  rintro F W5 ⟨hF,n5⟩
  rw [←oK hF]
  simp only [oP]
  clear hF
  have n35:=New.trans n4 n5
  have ae4:=n35.size
  refine fP (fun F W=>agrees F [(1,pT w.heap.size),(8,pT b8),(9,pT b9'),(11,vs (oO G.tree k)),(12,vi k),(13,.bool (onM G.tree k)),(17,pT W5.heap.size)]∧Bk W W5.heap.size 118 (ndV (oO G.tree k) (qN G.tree k) 0 0 (-1) (.slice none 0 0))∧New W5 W) ?_ ?_
  ·have hdv:qN G.tree k=(decide (0<k)&&(onM G.tree k&& !Cj G.tree k)):=rfl
   obtain ⟨d,hd⟩: ∃d,qN G.tree k=d:=⟨_,rfl⟩
   have hd2:=hd.symm.trans hdv
   rw [hd]
   clear hd hdv
   cases hon:onM G.tree k<;>cases hpn:Cj G.tree k<;>by_cases hk0:0<k<;>rw [hon,hpn] at hd2<;>simp [hk0] at hd2<;>subst hd2<;>
   (
   (repeat' (first|refine aa0 ?_|refine aa6 ?_|refine qo ?_|refine pU ?_|refine pJ ?_|refine aX rfl ?_|refine dJ rfl Wk.Ae.out ?_|(refine bJ rfl rfl (fun _=>?_) (fun _=>?_)<;>(first|(exfalso;omega)|skip))))
   refine fO (ps:=[(1,.const (vi (-1))),(2,.const (vi (-1)))]) (parts:=[(1,vi (-1)),(2,vi (-1))]) rfl IU ?_
   refine fO (ps:=[(0,.tmp 78),(1,.tmp 87),(3,.tmp 88)]) (parts:=[(0,vs (oO G.tree k)),(1,.bool _),(3,.agg #[.int .u8 0,vi (-1),vi (-1)])]) rfl IV ?_
   refine Wl.alloc fun W6 b6 n6 s6=>?_
   refine aV (new:=ndV (oO G.tree k) _ 0 0 (-1) (.slice none 0 0)) b6 rfl rfl rfl rfl (show (9:Nat)≤9 from Nat.le_refl 9) (afp _ _ _ _ _) fun W7 b7 c7 s7=>?_
   (repeat' (refine af ?_))
   exact ⟨⟨rfl,rfl,rfl,rfl,rfl,rfl,rfl,trivial⟩,b7,(Chg.trans n6.any c7 fun _ _ e=>e).toNew fun k hk e=>by omega⟩)
  rintro F W6 ⟨hF,b17,n6⟩
  rw [←oK hF]
  simp only [oP]
  clear hF
  refine fP (fun F W=>agrees F [(1,pT w.heap.size),(8,pT b8),(9,pT b9'),(11,vs (oO G.tree k)),(12,vi k),(13,.bool (onM G.tree k)),(17,pT W5.heap.size)]∧Bk W W5.heap.size 118 (ndV (oO G.tree k) (qN G.tree k) 0 0 (qx (if qN G.tree k=true then qh G.cards G.tree k else none)) (.slice none 0 0))∧New W5 W) ?_ ?_
  ·(repeat' (first|refine eH ?_|refine dJ rfl Wk.Ae.out ?_|refine aa5 ?_))
   refine ay (u:=.bool (qN G.tree k)) rfl (b17.cell (o:=1) rfl) ?_
   cases hd:qN G.tree k with
   |false=>
    rw [hd] at b17
    (repeat' (first|refine af ?_|refine dP ?_|refine Wr.skip ?_|refine gG rfl ?_))
    exact ⟨⟨rfl,rfl,rfl,rfl,rfl,rfl,rfl,trivial⟩,b17,n6⟩
   |true=>
    rw [hd] at b17
    have n36:=New.trans n35 n6
    have hm0:(yh (uJ G.cards (rQ G.tree k)))[0]? =some (vi (qx (qh G.cards G.tree k))):=by unfold qh;cases uJ G.cards (rQ G.tree k)<;>rfl
    have hme:(allM G.cards G.tree)[k]? =some (uJ G.cards (rQ G.tree k)):=by unfold allM;rw [List.getElem?_map,List.getElem?_range hkt];rfl
    (repeat' (first|refine af ?_|refine dP ?_|refine dJ rfl Wk.Ae.out ?_|refine gB rfl ?_))
    refine ay (u:=.slice ma (allM G.cards G.tree).length mc) rfl ((q6.chg n36 fun e=>e).cell (o:=0) rfl) ?_
    (repeat' (refine aa0 ?_))
    refine aZ ((q7.new (nG _) n36).rd (nO _)) rfl rfl (by omega) (by rw [Int.toNat_natCast];exact hme) fun b o cs hl hR hat=>?_
    obtain rfl:cs=yh _:=hR
    (repeat' (refine aa5 ?_))
    refine ay (u:=vi (qx (qh G.cards G.tree k))) rfl (hat.get 0 hm0) ?_
    clear hat
    (repeat' (refine aa5 ?_))
    refine bf (u:=vi (qx (qh G.cards G.tree k))) b17 rfl (show (4:Nat)<9 by omega) rfl rfl fun W7 b7 c7=>?_
    (repeat' (refine af ?_))
    exact ⟨⟨rfl,rfl,rfl,rfl,rfl,rfl,rfl,trivial⟩,b7,(Chg.trans n6.any c7 fun _ _ e=>e).toNew fun k hk e=>by omega⟩
  clear b17 n6
  rintro F W6 ⟨hF,b17,n6⟩
  rw [←oK hF]
  simp only [oP]
  clear hF
  have hcl: ∀j,(if qN G.tree k=true then qh G.cards G.tree k else none)=some j→j<G.cards.length:=fun j hj=>by
   split at hj
   ·unfold qh at hj
    cases hf:uJ G.cards (rQ G.tree k) with
    |none=>rw [hf] at hj;cases hj
    |some p=>rw [hf] at hj;cases hj;exact (Gv (i:=p.1) (k:=p.2) hf).1
   ·cases hj
  obtain ⟨c,hc⟩: ∃c,(if qN G.tree k=true then qh G.cards G.tree k else none)=c:=⟨_,rfl⟩
  rw [hc] at b17 hcl
  refine fP (fun F W=>agrees F [(1,pT w.heap.size),(8,pT b8),(9,pT b9'),(11,vs (oO G.tree k)),(12,vi k),(13,.bool (onM G.tree k)),(17,pT W5.heap.size)]∧Bk W W5.heap.size 118 (ndV (oO G.tree k) (qN G.tree k) (lvC G c) 0 (qx c) (.slice none 0 0))∧New W5 W) ?_ ?_
  ·(repeat' (first|refine eH ?_|refine dJ rfl Wk.Ae.out ?_|refine aa5 ?_))
   refine ay (u:=vi (qx c)) rfl (b17.cell (o:=4) rfl) ?_
   cases c with
   |none=>
    rw [show qx none= -1 from rfl]
    (repeat' (first|refine af ?_|refine dP ?_|refine Wr.skip ?_|refine gG rfl ?_|(refine di rfl rfl (fun _=>?_) (fun _=>?_)<;>(first|(exfalso;omega)|skip))))
    exact ⟨⟨rfl,rfl,rfl,rfl,rfl,rfl,rfl,trivial⟩,b17,n6⟩
   |some j=>
    have hjl:=hcl j rfl
    obtain ⟨x,hx⟩:=nP G.cards hjl
    have n36:=New.trans n35 n6
    have hkp:=(New.trans q1 n36).keep (Pb:=Pg)
    rw [show qx (some j)=(j:Int) from rfl]
    (repeat' (first|refine af ?_|refine dP ?_|refine dJ rfl Wk.Ae.out ?_|refine gB rfl ?_|refine aa5 ?_|(refine di rfl rfl (fun _=>?_) (fun _=>?_)<;>(first|(exfalso;omega)|skip))))
    refine ay (u:=.slice ca G.cards.length cc) rfl ((q4.chg n36 fun e=>e).cell (o:=1) rfl) ?_
    (repeat' (refine aa5 ?_))
    refine ay (u:=vi j) rfl (b17.cell (o:=4) rfl) ?_
    skip
    refine aZ (r.c.keep pO hkp) rfl rfl (by omega) (by rw [Int.toNat_natCast];exact hx) fun b o cs hl hR hat=>?_
    obtain ⟨va,rfl,_⟩:=hR
    (repeat' (refine aa5 ?_))
    refine ay (u:=.int .u8 x.level) rfl (hat.get 2 rfl) ?_
    clear hat
    (repeat' (refine aa5 ?_))
    refine bf (u:=.int .u8 x.level) b17 rfl (show (2:Nat)<9 by omega) rfl rfl fun W7 b7 c7=>?_
    (repeat' (refine af ?_))
    exact ⟨⟨rfl,rfl,rfl,rfl,rfl,rfl,rfl,trivial⟩,by unfold lvC;dsimp only;rw [List.getD_eq_getElem?_getD,hx];exact b7,(Chg.trans n6.any c7 fun _ _ e=>e).toNew fun k hk e=>by omega⟩
  clear b17 n6
  rintro F W6 ⟨hF,b17,n6⟩
  rw [←oK hF]
  simp only [oP]
  clear hF
  refine fP (fun F W=> ∃wv:SV,agrees F [(1,pT w.heap.size),(8,pT b8),(9,pT b9'),(11,vs (oO G.tree k)),(12,vi k),(13,.bool (onM G.tree k)),(17,pT W5.heap.size)]∧Bk W W5.heap.size 118 (ndV (oO G.tree k) (qN G.tree k) (lvC G c) 0 (qx c) (svV wv))∧nN (Wk.one viN) 3 1 (fun b=>W3.heap.size≤b) NoB W (svV wv) (if 0<k then [par G.tree k] else [])∧New W5 W) ?_ ?_
  ·have aaD:=New.trans n35 n6
   have hkp:=(New.trans q1 aaD).keep (Pb:=Pg)
   by_cases hk0:0<k
   ·rw [if_pos hk0]
    have hpar:=uK hok (i:=k) (by omega) hkt
    (repeat' (first|refine aa0 ?_|refine af ?_|refine dP ?_|refine eH ?_|refine dJ rfl Wk.Ae.out ?_|refine gB rfl ?_|refine aa5 ?_|(refine bJ rfl rfl (fun _=>?_) (fun _=>?_)<;>(first|(exfalso;omega)|skip))))
    refine ay (u:=.slice ta G.tree.length tc) rfl ((q4.chg aaD fun e=>e).cell (o:=0) rfl) ?_
    (repeat' (refine aa0 ?_))
    refine aZ (r.t.keep nY hkp) rfl rfl (by omega) (by rw [Int.toNat_natCast];exact Hf hkt) fun b o cs hl hR hat=>?_
    obtain ⟨pvn,rfl,_⟩:=hR
    (repeat' (refine aa5 ?_))
    refine ay (u:=vi (par G.tree k)) rfl (by rw [←hpar.2];exact hat.get 0 rfl) ?_
    clear hat
    skip
    refine bY (R:=Wk.one viN) (Pe:=NoB) (y:=par G.tree k) qX rfl rfl rfl rfl (by omega) (by omega) fun v7 W7 o7 n7 s7 e7=>?_
    obtain ⟨xa,xc,rfl,_,_⟩:=o7.form
    (repeat' (refine aa5 ?_))
    have hz6:=n6.size
    refine bf (u:=.slice xa [par G.tree k].length xc) (b17.chg n7 fun e=>e) rfl (show (6:Nat)<9 by omega) rfl rfl fun W8 b8' c8=>?_
    (repeat' (refine af ?_))
    exact ⟨(xa,[par G.tree k].length,xc),⟨rfl,rfl,rfl,rfl,rfl,rfl,rfl,trivial⟩,b8',(o7.chg (nK _) c8 fun j h e=>by have h9:W6.heap.size≤j:=(o7.lt h).1;have:=b17.lt;omega).mono (nX _) (fun b _ e=>by have e:W6.heap.size≤b:=e;show W3.heap.size≤b;omega) (fun _ _ e=>e),(Chg.trans (New.trans n6 n7).any c8 fun _ _ e=>e).toNew fun k hk e=>by omega⟩
   ·rw [if_neg hk0]
    (repeat' (first|refine aa0 ?_|refine af ?_|refine dP ?_|refine eH ?_|refine dJ rfl Wk.Ae.out ?_|refine Wr.skip ?_|refine gG rfl ?_|(refine bJ rfl rfl (fun _=>?_) (fun _=>?_)<;>(first|(exfalso;omega)|skip))))
    exact ⟨(none,0,0),⟨rfl,rfl,rfl,rfl,rfl,rfl,rfl,trivial⟩,b17,bH,n6⟩
  clear b17 n6
  rintro F W6 ⟨hwv,hF,b17,owv,n6⟩
  rw [←oK hF]
  simp only [oP]
  clear hF
  refine fP (fun F W=>agrees F [(1,pT w.heap.size),(8,pT b8),(9,pT b9'),(11,vs (oO G.tree k)),(12,vi k),(17,pT W5.heap.size)]∧Bk W W5.heap.size 118 (ndV (oO G.tree k) (qN G.tree k) (lvC G c) (if onM G.tree k=false then 1 else 0) (qx c) (svV hwv))∧nN (Wk.one viN) 3 1 (fun b=>W3.heap.size≤b) NoB W (svV hwv) (if 0<k then [par G.tree k] else [])∧New W5 W) ?_ ?_
  ·cases hon:onM G.tree k with
   |true=>
    (repeat' (first|refine aa0 ?_|refine af ?_|refine aX rfl ?_|refine dP ?_|refine eH ?_|refine dJ rfl Wk.Ae.out ?_|refine Wr.skip ?_|refine gG rfl ?_))
    exact ⟨⟨rfl,rfl,rfl,rfl,rfl,rfl,trivial⟩,b17,owv,n6⟩
   |false=>
    (repeat' (first|refine aa0 ?_|refine af ?_|refine aX rfl ?_|refine dP ?_|refine eH ?_|refine dJ rfl Wk.Ae.out ?_|refine gB rfl ?_|refine aa5 ?_))
    refine bf (u:=.int .u8 1) b17 rfl (show (3:Nat)<9 by omega) rfl rfl fun W8 b8' c8=>?_
    (repeat' (refine af ?_))
    exact ⟨⟨rfl,rfl,rfl,rfl,rfl,rfl,trivial⟩,b8',owv.chg (nK _) c8 fun j h e=>owv.pR b17 rfl h e,(Chg.trans n6.any c8 fun _ _ e=>e).toNew fun k hk e=>by omega⟩
  clear b17 owv n6
  rintro F W6 ⟨hF,b17,owv,n6⟩
  rw [←oK hF]
  simp only [oP]
  clear hF
  have n36:=New.trans n35 n6
  have ah9:=n36.size
  have g6:=qg.new n36
  have q56:=q5.chg n36 fun e=>e
  obtain ⟨na,nc,rfl,_,_⟩:=g6.nd.row.form
  obtain ⟨Y,hY⟩: ∃Y:Nb,Y=⟨xh G [] k,hwv,0⟩:=⟨_,rfl⟩
  have hYc:nbC Y=ndV (oO G.tree k) (qN G.tree k) (lvC G c) (if onM G.tree k=false then 1 else 0) (qx c) (svV hwv):=by
   rw [hY, ←hc]
   rfl
  have hYw:Y.bn.wants=if 0<k then [par G.tree k] else []:=by rw [hY];unfold xh;simp
  rw [←hYc] at b17
  rw [←hYw] at owv
  have hYv:Y.wv=hwv:=by rw [hY]
  rw [←hYv] at owv
  have II: ∀W',Chg (fun j=>(Value.slice na N.length nc).ownBlock=some j) W6 W'→Bk W' b8 42 [pT bw]:=fun W' c=>q56.chg c fun e=>g6.nd.row.pR q56 rfl e rfl
  have Xw: ∀W',Chg (fun j=>(Value.slice na N.length nc).ownBlock=some j) W6 W'→Bk W' bw 108 [.slice na N.length nc,.slice none 0 0,.map (some bm)]:=fun W' c=>g6.b.chg c fun e=>g6.nd.row.pR g6.b rfl e rfl
  have aaE: ∀W',Chg (fun j=>(Value.slice na N.length nc).ownBlock=some j) W6 W'→Bk W' W5.heap.size 118 (nbC Y):=fun W' c=>b17.chg c fun e=>by have:=hnv _ e;have:=(qg.nd.row.lt e).2;omega
  refine jV rfl Ae.out rfl (by kernel_rfl) (fun W'=>Chg (fun j=>(Value.slice na N.length nc).ownBlock=some j) W6 W') (Chg.drew _ _) ?_
  intro W7 m7
  skip
  refine aa2 (aC (u:=pT bw) rfl (fun W' c=>(II W' c).cell (o:=0) rfl) (ax ?_))
  refine aa2 (aC (u:=pT bw) rfl (fun W' c=>(II W' c).cell (o:=0) rfl) (ax ?_))
  (repeat' (first|refine aa2 (bD rfl (ax ?_))|refine aa2 (aa7 (ax ?_))))
  refine aa2 (aC (u:=.slice na N.length nc) rfl (fun W' c=>(Xw W' c).cell (o:=0) rfl) (ax ?_))
  skip
  refine aa2 (bQ (fun W' c=>(aaE W' c).at) rfl rfl (ax ?_))
  refine aU rfl (bY (R:=flat nbC) (Pe:=NoB) (y:=Y) Vx rfl rfl rfl rfl (by omega) (by omega) fun v8 W8 o8 n8 s8 e8=>?_)
  have m8:=New.trans m7 n8
  refine af ⟨rfl,m8.any,?_⟩
  refine aU rfl (cu (R:=flat nbC) Vx (g6.nd.row.new (nG _) m8) (o8.rd (nO _)) (fun z cs hz=>hz) rfl rfl (by omega) (by simp only [maxLen,List.length_singleton];omega) (by simp only [List.length_singleton];omega) fun u' W9 o9 c9 lie _=>?_)
  have c69:Chg (fun j=>(Value.slice na N.length nc).ownBlock=some j) W6 W9:=Chg.trans m8.any c9 fun _ _ e=>e
  refine af ⟨rfl,c69,?_⟩
  (repeat' (first|refine aa2 (bD rfl (ax ?_))|refine aa2 (aa7 (ax ?_))))
  obtain ⟨ua,uc,rfl,_,_⟩:=o9.form
  refine Wt.last rfl (bf (u:=.slice ua (N++ [Y]).length uc) (Xw W9 c69) rfl (show (0:Nat)<3 by omega) rfl rfl fun W10 YP BF=>?_)
  refine af ?_
  have afq:=m8.size
  have afk:=c69.size
  have ahh:=BF.size
  have SX:(Value.slice ua (N++ [Y]).length uc).ownBlock=(Value.slice na N.length nc).ownBlock∨ ∀k,(Value.slice ua (N++ [Y]).length uc).ownBlock=some k→W6.heap.size≤k:=lie.imp id fun h k hk=>by have:=h k hk;omega
  have Ti: ∀j,(Value.slice na N.length nc).ownBlock=some j→j<W3.heap.size:=fun j e=>(qg.nd.row.lt e).2
  have XY:=g6.nd.snoc (b:=Y) (o9.mono (Pb':=fun b=>w.heap.size≤b∧b≠w11.heap.size∧b≠w11.heap.size+1∧b≠b8) (nO _) (fun b _ e=>by rcases e with e|e;exact e;exact ⟨by omega,by omega,by omega,by omega⟩) (fun _ _ e=>e)) c69 SX
   (owv.mono (Pb':=fun b=>w.heap.size≤b∧b≠w11.heap.size∧b≠w11.heap.size+1∧b≠b8) (nX _) (fun b _ e=>by have e:W3.heap.size≤b:=e;exact ⟨by omega,by omega,by omega,by omega⟩) (fun _ _ e=>e))
   (fun j e1 e2=>by have h9:W3.heap.size≤j:=(owv.lt e1).1;have:=Ti j e2;omega)
   (fun x hx j e1 e2=>by have h9:W3.heap.size≤j:=(owv.lt e1).1;have:=((qg.nd.el x hx).lt e2).2;omega)
  have afr:=Xw W9 c69
  have NT:Chg (fun j=>j=bw∨(Value.slice na N.length nc).ownBlock=some j) W6 W10:=Chg.trans (c69.mono fun _ _ e=>.inr e) BF fun _ _ e=>.inl e
  have hnN:(N++ [Y]).length=k+1:=by rw [List.length_append,List.length_singleton,hN]
  have gN:WkM (fun b=>w.heap.size≤b∧b≠w11.heap.size∧b≠w11.heap.size+1∧b≠b8) bw bm (N++ [Y]) [] L (.slice ua (N++ [Y]).length uc) (.slice none 0 0) W10:=by
   refine ⟨YP,XY.qY (P:=Tryz.prog) afr rfl rfl BF,bH,((g6.mp.chg c69 fun e=>g6.nd.row.rD g6.mp e rfl).chg BF fun e=>g6.b.rD g6.mp e.symm),fun x hx j e1 e2=>(by cases e2),fun x hx j hj=>?_,by omega,⟨g6.fn.1,fun x hx=>?_⟩,g6.lo2⟩
   ·rw [hnN]
    rcases List.mem_append.1 hx with hx|hx
    ·have:=g6.win x hx j hj;omega
    ·rw [List.mem_singleton.1 hx,hYw] at hj
     split at hj
     ·rw [List.mem_singleton.1 hj]
      have:=(uK hok (i:=k) (by omega) hkt).1
      omega
     ·cases hj
   ·rcases List.mem_append.1 hx with hx|hx
    ·exact g6.fn.2 x hx
    ·rw [List.mem_singleton.1 hx,hY]
     have:=UE hok hkt
     show (oO G.tree k).length≤1000000
     omega
  have hown: ∀j,(Value.slice ua (N++ [Y]).length uc).ownBlock=some j→w11.heap.size≤j:=fun j e=>by
   rcases SX with l1|l1
   ·exact hnv j (l1▸e)
   ·have:=l1 j e;omega
  have aia:=g6.lo2.1
  have hY0:Y.st=0:=by rw [hY]
  have hYb:Y.bn=xh G [] k:=by rw [hY]
  have qL6:NoC W6 (w11.heap.size+1):=by obtain ⟨o,h1,h2⟩:=qL;exact ⟨o,(n36.block _ (Array.getElem?_eq_some_iff.1 h1).1 id).trans h1,h2⟩
  have qD6:NoC W6 w11.heap.size:=by obtain ⟨o,h1,h2⟩:=qD;exact ⟨o,(n36.block _ (Array.getElem?_eq_some_iff.1 h1).1 id).trans h1,h2⟩
  clear aaE Xw II b17 owv o8 o9 XY
  (repeat' (refine aH ?_))
  refine ⟨(NT.block _ qL6.lt ?_).trans (n36.block _ qL.lt id),(NT.block _ qD6.lt ?_).trans (n36.block _ qD.lt id),Chg.trans (New.trans q1 n36) NT fun j hj e=>?_,by omega,(q3.new n36).chg NT ?_ ?_,(q4.chg n36 fun e=>e).chg NT ?_,q56.chg NT ?_,(q6.chg n36 fun e=>e).chg NT ?_,(q7.new (nG _) n36).chg (nG _) NT fun j h1 h2=>?_,N++ [Y],_,gN,hnN,?_,?_,hown⟩
  ·rintro (e|e)
   ·omega
   ·exact g6.nd.row.nl qL6 e rfl
  ·rintro (e|e)
   ·omega
   ·exact g6.nd.row.nl qD6 e rfl
  ·rcases e with e|e
   ·omega
   ·have:=hnv j e;omega
  ·rintro (e|e)
   ·omega
   ·have:=hnv _ e;omega
  ·rintro j hj (e|e)
   ·omega
   ·have:=hnv _ e;omega
  ·rintro (e|e)
   ·omega
   ·have:=hnv _ e;omega
  ·rintro (e|e)
   ·omega
   ·have:=hnv _ e;omega
  ·rintro (e|e)
   ·omega
   ·have:=hnv _ e;omega
  ·rcases h2 with e|e
   ·exact (q7.new (nG _) n36).pR g6.b rfl h1 e
   ·have h9:j<w11.heap.size:=(q7.lt h1).1
    have:=hnv _ e;omega
  ·funext i
   rw [VJ,hb,hN,hYb]
   unfold VL
   by_cases hi:i=k
   ·rw [if_pos hi,if_pos (by omega),hi]
   ·rw [if_neg hi]
    by_cases h2:i<k
    ·rw [if_pos h2,if_pos (by omega)]
    ·rw [if_neg h2,if_neg (by omega)]
  ·intro j
   rw [VK]
   split
   ·exact hY0
   ·exact hst j
 ·rintro W ⟨h1,h2,h3,h4,h5,h6,h7,N,nv,g,hN,hb,hst,hnv⟩ hDf
  subst hD
  clear h3 h6 h7 oma g0a b1a b8a b9a hq
  rw [hpl] at hN hb
  clear I
  have z0:=n0b.size
  have rW:RdG (fun b=>b<w.heap.size) W G (.slice ta G.tree.length tc) (.slice ca G.cards.length cc) (.slice fa G.fails.length fc) (.slice ga G.gone.length gc):=
   RdG.keep ⟨r.t.mono zh fun b hb _=>hb,r.c.mono J7 fun b hb _=>hb,r.f.mono (nX _) fun b hb _=>hb,r.g.mono (nX _) fun b hb _=>hb⟩ h1.keep pO
  (repeat' (first|refine dK ?_|refine jR ?_))
  refine Wd.of ?_
  refine au ?_
  (repeat' (refine ak ?_))
  refine ay (u:=pT bw) rfl (h5.cell (o:=0) rfl) ?_
  skip
  refine bM h4 rfl rfl ?_
  skip
  refine aB (Qg (lo:=w.heap.size) (Pb:=fun b=>w.heap.size≤b∧b≠w11.heap.size∧b≠w11.heap.size+1∧b≠b8) (fun b hb=>hb.1) (fun b hb=>⟨by omega,by omega,by omega,by omega⟩) hok hco hgl rW g hN hb hst) rfl ?_
  rintro _ W1 ⟨N1,g1,hN1,hb1,hst1,c1⟩
  have h51:=h5.chg c1 fun e=>e.2.2.2 rfl
  have hD1:=(c1.block _ (Array.getElem?_eq_some_iff.1 hDf).1 fun e=>e.2.1 rfl).trans hDf
  have n1':New w W1:=(Chg.trans (M:=fun k=>w.heap.size≤k) h1.any c1 fun k _ e=>e.1).toNew fun k hk e=>by omega
  clear h1 h4 h5 g hb hst hnv hDf c1 rW
  generalize hD0:w11.heap.size=D at*
  obtain ⟨na,nc,rfl,_,_⟩:=g1.nd.row.form
  have hnl:=g1.nl
  (repeat' (first|refine af ?_|refine ah ?_|refine au ?_|refine ak ?_))
  refine ay (u:=pT bw) rfl (h51.cell (o:=0) rfl) ?_
  (repeat' (first|refine bK rfl ?_|refine aa5 ?_))
  refine ay (u:=.slice na N1.length nc) rfl (g1.b.cell (o:=0) rfl) ?_
  (repeat' (first|refine aa0 ?_|refine af ?_|refine aI rfl ?_|refine ah ?_|refine Wc.block ?_))
  refine aS (σ:=Nat×Value) (fun q=>[(8,pT b8),(142,.slice na N1.length nc),(143,vi N1.length),(144,vi q.1)])
   (fun q W'=>q.1≤N1.length∧WkM (fun b=>w.heap.size≤b∧b≠D∧b≠D+1∧b≠b8) bw bm N1 ((List.range q.1).filter fun i=>decide ((nS G i).reason=0)) L (.slice na N1.length nc) q.2 W'∧Bk W' b8 42 [pT bw]∧W'.heap[D]? =some (.deferred (some []))∧New w W') (fun q=>N1.length-q.1)
   (0,.slice none 0 0) ⟨rfl,rfl,rfl,rfl,trivial⟩ ⟨Nat.zero_le _,g1,h51,hD1,n1'⟩ ?_
  clear g1 h51 hD1 n1'
  rintro ⟨k,ov⟩ G2 W2 ⟨hk,g2,h52,hD2,n2⟩
  dsimp only at hk g2 h52 hD2 n2
  simp only [oP]
  have Vs:=(Array.getElem?_eq_some_iff.1 hD2).1
  obtain ⟨oa,oc,rfl,hol,aib⟩:=g2.od.form
  (repeat' (first|refine aa0 ?_|refine af ?_|refine ah ?_|refine au ?_|refine ak ?_|refine Wc.block ?_|refine Wc.skip ?_|refine aK ?_|refine aN ?_|refine aJ ?_|refine aP ?_|refine aa3 ?_|refine aa4 ?_|refine pF (fun _=>?_) (fun _=>?_)))
  ·obtain ⟨x,hx⟩:=nP N1 (k:=k) (by omega)
   have hxb:=sS hx
   rw [hb1] at hxb
   refine aZ (g2.nd.row.rd (nO nbC)) rfl rfl (by omega) (by rw [Int.toNat_natCast];exact hx) fun b o cs hl hR hat=>?_
   obtain rfl:cs=nbC x:=hR
   refine bG hat rfl rfl ?_
   clear hat
   refine Wl.alloc fun w5' b5' n5' s5'=>?_
   (repeat' (refine aa1 ?_))
   refine aV (new:=nbC x) b5' rfl rfl rfl rfl (show (9:Nat)≤9 from Nat.le_refl 9) (Tf x) fun w6' b6' c6' s6'=>?_
   have n6':New W2 w6':=(Chg.trans n5'.any c6' fun _ _ e=>e).toNew fun k hk e=>by omega
   replace b6':Bk w6' W2.heap.size 118 (nbC x):=b6'
   clear b5' n5' c6'
   have g6:=g2.new n6'
   have h56:=h52.chg n6' fun e=>e
   have hz6:=n6'.size
   (repeat' (first|refine af ?_|refine ah ?_|refine au ?_|refine ak ?_|refine aa5 ?_))
   refine ay (u:=.int .u8 x.bn.reason) rfl (b6'.cell (o:=3) rfl) ?_
   have hnx:(List.range (k+1)).filter (fun i=>decide ((nS G i).reason=0))=(List.range k).filter (fun i=>decide ((nS G i).reason=0))++if x.bn.reason=0 then [k] else []:=by
    rw [List.range_succ,List.filter_append,List.filter_cons,List.filter_nil,hxb]
    by_cases h0:x.bn.reason=0
    ·rw [if_pos h0,if_pos (decide_eq_true h0)]
    ·rw [if_neg h0,if_neg (by rw [decide_eq_false h0];decide)]
   have hrl:((List.range k).filter fun i=>decide ((nS G i).reason=0)).length≤k:=Nat.le_trans (List.length_filter_le _ _) (by rw [List.length_range];exact Nat.le_refl _)
   (repeat' (first|refine aa0 ?_|refine af ?_|refine ah ?_|refine ak ?_|refine Wc.skip ?_|refine aH ?_|refine aa3 ?_|refine aa4 ?_|refine aa8 ?_|refine cO rfl rfl (fun _=>?_) (fun _=>?_)))
   ·rw [if_pos (by omega)] at hnx
    have YQ: ∀W',Chg (fun j=>(Value.slice oa ((List.range k).filter fun i=>decide ((nS G i).reason=0)).length oc).ownBlock=some j) w6' W'→Bk W' b8 42 [pT bw]:=fun W' c=>h56.chg c fun e=>g6.od.pR h56 rfl e rfl
    have aaF: ∀W',Chg (fun j=>(Value.slice oa ((List.range k).filter fun i=>decide ((nS G i).reason=0)).length oc).ownBlock=some j) w6' W'→Bk W' bw 108 [.slice na N1.length nc,.slice oa ((List.range k).filter fun i=>decide ((nS G i).reason=0)).length oc,.map (some bm)]:=fun W' c=>g6.b.chg c fun e=>g6.od.pR g6.b rfl e rfl
    refine bP rfl (by kernel_rfl) (fun W'=>Chg (fun j=>(Value.slice oa ((List.range k).filter fun i=>decide ((nS G i).reason=0)).length oc).ownBlock=some j) w6' W') (Chg.drew _ _) ?_
    intro W7 m7
    skip
    refine aa2 (aC (u:=pT bw) rfl (fun W' c=>(YQ W' c).cell (o:=0) rfl) (ax ?_))
    refine aa2 (aC (u:=pT bw) rfl (fun W' c=>(YQ W' c).cell (o:=0) rfl) (ax ?_))
    (repeat' (first|refine aa2 (bD rfl (ax ?_))|refine aa2 (aa7 (ax ?_))))
    refine aa2 (aC (u:=.slice oa ((List.range k).filter fun i=>decide ((nS G i).reason=0)).length oc) rfl (fun W' c=>(aaF W' c).cell (o:=1) rfl) (ax ?_))
    (repeat' (refine aa2 (aa9 (ax ?_))))
    refine aU rfl (bY (R:=Wk.one viN) (Pe:=NoB) (y:=k) qX rfl rfl rfl rfl (by omega) (by omega) fun v8 W8 o8 n8 s8 e8=>?_)
    have m8:=New.trans m7 n8
    refine af ⟨rfl,m8.any,?_⟩
    refine aU rfl (cu (R:=Wk.one viN) qX (g6.od.new (nK _) m8) (o8.rd qX.mo) (fun z cs hz=>hz) rfl rfl (by omega) (by simp only [maxLen,List.length_singleton];omega) (by simp only [List.length_singleton];omega) fun u' W9 o9 c9 lie _=>?_)
    have c69:Chg (fun j=>(Value.slice oa ((List.range k).filter fun i=>decide ((nS G i).reason=0)).length oc).ownBlock=some j) w6' W9:=Chg.trans m8.any c9 fun _ _ e=>e
    refine af ⟨rfl,c69,?_⟩
    (repeat' (first|refine aa2 (bD rfl (ax ?_))|refine aa2 (aa7 (ax ?_))))
    rw [←hnx] at o9
    obtain ⟨ua,uc,rfl,_,_⟩:=o9.form
    refine Wt.last rfl (bf (u:=.slice ua _ uc) (aaF W9 c69) rfl (show (1:Nat)<3 by omega) rfl rfl fun W10 YP BF=>?_)
    refine af ?_
    have afq:=m8.size
    have gN:=g6.aaA (o9.mono (Pb':=fun b=>w.heap.size≤b∧b≠D∧b≠D+1∧b≠b8) (nX _) (fun b _ e=>by rcases e with e|e;exact e;exact ⟨by omega,by omega,by omega,by omega⟩) (fun _ _ e=>e)) c69 (lie.imp id fun h k hk=>by have:=h k hk;omega) YP BF
    have afs:=YQ W9 c69
    have hDo: ∀j,(Value.slice oa ((List.range k).filter fun i=>decide ((nS G i).reason=0)).length oc).ownBlock=some j→w.heap.size≤j∧j≠D:=fun j e=>⟨(g2.od.lt e).1.1,(g2.od.lt e).1.2.1⟩
    have YR:=g2.lo2.1
    (repeat' (first|refine aa0 ?_|refine af ?_|refine ah ?_|refine ak ?_|refine aH ?_|refine aa8 ?_))
    refine aG (k+1,_) ⟨rfl,rfl,rfl,rfl,trivial⟩ ⟨by dsimp only;omega,gN,afs.chg BF fun e=>YR.2.2.2 e.symm,?_,?_⟩ (by dsimp only;omega)
    ·rw [BF.block _ (by have:=c69.size;omega) fun e=>YR.2.1 e.symm,c69.block _ (by omega) fun e=>(hDo _ e).2 rfl,n6'.block _ Vs id]
     exact hD2
    ·exact (Chg.trans (M:=fun k=>w.heap.size≤k) (Chg.trans (M:=fun k=>w.heap.size≤k) (New.trans n2 n6').any c69 fun k _ e=>(hDo k e).1) BF fun k _ e=>by have:=YR.1;omega).toNew fun k hk e=>by omega
   ·rw [if_neg (by omega),List.append_nil] at hnx
    refine aG (k+1,_) ⟨rfl,rfl,rfl,rfl,trivial⟩ ⟨by dsimp only;omega,by rw [hnx];exact g6,h56,(n6'.block _ Vs id).trans hD2,New.trans n2 n6'⟩ (by dsimp only;omega)
  ·obtain rfl:k=N1.length:=by omega
   have hrl:((List.range N1.length).filter fun i=>decide ((nS G i).reason=0)).length≤N1.length:=Nat.le_trans (List.length_filter_le _ _) (by rw [List.length_range];exact Nat.le_refl _)
   have hmem: ∀i∈(List.range N1.length).filter (fun i=>decide ((nS G i).reason=0)),i<N1.length:=fun i hi=>List.mem_range.1 (List.mem_filter.1 hi).1
   have hpt: ∀i,i<N1.length→(nS G i).path=oO G.tree i:=fun i hi=>by rw [AY (by omega)];rfl
   refine ay (u:=pT bw) rfl (h52.cell (o:=0) rfl) ?_
   (repeat' (first|refine bK rfl ?_|refine aa5 ?_))
   refine ay (u:=.slice oa ((List.range N1.length).filter fun i=>decide ((nS G i).reason=0)).length oc) rfl (g2.b.cell (o:=1) rfl) ?_
   refine dL (f1:=[]) (c1:=[pT b8]) rfl rfl ?_
   refine aB (CB (g:=49) (cb:= #[pT b8]) (lv:=fun i=>(nS G i).level) (pt:=fun i=>(nS G i).path) g2.od (fun x hx y hy e=>EI hok (by have:=hmem x hx;omega) (by have:=hmem y hy;omega) (by rw [←hpt x (hmem x hx), ←hpt y (hmem y hy)];exact e)) (by omega) fun w' hw x hx y hy=>?_) rfl ?_
   ·refine (Tj (N:=N1) (a:=x) (c:=y) (b8:=b8) (bw:=bw) (na:=na) (nc:=nc) (mv:=.map (some bm)) hnl (g2.b.chg hw fun e=>g2.od.pR g2.b rfl e rfl) ((g2.nd.row.chg (nG nbC) hw fun k hk e=>g2.nd.row.tZ g2.od rfl k hk e).rd (nO nbC)) (h52.chg hw fun e=>g2.od.pR h52 rfl e rfl) (hmem x hx) (hmem y hy)).mono ?_
    rintro _ w'' ⟨_,rfl,rfl,h⟩
    rw [hb1]
    exact ⟨rfl,h⟩
   rintro _ W3 ⟨os,c3⟩
   have g3:=g2.aaA os c3 (.inl rfl) (g2.b.chg c3 fun e=>g2.od.pR g2.b rfl e rfl) (aQ _ _)
   have h53:=h52.chg c3 fun e=>g2.od.pR h52 rfl e rfl
   have hD3:=(c3.block _ Vs fun e=>(g2.od.lt e).1.2.1 rfl).trans hD2
   have n3:New w W3:=(Chg.trans (M:=fun k=>w.heap.size≤k) n2.any c3 fun k _ e=>(g2.od.lt e).1.1).toNew fun k hk e=>by omega
   (repeat' (first|refine af ?_|refine ah ?_|refine au ?_|refine ak ?_))
   refine ay (u:=pT bw) rfl (h53.cell (o:=0) rfl) ?_
   (repeat' (first|refine aa1 ?_|refine af ?_|refine ah ?_|refine aA ?_))
   refine Qdn.e ?_
   refine jS (by simp) hD3 ?_
   refine gI (uO rfl (qG rfl) (qG rfl)) ⟨_,rfl,?_,n3.put _ (by omega)⟩
   rw [if_pos hE]
   refine ⟨bw,bm,N1,L,.slice na N1.length nc,.slice oa ((List.range N1.length).filter fun i=>decide ((nS G i).reason=0)).length oc,rfl,?_,by omega,hb1,hst1,fun s=>?_⟩
   ·have:=(g3.chg (Chg.putObj W3 D (.deferred none)) fun k hk e=>hk.2.1 e).mono (Pb':=fun b=>w.heap.size≤b) fun b _ e=>e.1
    unfold oV
    rw [←hN1]
    exact this
   ·cases hf:flF L s with
    |true=>
     obtain ⟨p,hp,e⟩:=List.any_eq_true.1 hf
     have e:=(of_decide_eq_true e).1
     exact (List.contains_iff_mem.2 (e▸(cn.mem p hp).2.2)).symm
    |false=>
     cases hc:G.fails.contains s with
     |false=>rfl
     |true=>
      obtain ⟨c,hcm⟩:=cn.all s (List.contains_iff_mem.1 hc)
      have h1:=(cn.mem _ hcm).1
      rw [Rh cn.nd hcm,decide_eq_true (by dsimp only at h1;omega)] at hf
      cases hf
 ·exact fun _ h=>h.elim
 ·exact fun _ _ h=>h.elim
end
end Go.Proofs.YtjecgaiaiophpaaGreatDoor
namespace Go.Proofs.YtjecgaiaiophpaaGreatDoor
open Go Wk
open Go.RowKit (Below)
attribute [local irreducible] Go.Calls
theorem Wk.results3 {P:Program} {n:Nat} {F:Fr} {w:World} {fn:Func} {a b c:ResultVar} {u v x:Value} (h:fn.results= #[a,b,c]) (h1:(GX (arr n F) a).run P w=.ok u w) (h2:(GX (arr n F) b).run P w=.ok v w) (h3:(GX (arr n F) c).run P w=.ok x w):(results fn (arr n F)).run P w=.ok (.tuple #[u,v,x]) w:=by
 rw [CO,h]
 simp [h1,h2,h3]
section
variable {Pb:Nat→Prop} {w:World} {g:Giv} {tv cv fv gv:Value}
theorem TI (h:RdG Pb w g tv cv fv gv) (hok:oh g.tree=true)
 (hnew: ∀w',New w w'→Calls Tryz.prog 13 #[.agg #[tv,cv,fv,gv]] w' (Ret fun r w''=>Ri g w'.heap.size r w''∧New w' w'')):
 Calls Tryz.prog 39 #[.agg #[tv,cv,fv,gv]] w (Ret fun r w'=>NF g w.heap.size r w'∧New w w'):=by
 obtain ⟨ta,tc,rfl,_,_⟩:=h.t.form
 obtain ⟨ca,cc,rfl,_,_⟩:=h.c.form
 obtain ⟨fa,fc,rfl,_,_⟩:=h.f.form
 obtain ⟨ga,gc,rfl,_,_⟩:=h.g.form
 refine nH Tryz.func39 rfl Tryz.ntmps39 rfl ?_
 (repeat' (first|refine au ?_|refine ak ?_))
 refine bI rfl fun w1 b1 n1 s1=>?_
 replace b1:Bk w1 w.heap.size 27 [.slice ta g.tree.length tc,.slice ca g.cards.length cc,.slice fa g.fails.length fc,.slice ga g.gone.length gc]:=b1
 refine Wl.alloc fun w2 b2 n2 s2=>?_
 replace b2:Bk w2 w1.heap.size 33 [.slice none 0 0,.slice none 0 0,.slice none 0 0,.slice none 0 0]:=b2
 (repeat' (first|refine aa1 ?_|refine af ?_|refine ah ?_|refine au ?_|refine ak ?_))
 refine bM (b1.chg n2 fun e=>e) rfl rfl ?_
 refine aB (hnew w2 (New.trans n1 n2)) rfl ?_
 rintro _ w3 ⟨⟨bw,bm,N,fl,nv,ov,rfl,gW,hN,hbn,hst,hfl⟩,n3⟩
 (repeat' (first|refine aa0 ?_|refine aa1 ?_|refine af ?_|refine pI ?_|refine ah ?_|refine au ?_|refine ak ?_|refine Wc.skip ?_|refine aa4 ?_|(refine pV (fun _=>?_) (fun _=>?_)<;>(first|(exfalso;omega)|skip))))
 refine Wl.alloc fun w4 b7 n4 s4=>?_
 replace b7:Bk w4 w3.heap.size 33 [.slice none 0 0,.slice none 0 0,.slice none 0 0,.slice none 0 0]:=b7
 have hz1:=n1.size
 have hz2:=n2.size
 have hz3:=n3.size
 have n04:=New.trans (New.trans n1 n2) (New.trans n3 n4)
 have b1':=b1.chg (New.trans n2 (New.trans n3 n4)) fun e=>e
 have b2':=b2.chg (New.trans n3 n4) fun e=>e
 have hb1:=b1.lt
 have hb2:=b2.lt
 have hb7:=b7.lt
 have gW4:=(gW.mono (Pb':=fun b=>w2.heap.size≤b∧b<w3.heap.size) fun b hb e=>⟨e,hb⟩).new n4
 have hol:(oV (nS g) g.tree.length).length≤g.tree.length:=by
  unfold oV
  rw [List.length_mergeSort]
  exact Nat.le_trans (List.length_filter_le _ _) (by rw [List.length_range];exact Nat.le_refl _)
 have hin: ∀i∈oV (nS g) g.tree.length,i<g.tree.length∧(nS g i).reason=0:=fun i hi=>by
  have:=List.mem_filter.1 (List.mem_mergeSort.1 hi)
  exact ⟨List.mem_range.1 this.1,of_decide_eq_true this.2⟩
 have htl:g.tree.length≤512:=by rw [←hN];exact gW4.nl
 have aaG:stF N=S0:=by funext i;exact hst i
 obtain ⟨DG,hDG⟩: ∃x,x=doneGo (nS g) (flF fl) (oV (nS g) g.tree.length) (g.tree.length+1) S0:=⟨_,rfl⟩
 (repeat' (first|refine af ?_|refine ah ?_))
 refine au ?_
 refine Wc.block ?_
 refine aS (σ:=Nat×List Nb×List Rnd×Value) (fun q=>[(1,pT w.heap.size),(2,pT w1.heap.size),(5,pT bw),(7,pT w3.heap.size)])
  (fun q w'=>WkM (fun b=>w2.heap.size≤b∧b<w3.heap.size) bw bm q.2.1 (oV (nS g) g.tree.length) fl nv ov w'∧q.2.1.length=g.tree.length∧bnF q.2.1=nS g∧(∀i,stF q.2.1 i≤2)∧left0 (oV (nS g) g.tree.length) (stF q.2.1)<q.1∧q.2.2.1.length+q.1≤g.tree.length+1∧DG=(q.2.2.1++(doneGo (nS g) (flF fl) (oV (nS g) g.tree.length) q.1 (stF q.2.1)).1,(doneGo (nS g) (flF fl) (oV (nS g) g.tree.length) q.1 (stF q.2.1)).2)∧Bk w' w3.heap.size 33 [.slice none 0 0,q.2.2.2,.slice none 0 0,.slice none 0 0]∧nN rRd 76 2 (fun b=>w4.heap.size≤b) (fun b=>w4.heap.size≤b) w' q.2.2.2 q.2.2.1∧Bk w' w.heap.size 27 [.slice ta g.tree.length tc,.slice ca g.cards.length cc,.slice fa g.fails.length fc,.slice ga g.gone.length gc]∧Bk w' w1.heap.size 33 [.slice none 0 0,.slice none 0 0,.slice none 0 0,.slice none 0 0]∧w4.heap.size≤w'.heap.size∧New w w') (fun q=>q.1)
  (g.tree.length+1,N,[],.slice none 0 0) ⟨rfl,rfl,rfl,rfl,trivial⟩ ⟨gW4,hN,hbn,fun i=>by rw [hst i];omega,by
    have:left0 (oV (nS g) g.tree.length) (stF N)≤(oV (nS g) g.tree.length).length:=List.length_filter_le _ _
    show left0 (oV (nS g) g.tree.length) (stF N)<g.tree.length+1
    omega,by simp,by rw [hDG,aaG];rfl,b7,bH,b1',b2',Nat.le_refl _,n04⟩ ?_
 clear gW4 gW b7 b1' b2' hst aaG n04 hN hbn
 rintro ⟨f,N1,acc,bv⟩ G w5 ⟨g5,hN,hbn,hst,hlf,hal,hgo,b7,ob,b1',b2',hz5,n05⟩
 dsimp only at g5 hN hbn hst hlf hal hgo b7 ob b1' b2' hz5 n05
 simp only [oP]
 obtain ⟨f,rfl⟩: ∃k,f=k+1:=⟨f-1,by omega⟩
 rw [vP] at hgo
 obtain ⟨ba,bc,rfl,_,_⟩:=ob.form
 (repeat' (first|refine aa0 ?_|refine au ?_|refine ak ?_|refine Wc.block ?_))
 refine aB (PE g5 (fun i hi=>by rw [hN,hbn];exact hin i hi) hst (by omega)) rfl ?_
 rintro _ w6 ⟨N2,tr,wr,rfl,g6,hl6,hb6,hs6,ot,ow,c6⟩
 rw [hbn] at hs6 ot ow
 have n56:New w w6:=Chg.trans n05 c6 fun k hk e=>by
  have h1:=(g5.nd.row.lt e).1.1
  omega
 have hnv: ∀k,nv.ownBlock=some k→w2.heap.size≤k∧k<w3.heap.size:=fun k e=>(g5.nd.row.lt e).1
 have b76:=b7.chg c6 fun e=>by have:=hnv _ e;omega
 have b16:=b1'.chg c6 fun e=>by have:=hnv _ e;omega
 have b26:=b2'.chg c6 fun e=>by have:=hnv _ e;omega
 have ob6:=ob.vN CZ c6 (fun k hk e=>by have h9:w4.heap.size≤k:=(ob.lt hk).1;have:=hnv _ e;omega) (fun k hk _ e=>by have h9:w4.heap.size≤k:=hk;have:=hnv _ e;omega)
 have YS: ∀k,(Value.slice ba acc.length bc).ownBlock=some k→k<w5.heap.size:=fun k hk=>(ob.lt hk).2
 have hz6:=c6.size
 clear g5 b7 b1' b2' ob n05 c6
 have hrl:=xO (N:=nS g) (fl:=flF fl) (oV (nS g) g.tree.length) (stF N1)
 have hle:=zJ (N:=nS g) (fl:=flF fl) (oV (nS g) g.tree.length) (stF N1) hst
 have hrs:=PI (N:=nS g) (fl:=flF fl) (l:=oV (nS g) g.tree.length) (S:=stF N1)
 rw [←hs6] at hgo hrs hle
 generalize hR:(oH (nS g) (flF fl) (oV (nS g) g.tree.length) (stF N1)).1=R at*
 obtain ⟨ra,rc,rfl,_,_⟩:=ot.form
 obtain ⟨ua,uc,rfl,_,_⟩:=ow.form
 refine Wl.alloc fun w7 b8 n7 s7=>?_
 refine aV (new:=[.slice ra R.tried.length rc,.slice ua R.waits.length uc]) b8 rfl rfl rfl rfl (show (2:Nat)≤2 from Nat.le_refl 2) (by intro c hc;simp at hc;rcases hc with rfl|rfl<;>rfl) fun w8 b8' c8 s8=>?_
 replace b8':Bk w8 w6.heap.size 76 [.slice ra R.tried.length rc,.slice ua R.waits.length uc]:=b8'
 have n68:New w6 w8:=(Chg.trans n7.any c8 fun _ _ e=>e).toNew fun k hk e=>by omega
 clear b8 n7 c8
 (repeat' (first|refine af ?_|refine ah ?_))
 have hz8:=n68.size
 have g8:=g6.new n68
 have b78:=b76.chg n68 fun e=>e
 have b18:=b16.chg n68 fun e=>e
 have b28:=b26.chg n68 fun e=>e
 have ob8:=ob6.vN CZ n68 (fun _ _ e=>e) (fun _ _ _ e=>e)
 have ot8:=ot.new (nK _) n68
 have ow8:=ow.new (nG wtC) n68
 have n08:=New.trans n56 n68
 clear g6 b76 b16 b26 ob6 ot ow n56 n68
 refine dS (fun F W=> ∃bv',agrees F [(1,pT w.heap.size),(2,pT w1.heap.size),(5,pT bw),(7,pT w3.heap.size),(8,pT w6.heap.size)]∧WkM (fun b=>w2.heap.size≤b∧b<w3.heap.size) bw bm N2 (oV (nS g) g.tree.length) fl nv ov W∧Bk W w6.heap.size 76 [.slice ra R.tried.length rc,.slice ua R.waits.length uc]∧Bk W w3.heap.size 33 [.slice none 0 0,bv',.slice none 0 0,.slice none 0 0]∧nN rRd 76 2 (fun b=>w4.heap.size≤b) (fun b=>w4.heap.size≤b) W bv' (acc++if R.tried=[]∧R.waits=[] then [] else [R])∧Bk W w.heap.size 27 [.slice ta g.tree.length tc,.slice ca g.cards.length cc,.slice fa g.fails.length fc,.slice ga g.gone.length gc]∧Bk W w1.heap.size 33 [.slice none 0 0,.slice none 0 0,.slice none 0 0,.slice none 0 0]∧w4.heap.size≤W.heap.size∧New w W) ?_ ?_
 ·(repeat' (first|refine au ?_|refine ak ?_|refine aa5 ?_))
  refine ay (u:=.slice ra R.tried.length rc) rfl (b8'.cell (o:=0) rfl) ?_
  (repeat' (first|refine aI rfl ?_|refine aa5 ?_))
  refine ay (u:=.slice ua R.waits.length uc) rfl (b8'.cell (o:=1) rfl) ?_
  (repeat' (first|refine af ?_|refine aI rfl ?_|refine ah ?_|refine ak ?_|refine Wc.skip ?_|refine aa3 ?_|refine aa4 ?_|refine aa5 ?_|refine aa8 ?_|refine bJ rfl rfl (fun _=>?_) (fun _=>?_)))
  ·have hne: ¬(R.tried=[]∧R.waits=[]):=fun e=>by
    have e1:=congrArg List.length e.1
    have e2:=congrArg List.length e.2
    simp only [List.length_nil] at e1 e2
    omega
   refine ay (u:=.slice ba acc.length bc) rfl (b78.cell (o:=1) rfl) ?_
   skip
   refine bM b8' rfl rfl ?_
   refine dn (R:=rRd) (y:=R) CZ ob8 rfl rfl rfl rfl ⟨_,_,rfl,ot8.mono (nX _) (fun b hb e=>?_) (fun _ _ e=>e),ow8.mono (nO wtC) (fun b hb e=>?_) (fun _ _ e=>e)⟩ (by omega) (by omega) (by simp only [maxLen];omega) (by omega) rfl rfl fun v9 w9 p o9 c9 lie=>?_
   ·have h9:w5.heap.size≤b:=e
    exact ⟨by omega,fun h=>by have:=YS b h;omega⟩
   ·have h9:w5.heap.size≤b:=e
    exact ⟨by omega,fun h=>by have:=YS b h;omega⟩
   have hz9:=c9.size
   have hab: ∀k,(Value.slice ba acc.length bc).ownBlock=some k→w4.heap.size≤k:=fun k hk=>(ob8.lt hk).1
   have b79:=b78.chg c9 fun e=>by have:=hab _ e;omega
   (repeat' (refine aa5 ?_))
   refine bf (u:=v9) b79 rfl (show (1:Nat)<4 by omega) rfl (by obtain ⟨_,_,rfl,_⟩:=o9.form;rfl) fun w10 b10 c10=>?_
   have Xb:=c10.size
   (repeat' (refine af ?_))
   refine cZ ⟨v9,⟨rfl,rfl,rfl,rfl,rfl,trivial⟩,(g8.chg c9 fun k hk e=>by have:=hab k e;have:=hk.2;omega).chg c10 (fun k hk e=>by have:=hk.2;omega),(b8'.chg c9 fun e=>by have:=YS _ e;omega).chg c10 (fun e=>by omega),b10,?_,(b18.chg c9 fun e=>by have:=hab _ e;omega).chg c10 (fun e=>by omega),(b28.chg c9 fun e=>by have:=hab _ e;omega).chg c10 (fun e=>by omega),by omega,(Chg.trans (Chg.trans (M:=fun k=>w4.heap.size≤k∨k=w3.heap.size) n08.any c9 fun k _ e=>.inl (hab k e)) c10 fun k _ e=>.inr e).toNew fun k hk e=>by omega⟩
   rw [if_neg hne]
   exact (o9.mono KQ (fun b _ e=>by rcases e with e|e;exact e;omega) (fun _ _ e=>e)).vN CZ c10 (fun k hk e=>by rcases (o9.lt hk).1 with h|h<;>omega) (fun k hk _ e=>by have h9:w4.heap.size≤k:=hk;omega)
  ·have h1:R.tried=[]:=List.length_eq_zero_iff.1 (by omega)
   have h2:R.waits=[]:=List.length_eq_zero_iff.1 (by omega)
   exact cZ ⟨_,⟨rfl,rfl,rfl,rfl,rfl,trivial⟩,g8,b8',b78,by rw [if_pos ⟨h1,h2⟩,List.append_nil];exact ob8,b18,b28,by omega,n08⟩
 ·rintro F W ⟨bv',hF,gW,b8,b7,ob',b1',b2',hzW,nW⟩
  rw [←oK hF]
  simp only [oP]
  clear hF
  (repeat' (first|refine au ?_|refine ak ?_|refine aa5 ?_))
  refine ay (u:=.slice ra R.tried.length rc) rfl (b8.cell (o:=0) rfl) ?_
  (repeat' (first|refine aa0 ?_|refine af ?_|refine aI rfl ?_|refine ah ?_|refine au ?_|refine ak ?_|refine Wc.skip ?_|refine aK ?_|refine aH ?_|refine aJ ?_|refine iM rfl ?_|refine aP ?_|refine aa3 ?_|refine aa4 ?_|refine cO rfl rfl (fun _=>?_) (fun _=>?_)))
  ·have hR0:R.tried=[]:=List.length_eq_zero_iff.1 (by omega)
   rw [if_pos hR0] at hgo
   refine aB (JE gW) rfl ?_
   rintro rv w11 ⟨orw,n11⟩
   have U7:=n11.size
   have orv: ∃a c,rv=.slice a (rowsOf (bnF N2) (stF N2) N2.length).length c:=by obtain ⟨a,c,e,_⟩:=orw.form;exact ⟨a,c,e⟩
   obtain ⟨rwa,rwc,rfl⟩:=orv
   (repeat' (refine aa5 ?_))
   refine bf (u:=.slice rwa (rowsOf (bnF N2) (stF N2) N2.length).length rwc) (b7.chg n11 fun e=>e) rfl (show (0:Nat)<4 by omega) rfl rfl fun w12 b12 c12=>?_
   have Z7:=c12.size
   have g12:=(gW.new n11).chg c12 fun k hk e=>by have:=hk.2;omega
   have hN2:N2.length=g.tree.length:=by omega
   obtain ⟨na,nc,rfl,_,_⟩:=g12.nd.row.form
   (repeat' (first|refine aa0 ?_|refine af ?_|refine ah ?_|refine au ?_|refine ak ?_|refine bK rfl ?_|refine aa5 ?_))
   refine ay (u:=.slice na N2.length nc) rfl (g12.b.cell (o:=0) rfl) ?_
   (repeat' (refine aI rfl ?_))
   refine fD (f:=vbo) (y0:=false) (Pe:=NoB) rfl rfl rfl (by omega) (by omega) (by omega) fun dv w13 o13 n13=>?_
   rw [Int.toNat_natCast] at o13
   have aic:=n13.size
   have g13:=g12.new n13
   have aaH:nN (Wk.one vbo) 4 1 (fun b=>w12.heap.size≤b) NoB w13 dv (List.replicate N2.length false):=o13
   obtain ⟨da,dc,hdv,_,_⟩:=aaH.form
   rw [List.length_replicate] at hdv
   subst hdv
   (repeat' (first|refine aa0 ?_|refine aa1 ?_|refine af ?_|refine ah ?_|refine au ?_|refine ak ?_|refine bK rfl ?_|refine aa5 ?_))
   refine ay (u:=.slice na N2.length nc) rfl (g13.b.cell (o:=0) rfl) ?_
   (repeat' (first|refine aa0 ?_|refine af ?_|refine aI rfl ?_|refine ah ?_|refine Wc.block ?_))
   refine aS (σ:=Nat×List Bool) (fun q=>[(1,pT w.heap.size),(2,pT w1.heap.size),(5,pT bw),(7,pT w3.heap.size),(9,.slice da N2.length dc),(53,.slice na N2.length nc),(54,vi N2.length),(55,vi q.1)])
    (fun q W'=>q.1≤N2.length∧q.2.length=N2.length∧(∀k,k<q.1→q.2[k]? =some (stF N2 k == 1))∧nN (Wk.one vbo) 4 1 (fun b=>w12.heap.size≤b) NoB W' (.slice da N2.length dc) q.2∧Chg (fun k=>(Value.slice da N2.length dc).ownBlock=some k) w13 W') (fun q=>N2.length-q.1)
    (0,List.replicate N2.length false) ⟨rfl,rfl,rfl,rfl,rfl,rfl,rfl,rfl,trivial⟩ ⟨Nat.zero_le _,by simp,fun k hk=>by omega,aaH,aQ _ _⟩ ?_
   rintro ⟨k,B⟩ G2 w14 ⟨hk,hBl,hB,oB,c14⟩
   dsimp only at hk hBl hB oB c14
   simp only [oP]
   have hdb: ∀j,(Value.slice da N2.length dc).ownBlock=some j→w12.heap.size≤j:=fun j e=>(oB.lt e).1
   have g14:=g13.chg c14 fun j hj e=>by have:=hdb j e;have:=hj.2;omega
   (repeat' (first|refine aa0 ?_|refine af ?_|refine ah ?_|refine au ?_|refine ak ?_|refine Wc.block ?_|refine Wc.skip ?_|refine aK ?_|refine aN ?_|refine aJ ?_|refine aP ?_|refine aa3 ?_|refine aa4 ?_|refine aa5 ?_|refine pF (fun _=>?_) (fun _=>?_)))
   ·obtain ⟨x,hx⟩:=nP N2 (k:=k) (by omega)
    have hne:B≠ []:=by intro e;rw [e] at hBl;simp at hBl;omega
    obtain ⟨dg,dc',hde,_,aid,_⟩:=oB.blk hne
    rw [hBl] at hde
    cases hde
    refine aZ (g14.nd.row.rd (nO nbC)) rfl rfl (by omega) (by rw [Int.toNat_natCast];exact hx) fun b o cs hl hR hat=>?_
    obtain rfl:cs=nbC x:=hR
    refine bG hat rfl rfl ?_
    clear hat
    refine Wl.alloc fun w15 b5 n15 s15=>?_
    (repeat' (refine aa1 ?_))
    refine aV (new:=nbC x) b5 rfl rfl rfl rfl (show (9:Nat)≤9 from Nat.le_refl 9) (Tf x) fun w16 b5' c16 s16=>?_
    replace b5':Bk w16 w14.heap.size 118 (nbC x):=b5'
    have aaI:New w14 w16:=(Chg.trans n15.any c16 fun _ _ e=>e).toNew fun k hk e=>by omega
    clear b5 n15 c16
    (repeat' (first|refine aa0 ?_|refine af ?_|refine ah ?_|refine ak ?_|refine aa5 ?_))
    refine ay (u:=.bool (x.st == 1)) rfl (b5'.cell (o:=7) rfl) ?_
    skip
    refine dO rfl rfl (by omega) (by omega) ?_
    refine fA (f:=vbo) (q:=(x.st == 1)) (j:=k) (cap:=dc) (oB.new (nK _) aaI) (by rw [hBl]) (by omega) (by show Value.pointer (some ⟨dg,0+(k:Int).toNat*1,none⟩)=_;simp) rfl rfl rfl fun w17 o17 c17=>?_
    (repeat' (first|refine aa0 ?_|refine af ?_|refine ah ?_|refine ak ?_|refine aH ?_|refine aa8 ?_))
    refine aG (k+1,B.set k (x.st == 1)) ⟨rfl,rfl,rfl,rfl,rfl,rfl,rfl,rfl,trivial⟩ ⟨by dsimp only;omega,by dsimp only;rw [List.length_set];exact hBl,fun j hj=>?_,o17,Chg.trans (Chg.trans c14 aaI.any fun _ _ e=>e) c17 fun _ _ e=>e⟩ (by dsimp only;omega)
    dsimp only at hj ⊢
    rw [List.getElem?_set]
    by_cases e:k=j
    ·subst e
     rw [if_pos rfl,if_pos (by omega),wG hx]
    ·rw [if_neg e]
     exact hB j (by omega)
   ·obtain rfl:k=N2.length:=by omega
    have aie:w.heap.size≤w2.heap.size:=by omega
    have aaJ:New w w14:=(Chg.trans (Chg.trans (Chg.trans (M:=fun k=>k=w3.heap.size∨w12.heap.size≤k) (New.trans nW n11).any c12 fun k _ e=>.inl e) n13.any fun _ _ e=>e) c14 fun k _ e=>.inr (hdb k e)).toNew fun k hk e=>by omega
    have hWn:w3.heap.size<W.heap.size:=by omega
    have b1e:=((((b1'.chg n11 fun e=>e).chg c12 fun e=>by omega).chg n13 fun e=>e).chg c14 fun e=>by have:=hdb _ e;omega)
    skip
    refine ay (u:=.slice ta g.tree.length tc) rfl (b1e.cell (o:=0) rfl) ?_
    (repeat' (refine aa0 ?_))
    have hBt: ∀k,thM B k=(stF N2 k == 1):=fun k=>by
     unfold thM
     by_cases hk:k<N2.length
     ·rw [hB k hk];rfl
     ·rw [List.getElem?_eq_none (by omega)]
      unfold stF
      rw [List.getD_eq_getElem?_getD,List.getElem?_eq_none (by omega)];rfl
    refine aB (Tc (h.t.keep nY aaJ.keep) (oB.rd EL.mo) hok (by omega)) rfl ?_
    rintro _ w18 ⟨⟨q1,q2,rfl,hq1,hq2⟩,n18⟩
    obtain ⟨qa,qc,rfl,_,_⟩:=hq1.form
    obtain ⟨ra2,rc2,rfl,_,_⟩:=hq2.form
    have aeN:=c14.size
    have b7e:=((b12.chg n13 fun e=>e).chg c14 fun e=>by have:=hdb _ e;omega).chg n18 fun e=>e
    (repeat' (first|refine aa0 ?_|refine pI ?_|refine aa5 ?_))
    refine bf (u:=.slice qa _ qc) b7e rfl (show (2:Nat)<4 by omega) rfl rfl fun w19 b19 c19=>?_
    (repeat' (refine aa5 ?_))
    refine bf (u:=.slice ra2 _ rc2) b19 rfl (show (3:Nat)<4 by omega) rfl rfl fun w20 b20 c20=>?_
    (repeat' (first|refine af ?_|refine ah ?_|refine au ?_|refine ak ?_))
    refine bM b20 rfl rfl ?_
    have b2e:=((((((b2'.chg n11 fun e=>e).chg c12 fun e=>by omega).chg n13 fun e=>e).chg c14 fun e=>by have:=hdb _ e;omega).chg n18 fun e=>e).chg c19 fun e=>by omega).chg c20 fun e=>by omega
    (repeat' (refine aa0 ?_))
    refine aV (new:=[.slice rwa (rowsOf (bnF N2) (stF N2) N2.length).length rwc,bv',.slice qa _ qc,.slice ra2 _ rc2]) b2e rfl rfl rfl rfl (show (4:Nat)≤4 from Nat.le_refl 4) (by obtain ⟨_,_,rfl,_,_⟩:=ob'.form;intro c hc;simp at hc;rcases hc with rfl|rfl|rfl|rfl<;>rfl) fun w21 b21 c21 s21=>?_
    have ahi:=n13.size
    have aif:=n18.size
    have c18:Chg (fun k=>k=w3.heap.size∨k=w1.heap.size) w18 w21:=Chg.trans (Chg.trans (c19.mono fun k _ e=>.inl e) c20 fun k _ e=>.inl e) c21 fun k _ e=>.inr e
    have aaK:Chg (fun k=>k=w3.heap.size∨k=w1.heap.size∨w12.heap.size≤k) w11 w14:=Chg.trans (Chg.trans (c12.mono fun k _ e=>.inl e) n13.any fun k _ e=>e) c14 fun k _ e=>.inr (.inr (hdb k e))
    have c11:Chg (fun k=>k=w3.heap.size∨k=w1.heap.size∨w12.heap.size≤k) w11 w21:=Chg.trans (Chg.trans aaK n18.any fun k _ e=>e) c18 fun k _ e=>e.elim .inl fun e=>.inr (.inl e)
    have cW:Chg (fun k=>k=w3.heap.size∨k=w1.heap.size) W w21:=Chg.trans n11.any c11 fun k hk e=>by rcases e with e|e|e;exact .inl e;exact .inr e;omega
    have afu:flF fl=g.fails.contains:=funext hfl
    have hDM:sO (nS g) g.fails.contains g.tree.length=DG:=by rw [←afu,hDG];rfl
    have aaL:bnF N2=nS g:=hb6.trans hbn
    have hth:(fun k=>(sO (nS g) g.fails.contains g.tree.length).2 k == 1)=thM B:=funext fun k=>by rw [hBt k,hDM,hgo]
    have hrw:rowsOf (nS g) (sO (nS g) g.fails.contains g.tree.length).2 g.tree.length=rowsOf (bnF N2) (stF N2) N2.length:=by rw [hDM,hgo,aaL,hN2]
    have ex: ∀k,(fun b=>w14.heap.size≤b) k→ ¬(k=w3.heap.size∨k=w1.heap.size):=fun k hk e=>by have hk:w14.heap.size≤k:=hk;omega
    (repeat' (first|refine aa1 ?_|refine af ?_|refine ah ?_|refine aA ?_))
    refine eG (results3 rfl (tC rfl rfl b21 rfl) (qG rfl) (qG rfl)) ⟨_,rfl,⟨_,_,_,_,bw,bm,N2,fl,.slice na N2.length nc,ov,rfl,⟨?_,?_,?_,?_⟩,?_,hN2,aaL,fun i _=>by rw [hDM,hgo],hfl⟩,?_⟩
    ·rw [hrw]
     exact (orw.chg (nG rwC) c11 fun k hk e=>by have h9:=orw.lt hk;have:W.heap.size≤k:=h9.1;omega).mono (nO rwC) (fun b _ e=>by have e:W.heap.size≤b:=e;show w.heap.size≤b;omega) (fun _ _ e=>e)
    ·rw [hDM,hgo]
     exact (ob'.vN CZ cW (fun k hk e=>by have h9:w4.heap.size≤k:=(ob'.lt hk).1;omega) (fun k hk _ e=>by have h9:w4.heap.size≤k:=hk;omega)).mono KQ (fun b _ e=>by have e:w4.heap.size≤b:=e;show w.heap.size≤b;omega) (fun b _ e=>by have e:w4.heap.size≤b:=e;show w.heap.size≤b;omega)
    ·rw [hth]
     exact (hq1.keep sK (c18.keep fun b _ hb=>ex b hb)).mono qK fun b _ e=>by have e:w14.heap.size≤b:=e;show w.heap.size≤b;omega
    ·rw [hth]
     exact (hq2.keep sK (c18.keep fun b _ hb=>ex b hb)).mono qK fun b _ e=>by have e:w14.heap.size≤b:=e;show w.heap.size≤b;omega
    ·exact ((g14.new n18).chg c18 fun k hk e=>by have:=hk.1;have:=hk.2;omega).mono fun b _ e=>by have:=e.1;show w.heap.size≤b;omega
    ·exact (Chg.trans (M:=fun k=>w.heap.size≤k) (New.trans aaJ n18).any c18 fun k _ e=>by omega).toNew fun k hk e=>by omega
  ·have hR1:R.tried≠ []:=fun e=>by have:=congrArg List.length e;simp only [List.length_nil] at this;omega
   rw [if_neg hR1] at hgo
   have aii:=hrs hR1
   refine aG (f,N2,acc++(if R.tried=[]∧R.waits=[] then [] else [R]),_) ⟨rfl,rfl,rfl,rfl,trivial⟩ ⟨gW,by dsimp only;omega,hb6.trans hbn,hle,by dsimp only;omega,?_,?_,b7,ob',b1',b2',hzW,nW⟩ (by dsimp only;omega)
   ·dsimp only
    rw [List.length_append]
    split
    ·rw [List.length_nil];omega
    ·rw [List.length_singleton];omega
   ·dsimp only
    rw [hgo,List.append_assoc]
end
end Go.Proofs.YtjecgaiaiophpaaGreatDoor
namespace Go.Proofs.YtjecgaiaiophpaaGreatDoor
open Go Wk
open Go.RowKit (Below)
attribute [local irreducible] Go.Calls
structure Qh (g:Giv):Prop where
 f: ∀x∈g.fails,x.length≤100000000
 g: ∀x∈g.gone,x.length≤100000000
noncomputable abbrev uD (g:Giv):List Rnd×St:=sO (nS g) g.fails.contains g.tree.length
noncomputable abbrev zZ (g:Giv):List Rws:=rowsOf (nS g) (uD g).2 g.tree.length
noncomputable abbrev Rk (g:Giv):List Ed×List Ed:=H9 g.tree fun k=>(uD g).2 k == 1
abbrev Ip:List Value:=[.slice none 0 0,.slice none 0 0,.slice none 0 0,.slice none 0 0]
theorem VN: ∀c∈Ip,c.oneCell'=true:=by
 intro c hc
 simp at hc
 rw [hc];rfl
theorem IW {w:World}:(Instr.build 33 #[]).run Tryz.prog w=.ok (.agg Ip.toArray) w:=by
 kernel_rfl
section
variable {Pb:Nat→Prop} {w:World} {g:Giv} {tv cv fv gv:Value}
theorem VO (h:RdG Pb w g tv cv fv gv) (sh:Qh g) (he:qI g≠0):
 Calls Tryz.prog 39 #[.agg #[tv,cv,fv,gv]] w (Ret fun r w'=>r=.tuple #[.agg Ip.toArray,.pointer none,vi (qI g)]∧New w w'):=by
 obtain ⟨ta,tc,rfl,_,_⟩:=h.t.form
 obtain ⟨ca,cc,rfl,_,_⟩:=h.c.form
 obtain ⟨fa,fc,rfl,_,_⟩:=h.f.form
 obtain ⟨ga,gc,rfl,_,_⟩:=h.g.form
 refine nH Tryz.func39 rfl Tryz.ntmps39 rfl ?_
 (repeat' (first|refine au ?_|refine ak ?_))
 refine bI rfl fun w1 b1 n1 s1=>?_
 replace b1:Bk w1 w.heap.size 27 [.slice ta g.tree.length tc,.slice ca g.cards.length cc,.slice fa g.fails.length fc,.slice ga g.gone.length gc]:=b1
 refine Wl.alloc fun w2 b2 n2 s2=>?_
 replace b2:Bk w2 w1.heap.size 33 Ip:=b2
 have n02:=New.trans n1 n2
 (repeat' (first|refine aa1 ?_|refine af ?_|refine ah ?_|refine au ?_|refine ak ?_))
 refine bM (b1.chg n2 fun e=>e) rfl rfl ?_
 refine aB (Io (h.keep n02.keep pO) sh.f sh.g) rfl ?_
 rintro _ w3 ⟨hr,n3⟩
 rw [if_neg he] at hr
 subst hr
 have hz1:=n1.size
 (repeat' (first|refine aa0 ?_|refine aa1 ?_|refine af ?_|refine pI ?_|refine ah ?_|refine au ?_|refine ak ?_|refine aa3 ?_|(refine pV (fun _=>?_) (fun _=>?_)<;>(first|(exfalso;omega)|skip))))
 refine fO (ps:=[]) (parts:=[]) rfl IW ?_
 (repeat' (refine aa0 ?_))
 refine aV (new:=Ip) (b2.chg n3 fun e=>e) rfl rfl rfl rfl (show (4:Nat)≤4 from Nat.le_refl 4) VN fun w4 b4 c4 s4=>?_
 (repeat' (first|refine aa1 ?_|refine af ?_|refine ah ?_|refine aA ?_|refine aO ?_))
 exact eG (results3 rfl (tC rfl rfl b4 rfl) (qG rfl) (qG rfl)) ⟨_,rfl,rfl,(Chg.trans (M:=fun k=>k=w1.heap.size) (New.trans n02 n3).any c4 fun k _ e=>e).toNew fun k hk e=>by omega⟩
theorem TJ (h:RdG Pb w g tv cv fv gv) (sh:Qh g):
 Calls Tryz.prog 39 #[.agg #[tv,cv,fv,gv]] w (Ret fun r w'=>(if qI g=0 then NF g w.heap.size r w' else r=.tuple #[.agg Ip.toArray,.pointer none,vi (qI g)])∧New w w'):=by
 by_cases he:qI g=0
 ·refine (TI h (tJ.1 he).1 fun w' n=>?_).mono ?_
  ·refine (Io (h.keep n.keep pO) sh.f sh.g).mono ?_
   rintro _ w'' ⟨r,rfl,h1,h2⟩
   rw [if_pos he] at h1
   exact ⟨r,rfl,h1,h2⟩
  ·rintro _ w'' ⟨r,rfl,h1,h2⟩
   exact ⟨r,rfl,by rw [if_pos he];exact h1,h2⟩
 ·refine (VO h sh he).mono ?_
  rintro _ w'' ⟨r,rfl,h1,h2⟩
  exact ⟨r,rfl,by rw [if_neg he];exact h1,h2⟩
def xq (g:Giv) (lo:Nat) (r:Value) (w':World):Prop:=
 if qI g=0 then ∃a b c d,r=.tuple #[.agg #[a,b,c,d],vi 0]∧RdR (fun b=>lo≤b) w' (zZ g) (uD g).1 (Rk g).1 (Rk g).2 a b c d
 else r=.tuple #[.agg Ip.toArray,vi (qI g)]
theorem RdR.form {Pb:Nat→Prop} {w:World} {rw:List Rws} {rs:List Rnd} {us ds:List Ed} {a b c d:Value} (h:RdR Pb w rw rs us ds a b c d):(∃p q,a=.slice p rw.length q)∧(∃p q,b=.slice p rs.length q)∧(∃p q,c=.slice p us.length q)∧ ∃p q,d=.slice p ds.length q:=by
 obtain ⟨p1,q1,e1,_⟩:=h.rows.form
 obtain ⟨p2,q2,e2,_⟩:=h.rounds.form
 obtain ⟨p3,q3,e3,_⟩:=h.used.form
 obtain ⟨p4,q4,e4,_⟩:=h.drop.form
 exact ⟨⟨_,_,e1⟩,⟨_,_,e2⟩,⟨_,_,e3⟩,⟨_,_,e4⟩⟩
theorem RdR.new {Pb:Nat→Prop} {w w':World} {rw:List Rws} {rs:List Rnd} {us ds:List Ed} {a b c d:Value} (h:RdR Pb w rw rs us ds a b c d) (n:New w w'):RdR Pb w' rw rs us ds a b c d:=
 ⟨h.rows.new (nG _) n,h.rounds.vN CZ n (fun _ _ e=>e) (fun _ _ _ e=>e),h.used.keep sK n.keep,h.drop.keep sK n.keep⟩
theorem RdR.mono {Pb Pb':Nat→Prop} {w:World} {rw:List Rws} {rs:List Rnd} {us ds:List Ed} {a b c d:Value} (h:RdR Pb w rw rs us ds a b c d) (hP: ∀b,b<w.heap.size→Pb b→Pb' b):RdR Pb' w rw rs us ds a b c d:=
 ⟨h.rows.mono (nO _) hP (fun _ _ e=>e),h.rounds.mono KQ hP hP,h.used.mono qK hP,h.drop.mono qK hP⟩
theorem RdR.chg {Pb M:Nat→Prop} {w w':World} {rw:List Rws} {rs:List Rnd} {us ds:List Ed} {a b c d:Value} (h:RdR Pb w rw rs us ds a b c d) (n:Chg M w w') (hd: ∀k,Pb k→ ¬M k):RdR Pb w' rw rs us ds a b c d:=
 ⟨h.rows.chg (nG _) n fun k hk=>hd k (h.rows.lt hk).1,h.rounds.vN CZ n (fun k hk=>hd k (h.rounds.lt hk).1) (fun k hk _=>hd k hk),h.used.keep sK (n.keep fun b _ hb=>hd b hb),h.drop.keep sK (n.keep fun b _ hb=>hd b hb)⟩
theorem Bz (h:RdG Pb w g tv cv fv gv) (sh:Qh g):
 Calls Tryz.prog 11 #[.agg #[tv,cv,fv,gv]] w (Ret fun r w'=>xq g w.heap.size r w'∧New w w'):=by
 obtain ⟨ta,tc,rfl,_,_⟩:=h.t.form
 obtain ⟨ca,cc,rfl,_,_⟩:=h.c.form
 obtain ⟨fa,fc,rfl,_,_⟩:=h.f.form
 obtain ⟨ga,gc,rfl,_,_⟩:=h.g.form
 refine nH Tryz.func11 rfl Tryz.ntmps11 rfl ?_
 (repeat' (first|refine au ?_|refine ak ?_))
 refine bI rfl fun w1 b1 n1 s1=>?_
 replace b1:Bk w1 w.heap.size 27 [.slice ta g.tree.length tc,.slice ca g.cards.length cc,.slice fa g.fails.length fc,.slice ga g.gone.length gc]:=b1
 refine Wl.alloc fun w2 b2 n2 s2=>?_
 replace b2:Bk w2 w1.heap.size 33 Ip:=b2
 have n02:=New.trans n1 n2
 have hz1:=n1.size
 have hz2:=n2.size
 (repeat' (first|refine aa1 ?_|refine af ?_|refine ah ?_|refine au ?_|refine ak ?_))
 refine bM (b1.chg n2 fun e=>e) rfl rfl ?_
 refine aB (TJ (h.keep n02.keep pO) sh) rfl ?_
 rintro _ w3 ⟨hr,n3⟩
 have hz3:=n3.size
 unfold xq
 by_cases he:qI g=0
 ·rw [if_pos he] at hr
  obtain ⟨a,b,c,d,bw,bm,N,fl,nv,ov,rfl,hR,_⟩:=hr
  obtain ⟨⟨p1,q1,rfl⟩,⟨p2,q2,rfl⟩,⟨p3,q3,rfl⟩,⟨p4,q4,rfl⟩⟩:=hR.form
  (repeat' (first|refine aa0 ?_|refine pI ?_))
  refine Wl.alloc fun w4 b4 n4 s4=>?_
  refine aV (new:=[.slice p1 _ q1,.slice p2 _ q2,.slice p3 _ q3,.slice p4 _ q4]) b4 rfl rfl rfl rfl (show (4:Nat)≤4 from Nat.le_refl 4) (by intro c hc;simp at hc;rcases hc with rfl|rfl|rfl|rfl<;>rfl) fun w5 b5 c5 s5=>?_
  have n35:New w3 w5:=(Chg.trans n4.any c5 fun _ _ e=>e).toNew fun k hk e=>by omega
  (repeat' (first|refine aa1 ?_|refine af ?_|refine ah ?_|refine au ?_|refine ak ?_))
  refine bM b5 rfl rfl ?_
  (repeat' (refine aa0 ?_))
  refine aV (new:=[.slice p1 _ q1,.slice p2 _ q2,.slice p3 _ q3,.slice p4 _ q4]) ((b2.chg n3 fun e=>e).chg n35 fun e=>e) rfl rfl rfl rfl (show (4:Nat)≤4 from Nat.le_refl 4) (by intro c hc;simp at hc;rcases hc with rfl|rfl|rfl|rfl<;>rfl) fun w6 b6 c6 s6=>?_
  have hb2:=b2.lt
  (repeat' (first|refine aa1 ?_|refine af ?_|refine ah ?_|refine aA ?_))
  refine eG (uO rfl (tC rfl rfl b6 rfl) (qG rfl)) ⟨_,rfl,?_,(Chg.trans (M:=fun k=>k=w1.heap.size) (New.trans (New.trans n02 n3) n35).any c6 fun k _ e=>e).toNew fun k hk e=>by omega⟩
  rw [if_pos he]
  refine ⟨.slice p1 _ q1,.slice p2 _ q2,.slice p3 _ q3,.slice p4 _ q4,rfl,((hR.new n35).chg c6 fun k hk e=>?_).mono fun b _ e=>?_⟩
  ·have hk:w2.heap.size≤k:=hk
   omega
  ·have e:w2.heap.size≤b:=e
   show w.heap.size≤b
   omega
 ·rw [if_neg he] at hr
  subst hr
  (repeat' (first|refine aa0 ?_|refine pI ?_))
  refine Wl.alloc fun w4 b4 n4 s4=>?_
  refine aV (new:=Ip) b4 rfl rfl rfl rfl (show (4:Nat)≤4 from Nat.le_refl 4) VN fun w5 b5 c5 s5=>?_
  have n35:New w3 w5:=(Chg.trans n4.any c5 fun _ _ e=>e).toNew fun k hk e=>by omega
  (repeat' (first|refine aa1 ?_|refine af ?_|refine ah ?_|refine au ?_|refine ak ?_))
  refine bM b5 rfl rfl ?_
  (repeat' (refine aa0 ?_))
  refine aV (new:=Ip) ((b2.chg n3 fun e=>e).chg n35 fun e=>e) rfl rfl rfl rfl (show (4:Nat)≤4 from Nat.le_refl 4) VN fun w6 b6 c6 s6=>?_
  have hb2:=b2.lt
  (repeat' (first|refine aa1 ?_|refine af ?_|refine ah ?_|refine aA ?_))
  refine eG (uO rfl (tC rfl rfl b6 rfl) (qG rfl)) ⟨_,rfl,?_,(Chg.trans (M:=fun k=>k=w1.heap.size) (New.trans (New.trans n02 n3) n35).any c6 fun k _ e=>e).toNew fun k hk e=>by omega⟩
  rw [if_neg he]
  rfl
end
end Go.Proofs.YtjecgaiaiophpaaGreatDoor
namespace Go.Proofs.YtjecgaiaiophpaaGreatDoor
open Go Wk
open Go.RowKit (Below)
attribute [local irreducible] Go.Calls
def rM (Pb:Nat→Prop) (w:World) (v:Value) (l:List Nm):Prop:= ∃a cap,v=.slice a l.length cap∧nN (Wk.one vs) 9 1 Pb NoB w (.slice a (l.length+1) cap) (l++ [[33]])
section
variable {Pb Pb' M:Nat→Prop} {w w':World} {v:Value} {l:List Nm}
theorem rM.rd (h:rM Pb w v l):RdS (Wk.one vs) 1 Pb w v l:=by
 obtain ⟨a,cap,rfl,o⟩:=h
 have:=((o.rd qR.mo).mono (Pb':=Pb) (nX _) fun b _ e=>e.elim id fun e=>e.elim).take (m:=l.length) (by simp) rfl
 rwa [List.take_left] at this
theorem rM.keep (h:rM Pb w v l) (hk:Keep Pb w w'):rM Pb w' v l:=by
 obtain ⟨a,cap,rfl,o⟩:=h
 exact ⟨a,cap,rfl,o.Uf hk⟩
theorem rM.mono (h:rM Pb w v l) (hP: ∀b,b<w.heap.size→Pb b→Pb' b):rM Pb' w v l:=by
 obtain ⟨a,cap,rfl,o⟩:=h
 exact ⟨a,cap,rfl,o.mono (nX _) hP (fun _ _ e=>e)⟩
theorem rM.form (h:rM Pb w v l): ∃a cap,v=.slice a l.length cap:=by
 obtain ⟨a,cap,rfl,_⟩:=h
 exact ⟨a,cap,rfl⟩
theorem wO (h:RdS (Wk.one vs) 1 Pb w v l) (hl:l.length≤2000000000):
 Calls Tryz.prog 38 #[v] w (Ret fun r w'=>rM (fun b=>w.heap.size≤b) w' r l∧New w w'):=by
 obtain ⟨a,cap,rfl,_,_⟩:=h.form
 refine nH Tryz.func38 rfl Tryz.ntmps38 rfl ?_
 (repeat' (first|refine aa1 ?_|refine af ?_|refine ah ?_|refine au ?_|refine ak ?_))
 refine iD (R:=Wk.one vs) (Pe:=NoB) fun v1 w1 o1 n1=>?_
 (repeat' (refine aa0 ?_))
 refine cu qR o1 (h.keep (nV _) n1.keep) (fun y cs hy=>hy) rfl rfl (by omega) (by simp only [maxLen,List.length_nil];omega) (by simp only [List.length_nil];omega) fun v2 w2 o2 c2 aij _=>?_
 refine bY (R:=Wk.one vs) (Pe:=NoB) (y:=[33]) qR rfl rfl rfl rfl (by omega) (by omega) fun v3 w3 o3 n3 s3 e3=>?_
 refine cu qR (o2.new (nK _) n3) (o3.rd qR.mo) (fun y cs hy=>hy) rfl rfl (by omega) (by simp only [maxLen,List.nil_append,List.length_singleton];omega) (by simp only [List.nil_append,List.length_singleton];omega) fun v4 w4 o4 c4 aik _=>?_
 obtain ⟨ua,uc,rfl,_,_⟩:=o4.form
 have hz1:=n1.size
 have hz2:=c2.size
 have hz3:=n3.size
 have hl4:([]++l++ [[33]]).length=l.length+1:=by simp
 (repeat' (first|refine aa0 ?_|refine aI rfl ?_))
 refine iY (b:=l.length) rfl rfl (by omega) ?_
 (repeat' (first|refine aa1 ?_|refine af ?_|refine ah ?_|refine aA ?_))
 refine aF rfl rfl ⟨_,rfl,⟨ua,uc,rfl,?_⟩,?_⟩
 ·rw [←hl4]
  exact o4.mono (nX _) (fun b _ e=>by
   rcases e with (e|e)|e
   ·exact e
   ·show w.heap.size≤b;omega
   ·show w.heap.size≤b;omega) (fun _ _ e=>e)
 ·have h1: ∀k,v1.ownBlock=some k→w.heap.size≤k:=fun k hk=>(o1.lt hk).1
  have h2: ∀k,v2.ownBlock=some k→w.heap.size≤k:=fun k hk=>by
   rcases (o2.lt hk).1 with e|e
   ·exact e
   ·omega
  exact (Chg.trans (M:=fun k=>w.heap.size≤k) (Chg.trans (M:=fun k=>w.heap.size≤k) n1.any (Chg.trans (M:=fun k=>w.heap.size≤k) (c2.mono fun k _ e=>h1 k e) n3.any fun _ _ e=>e) fun _ _ e=>e) c4 fun k _ e=>h2 k e).toNew fun k hk e=>by omega
end
end Go.Proofs.YtjecgaiaiophpaaGreatDoor
namespace Go.Proofs.YtjecgaiaiophpaaGreatDoor
open Go Wk
open Go.RowKit (Below)
attribute [local irreducible] Go.Calls
structure SzG (g:Giv):Prop where
 t:g.tree.length≤2000000
 p: ∀x∈g.tree,x.nZ.length≤2000000
 c:g.cards.length≤2000000
 k: ∀c∈g.cards,c.compat.length≤2000000
 f:g.fails.length≤2000000
 g:g.gone.length≤2000000
abbrev mkP:Pr:=([33],[])
abbrev mkN:Nd×SV:=(⟨-9,[],[]⟩,(none,0,0))
abbrev mkC:Cd×SV:=(⟨[33],[],0,[],0,[],0⟩,(none,0,0))
abbrev noV (p:Nd×SV):List Value:=[vi p.1.parent,vs p.1.name,svV p.2]
abbrev cdV (p:Cd×SV):List Value:=cdC p.1 (svV p.2)
theorem afv (p:Nd×SV): ∀c∈noV p,c.oneCell'=true:=by
 intro c hc
 simp at hc
 rcases hc with rfl|rfl|rfl<;>rfl
theorem Xx (p:Cd×SV): ∀c∈cdV p,c.oneCell'=true:=by
 intro c hc
 simp [cdC] at hc
 rcases hc with rfl|rfl|rfl|rfl|rfl|rfl|rfl<;>rfl
theorem FY:qP (flat noV) 3:=qU _ (fun _=>rfl) afv
theorem FZ:qP (flat cdV) 7:=qU _ (fun _=>rfl) Xx
def tX (Pb:Nat→Prop) (w:World) (v:SV) (l:List Pr):Prop:= ∃a cap,v=(a,l.length,cap)∧nN rPr 99 2 Pb NoB w (.slice a (l.length+1) cap) (l++ [mkP])
theorem tX.rd {Pb:Nat→Prop} {w:World} {v:SV} {l:List Pr} (h:tX Pb w v l):RdS rPr 2 Pb w (svV v) l:=by
 obtain ⟨a,cap,rfl,o⟩:=h
 have:=((o.rd (nO pC)).mono (Pb':=Pb) (nO pC) fun b _ e=>e.elim id fun e=>e.elim).take (m:=l.length) (by simp) rfl
 rwa [List.take_left] at this
theorem tX.mono {Pb Pb':Nat→Prop} {w:World} {v:SV} {l:List Pr} (h:tX Pb w v l) (hP: ∀b,b<w.heap.size→Pb b→Pb' b):tX Pb' w v l:=by
 obtain ⟨a,cap,e,o⟩:=h
 exact ⟨a,cap,e,o.mono (nO pC) hP (fun _ _ e=>e)⟩
theorem tX.chg {Pb M:Nat→Prop} {w w':World} {v:SV} {l:List Pr} (h:tX Pb w v l) (c:Chg M w w') (hd: ∀k,Pb k→ ¬M k):tX Pb w' v l:=by
 obtain ⟨a,cap,e,o⟩:=h
 exact ⟨a,cap,e,o.chg (nG pC) c fun k hk=>hd k (o.lt hk).1⟩
theorem tX.qY {Pb:Nat→Prop} {w w':World} {v:SV} {l:List Pr} {b:Nat} {T:TypeId} {cs:List Value} (h:tX Pb w v l) (hb:Bk w b T cs) (ne:Nat.beq 99 T=false) (c:Chg (fun k=>k=b) w w'):tX Pb w' v l:=by
 obtain ⟨a,cap,e,o⟩:=h
 exact ⟨a,cap,e,o.chg (nG pC) c fun k hk q=>o.pR hb ne hk q⟩
theorem tX.row {α:Type} {R:Rel α} {ty:TypeId} {sz:Nat} {Qb Qe:Nat→Prop} {u:Value} {xs:List α} {Pb:Nat→Prop} {w w':World} {v:SV} {l:List Pr} (h:tX Pb w v l) (ho:nN R ty sz Qb Qe w u xs) (ne:Nat.beq 99 ty=false) (c:Chg (fun k=>u.ownBlock=some k) w w'):tX Pb w' v l:=by
 obtain ⟨a,cap,e,o⟩:=h
 exact ⟨a,cap,e,o.chg (nG pC) c fun k hk q=>o.tZ ho ne k hk q⟩
theorem rM.row {α:Type} {R:Rel α} {ty:TypeId} {sz:Nat} {Qb Qe:Nat→Prop} {u:Value} {xs:List α} {Pb:Nat→Prop} {w w':World} {v:Value} {l:List Nm} (h:rM Pb w v l) (ho:nN R ty sz Qb Qe w u xs) (ne:Nat.beq 9 ty=false) (c:Chg (fun k=>u.ownBlock=some k) w w'):rM Pb w' v l:=by
 obtain ⟨a,cap,e,o⟩:=h
 exact ⟨a,cap,e,o.chg (nK _) c fun k hk q=>o.tZ ho ne k hk q⟩
structure Xy (Pb:Nat→Prop) (w:World) (g:Giv) (tv cv fv gv:Value):Prop where
 t: ∃(a:Option Addr) (cap:Nat) (L:List (Nd×SV)),tv=.slice a g.tree.length cap∧L.map (·.1)=g.tree∧nN (flat noV) 51 3 Pb NoB w (.slice a (g.tree.length+1) cap) (L++ [mkN])∧ ∀p∈L,tX Pb w p.2 p.1.nZ
 c: ∃(a:Option Addr) (cap:Nat) (L:List (Cd×SV)),cv=.slice a g.cards.length cap∧L.map (·.1)=g.cards∧nN (flat cdV) 69 7 Pb NoB w (.slice a (g.cards.length+1) cap) (L++ [mkC])∧ ∀p∈L,rM Pb w (svV p.2) p.1.compat
 f:rM Pb w fv g.fails
 g:rM Pb w gv g.gone
theorem F6 {α β:Type} {R:Rel α} {R':Rel β} {sz:Nat} {Pb:Nat→Prop} {w:World} {v:Value} {xs:List α} (f:α→β) (h:RdS R sz Pb w v xs) (hf: ∀x∈xs, ∀cs,R Pb w x cs→R' Pb w (f x) cs):RdS R' sz Pb w v (xs.map f):=by
 rcases h with ⟨rfl,rfl⟩|⟨a,cap,rfl,rfl,hc⟩|⟨b,off,cap,cur,e,fr,rfl,hb,hh,h1,h2,h3,h4⟩
 ·exact .inl ⟨rfl,rfl⟩
 ·exact .inr (.inl ⟨a,cap,rfl,rfl,hc⟩)
 ·refine .inr<| .inr ⟨b,off,cap,cur,e,fr,by rw [List.length_map],hb,hh,by rw [List.length_map];exact h1,h2,by rw [List.length_map];exact h3,fun i y hy=>?_⟩
  rw [List.getElem?_map] at hy
  obtain ⟨x,hx,rfl⟩:=Option.map_eq_some_iff.1 hy
  exact hf x (List.mem_of_getElem? hx) _ (h4 i x hx)
theorem Xy.rd {Pb:Nat→Prop} {w:World} {g:Giv} {tv cv fv gv:Value} (h:Xy Pb w g tv cv fv gv):RdG Pb w g tv cv fv gv:=by
 refine ⟨?_,?_,h.f.rd,h.g.rd⟩
 ·obtain ⟨a,cap,L,rfl,hL,o,hp⟩:=h.t
  have h1:=((o.rd (nO noV)).mono (Pb':=Pb) (nO noV) fun b _ e=>e.elim id fun e=>e.elim).take (m:=L.length) (by simp) rfl
  rw [List.take_left] at h1
  have hl:L.length=g.tree.length:=by rw [←hL,List.length_map]
  rw [hl] at h1
  have h2:=F6 (R':=rNd) (fun p:Nd×SV=>p.1) h1 fun x hx cs hcs=>⟨svV x.2,hcs,(hp x hx).rd⟩
  rwa [hL] at h2
 ·obtain ⟨a,cap,L,rfl,hL,o,hp⟩:=h.c
  have h1:=((o.rd (nO cdV)).mono (Pb':=Pb) (nO cdV) fun b _ e=>e.elim id fun e=>e.elim).take (m:=L.length) (by simp) rfl
  rw [List.take_left] at h1
  have hl:L.length=g.cards.length:=by rw [←hL,List.length_map]
  rw [hl] at h1
  have h2:=F6 (R':=rCd) (fun p:Cd×SV=>p.1) h1 fun x hx cs hcs=>⟨svV x.2,hcs,(hp x hx).rd⟩
  rwa [hL] at h2
theorem Wk.Wc.post {P:Program} {n:Nat} {ds:List Deferred} {Q:Po} {F:Fr} {w:World} {c:Code} (M:Fr→World→Prop) (h:Wc P n ds (fun e F w=>e=.normal∧M F w) c F w) (k: ∀F w,M F w→Q .normal F w):Wc P n ds Q c F w:=by
 unfold Wc at*
 refine wp_mono h ?_
 rintro e a' w' ⟨F',rfl,rfl,hM⟩
 exact ⟨F',rfl,k F' w' hM⟩
section
variable {P:Program} {n:Nat} {ds:List Deferred} {C:World→Prop} {K:Fr→Prop} {F:Fr} {ops rest:List Oper} {d:Nat} {ty:TypeId} {pos:String} {aft:Array Edge}
theorem fF {x hi:Operand} {t e sz bytes:Nat} {agg:Bool} {z:Value} {k:IntKind} {p:Option Addr} {l cap b:Nat} [ht:Und P t (.slice e)] [he:ElT P e sz bytes agg z] (hx:ev n F x=.slice p l cap) (hh:ev n F hi=.int k b) (h1:b≤cap)
 (c:Wq P n ds C K ops rest (upd F d (.slice p b cap))):Wq P n ds C K ops (⟨some d,.slice t x none (some hi) none,ty,pos,aft,none⟩::rest) F:=
 Wq.val (fun w hw=>by
  have:=sV (P:=P) (w:=w) (p:=p) (l:=l) (lo:=none) (hi:=some (.int k b)) (a:=0) (b:=b) ht.h he (.inl ⟨rfl,rfl⟩) (.inr ⟨k,rfl⟩) (Nat.zero_le _) h1
  have hp:(if cap=0 then p else p.map (·.add (0*sz)))=p:=by
   split
   ·rfl
   ·cases p with
    |none=>rfl
    |some a=>simp [Addr.add]
  simp only [execOp,hx,hh,Option.map_none,Option.map_some,Sem.run_bind,this,Result.andThen_ok,Sem.run_pure,hp,Nat.sub_zero]) c
end
theorem rM.qY {Pb:Nat→Prop} {w w':World} {v:Value} {l:List Nm} {b:Nat} {T:TypeId} {cs:List Value} (h:rM Pb w v l) (hb:Bk w b T cs) (ne:Nat.beq 9 T=false) (c:Chg (fun k=>k=b) w w'):rM Pb w' v l:=by
 obtain ⟨a,cap,e,o⟩:=h
 exact ⟨a,cap,e,o.chg (nK _) c fun k hk q=>o.pR hb ne hk q⟩
theorem Xz (a b:Option Addr) (i j k l:Nat): ∀x∈([.slice none 0 0,.slice none 0 0,.slice a i j,.slice b k l]:List Value),x.oneCell'=true:=by
 intro x hx
 simp at hx
 rcases hx with rfl|rfl|rfl<;>rfl
section
variable {Pg:Nat→Prop} {w:World} {g:Giv} {tv cv fv gv:Value}
theorem NU (r:RdG Pg w g tv cv fv gv) (z:SzG g):
 Calls Tryz.prog 10 #[.agg #[tv,cv,fv,gv]] w (Ret fun v w'=>(∃a b c d,v=.agg #[a,b,c,d]∧Xy (fun b=>w.heap.size≤b) w' g a b c d)∧New w w'):=by
 obtain ⟨ta,tc,rfl,_,_⟩:=r.t.form
 obtain ⟨ca,cc,rfl,_,_⟩:=r.c.form
 obtain ⟨fa,fc,rfl,_,_⟩:=r.f.form
 obtain ⟨ga,gc,rfl,_,_⟩:=r.g.form
 have zt:=z.t
 have zc:=z.c
 refine nH Tryz.func10 rfl Tryz.ntmps10 rfl ?_
 (repeat' (first|refine au ?_|refine ak ?_))
 refine bI rfl fun w1 b1 n1 s1=>?_
 replace b1:Bk w1 w.heap.size 26 [.slice ta g.tree.length tc,.slice ca g.cards.length cc,.slice fa g.fails.length fc,.slice ga g.gone.length gc]:=b1
 refine Wl.alloc fun w2 b2 n2 s2=>?_
 replace b2:Bk w2 w1.heap.size 27 Ip:=b2
 have b12:=b1.chg n2 fun e=>e
 have n02:=New.trans n1 n2
 (repeat' (first|refine af ?_|refine ah ?_|refine au ?_))
 refine Wc.post (fun F w'=> ∃(xv yv:Value) (gb:Nat),agrees F [(1,pT w.heap.size),(2,pT w1.heap.size),(3,pT gb)]∧Bk w' gb 27 [.slice none 0 0,.slice none 0 0,xv,yv]∧w2.heap.size≤gb∧rM (fun b=>w2.heap.size≤b) w' xv g.fails∧rM (fun b=>w2.heap.size≤b) w' yv g.gone∧New w2 w') ?_ ?_
 ·refine jG (m:=9) rfl (by kernel_rfl) (New w2) (Chg.drew _ _) rfl ?_
  intro w3 nC
  (repeat' (refine dw rfl rfl rfl (aa7 (ax ?_))))
  refine dw rfl rfl rfl (aC (u:=.slice fa g.fails.length fc) rfl (fun w' hw=>(b12.chg hw fun e=>e).cell (o:=2) rfl) (ax ?_))
  (repeat' (refine dw rfl rfl rfl (aa7 (ax ?_))))
  refine dw rfl rfl rfl (aC (u:=.slice ga g.gone.length gc) rfl (fun w' hw=>(b12.chg hw fun e=>e).cell (o:=3) rfl) (ax ?_))
  skip
  refine fE rfl rfl rfl rfl rfl rfl rfl rfl (aB (wO (r.f.keep (nV _) (New.trans n02 nC).keep) (by have:=z.f;omega)) rfl fun fv w20 ⟨of,n20⟩=>af ⟨rfl,New.trans nC n20,?_⟩) (Wl.alloc fun w20 b3 n20 s20=>af ⟨rfl,New.trans nC n20,?_⟩)
  ·obtain ⟨xa,xc,rfl⟩:=of.form
   replace of:=of.mono (Pb':=fun b=>w2.heap.size≤b) fun b _ e=>Nat.le_trans nC.size e
   have nC:=New.trans nC n20
   refine fE rfl rfl rfl rfl rfl rfl rfl rfl (aB (wO (r.g.keep (nV _) (New.trans n02 nC).keep) (by have:=z.g;omega)) rfl fun gv w21 ⟨og,n21⟩=>af ⟨rfl,New.trans nC n21,?_⟩) (Wl.alloc fun w21 b3 n21 s21=>af ⟨rfl,New.trans nC n21,?_⟩)
   ·obtain ⟨ya,yc,rfl⟩:=og.form
    replace og:=og.mono (Pb':=fun b=>w2.heap.size≤b) fun b _ e=>Nat.le_trans nC.size e
    replace of:=of.keep n21.keep
    have nC:=New.trans nC n21
    refine fE rfl rfl rfl rfl rfl rfl rfl rfl (bU (ps:=[(2,.tmp 10),(3,.tmp 13)]) (parts:=[(2,.slice xa g.fails.length xc),(3,.slice ya g.gone.length yc)]) rfl rfl (by simp [Value.cells]) (af ⟨rfl,nC,?_⟩)) (Wl.alloc fun w22 b3 n22 s22=>af ⟨rfl,New.trans nC n22,?_⟩)
    ·refine dA rfl rfl rfl rfl rfl (Wl.alloc fun w23 b3 n23 s23=>af ⟨rfl,New.trans nC n23,?_⟩)
     have Qi:=nC.size
     replace of:=of.keep n23.keep
     replace og:=og.keep n23.keep
     have nC:=New.trans nC n23
     exact Wg.last rfl rfl rfl rfl (aV (new:=[.slice none 0 0,.slice none 0 0,.slice xa g.fails.length xc,.slice ya g.gone.length yc]) b3 rfl rfl rfl rfl (show (4:Nat)≤4 from Nat.le_refl 4) (Xz _ _ _ _ _ _) fun w9 b9 c9 s9=>af ⟨rfl,_,_,_,⟨rfl,rfl,rfl,trivial⟩,b9,Qi,of.qY b3 rfl c9,og.qY b3 rfl c9,(Chg.trans (M:=fun k=>w2.heap.size≤k) nC.any c9 fun k _ e=>by omega).toNew fun k hk e=>by omega⟩)
    ·have Qi:=nC.size
     replace of:=of.keep n22.keep
     replace og:=og.keep n22.keep
     have nC:=New.trans nC n22
     refine dA rfl rfl rfl rfl rfl (bU (ps:=[(2,.tmp 10),(3,.tmp 13)]) (parts:=[(2,.slice xa g.fails.length xc),(3,.slice ya g.gone.length yc)]) rfl rfl (by simp [Value.cells]) (af ⟨rfl,nC,?_⟩))
     exact Wg.last rfl rfl rfl rfl (aV (new:=[.slice none 0 0,.slice none 0 0,.slice xa g.fails.length xc,.slice ya g.gone.length yc]) b3 rfl rfl rfl rfl (show (4:Nat)≤4 from Nat.le_refl 4) (Xz _ _ _ _ _ _) fun w9 b9 c9 s9=>af ⟨rfl,_,_,_,⟨rfl,rfl,rfl,trivial⟩,b9,Qi,of.qY b3 rfl c9,og.qY b3 rfl c9,(Chg.trans (M:=fun k=>w2.heap.size≤k) nC.any c9 fun k _ e=>by omega).toNew fun k hk e=>by omega⟩)
   ·have Qi:=nC.size
    replace of:=of.keep n21.keep
    have nC:=New.trans nC n21
    refine dA rfl rfl rfl rfl rfl (aB (wO (r.g.keep (nV _) (New.trans n02 nC).keep) (by have:=z.g;omega)) rfl fun gv w22 ⟨og,n22⟩=>af ⟨rfl,New.trans nC n22,?_⟩)
    obtain ⟨ya,yc,rfl⟩:=og.form
    replace og:=og.mono (Pb':=fun b=>w2.heap.size≤b) fun b _ e=>Nat.le_trans nC.size e
    replace of:=of.keep n22.keep
    replace b3:=b3.chg n22 fun e=>e
    have nC:=New.trans nC n22
    refine dA rfl rfl rfl rfl rfl (bU (ps:=[(2,.tmp 10),(3,.tmp 13)]) (parts:=[(2,.slice xa g.fails.length xc),(3,.slice ya g.gone.length yc)]) rfl rfl (by simp [Value.cells]) (af ⟨rfl,nC,?_⟩))
    exact Wg.last rfl rfl rfl rfl (aV (new:=[.slice none 0 0,.slice none 0 0,.slice xa g.fails.length xc,.slice ya g.gone.length yc]) b3 rfl rfl rfl rfl (show (4:Nat)≤4 from Nat.le_refl 4) (Xz _ _ _ _ _ _) fun w9 b9 c9 s9=>af ⟨rfl,_,_,_,⟨rfl,rfl,rfl,trivial⟩,b9,Qi,of.qY b3 rfl c9,og.qY b3 rfl c9,(Chg.trans (M:=fun k=>w2.heap.size≤k) nC.any c9 fun k _ e=>by omega).toNew fun k hk e=>by omega⟩)
  ·have Qi:=nC.size
   have nC:=New.trans nC n20
   refine dA rfl rfl rfl rfl rfl (aB (wO (r.f.keep (nV _) (New.trans n02 nC).keep) (by have:=z.f;omega)) rfl fun fv w21 ⟨of,n21⟩=>af ⟨rfl,New.trans nC n21,?_⟩)
   obtain ⟨xa,xc,rfl⟩:=of.form
   replace of:=of.mono (Pb':=fun b=>w2.heap.size≤b) fun b _ e=>Nat.le_trans nC.size e
   replace b3:=b3.chg n21 fun e=>e
   have nC:=New.trans nC n21
   refine dA rfl rfl rfl rfl rfl (aB (wO (r.g.keep (nV _) (New.trans n02 nC).keep) (by have:=z.g;omega)) rfl fun gv w22 ⟨og,n22⟩=>af ⟨rfl,New.trans nC n22,?_⟩)
   obtain ⟨ya,yc,rfl⟩:=og.form
   replace og:=og.mono (Pb':=fun b=>w2.heap.size≤b) fun b _ e=>Nat.le_trans nC.size e
   replace of:=of.keep n22.keep
   replace b3:=b3.chg n22 fun e=>e
   have nC:=New.trans nC n22
   refine dA rfl rfl rfl rfl rfl (bU (ps:=[(2,.tmp 10),(3,.tmp 13)]) (parts:=[(2,.slice xa g.fails.length xc),(3,.slice ya g.gone.length yc)]) rfl rfl (by simp [Value.cells]) (af ⟨rfl,nC,?_⟩))
   exact Wg.last rfl rfl rfl rfl (aV (new:=[.slice none 0 0,.slice none 0 0,.slice xa g.fails.length xc,.slice ya g.gone.length yc]) b3 rfl rfl rfl rfl (show (4:Nat)≤4 from Nat.le_refl 4) (Xz _ _ _ _ _ _) fun w9 b9 c9 s9=>af ⟨rfl,_,_,_,⟨rfl,rfl,rfl,trivial⟩,b9,Qi,of.qY b3 rfl c9,og.qY b3 rfl c9,(Chg.trans (M:=fun k=>w2.heap.size≤k) nC.any c9 fun k _ e=>by omega).toNew fun k hk e=>by omega⟩)
 rintro F w3 ⟨xv,yv,gb,hF,b3,hgb,of,og,n3⟩
 refine ah ?_
 refine Wc.frame _ hF fun G1=>?_
 simp only [oP]
 clear hF
 have hz1:=n1.size
 have hz2:=n2.size
 have hz3:=n3.size
 have ail:=b12.lt
 have aax:=b2.lt
 have b13:=b12.chg n3 fun e=>e
 have b23:=b2.chg n3 fun e=>e
 have n03:=New.trans n02 n3
 have aim:=b3.lt
 clear b1 b12 b2 n1 n2 n02 n3
 (repeat' (first|refine aa1 ?_|refine af ?_|refine ah ?_|refine au ?_|refine ak ?_|refine Wc.block ?_))
 refine aS (σ:=Nat×Value×List (Nd×SV)) (fun q=>[(1,pT w.heap.size),(2,pT w1.heap.size),(3,pT gb),(4,vi q.1)])
  (fun q W=>q.1≤g.tree.length∧Bk W gb 27 [q.2.1,.slice none 0 0,xv,yv]∧q.2.2.map (·.1)=g.tree.take q.1∧nN (flat noV) 51 3 (fun b=>w3.heap.size≤b) NoB W q.2.1 q.2.2∧(∀p∈q.2.2,tX (fun b=>w3.heap.size≤b) W p.2 p.1.nZ)∧Chg (fun k=>k=gb) w3 W) (fun q=>g.tree.length-q.1)
  (0,.slice none 0 0,[]) ⟨rfl,rfl,rfl,rfl,trivial⟩ ⟨Nat.zero_le _,b3,rfl,bH,by simp,aQ _ _⟩ ?_
 rintro ⟨i,xt,L⟩ G2 W ⟨hi,b3W,hL,oL,hP,cW⟩
 dsimp only at hi b3W hL oL hP cW
 obtain ⟨qa,qc,rfl,_,_⟩:=oL.form
 have hLl:L.length=i:=by
  have:=congrArg List.length hL
  rw [List.length_map,List.length_take] at this
  omega
 simp only [oP]
 have b1W:=b13.chg cW fun e=>by omega
 have nW:New w W:=(Chg.trans (M:=fun k=>w.heap.size≤k) n03.any cW fun k _ e=>by omega).toNew fun k hk e=>by omega
 have hzW:=cW.size
 (repeat' (first|refine aa0 ?_|refine au ?_|refine ak ?_|refine aa5 ?_))
 refine ay (u:=.slice ta g.tree.length tc) rfl (b1W.cell (o:=0) rfl) ?_
 (repeat' (first|refine af ?_|refine aI rfl ?_|refine ah ?_|refine au ?_|refine ak ?_|refine Wc.block ?_|refine Wc.skip ?_|refine aK ?_|refine aN ?_|refine aJ ?_|refine aP ?_|refine aa3 ?_|refine aa4 ?_|refine aa5 ?_|refine pF (fun _=>?_) (fun _=>?_)))
 ·obtain ⟨x,hx⟩:=nP g.tree (k:=i) (by omega)
  have hpz:=z.p x (List.mem_of_getElem? hx)
  refine ay (u:=.slice ta g.tree.length tc) rfl (b1W.cell (o:=0) rfl) ?_
  (repeat' (refine aa0 ?_))
  refine aZ (r.t.keep nY nW.keep) rfl rfl (by omega) (by rw [Int.toNat_natCast];exact hx) fun b o cs hl hR hat=>?_
  obtain ⟨xv',rfl,hpr⟩:=hR
  obtain ⟨xa,xc,rfl,Xl,Vo⟩:=hpr.form
  refine bG hat rfl rfl ?_
  clear hat
  refine Wl.alloc fun w5 b5 n5 s5=>?_
  skip
  refine aV (new:=[vi x.parent,vs x.name,.slice xa x.nZ.length xc]) b5 rfl rfl rfl rfl (show (3:Nat)≤3 from Nat.le_refl 3) (by intro c hc;simp at hc;rcases hc with rfl|rfl|rfl<;>rfl) fun w4 b4 c4 s4=>?_
  replace b4:Bk w4 W.heap.size 51 [vi x.parent,vs x.name,.slice xa x.nZ.length xc]:=b4
  have n14:New W w4:=(Chg.trans n5.any c4 fun _ _ e=>e).toNew fun k hk e=>by omega
  have hb4: ∀w',New w4 w'→Bk w' W.heap.size 51 [vi x.parent,vs x.name,.slice xa x.nZ.length xc]:=fun w' hw=>b4.chg hw id
  have hdk: ∀w',New w4 w'→RdS rPr 2 Pg w' (.slice xa x.nZ.length xc) x.nZ:=fun w' hw=>hpr.keep (oJ pC) (New.trans n14 hw).keep
  have hz4:=n14.size
  have YK:=b4.lt
  clear b5 n5 c4
  (repeat' (first|refine af ?_|refine ah ?_|refine au ?_))
  refine Wc.post (fun F w10=> ∃(da:Option Addr) (dc:Nat) (w9:World),agrees F [(1,pT w.heap.size),(2,pT w1.heap.size),(3,pT gb),(4,vi i),(5,pT W.heap.size)]∧nN rPr 99 2 (fun b=>w4.heap.size≤b) NoB w9 (.slice da (x.nZ.length+1) dc) (x.nZ++ [mkP])∧New w4 w9∧
   Bk w10 W.heap.size 51 [vi x.parent,vs x.name,.slice da x.nZ.length dc]∧Chg (fun k=>k=W.heap.size) w9 w10) ?_ ?_
  ·refine jG (m:=13) rfl (by kernel_rfl) (New w4) (Chg.drew _ _) rfl ?_
   intro w5 nC
   have zC:=nC.size
   (repeat' (refine dw rfl rfl rfl (aa7 (ax ?_))))
   refine dw rfl rfl rfl (aC rfl (fun w' hw=>(hb4 w' hw).cell (o:=2) rfl) (ax ?_))
   (repeat' (refine dw rfl rfl rfl (aa7 (ax ?_))))
   refine dw rfl rfl rfl (aC rfl (fun w' hw=>(hb4 w' hw).cell (o:=2) rfl) (ax ?_))
   (repeat' (refine dw rfl rfl rfl (eY rfl (ax ?_))))
   refine fE rfl rfl rfl rfl rfl rfl rfl rfl (iU fun w20 hg n20=>af ⟨rfl,New.trans nC n20,?_⟩) (bU (ps:=[(0,.const (vs [33]))]) (parts:=[(0,vs [33])]) rfl rfl (by simp [Value.cells]) (af ⟨rfl,nC,?_⟩))
   ·have hgl:=rO hg
    have nC:=New.trans nC n20
    have zC:=nC.size
    refine fE rfl rfl rfl rfl rfl rfl rfl rfl (fQ (Pe:=NoB) rE hg (hdk _ nC) (fun y cs hy=>hy) rfl rfl (by omega) (by simp only [maxLen];omega) (by omega) fun ain w21 oD n21=>af ⟨rfl,New.trans nC n21,?_⟩) (bU (ps:=[(0,.const (vs [33]))]) (parts:=[(0,vs [33])]) rfl rfl (by simp [Value.cells]) (af ⟨rfl,nC,?_⟩))
    ·have nC:=New.trans nC n21
     have zC:=nC.size
     refine dA rfl rfl rfl rfl rfl (bU (ps:=[(0,.const (vs [33]))]) (parts:=[(0,vs [33])]) rfl rfl (by simp [Value.cells]) (af ⟨rfl,nC,?_⟩))
     refine dA rfl rfl rfl rfl rfl (bY (R:=rPr) (y:=mkP) (Pe:=NoB) rE rfl rfl rfl rfl (by omega) (by omega) fun mv w23 oM n23 s23 XZ=>af ⟨rfl,New.trans nC n23,?_⟩)
     replace oD:=oD.new (nG pC) n23
     have nC:=New.trans nC n23
     have zC:=nC.size
     refine dA rfl rfl rfl rfl rfl (cu (R:=rPr) (Pe:=NoB) rE oD (oM.rd (nO pC)) (fun y cs hy=>hy) rfl rfl (by omega) (by simp only [maxLen,List.length_singleton];omega) (by simp only [List.length_singleton];omega) fun dv9 w9 o9 c9 VP _=>?_)
     have n49:New w4 w9:=Chg.trans nC c9 (fun b hb e=>by have:=(oD.lt e).1;omega)
     refine af ⟨rfl,n49,?_⟩
     obtain ⟨da,dc,rfl,hdc,_⟩:=o9.form
     rw [List.length_append,List.length_singleton] at hdc o9 ⊢
     refine dw rfl rfl rfl (fF (b:=x.nZ.length) rfl rfl (by omega) (ax ?_))
     (repeat' (refine dw rfl rfl rfl (aa7 (ax ?_))))
     refine Wg.last rfl rfl rfl rfl (bf (hb4 w9 n49) rfl (show (2:Nat)<3 by omega) rfl rfl fun w10 b10 c10=>?_)
     exact af ⟨rfl,da,dc,w9,⟨rfl,rfl,rfl,rfl,rfl,trivial⟩,o9.mono (nO pC) (fun b hb e=>by rcases e with e|e<;>omega) (fun _ _ e=>e),n49,b10,c10⟩
    ·refine fE rfl rfl rfl rfl rfl rfl rfl rfl (fQ (Pe:=NoB) rE hg (hdk _ nC) (fun y cs hy=>hy) rfl rfl (by omega) (by simp only [maxLen];omega) (by omega) fun afw w22 oD n22=>af ⟨rfl,New.trans nC n22,?_⟩) (bY (R:=rPr) (y:=mkP) (Pe:=NoB) rE rfl rfl rfl rfl (by omega) (by omega) fun mv w22 oM n22 s22 aaM=>af ⟨rfl,New.trans nC n22,?_⟩)
     ·have nC:=New.trans nC n22
      have zC:=nC.size
      refine dA rfl rfl rfl rfl rfl (bY (R:=rPr) (y:=mkP) (Pe:=NoB) rE rfl rfl rfl rfl (by omega) (by omega) fun mv w23 oM n23 s23 XZ=>af ⟨rfl,New.trans nC n23,?_⟩)
      replace oD:=oD.new (nG pC) n23
      have nC:=New.trans nC n23
      have zC:=nC.size
      refine dA rfl rfl rfl rfl rfl (cu (R:=rPr) (Pe:=NoB) rE oD (oM.rd (nO pC)) (fun y cs hy=>hy) rfl rfl (by omega) (by simp only [maxLen,List.length_singleton];omega) (by simp only [List.length_singleton];omega) fun dv9 w9 o9 c9 VP _=>?_)
      have n49:New w4 w9:=Chg.trans nC c9 (fun b hb e=>by have:=(oD.lt e).1;omega)
      refine af ⟨rfl,n49,?_⟩
      obtain ⟨da,dc,rfl,hdc,_⟩:=o9.form
      rw [List.length_append,List.length_singleton] at hdc o9 ⊢
      refine dw rfl rfl rfl (fF (b:=x.nZ.length) rfl rfl (by omega) (ax ?_))
      (repeat' (refine dw rfl rfl rfl (aa7 (ax ?_))))
      refine Wg.last rfl rfl rfl rfl (bf (hb4 w9 n49) rfl (show (2:Nat)<3 by omega) rfl rfl fun w10 b10 c10=>?_)
      exact af ⟨rfl,da,dc,w9,⟨rfl,rfl,rfl,rfl,rfl,trivial⟩,o9.mono (nO pC) (fun b hb e=>by rcases e with e|e<;>omega) (fun _ _ e=>e),n49,b10,c10⟩
     ·replace hg:=(n22.block _ (by have:=rO hg;omega) id).trans hg
      have nC:=New.trans nC n22
      have zC:=nC.size
      refine dA rfl rfl rfl rfl rfl (fQ (Pe:=NoB) rE hg (hdk _ nC) (fun y cs hy=>hy) rfl rfl (by omega) (by simp only [maxLen];omega) (by omega) fun aaN w23 oD n23=>af ⟨rfl,New.trans nC n23,?_⟩)
      replace oM:=oM.new (nG pC) n23
      have nC:=New.trans nC n23
      have zC:=nC.size
      refine dA rfl rfl rfl rfl rfl (cu (R:=rPr) (Pe:=NoB) rE oD (oM.rd (nO pC)) (fun y cs hy=>hy) rfl rfl (by omega) (by simp only [maxLen,List.length_singleton];omega) (by simp only [List.length_singleton];omega) fun dv9 w9 o9 c9 VP _=>?_)
      have n49:New w4 w9:=Chg.trans nC c9 (fun b hb e=>by have:=(oD.lt e).1;omega)
      refine af ⟨rfl,n49,?_⟩
      obtain ⟨da,dc,rfl,hdc,_⟩:=o9.form
      rw [List.length_append,List.length_singleton] at hdc o9 ⊢
      refine dw rfl rfl rfl (fF (b:=x.nZ.length) rfl rfl (by omega) (ax ?_))
      (repeat' (refine dw rfl rfl rfl (aa7 (ax ?_))))
      refine Wg.last rfl rfl rfl rfl (bf (hb4 w9 n49) rfl (show (2:Nat)<3 by omega) rfl rfl fun w10 b10 c10=>?_)
      exact af ⟨rfl,da,dc,w9,⟨rfl,rfl,rfl,rfl,rfl,trivial⟩,o9.mono (nO pC) (fun b hb e=>by rcases e with e|e<;>omega) (fun _ _ e=>e),n49,b10,c10⟩
   ·refine fE rfl rfl rfl rfl rfl rfl rfl rfl (iU fun w21 hg n21=>af ⟨rfl,New.trans nC n21,?_⟩) (bY (R:=rPr) (y:=mkP) (Pe:=NoB) rE rfl rfl rfl rfl (by omega) (by omega) fun mv w21 oM n21 s21 ahj=>af ⟨rfl,New.trans nC n21,?_⟩)
    ·have hgl:=rO hg
     have nC:=New.trans nC n21
     have zC:=nC.size
     refine fE rfl rfl rfl rfl rfl rfl rfl rfl (fQ (Pe:=NoB) rE hg (hdk _ nC) (fun y cs hy=>hy) rfl rfl (by omega) (by simp only [maxLen];omega) (by omega) fun afw w22 oD n22=>af ⟨rfl,New.trans nC n22,?_⟩) (bY (R:=rPr) (y:=mkP) (Pe:=NoB) rE rfl rfl rfl rfl (by omega) (by omega) fun mv w22 oM n22 s22 aaM=>af ⟨rfl,New.trans nC n22,?_⟩)
     ·have nC:=New.trans nC n22
      have zC:=nC.size
      refine dA rfl rfl rfl rfl rfl (bY (R:=rPr) (y:=mkP) (Pe:=NoB) rE rfl rfl rfl rfl (by omega) (by omega) fun mv w23 oM n23 s23 XZ=>af ⟨rfl,New.trans nC n23,?_⟩)
      replace oD:=oD.new (nG pC) n23
      have nC:=New.trans nC n23
      have zC:=nC.size
      refine dA rfl rfl rfl rfl rfl (cu (R:=rPr) (Pe:=NoB) rE oD (oM.rd (nO pC)) (fun y cs hy=>hy) rfl rfl (by omega) (by simp only [maxLen,List.length_singleton];omega) (by simp only [List.length_singleton];omega) fun dv9 w9 o9 c9 VP _=>?_)
      have n49:New w4 w9:=Chg.trans nC c9 (fun b hb e=>by have:=(oD.lt e).1;omega)
      refine af ⟨rfl,n49,?_⟩
      obtain ⟨da,dc,rfl,hdc,_⟩:=o9.form
      rw [List.length_append,List.length_singleton] at hdc o9 ⊢
      refine dw rfl rfl rfl (fF (b:=x.nZ.length) rfl rfl (by omega) (ax ?_))
      (repeat' (refine dw rfl rfl rfl (aa7 (ax ?_))))
      refine Wg.last rfl rfl rfl rfl (bf (hb4 w9 n49) rfl (show (2:Nat)<3 by omega) rfl rfl fun w10 b10 c10=>?_)
      exact af ⟨rfl,da,dc,w9,⟨rfl,rfl,rfl,rfl,rfl,trivial⟩,o9.mono (nO pC) (fun b hb e=>by rcases e with e|e<;>omega) (fun _ _ e=>e),n49,b10,c10⟩
     ·replace hg:=(n22.block _ (by have:=rO hg;omega) id).trans hg
      have nC:=New.trans nC n22
      have zC:=nC.size
      refine dA rfl rfl rfl rfl rfl (fQ (Pe:=NoB) rE hg (hdk _ nC) (fun y cs hy=>hy) rfl rfl (by omega) (by simp only [maxLen];omega) (by omega) fun aaN w23 oD n23=>af ⟨rfl,New.trans nC n23,?_⟩)
      replace oM:=oM.new (nG pC) n23
      have nC:=New.trans nC n23
      have zC:=nC.size
      refine dA rfl rfl rfl rfl rfl (cu (R:=rPr) (Pe:=NoB) rE oD (oM.rd (nO pC)) (fun y cs hy=>hy) rfl rfl (by omega) (by simp only [maxLen,List.length_singleton];omega) (by simp only [List.length_singleton];omega) fun dv9 w9 o9 c9 VP _=>?_)
      have n49:New w4 w9:=Chg.trans nC c9 (fun b hb e=>by have:=(oD.lt e).1;omega)
      refine af ⟨rfl,n49,?_⟩
      obtain ⟨da,dc,rfl,hdc,_⟩:=o9.form
      rw [List.length_append,List.length_singleton] at hdc o9 ⊢
      refine dw rfl rfl rfl (fF (b:=x.nZ.length) rfl rfl (by omega) (ax ?_))
      (repeat' (refine dw rfl rfl rfl (aa7 (ax ?_))))
      refine Wg.last rfl rfl rfl rfl (bf (hb4 w9 n49) rfl (show (2:Nat)<3 by omega) rfl rfl fun w10 b10 c10=>?_)
      exact af ⟨rfl,da,dc,w9,⟨rfl,rfl,rfl,rfl,rfl,trivial⟩,o9.mono (nO pC) (fun b hb e=>by rcases e with e|e<;>omega) (fun _ _ e=>e),n49,b10,c10⟩
    ·have nC:=New.trans nC n21
     have zC:=nC.size
     refine dA rfl rfl rfl rfl rfl (iU fun w22 hg n22=>af ⟨rfl,New.trans nC n22,?_⟩)
     have hgl:=rO hg
     replace oM:=oM.new (nG pC) n22
     have nC:=New.trans nC n22
     have zC:=nC.size
     refine dA rfl rfl rfl rfl rfl (fQ (Pe:=NoB) rE hg (hdk _ nC) (fun y cs hy=>hy) rfl rfl (by omega) (by simp only [maxLen];omega) (by omega) fun aaN w23 oD n23=>af ⟨rfl,New.trans nC n23,?_⟩)
     replace oM:=oM.new (nG pC) n23
     have nC:=New.trans nC n23
     have zC:=nC.size
     refine dA rfl rfl rfl rfl rfl (cu (R:=rPr) (Pe:=NoB) rE oD (oM.rd (nO pC)) (fun y cs hy=>hy) rfl rfl (by omega) (by simp only [maxLen,List.length_singleton];omega) (by simp only [List.length_singleton];omega) fun dv9 w9 o9 c9 VP _=>?_)
     have n49:New w4 w9:=Chg.trans nC c9 (fun b hb e=>by have:=(oD.lt e).1;omega)
     refine af ⟨rfl,n49,?_⟩
     obtain ⟨da,dc,rfl,hdc,_⟩:=o9.form
     rw [List.length_append,List.length_singleton] at hdc o9 ⊢
     refine dw rfl rfl rfl (fF (b:=x.nZ.length) rfl rfl (by omega) (ax ?_))
     (repeat' (refine dw rfl rfl rfl (aa7 (ax ?_))))
     refine Wg.last rfl rfl rfl rfl (bf (hb4 w9 n49) rfl (show (2:Nat)<3 by omega) rfl rfl fun w10 b10 c10=>?_)
     exact af ⟨rfl,da,dc,w9,⟨rfl,rfl,rfl,rfl,rfl,trivial⟩,o9.mono (nO pC) (fun b hb e=>by rcases e with e|e<;>omega) (fun _ _ e=>e),n49,b10,c10⟩
  ·rintro F w10 ⟨da,dc,w9,hF,o9,n9,b10,c10⟩
   refine ah ?_
   refine Wc.frame _ hF fun G3=>?_
   simp only [oP]
   clear hF
   have z9:=n9.size
   have z10:=c10.size
   have o10:=o9.chg (nG pC) c10 fun b hb e=>by have h9:w4.heap.size≤b:=(o9.lt hb).1;omega
   have KZ:New W w10:=(Chg.trans (M:=fun k=>W.heap.size≤k) (New.trans n14 n9).any c10 fun k _ e=>by omega).toNew fun k hk e=>by omega
   have IL:=b3W.chg KZ fun e=>e
   have La:=oL.new (nG _) KZ
   clear o9 n9 c10 hb4 hdk b4
   (repeat' (first|refine ak ?_|refine aa5 ?_))
   refine ay (u:=.slice qa L.length qc) rfl (IL.cell (o:=0) rfl) ?_
   skip
   refine bM b10 rfl rfl ?_
   refine dn (R:=flat noV) (y:=(x,(da,x.nZ.length,dc))) FY La rfl rfl rfl rfl rfl (by omega) (by omega) (by simp only [maxLen];omega) (by omega) rfl rfl fun v11 w11 p11 o11 c11 lie=>?_
   obtain ⟨ra,rc,rfl,_,_⟩:=o11.form
   have Ii:=IL.chg c11 fun e=>La.pR IL rfl e rfl
   have z11:=c11.size
   have hown: ∀k,(Value.slice qa L.length qc).ownBlock=some k→w3.heap.size≤k:=fun k e=>(oL.lt e).1
   (repeat' (refine aa5 ?_))
   refine bf (u:=.slice ra (L++ [(x,(da,x.nZ.length,dc))]).length rc) Ii rfl (show (0:Nat)<4 by omega) rfl rfl fun w12 b12 c12=>?_
   have VQ:=o11.mono (Pb':=fun b=>w3.heap.size≤b) (nO _) (fun b _ e=>by rcases e with e|e;exact e;show w3.heap.size≤b;omega) (fun _ _ e=>e)
   (repeat' (first|refine aa0 ?_|refine aa1 ?_|refine af ?_|refine ah ?_|refine ak ?_|refine aH ?_|refine aa8 ?_))
   refine aG (i+1,_,L++ [(x,(da,x.nZ.length,dc))]) ⟨rfl,rfl,rfl,rfl,trivial⟩ ⟨by dsimp only;omega,b12,?_,VQ.chg (nG _) c12 fun k hk e=>VQ.pR Ii rfl hk e,fun p hp=>?_,Chg.trans (Chg.trans (Chg.trans cW KZ.any (M':=fun _=>False) fun _ _ e=>e.elim) c11 fun k hk e=>by have:=hown k e;omega) c12 fun _ _ e=>e⟩ (by dsimp only;omega)
   ·rw [List.map_append,hL,take_snoc hx];rfl
   ·rcases List.mem_append.1 hp with hp|hp
    ·exact (((hP p hp).chg KZ fun _ _ e=>e).row La rfl c11).qY Ii rfl c12
    ·rw [List.mem_singleton.1 hp]
     have hn:tX (fun b=>w3.heap.size≤b) w10 (da,x.nZ.length,dc) x.nZ:=⟨da,dc,rfl,o10.mono (nO pC) (fun b _ e=>by have e:w4.heap.size≤b:=e;show w3.heap.size≤b;omega) (fun _ _ e=>e)⟩
     exact (hn.row La rfl c11).qY Ii rfl c12
 ·obtain rfl:i=g.tree.length:=by omega
  rw [List.take_length] at hL
  have ofW:=of.qY b3 rfl cW
  have ogW:=og.qY b3 rfl cW
  have b2W:=b23.chg cW fun e=>by omega
  clear b3 of og b13 b23 hi
  have hown: ∀k,(Value.slice qa L.length qc).ownBlock=some k→w3.heap.size≤k:=fun k e=>(oL.lt e).1
  skip
  refine bP rfl (by kernel_rfl) (fun w'=>Chg (fun j=>(Value.slice qa L.length qc).ownBlock=some j) W w') (Chg.drew _ _) ?_
  intro w5 m5
  (repeat' (refine aa2 (aa7 (ax ?_))))
  refine aa2 (aC (u:=.slice qa L.length qc) rfl (fun w' c=>(b3W.chg c fun e=>oL.pR b3W rfl e rfl).cell (o:=0) rfl) (ax ?_))
  refine aU rfl (bU (ps:=[(0,.const (vi (-9)))]) (parts:=[(0,vi (-9))]) rfl rfl (by simp [Value.cells]) (af ⟨rfl,m5.any,?_⟩))
  refine aU rfl (bY (R:=flat noV) (Pe:=NoB) (y:=mkN) FY rfl rfl rfl rfl (by omega) (by omega) fun v6 w6 o6 n6 s6 e6=>?_)
  have m6:=New.trans m5 n6
  refine af ⟨rfl,m6.any,?_⟩
  refine aU rfl (cu (R:=flat noV) FY (oL.new (nG _) m6) (o6.rd (nO _)) (fun z cs hz=>hz) rfl rfl (by omega) (by simp only [maxLen,List.length_singleton];omega) (by simp only [List.length_singleton];omega) fun u7 w7 o7 c7 lie _=>?_)
  have cW7:Chg (fun j=>(Value.slice qa L.length qc).ownBlock=some j) W w7:=Chg.trans m6.any c7 fun _ _ e=>e
  refine af ⟨rfl,cW7,?_⟩
  (repeat' (refine aa2 (aa7 (ax ?_))))
  refine aa2 (aC (u:=.slice ta g.tree.length tc) rfl (fun w' c=>(b1W.chg c fun e=>by have:=hown _ e;omega).cell (o:=0) rfl) (ax ?_))
  (repeat' (refine aa2 (eY rfl (ax ?_))))
  have hz6:=m6.size
  have hz7:=cW7.size
  have hl7:(L++ [mkN]).length=g.tree.length+1:=by rw [List.length_append,List.length_singleton];omega
  obtain ⟨ra,rc,rfl,_,_⟩:=o7.form
  rw [hl7] at o7
  refine aa2 (fF (b:=g.tree.length) rfl rfl (by omega) (ax ?_))
  (repeat' (refine aa2 (aa7 (ax ?_))))
  have b37:=b3W.chg cW7 fun e=>oL.pR b3W rfl e rfl
  refine Wt.last rfl (bf (u:=.slice ra g.tree.length rc) b37 rfl (show (0:Nat)<4 by omega) rfl rfl fun w8 b8 c8=>?_)
  refine af ?_
  have hz8:=c8.size
  have o7':=o7.mono (Pb':=fun b=>w3.heap.size≤b) (nO _) (fun b _ e=>by rcases e with e|e;exact e;show w3.heap.size≤b;omega) (fun _ _ e=>e)
  have oT:=o7'.chg (nG _) c8 fun k hk e=>o7'.pR b37 rfl hk e
  have hPT: ∀p∈L,tX (fun b=>w3.heap.size≤b) w8 p.2 p.1.nZ:=fun p hp=>((hP p hp).row oL rfl cW7).qY b37 rfl c8
  have ofT:=(ofW.row oL rfl cW7).qY b37 rfl c8
  have ogT:=(ogW.row oL rfl cW7).qY b37 rfl c8
  have c38:Chg (fun k=>w3.heap.size≤k∨k=gb) W w8:=Chg.trans (cW7.mono fun k _ e=>.inl (hown k e)) c8 fun k _ e=>.inr e
  have b1T:=b1W.chg c38 fun e=>by omega
  have b2T:=b2W.chg c38 fun e=>by omega
  have nT:New w w8:=(Chg.trans (M:=fun k=>w.heap.size≤k) nW.any c38 fun k _ e=>by omega).toNew fun k hk e=>by omega
  have aio:=c38.size
  clear b3W oL hP cW b1W b2W nW ofW ogW m5 m6 c7 o6 o7 o7' b37 c8 cW7 c38
  (repeat' (first|refine aa1 ?_|refine af ?_|refine ah ?_|refine au ?_|refine ak ?_|refine Wc.block ?_))
  refine aS (σ:=Nat×Value×List (Cd×SV)) (fun q=>[(1,pT w.heap.size),(2,pT w1.heap.size),(3,pT gb),(6,vi q.1)])
   (fun q W'=>q.1≤g.cards.length∧Bk W' gb 27 [.slice ra g.tree.length rc,q.2.1,xv,yv]∧q.2.2.map (·.1)=g.cards.take q.1∧nN (flat cdV) 69 7 (fun b=>w8.heap.size≤b) NoB W' q.2.1 q.2.2∧(∀p∈q.2.2,rM (fun b=>w8.heap.size≤b) W' (svV p.2) p.1.compat)∧Chg (fun k=>k=gb) w8 W') (fun q=>g.cards.length-q.1)
   (0,.slice none 0 0,[]) ⟨rfl,rfl,rfl,rfl,trivial⟩ ⟨Nat.zero_le _,b8,rfl,bH,by simp,aQ _ _⟩ ?_
  rintro ⟨i,xt,L2⟩ G2 W ⟨hi,b3W,hL2,oL,hP,cW⟩
  dsimp only at hi b3W hL2 oL hP cW
  obtain ⟨qa,qc,rfl,_,_⟩:=oL.form
  have aip:L2.length=i:=by
   have:=congrArg List.length hL2
   rw [List.length_map,List.length_take] at this
   omega
  simp only [oP]
  have b1W:=b1T.chg cW fun e=>by omega
  have nW:New w W:=(Chg.trans (M:=fun k=>w.heap.size≤k) nT.any cW fun k _ e=>by omega).toNew fun k hk e=>by omega
  have hzW:=cW.size
  (repeat' (first|refine aa0 ?_|refine au ?_|refine ak ?_|refine aa5 ?_))
  refine ay (u:=.slice ca g.cards.length cc) rfl (b1W.cell (o:=1) rfl) ?_
  (repeat' (first|refine af ?_|refine aI rfl ?_|refine ah ?_|refine au ?_|refine ak ?_|refine Wc.block ?_|refine Wc.skip ?_|refine aK ?_|refine aN ?_|refine aJ ?_|refine aP ?_|refine aa3 ?_|refine aa4 ?_|refine aa5 ?_|refine pF (fun _=>?_) (fun _=>?_)))
  ·obtain ⟨x,hx⟩:=nP g.cards (k:=i) (by omega)
   have hkz:=z.k x (List.mem_of_getElem? hx)
   refine ay (u:=.slice ca g.cards.length cc) rfl (b1W.cell (o:=1) rfl) ?_
   (repeat' (refine aa0 ?_))
   refine aZ (r.c.keep pO nW.keep) rfl rfl (by omega) (by rw [Int.toNat_natCast];exact hx) fun b o cs hl hR hat=>?_
   obtain ⟨xv',rfl,hpr⟩:=hR
   obtain ⟨xa,xc,rfl,Xl,Vo⟩:=hpr.form
   refine bG hat rfl rfl ?_
   clear hat
   refine Wl.alloc fun w5 b5 n5 s5=>?_
   skip
   refine aV (new:=cdC x (.slice xa x.compat.length xc)) b5 rfl rfl rfl rfl (show (7:Nat)≤7 from Nat.le_refl 7) (Xx (x,(xa,x.compat.length,xc))) fun w4 b4 c4 s4=>?_
   replace b4:Bk w4 W.heap.size 69 (cdC x (.slice xa x.compat.length xc)):=b4
   have n14:New W w4:=(Chg.trans n5.any c4 fun _ _ e=>e).toNew fun k hk e=>by omega
   have hz4:=n14.size
   have YK:=b4.lt
   clear b5 n5 c4
   (repeat' (first|refine af ?_|refine ah ?_|refine au ?_|refine ak ?_|refine aa5 ?_))
   refine ay (u:=.slice xa x.compat.length xc) rfl (b4.cell (o:=3) rfl) ?_
   skip
   refine aB (wO (hpr.keep (nV _) n14.keep) (by omega)) rfl ?_
   rintro kv w9 ⟨ok,n9⟩
   obtain ⟨ka,kc,rfl⟩:=ok.form
   have z9:=n9.size
   (repeat' (refine aa5 ?_))
   refine bf (u:=.slice ka x.compat.length kc) (b4.chg n9 fun e=>e) rfl (show (3:Nat)<7 by omega) rfl rfl fun w10 b10 c10=>?_
   replace b10:Bk w10 W.heap.size 69 (cdC x (.slice ka x.compat.length kc)):=b10
   have z10:=c10.size
   have afx:=ok.qY (b4.chg n9 fun e=>e) rfl c10
   have KZ:New W w10:=(Chg.trans (M:=fun k=>W.heap.size≤k) (New.trans n14 n9).any c10 fun k _ e=>by omega).toNew fun k hk e=>by omega
   have IL:=b3W.chg KZ fun e=>e
   have La:=oL.new (nG _) KZ
   clear ok n9 c10 b4
   (repeat' (first|refine af ?_|refine ah ?_|refine ak ?_|refine aa5 ?_))
   refine ay (u:=.slice qa L2.length qc) rfl (IL.cell (o:=1) rfl) ?_
   skip
   refine bM b10 rfl rfl ?_
   refine dn (R:=flat cdV) (y:=(x,(ka,x.compat.length,kc))) FZ La rfl rfl rfl rfl rfl (by omega) (by omega) (by simp only [maxLen];omega) (by omega) rfl rfl fun v11 w11 p11 o11 c11 lie=>?_
   obtain ⟨ya,yc,rfl,_,_⟩:=o11.form
   have Ii:=IL.chg c11 fun e=>La.pR IL rfl e rfl
   have z11:=c11.size
   have hown: ∀k,(Value.slice qa L2.length qc).ownBlock=some k→w8.heap.size≤k:=fun k e=>(oL.lt e).1
   (repeat' (refine aa5 ?_))
   refine bf (u:=.slice ya (L2++ [(x,(ka,x.compat.length,kc))]).length yc) Ii rfl (show (1:Nat)<4 by omega) rfl rfl fun w12 b12 c12=>?_
   have VQ:=o11.mono (Pb':=fun b=>w8.heap.size≤b) (nO _) (fun b _ e=>by rcases e with e|e;exact e;show w8.heap.size≤b;omega) (fun _ _ e=>e)
   (repeat' (first|refine aa0 ?_|refine aa1 ?_|refine af ?_|refine ah ?_|refine ak ?_|refine aH ?_|refine aa8 ?_))
   refine aG (i+1,_,L2++ [(x,(ka,x.compat.length,kc))]) ⟨rfl,rfl,rfl,rfl,trivial⟩ ⟨by dsimp only;omega,b12,?_,VQ.chg (nG _) c12 fun k hk e=>VQ.pR Ii rfl hk e,fun p hp=>?_,Chg.trans (Chg.trans (Chg.trans cW KZ.any (M':=fun _=>False) fun _ _ e=>e.elim) c11 fun k hk e=>by have:=hown k e;omega) c12 fun _ _ e=>e⟩ (by dsimp only;omega)
   ·rw [List.map_append,hL2,take_snoc hx];rfl
   ·rcases List.mem_append.1 hp with hp|hp
    ·exact ((((hP p hp).keep KZ.keep)).row La rfl c11).qY Ii rfl c12
    ·rw [List.mem_singleton.1 hp]
     have hn:=afx.mono (Pb':=fun b=>w8.heap.size≤b) fun b _ e=>by have e:w4.heap.size≤b:=e;show w8.heap.size≤b;omega
     exact (hn.row La rfl c11).qY Ii rfl c12
  ·obtain rfl:i=g.cards.length:=by omega
   rw [List.take_length] at hL2
   have ofW:=ofT.qY b8 rfl cW
   have ogW:=ogT.qY b8 rfl cW
   have b2W:=b2T.chg cW fun e=>by omega
   have oTW:=oT.chg (nG _) cW fun k hk e=>oT.pR b8 rfl hk e
   have hPW: ∀p∈L,tX (fun b=>w3.heap.size≤b) W p.2 p.1.nZ:=fun p hp=>(hPT p hp).qY b8 rfl cW
   clear b8 ofT ogT b1T b2T hi oT hPT nT
   have hown: ∀k,(Value.slice qa L2.length qc).ownBlock=some k→w8.heap.size≤k:=fun k e=>(oL.lt e).1
   skip
   refine bP rfl (by kernel_rfl) (fun w'=>Chg (fun j=>(Value.slice qa L2.length qc).ownBlock=some j) W w') (Chg.drew _ _) ?_
   intro w5 m5
   (repeat' (refine aa2 (aa7 (ax ?_))))
   refine aa2 (aC (u:=.slice qa L2.length qc) rfl (fun w' c=>(b3W.chg c fun e=>oL.pR b3W rfl e rfl).cell (o:=1) rfl) (ax ?_))
   refine aU rfl (bU (ps:=[(0,.const (vs [33]))]) (parts:=[(0,vs [33])]) rfl rfl (by simp [Value.cells]) (af ⟨rfl,m5.any,?_⟩))
   refine aU rfl (bY (R:=flat cdV) (Pe:=NoB) (y:=mkC) FZ rfl rfl rfl rfl (by omega) (by omega) fun v6 w6 o6 n6 s6 e6=>?_)
   have m6:=New.trans m5 n6
   refine af ⟨rfl,m6.any,?_⟩
   refine aU rfl (cu (R:=flat cdV) FZ (oL.new (nG _) m6) (o6.rd (nO _)) (fun z cs hz=>hz) rfl rfl (by omega) (by simp only [maxLen,List.length_singleton];omega) (by simp only [List.length_singleton];omega) fun u7 w7 o7 c7 lie _=>?_)
   have cW7:Chg (fun j=>(Value.slice qa L2.length qc).ownBlock=some j) W w7:=Chg.trans m6.any c7 fun _ _ e=>e
   refine af ⟨rfl,cW7,?_⟩
   (repeat' (refine aa2 (aa7 (ax ?_))))
   refine aa2 (aC (u:=.slice ca g.cards.length cc) rfl (fun w' c=>(b1W.chg c fun e=>by have:=hown _ e;omega).cell (o:=1) rfl) (ax ?_))
   (repeat' (refine aa2 (eY rfl (ax ?_))))
   have aiq:=m6.size
   have air:=cW7.size
   have afy:(L2++ [mkC]).length=g.cards.length+1:=by rw [List.length_append,List.length_singleton];omega
   obtain ⟨ya,yc,rfl,_,_⟩:=o7.form
   rw [afy] at o7
   refine aa2 (fF (b:=g.cards.length) rfl rfl (by omega) (ax ?_))
   (repeat' (refine aa2 (aa7 (ax ?_))))
   have b37:=b3W.chg cW7 fun e=>oL.pR b3W rfl e rfl
   refine Wt.last rfl (bf (u:=.slice ya g.cards.length yc) b37 rfl (show (1:Nat)<4 by omega) rfl rfl fun w10 b10 c10=>?_)
   refine af ?_
   have Xb:=c10.size
   have o7':=o7.mono (Pb':=fun b=>w8.heap.size≤b) (nO _) (fun b _ e=>by rcases e with e|e;exact e;show w8.heap.size≤b;omega) (fun _ _ e=>e)
   have oC:=o7'.chg (nG _) c10 fun k hk e=>o7'.pR b37 rfl hk e
   have hPC: ∀p∈L2,rM (fun b=>w8.heap.size≤b) w10 (svV p.2) p.1.compat:=fun p hp=>((hP p hp).row oL rfl cW7).qY b37 rfl c10
   have ofC:=(ofW.row oL rfl cW7).qY b37 rfl c10
   have ogC:=(ogW.row oL rfl cW7).qY b37 rfl c10
   have oTC:=(oTW.chg (nG _) cW7 fun k hk e=>oTW.tZ oL rfl k hk e)
   have aaO:=oTC.chg (nG _) c10 fun k hk e=>oTC.pR b37 rfl hk e
   have afz: ∀p∈L,tX (fun b=>w3.heap.size≤b) w10 p.2 p.1.nZ:=fun p hp=>((hPW p hp).row oL rfl cW7).qY b37 rfl c10
   have YT:Chg (fun k=>w8.heap.size≤k∨k=gb) W w10:=Chg.trans (cW7.mono fun k _ e=>.inl (hown k e)) c10 fun k _ e=>.inr e
   have b2C:=b2W.chg YT fun e=>by omega
   have nC2:New w w10:=(Chg.trans (M:=fun k=>w.heap.size≤k) nW.any YT fun k _ e=>by omega).toNew fun k hk e=>by omega
   have ahk:=YT.size
   have aaC:=b10.lt
   obtain ⟨fa',fc',hfv⟩:=ofC.form
   obtain ⟨ga',gc',hgv⟩:=ogC.form
   (repeat' (first|refine ah ?_|refine au ?_|refine ak ?_))
   refine bM b10 rfl rfl ?_
   refine aV (new:=[.slice ra g.tree.length rc,.slice ya g.cards.length yc,xv,yv]) b2C rfl rfl rfl rfl (show (4:Nat)≤4 from Nat.le_refl 4) (by rw [hfv,hgv];intro c hc;simp at hc;rcases hc with rfl|rfl|rfl|rfl<;>rfl) fun w11 b11 c11 s11=>?_
   (repeat' (first|refine af ?_|refine ah ?_|refine aA ?_))
   refine eG (yJ rfl (tC rfl rfl b11 rfl)) ⟨_,rfl,⟨_,_,_,_,rfl,⟨⟨ra,rc,L,rfl,hL,(aaO.chg (nG _) c11 fun k hk e=>aaO.pR b2C rfl hk e).mono (nO _) (fun b _ e=>?_) (fun _ _ e=>e),fun p hp=>((afz p hp).qY b2C rfl c11).mono fun b _ e=>?_⟩,⟨ya,yc,L2,rfl,hL2,(oC.chg (nG _) c11 fun k hk e=>oC.pR b2C rfl hk e).mono (nO _) (fun b _ e=>?_) (fun _ _ e=>e),fun p hp=>((hPC p hp).qY b2C rfl c11).mono fun b _ e=>?_⟩,(ofC.qY b2C rfl c11).mono fun b _ e=>?_,(ogC.qY b2C rfl c11).mono fun b _ e=>?_⟩⟩,(Chg.trans (M:=fun k=>w.heap.size≤k) nC2.any c11 fun k _ e=>by omega).toNew fun k hk e=>by omega⟩
   ·have e:w3.heap.size≤b:=e
    show w.heap.size≤b;omega
   ·have e:w3.heap.size≤b:=e
    show w.heap.size≤b;omega
   ·have e:w8.heap.size≤b:=e
    show w.heap.size≤b;omega
   ·have e:w8.heap.size≤b:=e
    show w.heap.size≤b;omega
   ·have e:w2.heap.size≤b:=e
    show w.heap.size≤b;omega
   ·have e:w2.heap.size≤b:=e
    show w.heap.size≤b;omega
end
end Go.Proofs.YtjecgaiaiophpaaGreatDoor
namespace Go.Proofs.YtjecgaiaiophpaaGreatDoor
open Go Wk
open Go.RowKit (Below)
attribute [local irreducible] Go.Calls
section
variable {P:Program} {n:Nat} {ds:List Deferred} {Q:Po} {F:Fr} {w:World} {ops rest:List Oper} {d:Nat} {ty t t':TypeId} {pos:String} {aft:Array Edge} {C:World→Prop} {K:Fr→Prop}
theorem jX {x y:Operand} {a b:Bool} [ht:Und P t .bool] (hx:ev n F x=.bool a) (hy:ev n F y=.bool b) (c:Wl P n ds Q ops rest (upd F d (.bool !(a == b))) w):Wl P n ds Q ops (⟨some d,.binOp .neq t x y t',ty,pos,aft,none⟩::rest) F w:=
 Wl.val (by simp only [execOp,hx,hy,Sem.run_bind,yw,Result.andThen_ok,run_neq_bool w t a b ht.h,Sem.run_pure]) c
theorem jY {x y:Operand} {a b:Bool} [ht:Und P t .bool] (hx:ev n F x=.bool a) (hy:ev n F y=.bool b) (c:Wq P n ds C K ops rest (upd F d (.bool !(a == b)))):Wq P n ds C K ops (⟨some d,.binOp .neq t x y t',ty,pos,aft,none⟩::rest) F:=
 Wq.val (fun w _=>by simp only [execOp,hx,hy,Sem.run_bind,yw,Result.andThen_ok,run_neq_bool w t a b ht.h,Sem.run_pure]) c
end
theorem Qj {P1 P2:Nat→Prop} {w:World} {a b:Value} {xs:List Rws} (ha:RdS (flat rwC) 3 P1 w a xs) (hb:RdS (flat rwC) 3 P2 w b xs):
 Calls Tryz.prog 24 #[a,b] w (Ret fun r w'=>r=.bool true∧New w w'):=by
 obtain ⟨aa,ac,rfl,ais,afA⟩:=ha.form
 obtain ⟨ba,bc,rfl,_,_⟩:=hb.form
 simp only [maxLen] at afA
 refine nH Tryz.func24 rfl Tryz.ntmps24 rfl ?_
 (repeat' (first|refine aa0 ?_|refine aa1 ?_|refine af ?_|refine aI rfl ?_|refine ah ?_|refine au ?_|refine ak ?_|refine Wc.block ?_|refine Wc.skip ?_|refine aa4 ?_|(refine pV (fun _=>?_) (fun _=>?_)<;>(first|(exfalso;omega)|skip))))
 refine aS (σ:=Nat) (fun k=>[(0,.slice aa xs.length ac),(1,.slice ba xs.length bc),(5,vi k)]) (fun k W=>k≤xs.length∧New w W) (fun k=>xs.length-k) 0 ⟨rfl,rfl,rfl,trivial⟩ ⟨Nat.zero_le _,aQ _ _⟩ ?_
 rintro k G W ⟨hk,n1⟩
 simp only [oP]
 have ra:=ha.keep (oJ rwC) n1.keep
 have rb:=hb.keep (oJ rwC) n1.keep
 (repeat' (first|refine aa0 ?_|refine aa1 ?_|refine af ?_|refine aI rfl ?_|refine ah ?_|refine au ?_|refine ak ?_|refine Wc.block ?_|refine Wc.skip ?_|refine aK ?_|refine aA ?_|refine aN ?_|refine aJ ?_|refine aP ?_|refine aa3 ?_|refine aa4 ?_|refine pF (fun _=>?_) (fun _=>?_)))
 ·obtain ⟨x,hx⟩:=nP xs (k:=k) (by omega)
  refine dZ rfl (by kernel_rfl) ?_
  (repeat' (refine aa9 ?_))
  refine bV ra (fun w' hw=>hw.keep) rfl rfl (by omega) (by rw [Int.toNat_natCast];exact hx) fun b o cs hl hR hat=>?_
  obtain rfl:cs=rwC x:=hR
  (repeat' (refine aa7 ?_))
  refine aC (u:=.int .u8 x.1) rfl (fun w' hw=>(hat w' hw).get 0 rfl) ?_
  clear hat
  (repeat' (refine aa9 ?_))
  refine bV rb (fun w' hw=>hw.keep) rfl rfl (by omega) (by rw [Int.toNat_natCast];exact hx) fun b o cs hl hR hat=>?_
  obtain rfl:cs=rwC x:=hR
  (repeat' (refine aa7 ?_))
  refine aC (u:=.int .u8 x.1) rfl (fun w' hw=>(hat w' hw).get 0 rfl) ?_
  clear hat
  (repeat' (first|refine aa9 ?_|refine qE ?_|(refine eX rfl rfl (fun _=>?_) (fun _=>?_)<;>(first|(exfalso;omega)|skip))))
  refine bV ra (fun w' hw=>hw.keep) rfl rfl (by omega) (by rw [Int.toNat_natCast];exact hx) fun b o cs hl hR hat=>?_
  obtain rfl:cs=rwC x:=hR
  (repeat' (first|refine qE ?_|refine aa7 ?_))
  refine aC (u:=vi (qx x.2.1)) rfl (fun w' hw=>(hat w' hw).get 1 rfl) ?_
  clear hat
  (repeat' (first|refine aa9 ?_|refine qE ?_))
  refine bV rb (fun w' hw=>hw.keep) rfl rfl (by omega) (by rw [Int.toNat_natCast];exact hx) fun b o cs hl hR hat=>?_
  obtain rfl:cs=rwC x:=hR
  (repeat' (first|refine qE ?_|refine aa7 ?_))
  refine aC (u:=vi (qx x.2.1)) rfl (fun w' hw=>(hat w' hw).get 1 rfl) ?_
  clear hat
  (repeat' (first|refine aa9 ?_|refine qE ?_|refine wz ?_|(refine eX rfl rfl (fun _=>?_) (fun _=>?_)<;>(first|(exfalso;omega)|skip))))
  refine bV ra (fun w' hw=>hw.keep) rfl rfl (by omega) (by rw [Int.toNat_natCast];exact hx) fun b o cs hl hR hat=>?_
  obtain rfl:cs=rwC x:=hR
  (repeat' (first|refine qE ?_|refine aa7 ?_))
  refine aC (u:=vi x.2.2) rfl (fun w' hw=>(hat w' hw).get 2 rfl) ?_
  clear hat
  (repeat' (first|refine aa9 ?_|refine qE ?_))
  refine bV rb (fun w' hw=>hw.keep) rfl rfl (by omega) (by rw [Int.toNat_natCast];exact hx) fun b o cs hl hR hat=>?_
  obtain rfl:cs=rwC x:=hR
  (repeat' (first|refine qE ?_|refine aa7 ?_))
  refine aC (u:=vi x.2.2) rfl (fun w' hw=>(hat w' hw).get 2 rfl) ?_
  clear hat
  (repeat' (first|refine ax ?_|refine qE ?_|refine wz ?_|(refine eX rfl rfl (fun _=>?_) (fun _=>?_)<;>(first|(exfalso;omega)|skip))))
  intro w2 n2
  (repeat' (first|refine aa0 ?_|refine aa1 ?_|refine af ?_|refine ah ?_|refine ak ?_|refine Wc.skip ?_|refine aH ?_|refine aa4 ?_|refine aa8 ?_))
  exact aG (k+1) ⟨rfl,rfl,rfl,trivial⟩ ⟨by omega,New.trans n1 n2⟩ (by omega)
 ·exact aF rfl rfl ⟨_,rfl,rfl,n1⟩
end Go.Proofs.YtjecgaiaiophpaaGreatDoor
namespace Go.Proofs.YtjecgaiaiophpaaGreatDoor
open Go Wk
def uF:Nm:=[111,115,99]
def cell1:List UInt8:=[0,0,0,1]
def awT:List Nd:=[⟨-1,[],[]⟩,⟨0,uF,[⟨qw,[107,0]⟩,⟨uN,cell1⟩]⟩,⟨0,[97],[⟨qw,[107,0]⟩,⟨[99,108,111,99,107,115],cell1⟩]⟩]
def awC:List Cd:=[⟨[107],[102],1,[[107]],0,[], -1⟩]
def awE:Ed:=⟨2,some 1,1,false,0,[]⟩
theorem VS:oh awT=true:=by decide+kernel
theorem YU:rP awC=true:=by decide+kernel
theorem Iq {t:List Nd}: ∀(l:List Nat),(∀n∈l,ofM t n=some [])→uh t [] l=([],[])
 | [],_=>by rw [uh]
 |n::r,h=>by
  rw [uh,h n List.mem_cons_self]
  exact Iq r fun m hm=>h m (List.mem_cons_of_mem _ hm)
theorem Lc {cs:List Cd} {t:List Nd} (h: ∀n,n<t.length→ofM t n=some []):qC cs t=([],[]):=by
 unfold qC
 refine Iq _ fun n hn=>h n ?_
 unfold zT at hn
 rw [List.mem_mergeSort,List.mem_filter,List.mem_range] at hn
 exact hn.1
theorem VT {t:List Nd} {i:Nat} (h:WL t i=some []):ofM t i=some []:=by
 unfold ofM
 rw [h]
 simp [qV]
theorem Rch.less {W:Nat→List Nat} (h: ∀i k,k∈W i→k<i) {a b:Nat} (r:Rch W a b):b<a:=by
 induction r with
 |one h1=>exact h _ _ h1
 |more _ h1 ih=>exact Nat.lt_trans (h _ _ h1) ih
theorem Ec {W:Nat→List Nat} {order:List Nat} (h: ∀i, ¬Rch W i i): ∀(l seen:List Nat),sF W order seen l=[]
 | [],seen=>by rw [sF]
 |i::r,seen=>by rw [sF,if_pos (.inr (h i))];exact Ec h r seen
theorem NV {t:List Nd} (h: ∀i k,k∈pW t i→k<i):sQ t=[]:=Ec (fun i r=>Nat.lt_irrefl _ (Rch.less h r)) _ _
theorem NW {g:Giv} {i:Nat} (ho:onM g.tree i=true) (hc:qN g.tree i=true→qh g.cards g.tree i≠none) (hd:(qC g.cards g.tree).2=[]) (he: ∀e∈oz g.tree,e.dst≠none) (hr:sQ g.tree=[]) (hg:uj g i=none):firstM g i=(0, -1):=by
 unfold firstM
 dsimp only
 rw [if_neg (by rw [ho];decide),if_neg (fun e=>hc e.1 e.2),hd,hr]
 have h1:(if qN g.tree i=true then Ib [] i else none)=none:=by split<;>rfl
 have h2:(if qN g.tree i=true then Ic [] i else none)=none:=by split<;>rfl
 rw [h1,h2,hg]
 dsimp only
 rw [if_neg]
 rintro ⟨_,e,h3,_,_,h4⟩
 exact he e h3 h4
theorem Qk {g:Giv} (h:g.gone=[]) (i:Nat):uj g i=none:=by
 unfold uj
 rw [List.find?_eq_none,h]
 intro k _ e
 simp at e
theorem Ee:oz awT=[awE]:=by decide+kernel
theorem VU:qC awC awT=([],[]):=by
 refine Lc fun n hn=>VT ?_
 have:n=0∨n=1∨n=2:=by have:awT.length=3:=rfl;omega
 rcases this with rfl|rfl|rfl<;>decide+kernel
theorem XA:sQ awT=[]:=by
 refine NV fun i k hk=>?_
 unfold pW at hk
 rw [Ee] at hk
 rcases List.mem_append.1 hk with hk|hk
 ·split at hk
  ·rename_i h0
   rw [List.mem_singleton.1 hk]
   by_cases hi:i<awT.length
   ·exact (uK VS (by omega) hi).1
   ·have:par awT i=0:=by
     unfold par ndA
     rw [List.getD_eq_getElem?_getD,List.getElem?_eq_none (by omega)];rfl
    omega
  ·cases hk
 ·obtain ⟨e,he,h⟩:=List.mem_filterMap.1 hk
  rw [List.mem_singleton.1 he] at h
  split at h
  ·rename_i hc
   cases h
   rw [←hc.1];decide
  ·cases h
def awN:Nat→Bn:=fun i=>match i with
 |0=>⟨[47],false,0,0,none, -1,[]⟩
 |1=>⟨47::uF,true,1,0,some 0, -1,[0]⟩
 |2=>⟨[47,97],true,1,0,some 0, -1,[0,1]⟩
 |_=>default
theorem VW (fails:List Nm):nS ⟨awT,awC,fails,[]⟩=awN:=by
 funext i
 have hl:awT.length=3:=rfl
 have hf: ∀i,onM awT i=true→(qN awT i=true→qh awC awT i≠none)→firstM ⟨awT,awC,fails,[]⟩ i=(0, -1):=fun i h1 h2=>
  NW h1 h2 (by rw [VU]) (fun e he=>by rw [Ee] at he;rw [List.mem_singleton.1 he];decide) XA (Qk rfl i)
 match i with
 |0=>
  rw [AY (by show 0<3;omega)]
  unfold zV
  rw [hf 0 (by decide+kernel) (by decide+kernel)]
  have h1:qN awT 0=false:=by decide+kernel
  have h2:oO awT 0=[47]:=by decide+kernel
  have h3:AV awT 0=[]:=by unfold AV;rw [Ee];decide+kernel
  dsimp only
  rw [h1,h2,h3];rfl
 |1=>
  rw [AY (by show 1<3;omega)]
  unfold zV
  rw [hf 1 (by decide+kernel) (by decide+kernel)]
  have h1:qN awT 1=true:=by decide+kernel
  have h2:oO awT 1=47::uF:=by decide+kernel
  have h3:AV awT 1=[]:=by unfold AV;rw [Ee];decide+kernel
  have h4:qh awC awT 1=some 0:=by decide+kernel
  have h5:par awT 1=0:=by decide+kernel
  dsimp only
  rw [h1,h2,h3,h4,h5];rfl
 |2=>
  rw [AY (by show 2<3;omega)]
  unfold zV
  rw [hf 2 (by decide+kernel) (by decide+kernel)]
  have h1:qN awT 2=true:=by decide+kernel
  have h2:oO awT 2=[47,97]:=by decide+kernel
  have h3:AV awT 2=[1]:=by unfold AV;rw [Ee];decide+kernel
  have h4:qh awC awT 2=some 0:=by decide+kernel
  have h5:par awT 2=0:=by decide+kernel
  dsimp only
  rw [h1,h2,h3,h4,h5];rfl
 |n+3=>rw [VA (by show ¬n+3<3;omega)];rfl
theorem Rl:oV awN 3=[0,2,1]:=by
 have:(List.range 3).filter (fun i=>decide ((awN i).reason=0))=[0,1,2]:=by decide+kernel
 unfold oV
 rw [this]
 have h12:(!decide (qZ (fun i=>(awN i).level) (fun i=>(awN i).path) 2 1<0))=false:=by decide+kernel
 have h01:(!decide (qZ (fun i=>(awN i).level) (fun i=>(awN i).path) 1 0<0))=true:=by decide+kernel
 have h02:(!decide (qZ (fun i=>(awN i).level) (fun i=>(awN i).path) 2 0<0))=true:=by decide+kernel
 simp [List.mergeSort,List.MergeSort.Internal.splitInTwo,List.merge,List.splitAt,List.splitAt.go] at*
 simp [*]
section
variable {N:Nat→Bn} {fl fl':Nm→Bool} (h: ∀i,((N i).device&&fl (N i).path)=((N i).device&&fl' (N i).path))
include h
theorem VX (S:St) (i:Nat):qH N fl S i=qH N fl' S i:=by unfold qH;rw [h]
theorem Dh: ∀(l:List Nat) (S:St),oH N fl l S=oH N fl' l S
 | [],S=>by rw [oH,oH]
 |i::r,S=>by
  rw [rG,rG,VX h,Dh r S]
  cases qH N fl' S i with
  |none=>rfl
  |some S'=>dsimp only;rw [Dh r S']
theorem ER (order:List Nat): ∀(f:Nat) (S:St),doneGo N fl order f S=doneGo N fl' order f S
 |0,S=>by rw [doneGo,doneGo]
 |f+1,S=>by rw [vP,vP,Dh h,ER order f]
end
theorem XB {fl:Nm→Bool} (h:fl [47,97]=false) (h2:fl (47::uF)=false):(rowOf awN (sO awN fl 3).2 2).1=0:=by
 unfold sO
 rw [ER (fl':=fun _=>false),Rl]
 ·decide+kernel
 ·intro i
  match i with
  |0=>rfl
  |1=>exact h2
  |2=>exact h
  |n+3=>rfl
theorem XC {fl:Nm→Bool} (h:fl [47,97]=false) (h2:fl (47::uF)=true):(sO awN fl 3).1.length=2∧(rowOf awN (sO awN fl 3).2 1).1=7∧rowOf awN (sO awN fl 3).2 2=(8,some 0,1):=by
 unfold sO
 rw [ER (fl':=fun s=>decide (s=47::uF)),Rl]
 ·decide+kernel
 ·intro i
  match i with
  |0=>rfl
  |1=>exact h2
  |2=>exact h
  |n+3=>rfl
end Go.Proofs.YtjecgaiaiophpaaGreatDoor
