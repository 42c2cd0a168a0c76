/-
  Texts of this claim, one behind the other: C6, S8, Sz, Rf, Rg, Rn, Rs, Rh, D3, Ds, Ru, D4, D5, D6, D7, D8, S9, SA, SB, B8, BM, E1, E2, E3.
-/
import Derived.Test.YtjecgaiaiophpaaGreatDoorZc
import Derived.RangeFuncFrom
import Derived.RangeFuncLeaves
import Derived.CallsIn
import Derived.TacticsIn
import Derived.RangeFuncSeq
import Derived.RangeFuncNested
import Derived.OrdersIn
set_option linter.all false
set_option maxHeartbeats 16000000
set_option maxRecDepth 8000
namespace Go.Proofs.YtjecgaiaiophpaaGreatDoor
open Go Wk
open Go.RowKit (Below)
attribute [local irreducible] Go.Calls
abbrev tY (x:CQ):List Value:=vi x.1::pY x.2
theorem y7:qQ (flat tY) 4:=qU _ (fun _=>rfl) fun x c hc=>by simp [pY] at hc;rcases hc with rfl|rfl|rfl|rfl<;>rfl
abbrev Ai (x:Rfs):List Value:=[vi x.node,.int .u8 x.claim.kind,w64 x.claim.from_,w64 x.claim.upto,vi x.by_]
theorem yj:qQ (flat Ai) 5:=qU _ (fun _=>rfl) fun x c hc=>by simp at hc;rcases hc with rfl|rfl|rfl|rfl|rfl<;>rfl
theorem KN {w:World} {n y:Int} {k a b:Int}:(Instr.build 200 #[(0,vi n),(1,.agg #[.int .u8 k,.int .u64 a,.int .u64 b]),(2,vi y)]).run Tryz.prog w=.ok (.agg #[vi n,.int .u8 k,.int .u64 a,.int .u64 b,vi y]) w:=by
 kernel_rfl
theorem IW {w:World} {n:Int}:(Instr.build 200 #[(0,vi n),(2,vi (-1))]).run Tryz.prog w=.ok (.agg #[vi n,.int .u8 0,.int .u64 0,.int .u64 0,vi (-1)]) w:=by
 kernel_rfl
theorem KO {w:World} {n:Int} {k a b:Int}:(Instr.build 300 #[(0,vi n),(1,.agg #[.int .u8 k,.int .u64 a,.int .u64 b])]).run Tryz.prog w=.ok (.agg #[vi n,.int .u8 k,.int .u64 a,.int .u64 b]) w:=by
 kernel_rfl
theorem ES {Pb:Nat→Prop} {w:World} {v:Value} {l:List CQ} {p:CQ→Bool} {g:FuncId} {cap:Array Value} [hc:nK Tryz.prog g] (h:RdS (flat tY) 4 Pb w v l)
 (hf: ∀y w',y∈l→New w w'→Calls Tryz.prog g ([Value.agg (tY y).toArray]++cap.toList).toArray w' (Ret fun r w''=>r=.bool (p y)∧New w' w'')):
 Calls Tryz.prog 202 #[v,.func (.func g) #[] cap] w (Ret fun r w'=>r=vi (idx p l)∧New w w'):=by
 obtain ⟨a,cp,rfl,hc1,hc2⟩:=h.form
 simp only [maxLen] at hc2
 refine nI Tryz.func202 rfl Tryz.ntmps202 rfl ?_
 (repeat' (first|refine aa0 ?_|refine aa1 ?_|refine af ?_|refine pz ?_|refine ah ?_|refine au ?_|refine ak ?_|refine Wc.block ?_))
 refine aP (σ:=Nat) (fun i=>[(0,.slice a l.length cp),(1,.func (.func g) #[] cap),(7,vi l.length),(8,vi i)]) (fun i w'=>i≤l.length∧(∀x∈l.take i,p x=false)∧New w w') (fun i=>l.length-i) 0 ⟨rfl,rfl,rfl,rfl,trivial⟩ ⟨Nat.zero_le _,by simp,aQ _ _⟩ ?_
 rintro i G w1 ⟨hi,hall,n1⟩
 simp only [oU]
 (repeat' (first|refine aa0 ?_|refine aa1 ?_|refine af ?_|refine ah ?_|refine au ?_|refine ak ?_|refine Wc.block ?_|refine Wc.skip ?_|refine aJ ?_|refine aA ?_|refine aK ?_|refine aI ?_|refine aO ?_|refine aa3 ?_|refine aa4 ?_|refine oZ (fun _=>?_) (fun _=>?_)))
 ·obtain ⟨y,hy⟩:=nV l (k:=i) (by omega)
  refine dU h n1.keep rfl rfl (by omega) hy fun b o cs hl hR hat=>?_
  obtain rfl:cs=tY y:=hR
  refine bG hat rfl rfl ?_
  refine dA (dst:=some 16) rfl (hf y w1 (List.mem_of_getElem? hy) n1) rfl ?_
  rintro _ w2 ⟨rfl,n2⟩
  simp only [Am]
  cases hp:p y with
  |true=>
   (repeat' (first|refine aa0 ?_|refine aa1 ?_|refine af ?_|refine ah ?_|refine au ?_|refine ak ?_|refine aA ?_|refine aN ?_|refine aZ ?_|refine bD ?_|refine aa3 ?_))
   refine aF rfl rfl ⟨_,rfl,?_,New.trans n1 n2⟩
   rw [J6 hy hall hp];rfl
  |false=>
   (repeat' (first|refine aa0 ?_|refine af ?_|refine ah ?_|refine ak ?_|refine Wc.skip ?_|refine aH ?_|refine aa4 ?_|refine aa7 ?_))
   exact aG (i+1) ⟨rfl,rfl,rfl,rfl,trivial⟩ ⟨by omega,He hy hall hp,New.trans n1 n2⟩ (by omega)
 ·have e:i=l.length:=by omega
  subst e
  rw [List.take_length] at hall
  refine aF rfl rfl ⟨_,rfl,?_,n1⟩
  rw [DR hall];rfl
theorem OZ {w:World} {b:Nat} {c:Clm} {o:CQ} (h:Bk w b 198 (pY c)):
 Calls Tryz.prog 203 #[.agg (tY o).toArray,.pointer (some ⟨b,0,none⟩)] w (Ret fun r w'=>r=.bool (GZ o.2 c)∧New w w'):=by
 refine nI Tryz.func203 rfl Tryz.ntmps203 rfl ?_
 (repeat' (first|refine au ?_|refine ak ?_))
 refine bC rfl fun w1 b1 n1 s1=>?_
 replace b1:Bk w1 w.heap.size 300 (tY o):=b1
 replace h:=h.chg n1 fun e=>e
 (repeat' (first|refine aa1 ?_|refine af ?_|refine ah ?_|refine au ?_|refine ak ?_|refine aa5 ?_))
 refine bG (cs:=pY o.2) (o:=0+1) (fun i u hu=>b1.cell (o:=0+1+i) (by rw [show 0+1+i=i+1 by omega];exact hu)) rfl rfl ?_
 refine bM h rfl rfl ?_
 refine aB (RU (a:=o.2) (b:=c)) rfl ?_
 rintro _ w2 ⟨rfl,n2⟩
 (repeat' (first|refine aa1 ?_|refine af ?_|refine ah ?_|refine aA ?_))
 exact aF rfl rfl ⟨_,rfl,rfl,New.trans n1 n2⟩
theorem KP {w:World}:Calls Tryz.prog 200 #[.slice none 0 0] w (Ret fun r w'=>r=.slice none 0 0∧w=w'):=by
 refine nI Tryz.func200 rfl Tryz.ntmps200 rfl ?_
 (repeat' (first|refine aa0 ?_|refine aa1 ?_|refine af ?_|refine ah ?_|refine au ?_|refine ak ?_))
 refine iw rfl rfl ?_
 (repeat' (first|refine aa1 ?_|refine af ?_|refine ah ?_|refine au ?_|refine ak ?_|refine aA ?_|refine aN ?_|refine aa3 ?_))
 exact aF rfl rfl ⟨_,rfl,rfl,rfl⟩
theorem Va {out:List CQ} {l:List Clm} {k:Nat} {c:Clm} (h:l[k]? =some c):J4 out (l.drop k)=match out.find? fun o=>GZ o.2 c with
 |some o=>some (c,o.1)
 |none=>J4 out (l.drop (k+1)):=by rw [drop_cons h,J4];rfl
theorem Xi {α:Type} {p:α→Bool} {l:List α} (h:l.find? p=none):idx p l= -1:=by
 refine DR fun x hx=>?_
 have:=List.find?_eq_none.1 h x hx
 simpa using this
theorem Vb {α:Type} {p:α→Bool} {l:List α} {y:α} (h:l.find? p=some y): ∃i:Nat,idx p l=(i:Int)∧l[i]? =some y:=by
 have hf:=DT (p:=p) l
 unfold idx
 cases hi:l.findIdx? p with
 |none=>rw [hi] at hf;dsimp only at hf;rw [hf] at h;cases h
 |some i=>
  rw [hi] at hf
  obtain ⟨z,h1,h2⟩:=hf
  rw [h] at h2;cases h2
  exact ⟨i,rfl,h1⟩
theorem Xj {t:List Nd} {i:Nat} {l:List Clm} (h:ofM t i=some l):l.length≤64:=by
 unfold ofM at h
 split at h
 ·cases h
 ·dsimp only at h
  split at h
  ·rename_i hc;cases h;exact hc
  ·cases h
def Vd (w w':World) (r:Value) (q:List CQ×List Rfs):Prop:= ∃v u,r=.tuple #[v,u]∧nO (flat tY) 300 4 (fun b=>w.heap.size≤b) NoB w' v q.1∧nO (flat Ai) 200 5 (fun b=>w.heap.size≤b) NoB w' u q.2
theorem O0 {t:List Nd} {out:List CQ} {ns:List Nat} {k n:Nat} (h:ns[k]? =some n):uj t out (ns.drop k)=match ofM t n with
 |none=>let q:=uj t out (ns.drop (k+1));(q.1,⟨n,⟨0,0,0⟩, -1⟩::q.2)
 |some l=>match J4 out l with
  |some (c,b)=>let q:=uj t out (ns.drop (k+1));(q.1,⟨n,c,b⟩::q.2)
  |none=>uj t (out++l.map fun c=>(n,c)) (ns.drop (k+1)):=by rw [drop_cons h,uj];rfl
theorem SG {Pb Pn:Nat→Prop} {w:World} {v vn:Value} {l:List Nd} {ns:List Nat} (h:RdS rNd 3 Pb w v l) (hok:oG l=true) (hn:RdS (Wk.one viN) 1 Pn w vn ns) (hns: ∀n∈ns,n<l.length) (hnl:ns.length≤512):
 Calls Tryz.prog 152 #[v,.slice none 0 0,vn] w (Ret fun r w'=>Vd w w' r (uj l [] ns)∧New w w'):=by
 obtain ⟨a,cap,rfl,hc1,hc2⟩:=h.form
 obtain ⟨na,nc,rfl,hd1,hd2⟩:=hn.form
 have hlen:=oP hok
 refine nI Tryz.func152 rfl Tryz.ntmps152 rfl ?_
 (repeat' (first|refine aa0 ?_|refine aa1 ?_|refine af ?_|refine ah ?_|refine au ?_|refine ak ?_))
 refine aB KP rfl ?_
 rintro _ _ ⟨rfl,rfl⟩
 (repeat' (first|refine aa0 ?_|refine aa1 ?_|refine af ?_|refine pz ?_|refine ah ?_|refine au ?_|refine ak ?_|refine Wc.block ?_))
 refine aP (σ:=Nat×(Value×List CQ)×(Value×List Rfs)) (fun q=>[(0,.slice a l.length cap),(8,q.2.1.1),(9,q.2.2.1),(22,.slice na ns.length nc),(23,vi ns.length),(24,vi q.1)])
  (fun q W=>q.1≤ns.length∧q.2.1.2.length≤64*q.1∧q.2.2.2.length≤q.1∧uj l [] ns=((uj l q.2.1.2 (ns.drop q.1)).1,q.2.2.2++(uj l q.2.1.2 (ns.drop q.1)).2)∧nO (flat tY) 300 4 (fun b=>w.heap.size≤b) NoB W q.2.1.1 q.2.1.2∧nO (flat Ai) 200 5 (fun b=>w.heap.size≤b) NoB W q.2.2.1 q.2.2.2∧Sep q.2.1.1 q.2.2.1∧New w W) (fun q=>ns.length-q.1)
  (0,(.slice none 0 0,[]),(.slice none 0 0,[])) ⟨rfl,rfl,rfl,rfl,rfl,rfl,trivial⟩ ⟨Nat.zero_le _,by simp,by simp,by simp,bF,bF,(fun k e=>by cases e),aQ _ _⟩ ?_
 rintro ⟨k,⟨vo,out⟩,⟨vr,rf⟩⟩ G W ⟨hk,hol,hrl,hG,own,CX,sep,nW⟩
 dsimp only at hk hol hrl hG own CX sep nW
 simp only [oU]
 obtain ⟨oa,oc,rfl,_,_⟩:=own.form
 obtain ⟨ra,rc,rfl,_,_⟩:=CX.form
 have hzW:=nW.size
 (repeat' (first|refine aa0 ?_|refine aa1 ?_|refine af ?_|refine ah ?_|refine au ?_|refine ak ?_|refine Wc.block ?_|refine Wc.skip ?_|refine aJ ?_|refine aA ?_|refine aK ?_|refine aI ?_|refine aO ?_|refine aa3 ?_|refine aa4 ?_|refine oZ (fun _=>?_) (fun _=>?_)))
 ·obtain ⟨n,hx⟩:=nV ns (k:=k) (by omega)
  have afb:=hns n (List.mem_of_getElem? hx)
  refine bI (hn.keep (nS _) nW.keep) rfl rfl (by omega) hx fun b o hcell=>?_
  refine ay (u:=vi n) rfl hcell ?_
  (repeat' (first|refine aa0 ?_|refine aa1 ?_|refine af ?_|refine ah ?_|refine au ?_|refine ak ?_))
  refine aB (Xc (i:=n) (h.keep oz nW.keep) hok afb) rfl ?_
  rintro _ w1 ⟨⟨vl,e,rfl,hof⟩,n1⟩
  have n01:=New.trans nW n1
  have yJ:=own.new (nH tY) n1
  have XM:=CX.new (nH Ai) n1
  rw [O0 hx] at hG
  cases hom:ofM l n with
  |none=>
   rw [hom] at hof hG
   dsimp only at hof hG
   (repeat' (first|refine aa0 ?_|refine aa1 ?_|refine af ?_|refine pG ?_|refine ah ?_|refine au ?_|refine ak ?_|refine aa3 ?_|(refine qf (fun _=>?_) (fun _=>?_)<;>(first|(exfalso;omega)|skip))))
   refine fK (ps:=[(0,.tmp 37),(2,.const (vi (-1)))]) (parts:=[(0,vi n),(2,vi (-1))]) rfl IW ?_
   refine dw (R:=flat Ai) (y:=⟨n,⟨0,0,0⟩, -1⟩) yj XM rfl rfl rfl rfl rfl (by omega) (by omega) (by simp only [maxLen];omega) (by omega) rfl rfl fun v2 w2 p rU c2 lie=>?_
   have hz1:=n1.size
   (repeat' (first|refine aa0 ?_|refine aa1 ?_|refine af ?_|refine ah ?_|refine ak ?_|refine aJ ?_|refine aK ?_|refine aI ?_|refine aa7 ?_))
   refine aG (k+1,(.slice oa out.length oc,out),(v2,rf++ [⟨n,⟨0,0,0⟩, -1⟩])) ⟨rfl,rfl,rfl,rfl,rfl,rfl,trivial⟩ ⟨by dsimp only;omega,by dsimp only;omega,by simp;omega,?_,yJ.zD (nH tY) c2 sep,rU.mono yj.mo (fun b _ e=>by rcases e with e|e;exact e;omega) (fun _ _ e=>e),Az yJ sep lie,Chg.trans n01 c2 fun b hb e=>by have:=(CX.lt e).1;omega⟩ (by dsimp only;omega)
   dsimp only
   rw [hG];simp
  |some cl=>
   rw [hom] at hof hG
   obtain ⟨rfl,Xk⟩:=hof
   dsimp only at hG
   have hcl:=Xj hom
   obtain ⟨ca,cc,rfl,_,_⟩:=Xk.form
   have hz1:=n1.size
   (repeat' (first|refine aa0 ?_|refine aa1 ?_|refine af ?_|refine pG ?_|refine pz ?_|refine ah ?_|refine au ?_|refine ak ?_|refine Wc.block ?_|refine Wc.skip ?_|refine aa4 ?_|(refine qf (fun _=>?_) (fun _=>?_)<;>(first|(exfalso;omega)|skip))))
   refine aP (σ:=Nat) (fun j=>[(0,.slice a l.length cap),(8,.slice oa out.length oc),(9,.slice ra rf.length rc),(11,vi n),(12,.slice ca cl.length cc),(14,vi (-1)),(22,.slice na ns.length nc),(23,vi ns.length),(24,vi k),(41,.slice ca cl.length cc),(42,vi cl.length),(43,vi j)])
    (fun j W'=>j≤cl.length∧J4 out cl=J4 out (cl.drop j)∧New w1 W') (fun j=>cl.length-j) 0 ⟨rfl,rfl,rfl,rfl,rfl,rfl,rfl,rfl,rfl,rfl,rfl,rfl,trivial⟩ ⟨Nat.zero_le _,by simp,aQ _ _⟩ ?_
   rintro j G2 W2 ⟨hj,hH,n2⟩
   simp only [oU]
   have rU:=yJ.new (nH tY) n2
   have XO:=XM.new (nH Ai) n2
   have Ve:=Xk.new (nH pY) n2
   have n02:=New.trans n01 n2
   have hz2:=n2.size
   (repeat' (first|refine aa0 ?_|refine af ?_|refine pz ?_|refine ah ?_|refine au ?_|refine ak ?_|refine Wc.block ?_|refine Wc.skip ?_|refine aJ ?_|refine aK ?_|refine aI ?_|refine aO ?_|refine aa3 ?_|refine aa4 ?_|refine oZ (fun _=>?_) (fun _=>?_)|(refine bZ rfl rfl (fun _=>?_) (fun _=>?_)<;>(first|(exfalso;omega)|skip))))
   ·obtain ⟨c,hc⟩:=nV cl (k:=j) (by omega)
    refine aU (Ve.rd uz.mo) rfl rfl (by omega) hc fun b o cs hl hR hat=>?_
    obtain rfl:cs=pY c:=hR
    refine bG hat rfl rfl ?_
    clear hat
    refine Wl.alloc fun w3 b3 n3 s3=>?_
    (repeat' (refine aa1 ?_))
    refine aX (new:=pY c) b3 rfl rfl rfl rfl (show (3:Nat)≤3 from Nat.le_refl 3) (UX c) fun w4 b4 c4 s4=>?_
    replace b4:Bk w4 W2.heap.size 198 (pY c):=b4
    have n24:New W2 w4:=(Chg.trans n3.any c4 fun _ _ e=>e).toNew fun k hk e=>by omega
    (repeat' (first|refine aa0 ?_|refine af ?_|refine ah ?_|refine au ?_|refine ak ?_))
    refine dH (f1:=[]) (c1:=[.pointer (some ⟨W2.heap.size,0,none⟩)]) rfl rfl ?_
    refine aB (ES (p:=fun o=>GZ o.2 c) (g:=203) (cap:= #[.pointer (some ⟨W2.heap.size,0,none⟩)]) ((rU.new (nH tY) n24).rd y7.mo) (fun y w' _ hw=>OZ (b4.chg hw fun e=>e))) rfl ?_
    rintro _ w5 ⟨rfl,n5⟩
    have n25:=New.trans n24 n5
    rw [Va hc] at hH
    cases hfd:out.find? fun o=>GZ o.2 c with
    |none=>
     rw [hfd] at hH
     rw [Xi hfd]
     (repeat' (first|refine aa0 ?_|refine aa1 ?_|refine af ?_|refine ah ?_|refine au ?_|refine ak ?_|refine Wc.skip ?_|refine aH ?_|refine aa4 ?_|refine aa7 ?_|(refine bZ rfl rfl (fun _=>?_) (fun _=>?_)<;>(first|(exfalso;omega)|skip))))
     exact aG (j+1) ⟨rfl,rfl,rfl,rfl,rfl,rfl,rfl,rfl,rfl,rfl,rfl,rfl,trivial⟩ ⟨by omega,hH,New.trans n2 n25⟩ (by omega)
    |some y=>
     rw [hfd] at hH
     obtain ⟨m,e1,e2⟩:=Vb hfd
     rw [e1]
     dsimp only at hH
     rw [hH] at hG
     dsimp only at hG
     have BL:=rU.new (nH tY) n25
     have aaj:=XO.new (nH Ai) n25
     have XP:=Ve.new (nH pY) n25
     have n05:=New.trans n02 n25
     have hml:=(List.getElem?_eq_some_iff.1 e2).1
     have hz5:=n25.size
     (repeat' (first|refine aa0 ?_|refine aa1 ?_|refine af ?_|refine ah ?_|refine au ?_|refine ak ?_|refine aJ ?_|refine aK ?_|refine aI ?_|refine je rfl ?_|refine aO ?_|refine aa3 ?_|(refine bZ rfl rfl (fun _=>?_) (fun _=>?_)<;>(first|(exfalso;omega)|skip))))
     refine bQ rfl (by kernel_rfl) (fun w'=>Chg (fun b=>(Value.slice ra rf.length rc).ownBlock=some b) w5 w') (Chg.drew _ _) ?_
     intro w6 n6
     have hkc: ∀w',Chg (fun b=>(Value.slice ra rf.length rc).ownBlock=some b) w5 w'→nO (flat pY) 198 3 (fun b=>W.heap.size≤b) NoB w' (.slice ca cl.length cc) cl:=fun w' hw=>XP.chg (nH pY) hw fun b hb e=>by
      have h1:=(Xk.lt hb).1
      have h2:=(CX.lt e).2
      omega
     have hko: ∀w',Chg (fun b=>(Value.slice ra rf.length rc).ownBlock=some b) w5 w'→nO (flat tY) 300 4 (fun b=>w.heap.size≤b) NoB w' (.slice oa out.length oc) out:=fun w' hw=>BL.zD (nH tY) hw sep
     (repeat' (refine aa2 (aa9 (ax ?_))))
     refine aa2 (cO (w:=w5) (XP.rd uz.mo) (fun w' hw=>hw.keep fun b hb h1 e=>?_) rfl rfl (by omega) (by rw [Int.toNat_natCast];exact hc) fun b o cs hl hR hat=>ax ?_)
     ·rcases h1 with h1|h1
      ·have h2:=(CX.lt e).2;omega
      ·exact h1
     obtain rfl:cs=pY c:=hR
     skip
     refine aa2 (bY hat rfl rfl (ax ?_))
     clear hat
     (repeat' (refine aa2 (aa9 (ax ?_))))
     refine aa2 (cO (w:=w5) ((BL.BN (Pb':=fun b=>(Value.slice oa out.length oc).ownBlock=some b) fun b hb _=>hb).rd y7.mo) (fun w' hw=>hw.keep fun b hb h1 e=>?_) rfl rfl (by omega) (by rw [Int.toNat_natCast];exact e2) fun b o cs hl hR hat=>ax ?_)
     ·rcases h1 with h1|h1
      ·exact sep b h1 e
      ·exact h1
     obtain rfl:cs=tY y:=hR
     (repeat' (refine aa2 (aa8 (ax ?_))))
     refine aa2 (aC (u:=vi y.1) rfl (fun w' hw=>(hat w' hw).get 0 rfl) (ax ?_))
     clear hat
     refine aT rfl (fK (ps:=[(0,.tmp 58),(1,.tmp 62),(2,.tmp 67)]) (parts:=[(0,vi n),(1,.agg (pY c).toArray),(2,vi y.1)]) rfl KN (af ⟨rfl,n6.any,?_⟩))
     refine aT rfl (bT (R:=flat Ai) (y:=⟨n,c,y.1⟩) (Pe:=NoB) yj rfl rfl rfl rfl (by omega) (by omega) fun vt w7 ot n7 s7 MO=>?_)
     have n67:=New.trans n6 n7
     refine af ⟨rfl,n67.any,?_⟩
     refine aT rfl (bU yj (aaj.new (nH Ai) n67) (ot.rd yj.mo) (fun y cs hy=>hy) rfl rfl (by omega) (by simp only [maxLen,List.length_singleton];omega) (by simp only [List.length_singleton];omega) fun v8 w8 o8 c8 lie _=>?_)
     have c58:=Chg.trans n67.any c8 fun _ _ e=>e
     refine af ⟨rfl,c58,?_⟩
     (repeat' (first|refine dh ?_|refine aa2 (dI (by conv=>{lhs;whnf}) (ax ?_))))
     (repeat' (first|refine aa0 ?_|refine af ?_|refine ah ?_|refine ak ?_|refine aJ ?_|refine aK ?_|refine aI ?_|refine aa7 ?_))
     have hz7:=n67.size
     refine aG (k+1,(.slice oa out.length oc,out),(v8,rf++ [⟨n,c,y.1⟩])) ⟨rfl,rfl,rfl,rfl,rfl,rfl,trivial⟩ ⟨by dsimp only;omega,by dsimp only;omega,by simp;omega,?_,hko w8 c58,o8.mono yj.mo (fun b _ e=>by rcases e with e|e;exact e;omega) (fun _ _ e=>e),Az (BL.new (nH tY) n67) sep lie,Chg.trans n05 c58 fun b hb e=>by have:=(CX.lt e).1;omega⟩ (by dsimp only;omega)
     dsimp only
     rw [hG];simp
   ·obtain rfl:j=cl.length:=by omega
    rw [List.drop_length] at hH
    have hH:J4 out cl=none:=hH
    rw [hH] at hG
    dsimp only at hG
    have XQ: ∀b,(Value.slice ca cl.length cc).ownBlock=some b→W.heap.size≤b∧b<w1.heap.size:=fun b hb=>Xk.lt hb
    have Ah:nO (flat tY) 300 4 (fun b=>w.heap.size≤b∧(Value.slice ca cl.length cc).ownBlock≠some b∧(Value.slice ra rf.length rc).ownBlock≠some b) NoB W2 (.slice oa out.length oc) out:=rU.BN fun b hb e=>⟨e,fun e2=>by have:=(XQ b e2).1;have:=(own.lt hb).2;omega,sep b hb⟩
    have aak:nO (flat pY) 198 3 (fun b=>(Value.slice ca cl.length cc).ownBlock=some b) NoB W2 (.slice ca cl.length cc) cl:=Ve.BN fun b hb _=>hb
    skip
    refine aP (σ:=Nat×Value×List CQ) (fun q=>[(0,.slice a l.length cap),(8,q.2.1),(9,.slice ra rf.length rc),(11,vi n),(22,.slice na ns.length nc),(23,vi ns.length),(24,vi k),(71,.slice ca cl.length cc),(72,vi cl.length),(73,vi q.1)])
     (fun q W'=>q.1≤cl.length∧q.2.2=out++(cl.take q.1).map (fun c=>(n,c))∧nO (flat tY) 300 4 (fun b=>w.heap.size≤b∧(Value.slice ca cl.length cc).ownBlock≠some b∧(Value.slice ra rf.length rc).ownBlock≠some b) NoB W' q.2.1 q.2.2∧nO (flat pY) 198 3 (fun b=>(Value.slice ca cl.length cc).ownBlock=some b) NoB W' (.slice ca cl.length cc) cl∧nO (flat Ai) 200 5 (fun b=>w.heap.size≤b) NoB W' (.slice ra rf.length rc) rf∧New w W'∧w1.heap.size≤W'.heap.size) (fun q=>cl.length-q.1) (0,.slice oa out.length oc,out) ⟨rfl,rfl,rfl,rfl,rfl,rfl,rfl,rfl,rfl,rfl,trivial⟩
     ⟨Nat.zero_le _,by simp,Ah,aak,XO,n02,hz2⟩ ?_
    rintro ⟨j,vo3,Vf⟩ G3 W3 ⟨hj,ho3,wS,oc3,or3,n3,hz3⟩
    dsimp only at hj ho3 wS oc3 or3 n3 hz3
    simp only [oU]
    obtain ⟨pa,pc,rfl,_,_⟩:=wS.form
    (repeat' (first|refine aa0 ?_|refine af ?_|refine ah ?_|refine au ?_|refine ak ?_|refine Wc.block ?_|refine Wc.skip ?_|refine aJ ?_|refine aK ?_|refine aH ?_|refine aI ?_|refine aO ?_|refine aa3 ?_|refine aa4 ?_|refine aa7 ?_|refine oZ (fun _=>?_) (fun _=>?_)))
    ·obtain ⟨c,hc⟩:=nV cl (k:=j) (by omega)
     have afc:Vf.length=out.length+j:=by rw [ho3];simp;omega
     refine aU (oc3.rd uz.mo) rfl rfl (by omega) hc fun b o cs hl hR hat=>?_
     obtain rfl:cs=pY c:=hR
     refine bG hat rfl rfl ?_
     clear hat
     refine Wl.alloc fun w4 b4 n4 s4=>?_
     refine aX (new:=pY c) b4 rfl rfl rfl rfl (show (3:Nat)≤3 from Nat.le_refl 3) (UX c) fun w5 b5 c5 s5=>?_
     replace b5:Bk w5 W3.heap.size 198 (pY c):=b5
     have n35:New W3 w5:=(Chg.trans n4.any c5 fun _ _ e=>e).toNew fun k hk e=>by omega
     (repeat' (first|refine aa0 ?_|refine af ?_|refine ah ?_|refine ak ?_))
     refine bM b5 rfl rfl ?_
     refine fK (ps:=[(0,.tmp 78),(1,.tmp 79)]) (parts:=[(0,vi n),(1,.agg (pY c).toArray)]) rfl KO ?_
     refine dw (R:=flat tY) (y:=(n,c)) y7 (wS.new (nH tY) n35) rfl rfl rfl rfl rfl (by omega) (by omega) (by simp only [maxLen];omega) (by omega) rfl rfl fun v6 w6 p Sv c6 lie=>?_
     (repeat' (first|refine aa0 ?_|refine aa1 ?_|refine af ?_|refine ah ?_|refine ak ?_|refine aH ?_|refine aa7 ?_))
     have afd:=n35.size
     have hz6:=c6.size
     refine aG (j+1,v6,Vf++ [(n,c)]) ⟨rfl,rfl,rfl,rfl,rfl,rfl,rfl,rfl,rfl,rfl,trivial⟩ ⟨by dsimp only;omega,?_,Sv.mono y7.mo (fun b _ e=>?_) (fun _ _ e=>e),(oc3.new (nH pY) n35).chg (nH pY) c6 fun b hb e=>(wS.lt e).1.2.1 hb,(or3.new (nH Ai) n35).chg (nH Ai) c6 fun b hb e=>(wS.lt e).1.2.2 hb,Chg.trans (New.trans n3 n35) c6 fun b hb e=>by have:=(wS.lt e).1.1;omega,by omega⟩ (by dsimp only;omega)
     ·dsimp only
      rw [ho3,take_snoc hc];simp
     ·rcases e with e|e
      ·exact e
      ·have:=n3.size
       exact ⟨by omega,fun e2=>by have:=(XQ b e2).2;omega,fun e2=>by have:=(CX.lt e2).2;omega⟩
    ·obtain rfl:j=cl.length:=by omega
     rw [List.take_length] at ho3
     have afc:Vf.length=out.length+cl.length:=by rw [ho3];simp
     refine aG (k+1,(.slice pa Vf.length pc,Vf),(.slice ra rf.length rc,rf)) ⟨rfl,rfl,rfl,rfl,rfl,rfl,trivial⟩ ⟨by dsimp only;omega,by dsimp only;omega,by dsimp only;omega,?_,wS.mono y7.mo (fun b _ e=>e.1) (fun _ _ e=>e),or3,fun b hb=>(wS.lt hb).1.2.2,n3⟩ (by dsimp only;omega)
     dsimp only
     rw [hG,ho3]
 ·obtain rfl:k=ns.length:=by omega
  rw [List.drop_length] at hG
  simp only [uj,List.append_nil] at hG
  rw [hG]
  exact aS rfl rfl rfl ⟨_,rfl,⟨_,_,rfl,own,CX⟩,nW⟩
def Xl (w w':World) (r:Value) (q:List CQ×List Rfs):Prop:= ∃v u,r=.tuple #[v,u,vi 0]∧nO (flat tY) 300 4 (fun b=>w.heap.size≤b) NoB w' v q.1∧nO (flat Ai) 200 5 (fun b=>w.heap.size≤b) NoB w' u q.2
theorem Nu {cs:List Cd} {t:List Nd}: ∀n∈DK cs t,n<t.length:=by
 intro n hn
 unfold DK at hn
 rw [List.mem_mergeSort,List.mem_filter,List.mem_range] at hn
 exact hn.1
theorem JD (cs:List Cd) (t:List Nd):(DK cs t).length≤t.length:=by
 unfold DK
 rw [List.length_mergeSort]
 have:=List.length_filter_le (fun i=>onM t i&&(qP cs t i).isSome) (List.range t.length)
 rwa [List.length_range] at this
theorem Nv {Pb Pt:Nat→Prop} {w:World} {v u:Value} {cs:List Cd} {t:List Nd} (h:RdS rCd 7 Pb w v cs) (ht:RdS rNd 3 Pt w u t) (hc:uw cs=true) (hok:oG t=true):
 Calls Tryz.prog 99 #[v,u] w (Ret fun r w'=>Xl w w' r (qM cs t)∧New w w'):=by
 have hlen:=oP hok
 refine nI Tryz.func99 rfl Tryz.ntmps99 rfl ?_
 (repeat' (first|refine aa0 ?_|refine aa1 ?_|refine af ?_|refine ah ?_|refine au ?_|refine ak ?_))
 refine aB (SC h ht hc hok) rfl ?_
 rintro _ w1 ⟨⟨q,rfl,own⟩,n1⟩
 (repeat' (first|refine aa0 ?_|refine aa1 ?_|refine af ?_|refine pG ?_|refine ah ?_|refine au ?_|refine ak ?_|refine Wc.skip ?_|refine aa4 ?_|(refine qf (fun _=>?_) (fun _=>?_)<;>(first|(exfalso;omega)|skip))))
 refine aB (SG (ht.keep oz n1.keep) hok (own.rd (nU _)) Nu (by have:=JD cs t;omega)) rfl ?_
 rintro _ w2 ⟨⟨va,vb,rfl,o1,o2⟩,n2⟩
 (repeat' (first|refine aa0 ?_|refine aa1 ?_|refine af ?_|refine pG ?_|refine ah ?_|refine au ?_|refine ak ?_|refine aA ?_))
 have hz:=n1.size
 exact dn rfl rfl rfl rfl ⟨_,rfl,⟨_,_,rfl,o1.mono y7.mo (fun b _ e=>by omega) (fun _ _ e=>e),o2.mono yj.mo (fun b _ e=>by omega) (fun _ _ e=>e)⟩,New.trans n1 n2⟩
end Go.Proofs.YtjecgaiaiophpaaGreatDoor
namespace Go.Proofs.YtjecgaiaiophpaaGreatDoor
open Go Wk Sy
open Go.RowKit (Below)
attribute [local irreducible] Go.Calls
theorem SH {α:Type} (p:α→Bool) (l:List α):(idx p l= -1∧ ∀x∈l,p x=false)∨ ∃i y,idx p l=(i:Nat)∧l[i]? =some y∧p y=true∧ ∀x∈l.take i,p x=false:=by
 unfold idx
 cases hx:l.findIdx? p with
 |none=>exact .inl ⟨rfl,List.findIdx?_eq_none_iff.1 hx⟩
 |some i=>
  obtain ⟨hlt,hp,hb⟩:=List.findIdx?_eq_some_iff_getElem.1 hx
  refine .inr ⟨i,l[i],rfl,List.getElem?_eq_getElem hlt,hp,fun x hx=>?_⟩
  obtain ⟨j,hj⟩:=List.mem_iff_getElem?.1 hx
  rw [List.getElem?_take] at hj
  split at hj
  ·rename_i hji
   have h2:=hb j hji
   obtain ⟨h3,rfl⟩:=List.getElem?_eq_some_iff.1 hj
   simpa using h2
  ·cases hj
theorem aal {Pb:Nat→Prop} {w:World} {v:Value} {es:List Ed} (h:RdS rEd 6 Pb w v es): ∃D:List SE,D.map (·.1.1)=es∧D.map (·.2)=List.range es.length∧RdS (flat seC) 6 Pb w v D∧ ∀x∈D,RdS (Wk.one zM) 1 Pb w (svV x.1.2) x.1.1.args:=by
 rcases h with ⟨rfl,rfl⟩|⟨a,cap,rfl,rfl,hc⟩|⟨b,off,cap,cur,e,fr,rfl,hb,hh,h1,h2,h3,h4⟩
 ·exact ⟨[],rfl,rfl,.inl ⟨rfl,rfl⟩,by simp⟩
 ·exact ⟨[],rfl,rfl,.inr (.inl ⟨a,cap,rfl,rfl,hc⟩),by simp⟩
 ·have hx: ∀i:Nat, ∃s:SV, ∀x,es[i]? =some x→(cur.toList.drop (off+i*6)).take 6=edC x (svV s)∧RdS (Wk.one zM) 1 Pb w (svV s) x.args:=fun i=>by
   cases hi:es[i]? with
   |none=>exact ⟨(none,0,0),fun x e=>by cases e⟩
   |some x=>
    obtain ⟨u,hu,hr⟩:=h4 i x hi
    obtain ⟨a,c,rfl,_,_⟩:=hr.form
    exact ⟨(a,x.args.length,c),fun y e=>by cases e;exact ⟨hu,hr⟩⟩
  obtain ⟨s,hs⟩:=Classical.axiomOfChoice hx
  refine ⟨es.zipIdx.map fun p=>((p.1,s p.2),p.2),?_,?_,.inr (.inr ⟨b,off,cap,cur,e,fr,by simp,hb,hh,by simpa using h1,h2,by simpa using h3,?_⟩),?_⟩
  ·rw [List.map_map]
   exact List.zipIdx_map_fst 0 es
  ·rw [List.map_map]
   show es.zipIdx.map (fun p=>p.2)=_
   rw [List.zipIdx_map_snd,List.range_eq_range']
  ·intro i x hx'
   rw [List.getElem?_map,List.getElem?_zipIdx] at hx'
   cases hi:es[i]? with
   |none=>rw [hi] at hx';cases hx'
   |some y=>
    rw [hi] at hx'
    simp only [Option.map_some,Nat.zero_add] at hx'
    cases hx'
    exact (hs i y hi).1
  ·intro x hx'
   obtain ⟨⟨y,i⟩,hm,rfl⟩:=List.mem_map.1 hx'
   rw [List.mem_zipIdx_iff_getElem?] at hm
   exact (hs i y hm).2
theorem XR {Pb Pe:Nat→Prop} {w:World} {v:Value} {D:List SE} (h:RdS (flat seC) 6 Pb w v D) (hP: ∀b,Pb b→Pe b) (ha: ∀x∈D,RdS (Wk.one zM) 1 Pe w (svV x.1.2) x.1.1.args):RdS rEd 6 Pe w v (D.map (·.1.1)):=by
 rcases h with ⟨rfl,rfl⟩|⟨a,cap,rfl,rfl,hc⟩|⟨b,off,cap,cur,e,fr,rfl,hb,hh,h1,h2,h3,h4⟩
 ·exact .inl ⟨rfl,rfl⟩
 ·exact .inr (.inl ⟨a,cap,rfl,rfl,hc⟩)
 ·refine .inr (.inr ⟨b,off,cap,cur,e,fr,by simp,hP b hb,hh,by simpa using h1,h2,by simpa using h3,fun i x hx=>?_⟩)
  rw [List.getElem?_map] at hx
  obtain ⟨y,hy,rfl⟩:=Option.map_eq_some_iff.1 hx
  exact ⟨_,h4 i y hy,ha y (List.mem_of_getElem? hy)⟩
theorem Nw {Pb:Nat→Prop} {w:World} {v:Value} {l:List SE} (h:RdS (flat seC) 6 Pb w v l) (hl:l.length≤20000000):
 Calls Tryz.prog 135 #[v] w (Ret fun r w'=>rD (fun b=>w.heap.size≤b) w' r l∧New w w'):=by
 obtain ⟨a,cap,rfl,hc1,hc2⟩:=h.form
 refine nI Tryz.func135 rfl Tryz.ntmps135 rfl ?_
 (repeat' (first|refine aa0 ?_|refine aa1 ?_|refine af ?_|refine ah ?_|refine au ?_|refine ak ?_))
 refine iw rfl rfl ?_
 cases a with
 |none=>
  have e:l=[]:=by
   rcases h with ⟨_,rfl⟩|⟨_,_,e,_⟩|⟨_,_,_,_,_,_,e,_⟩
   ·rfl
   ·cases e
   ·cases e
  subst e
  (repeat' (first|refine aa1 ?_|refine af ?_|refine ah ?_|refine au ?_|refine ak ?_|refine aA ?_|refine aN ?_|refine aa3 ?_))
  exact aF rfl rfl ⟨_,rfl,bF,aQ _ _⟩
 |some a=>
  (repeat' (first|refine af ?_|refine ah ?_|refine au ?_|refine ak ?_|refine Wc.skip ?_|refine aa4 ?_))
  refine gY (R:=flat seC) (Pe:=NoB) fun v1 w1 o1 n1=>?_
  (repeat' (refine aa0 ?_))
  refine bU OW o1 (h.keep (nY seC) n1.keep) (fun y cs hy=>hy) rfl rfl (by omega) (by simp only [maxLen,List.length_nil];omega) (by simp only [List.length_nil];omega) fun v2 w2 o2 c2 lie _=>?_
  (repeat' (first|refine aa1 ?_|refine af ?_|refine ah ?_|refine aA ?_))
  refine aF rfl rfl ⟨_,rfl,?_,Chg.trans n1 c2 fun k hk e=>by have:=(o1.lt e).1;omega⟩
  have hs:=n1.size
  exact o2.mono (nP seC) (fun b _ hb=>by rcases hb with hb|hb;exact hb;omega) (fun _ _ e=>e)
theorem F6 {Pb:Nat→Prop} {w:World} {v:Value} {l:List SE} {p:SE→Bool} {g:FuncId} {cap:Array Value} [hc:nK Tryz.prog g] (h:RdS (flat seC) 6 Pb w v l)
 (hf: ∀y w',y∈l→New w w'→Calls Tryz.prog g ([Value.agg (seC y).toArray]++cap.toList).toArray w' (Ret fun r w''=>r=.bool (p y)∧New w' w'')):
 Calls Tryz.prog 189 #[v,.func (.func g) #[] cap] w (Ret fun r w'=>r=vi (idx p l)∧New w w'):=by
 obtain ⟨a,cp,rfl,hc1,hc2⟩:=h.form
 simp only [maxLen] at hc2
 refine nI Tryz.func189 rfl Tryz.ntmps189 rfl ?_
 (repeat' (first|refine aa0 ?_|refine aa1 ?_|refine af ?_|refine pz ?_|refine ah ?_|refine au ?_|refine ak ?_|refine Wc.block ?_))
 refine aP (σ:=Nat) (fun i=>[(0,.slice a l.length cp),(1,.func (.func g) #[] cap),(7,vi l.length),(8,vi i)]) (fun i w'=>i≤l.length∧(∀x∈l.take i,p x=false)∧New w w') (fun i=>l.length-i) 0 ⟨rfl,rfl,rfl,rfl,trivial⟩ ⟨Nat.zero_le _,by simp,aQ _ _⟩ ?_
 rintro i G w1 ⟨hi,hall,n1⟩
 simp only [oU]
 (repeat' (first|refine aa0 ?_|refine aa1 ?_|refine af ?_|refine ah ?_|refine au ?_|refine ak ?_|refine Wc.block ?_|refine Wc.skip ?_|refine aJ ?_|refine aA ?_|refine aK ?_|refine aI ?_|refine aO ?_|refine aa3 ?_|refine aa4 ?_|refine oZ (fun _=>?_) (fun _=>?_)))
 ·obtain ⟨y,hy⟩:=nV l (k:=i) (by omega)
  refine dU h n1.keep rfl rfl (by omega) hy fun b o cs hl hR hat=>?_
  obtain rfl:cs=seC y:=hR
  refine bG hat rfl rfl ?_
  refine dA (dst:=some 16) rfl (hf y w1 (List.mem_of_getElem? hy) n1) rfl ?_
  rintro _ w2 ⟨rfl,n2⟩
  simp only [Am]
  cases hp:p y with
  |true=>
   (repeat' (first|refine aa0 ?_|refine aa1 ?_|refine af ?_|refine ah ?_|refine au ?_|refine ak ?_|refine aA ?_|refine aN ?_|refine aZ ?_|refine bD ?_|refine aa3 ?_))
   refine aF rfl rfl ⟨_,rfl,?_,New.trans n1 n2⟩
   rw [J6 hy hall hp];rfl
  |false=>
   (repeat' (first|refine aa0 ?_|refine af ?_|refine ah ?_|refine ak ?_|refine Wc.skip ?_|refine aH ?_|refine aa4 ?_|refine aa7 ?_))
   exact aG (i+1) ⟨rfl,rfl,rfl,rfl,trivial⟩ ⟨by omega,He hy hall hp,New.trans n1 n2⟩ (by omega)
 ·have e:i=l.length:=by omega
  subst e
  rw [List.take_length] at hall
  refine aF rfl rfl ⟨_,rfl,?_,n1⟩
  rw [DR hall];rfl
theorem ET {Pb:Nat→Prop} {w:World} {v:Value} {l:List SE} {p:SE→Bool} {fg:FuncId} {fc:Array Value} [hc:nK Tryz.prog fg] (h:rD Pb w v l)
 (hf: ∀y w',y∈l→Chg (fun b=>v.ownBlock=some b) w w'→Calls Tryz.prog fg ([Value.agg (seC y).toArray]++fc.toList).toArray w' (Ret fun r w''=>r=.bool (p y)∧New w' w'')):
 Calls Tryz.prog 134 #[v,.func (.func fg) #[] fc] w (Ret fun r w'=>rD Pb w' r (l.filter fun y=> !p y)∧(∀b,r.ownBlock=some b→v.ownBlock=some b)∧Chg (fun b=>v.ownBlock=some b) w w'):=by
 refine nI Tryz.func134 rfl Tryz.ntmps134 rfl ?_
 (repeat' (first|refine aa0 ?_|refine aa1 ?_|refine af ?_|refine ah ?_|refine au ?_|refine ak ?_))
 refine aB (F6 (h.rd (nP seC)) (fun y w' hy hn=>hf y w' hy hn.any)) rfl ?_
 rintro _ w1 ⟨rfl,n1⟩
 rcases SH p l with ⟨e,hno⟩|⟨i,y0,e,hi0,hpy,hbef⟩
 ·rw [e]
  (repeat' (first|refine aa0 ?_|refine aa1 ?_|refine af ?_|refine ah ?_|refine au ?_|refine ak ?_|refine aA ?_|refine aN ?_|refine aa3 ?_|(refine bJ rfl rfl (fun _=>?_) (fun _=>?_)<;>(first|(exfalso;omega)|skip))))
  refine aF rfl rfl ⟨_,rfl,?_,fun b hb=>hb,n1.any⟩
  rw [List.filter_eq_self.2 (fun y hy=>by simp [hno y hy])]
  exact h.new (nH seC) n1
 ·rw [e]
  have hil:i<l.length:=(List.getElem?_eq_some_iff.1 hi0).1
  obtain ⟨g,cap,rfl,hgb,hgl,hob⟩:=h.blk (by intro e;rw [e] at hil;simp at hil)
  obtain ⟨_,_,hfm,hcap,hmax⟩:=h.form
  cases hfm
  simp only [maxLen] at hmax
  (repeat' (first|refine aa0 ?_|refine aa1 ?_|refine af ?_|refine ah ?_|refine au ?_|refine ak ?_|refine Wc.block ?_|refine Wc.skip ?_|refine aa4 ?_|refine aa7 ?_|(refine bJ rfl rfl (fun _=>?_) (fun _=>?_)<;>(first|(exfalso;omega)|skip))))
  refine aP (σ:=Nat×Nat×List SE) (fun s=>[(0,.slice (some ⟨g,0,none⟩) l.length cap),(1,.func (.func fg) #[] fc),(5,vi s.1),(6,vi s.2.1)])
   (fun s w'=>s.1<s.2.1∧s.2.1≤l.length∧s.2.2.length=l.length∧s.2.2.take s.1=(l.take s.2.1).filter (fun y=> !p y)∧s.2.2.drop s.2.1=l.drop s.2.1∧rD Pb w' (.slice (some ⟨g,0,none⟩) l.length cap) s.2.2∧Chg (fun b=>(Value.slice (some (⟨g,0,none⟩:Addr)) l.length cap).ownBlock=some b) w w') (fun s=>l.length-s.2.1)
   (i,i+1,l) ⟨rfl,rfl,rfl,rfl,trivial⟩ ⟨by simp,by simp only;omega,rfl,?_,rfl,h.new (nH seC) n1,n1.any⟩ ?_
  ·simp only
   rw [take_snoc hi0,List.filter_append,List.filter_eq_self.2 (fun y hy=>by simp [hbef y hy])]
   simp [hpy]
  rintro ⟨i,j,xs⟩ G w2 ⟨hij,hj,hxl,htk,hdr,ox,c2⟩
  dsimp only at hij hj hxl htk hdr ox c2
  simp only [oU]
  (repeat' (first|refine aa0 ?_|refine af ?_|refine pz ?_|refine ah ?_|refine au ?_|refine ak ?_|refine Wc.block ?_|refine Wc.skip ?_|refine aJ ?_|refine aK ?_|refine aI ?_|refine aO ?_|refine aa3 ?_|refine aa4 ?_|refine oZ (fun _=>?_) (fun _=>?_)))
  ·obtain ⟨y,hy⟩:=nV l (k:=j) (by omega)
   have hxy:xs[j]? =some y:=by
    have:=congrArg (fun q=>q[0]?) hdr
    simpa [hy] using this
   have hox:rD Pb w2 (.slice (some ⟨g,0,none⟩) l.length cap) xs:=ox
   have hrd:=ox.rd (nP seC)
   refine aU hrd rfl rfl (by omega) hxy fun b o cs hl hR hat=>?_
   obtain rfl:cs=seC y:=hR
   refine bG hat rfl rfl ?_
   refine Wl.alloc fun w3 b3 n3 s3=>?_
   refine aX (new:=seC y) b3 rfl rfl rfl rfl (show (6:Nat)≤6 from Nat.le_refl 6) (FX y) fun w4 b4 c4 s4=>?_
   replace b4:Bk w4 w2.heap.size 150 (seC y):=b4
   have hs2:=c2.size
   have n24:New w2 w4:=Chg.trans n3 c4 fun k hk e=>by omega
   have ox4:=ox.new (nH seC) n24
   have c24:=Chg.trans c2 (n24.any (M:=fun b=>(Value.slice (some (⟨g,0,none⟩:Addr)) l.length cap).ownBlock=some b)) fun _ _ e=>e
   (repeat' (first|refine aa0 ?_|refine af ?_|refine ah ?_|refine au ?_|refine ak ?_))
   refine bM b4 rfl rfl ?_
   refine dA (dst:=some 28) rfl (hf y w4 (List.mem_of_getElem? hy) c24) rfl ?_
   rintro _ w5 ⟨rfl,n5⟩
   simp only [Am]
   have b5:=b4.chg n5 id
   have ox5:=ox4.new (nH seC) n5
   have c5:=Chg.trans c24 (n5.any (M:=fun b=>(Value.slice (some (⟨g,0,none⟩:Addr)) l.length cap).ownBlock=some b)) fun _ _ e=>e
   cases hp:p y with
   |true=>
    (repeat' (first|refine aa0 ?_|refine aa1 ?_|refine af ?_|refine aV rfl ?_|refine ah ?_|refine ak ?_|refine Wc.skip ?_|refine aH ?_|refine aa4 ?_|refine aa7 ?_))
    refine aG (i,j+1,xs) ⟨rfl,rfl,rfl,rfl,trivial⟩ ⟨by dsimp only;omega,by dsimp only;omega,hxl,?_,?_,ox5,c5⟩ (by dsimp only;omega)
    ·dsimp only
     rw [htk,take_snoc hy,List.filter_append];simp [hp]
    ·dsimp only
     have:=congrArg (List.drop 1) hdr
     simpa [List.drop_drop] using this
   |false=>
    (repeat' (first|refine aa0 ?_|refine af ?_|refine aV rfl ?_|refine ah ?_|refine au ?_|refine ak ?_|refine aa3 ?_))
    refine bM b5 rfl rfl ?_
    refine dJ rfl rfl (by omega) (by omega) ?_
    refine eY (f:=seC) (q:=y) (j:=i) (sz:=6) (cap:=cap) (fun _=>rfl) FX ox5 (by rw [hxl]) (by omega) (by show Value.pointer (some ⟨g,0+(i:Int).toNat*6,none⟩)=_;simp) rfl rfl fun w6 o6 c6=>?_
    (repeat' (first|refine aa0 ?_|refine aa1 ?_|refine af ?_|refine ah ?_|refine ak ?_|refine aH ?_|refine aa7 ?_))
    refine aG (i+1,j+1,xs.set i y) ⟨rfl,rfl,rfl,rfl,trivial⟩ ⟨by dsimp only;omega,by dsimp only;omega,by simpa using hxl,?_,?_,o6,Chg.trans c5 c6 fun _ _ e=>e⟩ (by dsimp only;omega)
    ·dsimp only
     have hget:(xs.set i y)[i]? =some y:=by rw [List.getElem?_set,if_pos rfl,if_pos (by omega)]
     rw [take_snoc hget,List.take_set_of_le (Nat.le_refl i),htk,take_snoc hy,List.filter_append];simp [hp]
    ·dsimp only
     rw [List.drop_set_of_lt (by omega)]
     have:=congrArg (List.drop 1) hdr
     simpa [List.drop_drop] using this
  ·have e:j=l.length:=by omega
   subst e
   rw [List.take_length] at htk
   refine jy (f:=seC) (i:=i) (cap:=cap) (by simp [Value.cells];exact ⟨rfl,rfl,rfl,rfl,rfl⟩) ox (by rw [hxl]) rfl rfl (by omega) rfl fun u w3 o3 c3=>?_
   (repeat' (first|refine aa0 ?_|refine af ?_|refine ah ?_|refine au ?_|refine ak ?_))
   refine iY rfl rfl (by omega) ?_
   (repeat' (first|refine aa1 ?_|refine af ?_|refine ah ?_|refine aA ?_))
   refine aF rfl rfl ⟨_,rfl,?_,fun b hb=>hb,Chg.trans c2 c3 fun _ _ e=>e⟩
   rw [←htk]
   exact o3
end Go.Proofs.YtjecgaiaiophpaaGreatDoor
namespace Go.Proofs.YtjecgaiaiophpaaGreatDoor
open Go Wk Sy
theorem Ij {α:Type} {a b:α}: ∀ {S:List α},S.Nodup→[a,b].Sublist S→[b,a].Sublist S→False
 | [],_,h,_=>by cases h
 |x::r,hn,h1,h2=>by
  have hx:=(List.nodup_cons.1 hn).1
  have hr:=(List.nodup_cons.1 hn).2
  cases h1 with
  |cons _ h1=>
   cases h2 with
   |cons _ h2=>exact Ij hr h1 h2
   |cons_cons _ h2=>exact hx (h1.subset (by simp))
  |cons_cons _ h1=>
   cases h2 with
   |cons _ h2=>exact hx (h2.subset (by simp))
   |cons_cons _ h2=>exact hx (h1.subset (by simp))
theorem QR: ∀ {D:List SE},(D.Pairwise fun x y=>x.2<y.2)→ ∀ {x y},x∈D→y∈D→x.2<y.2→[x,y].Sublist D
 | [],_,x,y,h,_,_=>by cases h
 |d::r,hp,x,y,hx,hy,hlt=>by
  obtain ⟨h1,h2⟩:=List.pairwise_cons.1 hp
  rcases List.mem_cons.1 hx with ex|hx
  ·rcases List.mem_cons.1 hy with ey|hy
   ·rw [ex,ey] at hlt;omega
   ·rw [ex];exact List.Sublist.cons_cons _ (List.singleton_sublist.2 hy)
  ·rcases List.mem_cons.1 hy with ey|hy
   ·have:=h1 x hx;rw [ey] at hlt;omega
   ·exact List.Sublist.cons _ (QR h2 hx hy hlt)
variable {key:SE→Nm}
abbrev leE (key:SE→Nm) (x y:SE):Bool:= !cpE key y x
theorem Vg: ∀x y z:SE,leE key x y=true→leE key y z=true→leE key x z=true:=by
 intro x y z h1 h2
 unfold leE cpE at*
 simp only [Bool.not_eq_true',decide_eq_false_iff_not] at*
 intro h
 by_cases e:key z<key y
 ·exact h2 e
 ·by_cases e2:key y=key z
  ·rw [e2] at h1;exact h1 h
  ·exact h1 (List.lt_trans (EI e (fun e3=>e2 e3.symm)) h)
theorem QS: ∀x y:SE,(leE key x y||leE key y x)=true:=by
 intro x y
 unfold leE cpE
 by_cases e:key y<key x
 ·have: ¬key x<key y:=fun h=>List.lt_irrefl _ (List.lt_trans e h)
  simp [this]
 ·simp [e]
theorem O1 {D0:List SE} (hix:D0.Pairwise fun x y=>x.2<y.2):Srt (ltE key) (D0.mergeSort (leE key)):=by
 have hp:=List.mergeSort_perm D0 (leE key)
 have hs:=List.pairwise_mergeSort (le:=leE key) Vg QS D0
 have hd:D0.Nodup:=hix.imp fun h e=>by rw [e] at h;omega
 have hn:(D0.mergeSort (leE key)).Nodup:=hp.nodup_iff.2 hd
 have hi:((D0.mergeSort (leE key)).map (·.2)).Nodup:=(hp.map _).nodup_iff.2 (List.pairwise_map.2 (hix.imp fun h e=>by omega))
 refine List.pairwise_iff_forall_sublist.2 fun {a b} hab=>?_
 have hle:=List.pairwise_iff_forall_sublist.1 hs hab
 have hkn: ¬key b<key a:=by
  unfold leE cpE at hle
  simpa using hle
 have ha:=hp.mem_iff.1 (hab.subset (by simp:a∈ [a,b]))
 have hb:=hp.mem_iff.1 (hab.subset (by simp:b∈ [a,b]))
 by_cases hlt:key a<key b
 ·exact .inl hlt
 have hke:key a=key b:=Decidable.byContradiction fun e=>hlt (EI hkn fun e2=>e e2.symm)
 refine .inr ⟨hke,?_⟩
 have hne:a.2≠b.2:=by
  have:=hi.sublist (hab.map (·.2))
  simp at this
  exact this
 by_cases h2:a.2<b.2
 ·exact h2
 ·have hba:=QR hix hb ha (by omega)
  have:=List.pair_sublist_mergeSort (le:=leE key) Vg QS (by unfold leE cpE;simp [hlt]) hba
  exact (Ij hn hab this).elim
theorem O3 {D0 E:List SE} (pt:Nat→Nm) (hix:D0.Pairwise fun x y=>x.2<y.2) (hp:E.Perm D0) (hs:Srt (ltE fun x=>pt x.1.1.src) E):E.map (·.1.1)=(D0.map (·.1.1)).mergeSort fun x y=> !decide (pt y.src<pt x.src):=by
 have h:=Wy (YC fun x=>pt x.1.1.src) (hp.trans (List.mergeSort_perm D0 (leE fun x=>pt x.1.1.src)).symm) hs (O1 hix)
 rw [h]
 exact List.map_mergeSort (fun a _ b _=>rfl)
end Go.Proofs.YtjecgaiaiophpaaGreatDoor
namespace Go.Proofs.YtjecgaiaiophpaaGreatDoor.Wk
open Go Go.RowKit
abbrev FR:Option Nat→Fence
 |none=>Fence.wide
 |some r=>Fence.wide.inRound r
def Dc (l:List Oper):Bool:=l.all fun o=>match o.op with| .defer _=>false|_=>true
section
variable {P:Program} {r:Option Nat}
theorem JE {o:Oper} {a:Act} {next next':Act→World→Prop} {Q:Exit→Act→World→Prop} {res:Result Next} (hn: ∀a w,next a w→next' a w) (h:o.upon P a next Q res):o.uponIn (FR r) 0 P a next' Q res:=by
 cases r<;>cases res with
 |ok v w=>
  cases v with
  |value v=>exact hn _ _ h
  |skip=>exact hn _ _ h
  |defer d=>exact hn _ _ h
  |enter f args=>
   refine ⟨fun _=>by simp [FR,Fence.wide] at*,?_⟩
   refine CallsIn.mono (show CallsIn Fence.wide 0 P f args w _ from (callsIn_wide (n:=0)).2 h) ?_
   intro e w' he
   cases e with
   |returned v=>exact hn _ _ he
   |panicked c=>exact he
   |outgrown=>exact he
  |row row args=>
   refine ⟨fun _=>by simp [FR,Fence.wide] at*,?_⟩
   intro c cs _
   obtain ⟨v,w',hr,hs⟩:=h c cs
   exact ⟨v,w',hn _ _ hr,stepsIn_wide.2 hs⟩
  |_=>exact h.elim
 |halt e w=>
  cases e<;>exact h
theorem BH {ops:Array Oper} {Q:Exit→Act→World→Prop} (hout: ¬LetsOut Q): ∀(l:List Oper),Dc l=true→ ∀a w,wpList P ops Q l a w→wpListIn (FR r) 0 P ops Q l a w
 | [],_,_,_,h=>h
 |o::l,hl,a,w,h=>by
  unfold Dc at hl
  rw [List.all_cons,Bool.and_eq_true] at hl
  have ih:=BH (ops:=ops) hout l hl.2
  have ho: ∀c,o.op≠ .defer c:=fun c e=>by have:=hl.1;rw [e] at this;cases this
  unfold wpList at h
  unfold wpListIn
  have Vh: ∀f,(FR r).fn f:=by cases r<;>exact fun _=>trivial
  split
  ·rename_i hw
   rw [if_pos hw] at h
   rcases h with h|⟨_,h⟩
   ·refine ⟨fun f _=>Vh f,?_⟩
    rw [Oper.semAt_eq _ _ _ ho]
    exact JE ih h
   ·exact absurd h hout
  ·rename_i hw
   rw [if_neg hw] at h
   exact ⟨fun f _=>Vh f,ih _ _ h⟩
end
def Wr (P:Program) (n:Nat) (r:Option Nat) (Q:Po) (c:Code) (F:Fr) (w:World):Prop:=c.wpIn (FR r) 0 P (QA n [] Q) (act n [] F) w
def Qsr (P:Program) (n:Nat) (r:Option Nat) (b:Code) (Q:Po):Po
 | .normal,F,w=>Wr P n r Q b F w
 |e,F,w=>Q e F w
section
variable {P:Program} {n:Nat} {r:Option Nat} {Q:Po} {F:Fr} {w:World}
theorem eP {a b:Code} (h:Wr P n r (Qsr P n r b Q) a F w):Wr P n r Q (.seq a b) F w:=by
 refine wpIn_seq (wpIn_mono h ?_)
 rintro e a' w' ⟨F',rfl,hq⟩
 cases e<;>first|exact hq|exact ⟨F',rfl,hq⟩
theorem dK {id:Nat} {l:List Oper} (hl:Dc l=true) (hQ: ∀F w, ¬Q .outgrown F w) (h:Wl P n [] Q l l F w):Wr P n r Q (.region id l.toArray false) F w:=by
 unfold Wl at h
 exact wpIn_region_lit (BH (fun hx=>by obtain ⟨a,w,F',_,hq⟩:=hx;exact hQ F' w hq) l hl _ _ h)
theorem Wr.block {id:Nat} {c:Code} (h:Wr P n r (nN id Q) c F w):Wr P n r Q (.block id c) F w:=by
 refine wpIn_block (wpIn_mono h ?_)
 rintro e a' w' ⟨F',rfl,hq⟩
 unfold nN at hq
 cases e with
 |exit j=>
  simp only at hq
  simp only [Exit.inBlock]
  split<;>rename_i hj
  ·rw [if_pos hj] at hq;exact ⟨F',rfl,hq⟩
  ·rw [if_neg hj] at hq;exact ⟨F',rfl,hq⟩
 |_=>exact ⟨F',rfl,hq⟩
theorem Wr.skip (h:Q .normal F w):Wr P n r Q .skip F w:=wpIn_skip ⟨F,rfl,h⟩
theorem Wr.exit {id:Nat} (h:Q (.exit id) F w):Wr P n r Q (.exit id) F w:=wpIn_exit ⟨F,rfl,h⟩
theorem Wr.ret (h:Q .ret F w):Wr P n r Q .ret F w:=wpIn_ret ⟨F,rfl,h⟩
theorem gq {c:Operand} {x y:Code} (hc:ev n F c=.bool true) (h:Wr P n r Q x F w):Wr P n r Q (.cond c x y) F w:=wpIn_cond_true (vP.trans hc) h
theorem gu {c:Operand} {x y:Code} (hc:ev n F c=.bool false) (h:Wr P n r Q y F w):Wr P n r Q (.cond c x y) F w:=wpIn_cond_false (vP.trans hc) h
theorem dR {b:Code} (h:Wr P n r Q b F w):Qsr P n r b Q .normal F w:=h
theorem Qsr.exit {b:Code} {id:Nat} (h:Q (.exit id) F w):Qsr P n r b Q (.exit id) F w:=h
theorem Qsr.ret {b:Code} (h:Q .ret F w):Qsr P n r b Q .ret F w:=h
theorem Qsr.out {b:Code} (h: ∀F w, ¬Q .outgrown F w): ∀F w, ¬Qsr P n r b Q .outgrown F w:=h
theorem nN.out {id:Nat} (h: ∀F w, ¬Q .outgrown F w): ∀F w, ¬nN id Q .outgrown F w:=by unfold nN;exact h
end
section
variable {P:Program} {n:Nat} {r:Option Nat} {ops:Array Oper} {Q:Exit→Act→World→Prop}
structure Qap (F:Fence) (P:Program) (ops:Array Oper) (Q Q1:Exit→Act→World→Prop) (l2:List Oper):Prop where
 nm: ∀a w,Q1 .normal a w→wpListIn F 0 P ops Q l2 a w
 pn: ∀c a w,Q1 (.panic c) a w→Q (.panic c) a w
 out:LetsOut Q1→LetsOut Q
theorem O4 {F:Fence} {o:Oper} {l2:List Oper} {Q1:Exit→Act→World→Prop} (q:Qap F P ops Q Q1 l2) {a:Act} {K K':Act→World→Prop} (hK: ∀a w,K a w→K' a w) {res:Result Next} (h:o.uponIn F 0 P a K Q1 res):o.uponIn F 0 P a K' Q res:=by
 cases res with
 |ok v w=>
  cases v with
  |value v=>exact hK _ _ h
  |skip=>exact hK _ _ h
  |defer d=>exact hK _ _ h
  |enter f args=>
   refine ⟨h.1,h.2.mono fun e w' he=>?_⟩
   cases e with
   |returned v=>exact hK _ _ he
   |panicked c=>exact q.pn _ _ _ he
   |outgrown=>exact q.out he
  |row row args=>exact ⟨h.1,h.2.mono fun v w' he=>hK _ _ he⟩
  |round l f tmps asg bd=>
   refine ⟨h.1,h.2.mono fun e w' he=>?_⟩
   cases e with
   |returned v=>exact hK _ _ he
   |panicked c=>exact q.pn _ _ _ he
   |outgrown=>exact q.out he
  |_=>exact h.elim
 |halt e w=>
  cases e with
  |panic v=>exact q.pn _ _ _ h
  |_=>exact h
theorem Df {F:Fence} {l2:List Oper} {Q1:Exit→Act→World→Prop} (q:Qap F P ops Q Q1 l2): ∀(l1:List Oper) (a:Act) (w:World),wpListIn F 0 P ops Q1 l1 a w→wpListIn F 0 P ops Q (l1++l2) a w
 | [],_,_,h=>q.nm _ _ h
 |o::l1,a,w,h=>by
  rw [List.cons_append]
  unfold wpListIn at h ⊢
  split
  ·rename_i hw
   rw [if_pos hw] at h
   exact ⟨h.1,O4 q (fun a w=>Df q l1 a w) h.2⟩
  ·rename_i hw
   rw [if_neg hw] at h
   exact ⟨h.1,Df q l1 _ _ h.2⟩
end
theorem Qfn.out {P:Program} {n:Nat} {fn:Func} {R:Ending→World→Prop} (h: ∀w, ¬R .outgrown w): ∀F w, ¬Qfn P n fn R .outgrown F w:=by unfold Qfn;exact fun _ w=>h w
attribute [irreducible] Wr Qsr
end Go.Proofs.YtjecgaiaiophpaaGreatDoor.Wk
namespace Go.Proofs.YtjecgaiaiophpaaGreatDoor.Wk
open Go Go.RowKit
abbrev Pd:=Exit→List Deferred→Fr→World→Prop
def QD (n:Nat) (Q:Pd):Exit→Act→World→Prop:=fun e a w=> ∃ds F,a=act n ds F∧Q e ds F w
def Wd (P:Program) (n:Nat) (Q:Pd) (c:Code) (ds:List Deferred) (F:Fr) (w:World):Prop:=c.wp P (QD n Q) (act n ds F) w
def Qds (P:Program) (n:Nat) (b:Code) (Q:Pd):Pd
 | .normal,ds,F,w=>Wd P n Q b ds F w
 |e,ds,F,w=>Q e ds F w
def Qdb (id:Nat) (Q:Pd):Pd
 | .exit j,ds,F,w=>if j=id then Q .normal ds F w else Q (.exit j) ds F w
 |e,ds,F,w=>Q e ds F w
def Qdn (Q:Pd) (ds:List Deferred):Po:=fun e F w=>Q e ds F w
section
variable {P:Program} {n:Nat} {ds:List Deferred} {Q:Pd} {F:Fr} {w:World}
theorem Wd.of {c:Code} (h:Wc P n ds (Qdn Q ds) c F w):Wd P n Q c ds F w:=by
 unfold Wc at h
 refine wp_mono h ?_
 rintro e a w ⟨F',rfl,hq⟩
 exact ⟨ds,F',rfl,hq⟩
theorem dW {a b:Code} (h:Wd P n (Qds P n b Q) a ds F w):Wd P n Q (.seq a b) ds F w:=by
 refine wp_seq (wp_mono h ?_)
 rintro e a' w' ⟨ds',F',rfl,hq⟩
 cases e<;>first|exact hq|exact ⟨ds',F',rfl,hq⟩
theorem Wd.block {id:Nat} {c:Code} (h:Wd P n (Qdb id Q) c ds F w):Wd P n Q (.block id c) ds F w:=by
 refine wp_block (wp_mono h ?_)
 rintro e a' w' ⟨ds',F',rfl,hq⟩
 unfold Qdb at hq
 cases e with
 |exit j=>
  simp only at hq
  simp only [Exit.inBlock]
  split<;>rename_i hj
  ·rw [if_pos hj] at hq;exact ⟨ds',F',rfl,hq⟩
  ·rw [if_neg hj] at hq;exact ⟨ds',F',rfl,hq⟩
 |_=>exact ⟨ds',F',rfl,hq⟩
theorem dX {id:Nat} {l:List Oper} (h:Wl P n ds (Qdn Q ds) l l F w):Wd P n Q (.region id l.toArray false) ds F w:=.of (ak h)
theorem Wd.skip (h:Q .normal ds F w):Wd P n Q .skip ds F w:=wp_skip ⟨ds,F,rfl,h⟩
theorem iG (h:Q .ret ds F w):Wd P n Q .ret ds F w:=wp_ret ⟨ds,F,rfl,h⟩
theorem Qdn.e {e:Exit} (h:Q e ds F w):Qdn Q ds e F w:=h
theorem dL {b:Code} (h:Wd P n Q b ds F w):Qds P n b Q .normal ds F w:=h
theorem iH {b:Code} (h:Q .ret ds F w):Qds P n b Q .ret ds F w:=h
theorem jQ {id:Nat} (h:Q .normal ds F w):Qdb id Q .normal ds F w:=h
theorem iI {c:Operand} {x y:Code} (hc:ev n F c=.bool true) (h:Wd P n Q x ds F w):Wd P n Q (.cond c x y) ds F w:=wp_cond_true (vP.trans hc) h
theorem iJ {c:Operand} {x y:Code} (hc:ev n F c=.bool false) (h:Wd P n Q y ds F w):Wd P n Q (.cond c x y) ds F w:=wp_cond_false (vP.trans hc) h
def Lv (P:Program) (n:Nat) (fn:Func) (R:Ending→World→Prop) (ds:List Deferred) (F:Fr) (u:FrameMode) (w:World):Prop:=LeavesInM Fence.wide 0 P fn (arr n F) R ds u w
def Qdf (P:Program) (n:Nat) (fn:Func) (R:Ending→World→Prop):Pd
 | .normal,ds,F,w| .ret,ds,F,w=>Lv P n fn R ds F .returning w
 | .panic chain,ds,F,w=>Lv P n fn R ds F (.panicking chain) w
 | .outgrown,_,_,w=>R .outgrown w
 |_,_,_,_=>False
theorem FI {f:FuncId} {fn:Func} {c:Code} {l:List Value} {R:Ending→World→Prop} (hf:P.funcs[f]? =some fn) (hb:fn.body=some c) (hn:fn.ntmps=n)
 (hl:Nat.ble l.length n=true) (h:Wd P n (Qdf P n fn R) c [] (Gs l) w):Calls P f l.toArray w R:=by
 refine (callsIn_wide (n:=0)).1 (callsIn_of_wp_marks (F:=Fence.wide) hf hb trivial (wpIn_wide.2 ?_) rfl)
 rw [hn,BV l n (Nat.le_of_ble_eq_true hl)]
 refine wp_mono h ?_
 rintro e a w ⟨ds,F,rfl,hq⟩
 cases e<;>exact hq
theorem jR {fn:Func} {R:Ending→World→Prop} {D:Nat} {u:FrameMode} (hu:u≠ .run) (hD:w.heap[D]? =some (.deferred (some []))) (h:Lv P n fn R ds F u (w.putObj D (.deferred none))):
 Lv P n fn R ({target:=.collected D,args:= #[]}::ds) F u w:=⟨hu,.inl ⟨D,_,rfl,run_takeDeferred hD,h⟩⟩
theorem gy {fn:Func} {R:Ending→World→Prop} {v:Value} (h:(results fn (arr n F)).run P w=.ok v w) (k:R (.returned v) w):Lv P n fn R [] F .returning w:=⟨_,h,k⟩
end
def Qrd (L D:Nat) (W0:World) (I:World→Prop) (Ix:Code→World→Prop):Po
 | .normal,_,W=>W.heap[L]? =W0.heap[L]? ∧W.heap[D]? =W0.heap[D]? ∧I W
 | .ret,_,W=>W.heap[L]? =W0.heap[L]? ∧W.heap[D]? =W0.heap[D]? ∧Ix .ret W
 | .exit id,_,W=>W.heap[L]? =W0.heap[L]? ∧W.heap[D]? =W0.heap[D]? ∧Ix (.exit id) W
 |_,_,_=>False
def Qas (K:Fr→World→Prop):Po
 | .normal,F,W=>K F W
 |_,_,_=>False
theorem Qrd.out {L D:Nat} {W0:World} {I:World→Prop} {Ix:Code→World→Prop}: ∀F w, ¬Qrd L D W0 I Ix .outgrown F w:=fun _ _ h=>h
theorem Qas.out {K:Fr→World→Prop}: ∀F w, ¬Qas K .outgrown F w:=fun _ _ h=>h
section
variable {P:Program} {n:Nat} {r:Option Nat} {Q:Po} {F:Fr} {w:World}
theorem Wr.loop {σ:Type} (S:σ→List (Nat×Value)) (I:σ→World→Prop) (μ:σ→Nat) (s0:σ) {c:Code}
 (hF:agrees F (S s0)) (h0:I s0 w) (step: ∀s G w,I s w→Wr P n r (nJ S I μ s Q) c (oU G (S s)) w):Wr P n r Q (.loop c) F w:=by
 unfold Wr at*
 let J:Act→World→Nat→Prop:=fun a w m=> ∃s F,a=act n [] F∧agrees F (S s)∧I s w∧μ s=m
 refine wpIn_loop (fun a w=> ∃m,J a w m) (fun a w=>least (J a w)) ⟨_,s0,F,rfl,hF,h0,rfl⟩ ?_
 intro a w hJ
 obtain ⟨⟨s,F,ha,h1,h2,h3⟩,_⟩:=zl hJ
 subst ha
 have:=step s F w h2
 rw [oN h1] at this
 refine wpIn_mono this ?_
 rintro e a' w' ⟨F',rfl,hq⟩
 unfold nJ at hq
 cases e with
 |normal=>
  obtain ⟨s',h1',h2',h3'⟩:=hq
  have hJ':J (act n [] F') w' (μ s'):=⟨s',F',rfl,h1',h2',rfl⟩
  refine ⟨⟨_,hJ'⟩,?_⟩
  have:=(zl ⟨_,hJ'⟩).2 _ hJ'
  omega
 |_=>exact ⟨F',rfl,hq⟩
theorem nJ.out {σ:Type} {S:σ→List (Nat×Value)} {I:σ→World→Prop} {μ:σ→Nat} {s:σ} (h: ∀F w, ¬Q .outgrown F w): ∀F w, ¬nJ S I μ s Q .outgrown F w:=by unfold nJ;exact h
end
attribute [irreducible] Wd Qds Qdb Lv
end Go.Proofs.YtjecgaiaiophpaaGreatDoor.Wk
namespace Go.Proofs.YtjecgaiaiophpaaGreatDoor.Wk
open Go Go.RowKit
end Go.Proofs.YtjecgaiaiophpaaGreatDoor.Wk
namespace Go.Proofs.YtjecgaiaiophpaaGreatDoor.Wk
open Go Go.RowKit
def Xm (F:Fr) (ps:Array Nat) (xs:Array Value):Fr:=(ps.toList.zip xs.toList).foldl (fun F p=>upd F p.1 p.2) F
theorem Vj {n:Nat} (ps:Array Nat) (xs:Array Value) (F:Fr):((ps.zip xs).foldl (fun tmps (t,a)=>tmps.setIfInBounds t a) (arr n F))=arr n (Xm F ps xs):=by
 rw [←Array.foldl_toList,Array.toList_zip]
 unfold Xm
 generalize ps.toList.zip xs.toList=l
 induction l generalizing F with
 |nil=>rfl
 |cons p l ih=>
  rw [List.foldl_cons,List.foldl_cons, ←ih]
  congr 1
  simp [Qa]
def XT (P:Program) (gf:FuncId) (lb:Array Value) (N:Nat) (x:Nat→Array Value) (Rd:World→Prop):Prop:=
 ∀(l:Nat) (J:Nat→World→Prop) (Jx:World→Prop) (W:World),(∀k W,J k W→Rd W)→(∀k W W',J k W→New W W'→J k W')→
  (∀k W,k<N→J k W→YieldAt Fence.wide 0 P l (x k) W fun e W'=>(e=.returned (.bool true)∧J (k+1) W')∨(e=.returned (.bool false)∧Jx W'))→
  J 0 W→CallsIn Fence.wide 0 P gf (#[.func (.yield l) #[] #[]]++lb) W fun e W'=>(∃v,e=.returned v)∧(J N W'∨Jx W')
section
variable {P:Program} {n:Nat} {ds:List Deferred} {Q:Pd} {F:Fr} {w:World}
theorem jS {g:Operand} {ps:Array Nat} {assign body:Code} {gf:Nat} {lb:Array Value} {N:Nat} {x:Nat→Array Value} {Rd:World→Prop}
 (hg:ev n F g=.func (.func gf) #[] lb) (eg: ∀args w,(callFunc gf args).run P w=.ok (.enter gf args) w) (it:XT P gf lb N x Rd) (hsz: ∀k,(x k).size=ps.size)
 (I:Nat→World→Prop) (Ix:Code→World→Prop)
 (hRd: ∀k W,I k W→Rd W)
 (sN: ∀k W W',I k W→New W W'→I k W')
 (sI: ∀k W r r',I k W→W.heap[w.heap.size+1]? =some (.loop r)→I k (W.putObj (w.heap.size+1) (.loop r')))
 (sX: ∀c W r r',Ix c W→W.heap[w.heap.size+1]? =some (.loop r)→Ix c (W.putObj (w.heap.size+1) (.loop r')))
 (h0: ∀r,I 0 ((w.alloc (.deferred (some []))).alloc (.loop r)))
 (YF: ∀k W r,k<N→I k W→W.heap[w.heap.size+1]? =some (.loop r)→W.heap[w.heap.size]? =some (.deferred (some []))→
   Wr P n (some (w.heap.size+1)) (Qas fun F' W'=>New W W'∧ ∀r',Wr P n (some (w.heap.size+1)) (Qrd (w.heap.size+1) w.heap.size (W'.putObj (w.heap.size+1) (.loop r')) (I (k+1)) Ix) body F' (W'.putObj (w.heap.size+1) (.loop r'))) assign (Xm F ps (x k)) W)
 (hdone: ∀W,I N W→W.heap[w.heap.size]? =some (.deferred (some []))→Q .normal ({target:=.collected w.heap.size,args:= #[]}::ds) F W)
 (hret: ∀W,Ix .ret W→W.heap[w.heap.size]? =some (.deferred (some []))→Q .ret ({target:=.collected w.heap.size,args:= #[]}::ds) F W)
 (aam: ∀id W,Ix (.exit id) W→W.heap[w.heap.size]? =some (.deferred (some []))→Q (.exit id) ({target:=.collected w.heap.size,args:= #[]}::ds) F W):
 Wd P n Q (.rangeFunc g ps assign body) ds F w:=by
 unfold Wd
 refine (wpIn_wide (n:=0)).1 (wpIn_rangeFunc ?_)
 intro fn _
 obtain ⟨rec,hrec⟩: ∃rec:LoopState→Option Code→Loop,rec=fun st pe=>{state:=st,pending:=pe,fn,tmps:=arr n F,params:=ps,assign,body,defers:=w.heap.size}:=⟨_,rfl⟩
 obtain ⟨W1,hW1⟩: ∃W1,(w.alloc (.deferred (some []))).alloc (.loop (rec .ready none))=W1:=⟨_,rfl⟩
 have hL1:W1.heap[w.heap.size+1]? =some (.loop (rec .ready none)):=by
  rw [←hW1];have:=World.alloc_heap_new (w.alloc (.deferred (some []))) (.loop (rec .ready none));rwa [World.size_alloc] at this
 have hK1:W1.heap[w.heap.size]? =some (.deferred (some [])):=by
  rw [←hW1];exact (Below.heap_alloc _ _ _ (by simp)).trans (World.alloc_heap_new w _)
 have hI1:I 0 W1:=by rw [←hW1];exact h0 _
 refine ⟨w.heap.size+1,[{target:=.collected w.heap.size,args:= #[]}],W1,{target:=.fn (.func gf) lb,args:= #[.func (.yield (w.heap.size+1)) #[] #[]]},W1,gf,
  #[.func (.yield (w.heap.size+1)) #[] #[]]++lb,W1,?_,?_,?_,?_,fun h=>by simp [Fence.wide] at h,?_⟩
 ·rw [←hW1,hrec];exact run_enterLoop_outer _ _ _ _ _
 ·simp only [resolve,vP,hg]
  simp [go_sem]
 ·exact fun _ _=>trivial
 ·simp [invoke,go_sem,eg]
 ·refine (it (w.heap.size+1)
   (fun k W=>I k W∧W.heap[w.heap.size+1]? =some (.loop (rec .ready none))∧W.heap[w.heap.size]? =some (.deferred (some [])))
   (fun W=> ∃c,(c=.ret∨ ∃id,c=.exit id)∧Ix c W∧W.heap[w.heap.size+1]? =some (.loop (rec .done (some c)))∧W.heap[w.heap.size]? =some (.deferred (some [])))
   W1 (fun k W h=>hRd k W h.1) (fun k W W' h n=>⟨sN k W W' h.1 n,(n.block _ (Array.getElem?_eq_some_iff.1 h.2.1).1 id).trans h.2.1,(n.block _ (Array.getElem?_eq_some_iff.1 h.2.2).1 id).trans h.2.2⟩) ?_ ⟨hI1,hL1,hK1⟩).mono ?_
  ·
   rintro k W hk ⟨hi,hl,hd⟩
   have hlt:w.heap.size+1<W.heap.size:=(Array.getElem?_eq_some_iff.1 hl).1
   have hy:=run_yield (P:=P) (args:=(x k)) hl (by rw [hrec];exact hsz k)
   rw [hrec] at hy
   have hz:((ps.zip (x k)).foldl (fun tmps (t,a)=>tmps.setIfInBounds t a) (arr n F))=arr n (Xm F ps (x k)):=by
    exact Vj ps (x k) F
   refine ⟨fn,_,assign,body,hy,roundIn_of_wpIn (F:=Fence.wide) (n:=0) trivial ?_⟩
   dsimp only
   rw [hz]
   have hA:=YF k W _ hk hi hl hd
   unfold Wr at hA
   refine wpIn_mono hA ?_
   rintro e a w1 ⟨F',rfl,hq⟩
   cases e with
   |normal=>
    obtain ⟨hn,hq⟩:=hq
    have hl':=(hn.block _ hlt id).trans hl
    have hd':=(hn.block _ (Nat.lt_of_succ_lt hlt) id).trans hd
    have hlt':w.heap.size+1<w1.heap.size:=(Array.getElem?_eq_some_iff.1 hl').1
    refine ⟨_,run_beginRound hl' (by rw [hrec]),?_⟩
    have hl2:(w1.putObj (w.heap.size+1) (.loop {rec .ready none with state:=.busy})).heap[w.heap.size+1]? =some (.loop {rec .ready none with state:=.busy}):=World.putObj_heap_same hlt'
    have hd2:(w1.putObj (w.heap.size+1) (.loop {rec .ready none with state:=.busy})).heap[w.heap.size]? =some (.deferred (some [])):=(World.putObj_heap_other (by omega)).trans hd'
    have hB:=hq {rec .ready none with state:=.busy}
    unfold Wr at hB
    refine wpIn_mono hB ?_
    have fin: ∀(jump:Option Code) (W3:World),W3.heap[w.heap.size+1]? =some (.loop {rec .ready none with state:=.busy})→W3.heap[w.heap.size]? =some (.deferred (some []))→
     (Instr.endRound (w.heap.size+1) jump).run P W3=.ok (.bool jump.isNone) (W3.putObj (w.heap.size+1) (.loop (rec (if jump.isNone then .ready else .done) jump)))∧
     (W3.putObj (w.heap.size+1) (.loop (rec (if jump.isNone then .ready else .done) jump))).heap[w.heap.size+1]? =some (.loop (rec (if jump.isNone then .ready else .done) jump))∧
     (W3.putObj (w.heap.size+1) (.loop (rec (if jump.isNone then .ready else .done) jump))).heap[w.heap.size]? =some (.deferred (some [])):=fun jump W3 h3 h4=>by
     have:=run_endRound (P:=P) jump h3
     rw [hrec] at this ⊢
     exact ⟨this,World.putObj_heap_same (Array.getElem?_eq_some_iff.1 h3).1,(World.putObj_heap_other (by omega)).trans h4⟩
    rintro e a3 W3 ⟨F3,rfl,hq3⟩
    cases e with
    |normal=>
     obtain ⟨h3,h4,h5⟩:=hq3
     obtain ⟨hr,hl4,hk4⟩:=fin none W3 (h3.trans hl2) (h4.trans hd2)
     exact ⟨_,_,hr,.inl ⟨rfl,sI _ _ _ _ h5 (h3.trans hl2),hl4,hk4⟩⟩
    |ret=>
     obtain ⟨h3,h4,h5⟩:=hq3
     obtain ⟨hr,hl4,hk4⟩:=fin (some .ret) W3 (h3.trans hl2) (h4.trans hd2)
     exact ⟨_,_,hr,.inr ⟨rfl,.ret,.inl rfl,sX _ _ _ _ h5 (h3.trans hl2),hl4,hk4⟩⟩
    |exit id=>
     obtain ⟨h3,h4,h5⟩:=hq3
     obtain ⟨hr,hl4,hk4⟩:=fin (some (.exit id)) W3 (h3.trans hl2) (h4.trans hd2)
     exact ⟨_,_,hr,.inr ⟨rfl,.exit id,.inr ⟨id,rfl⟩,sX _ _ _ _ h5 (h3.trans hl2),hl4,hk4⟩⟩
    |goto t=>exact hq3.elim
    |panic ch=>exact hq3.elim
    |outgrown=>exact hq3.elim
   |exit id=>exact hq.elim
   |goto t=>exact hq.elim
   |ret=>exact hq.elim
   |panic ch=>exact hq.elim
   |outgrown=>exact hq.elim
  ·
   rintro e W2 ⟨⟨v,rfl⟩,(⟨hi,hl,hk⟩|⟨c,hc,hi,hl,hk⟩)⟩
   ·refine ⟨none,_,by have:=run_endLoop (P:=P) hl (by rw [hrec];simp);rw [hrec] at this;exact this,?_⟩
    exact ⟨_,_,rfl,hdone _ (sI _ _ _ _ hi hl) ((World.putObj_heap_other (by omega)).trans hk)⟩
   ·refine ⟨some c,_,by have:=run_endLoop (P:=P) hl (by rw [hrec];simp);rw [hrec] at this;exact this,?_⟩
    rcases hc with rfl|⟨id,rfl⟩
    ·exact wpIn_ret ⟨_,_,rfl,hret _ (sX _ _ _ _ hi hl) ((World.putObj_heap_other (by omega)).trans hk)⟩
    ·exact wpIn_exit ⟨_,_,rfl,aam _ _ (sX _ _ _ _ hi hl) ((World.putObj_heap_other (by omega)).trans hk)⟩
end
theorem mX {P:Program} {n:Nat} {r:Option Nat} {Q:Po} {F:Fr} {w:World} {id:Nat} {l1 l2 l:List Oper} {d:Nat} {g x x2:Operand} {ts:Array TypeId} {ty:TypeId} {pos:String} {aft:Array Edge}
 (hl:l=l1++⟨some d,.call {callee:=.value g,args:= #[x,x2],argTypes:=ts},ty,pos,aft,none⟩::l2) (h1:Dc l1=true) (h2:Dc l2=true) (hQ: ∀F w, ¬Q .outgrown F w)
 (h:Wl P n [] (fun e F' w'=>e=.normal∧ ∃L v v2,ev n F' g=.func (.yield L) #[] #[]∧ev n F' x=v∧ev n F' x2=v2∧YieldAt Fence.wide 0 P L #[v,v2] w' fun e w''=> ∃u,e=.returned u∧Wl P n [] Q l l2 (upd F' d u) w'') l l1 F w):
 Wr P n r Q (.region id l.toArray false) F w:=by
 unfold Wr
 unfold Wl at h
 refine wpIn_region_lit ?_
 have hout: ¬LetsOut (QA n [] Q):=fun hx=>by obtain ⟨a,w,F',_,hq⟩:=hx;exact hQ F' w hq
 have key: ∀a w,wpListIn (FR r) 0 P l.toArray (QA n [] Q) (l1++⟨some d,.call {callee:=.value g,args:= #[x,x2],argTypes:=ts},ty,pos,aft,none⟩::l2) a w→wpListIn (FR r) 0 P l.toArray (QA n [] Q) l a w:=by
  intro a w h';rw [←hl] at h';exact h'
 refine key _ _ (Df ⟨?_,?_,?_⟩ l1 _ _ (BH (fun hx=>?_) l1 h1 _ _ h))
 rotate_left
 ·rintro c a w ⟨F',_,hq,_⟩;cases hq
 ·rintro ⟨a,w,F',_,hq,_⟩;cases hq
 ·obtain ⟨a,w,F',_,hq,_⟩:=hx;cases hq
 ·rintro a w' ⟨F',rfl,_,L,v,v2,hg,hx,hx2,fn,tmps,asg,bd,hy,hR⟩
  show wpListIn (FR r) 0 P l.toArray (QA n [] Q) (_::l2) _ w'
  unfold wpListIn
  split
  rotate_left
  ·rename_i hw;exact absurd rfl hw
  refine ⟨fun f _=>by cases r<;>trivial,?_⟩
  have e:(execOp (ev n F') ⟨some d,.call {callee:=.value g,args:= #[x,x2],argTypes:=ts},ty,pos,aft,none⟩).run P w'=.ok (.round L fn tmps asg bd) w':=by
   simp only [execOp,resolve,hg,Deferred.ofValue,Sem.run_bind,Sem.run_pure,Result.andThen_ok,invoke]
   simpa [hx,hx2] using hy
  rw [Oper.semAt_eq _ _ _ (fun c h=>by cases h),wW,e,Oper.uponIn_round]
  refine ⟨fun h=>by cases r<;>simp [FR,Fence.wide] at h,RoundIn.mono (show RoundIn (FR r) (0-1) P L fn tmps asg bd w' _ by cases r<;>exact hR) ?_⟩
  rintro _ w'' ⟨u,rfl,hw⟩
  show wpListIn (FR r) 0 P l.toArray (QA n [] Q) l2 _ w''
  rw [xP]
  exact BH hout l2 h2 _ _ hw
end Go.Proofs.YtjecgaiaiophpaaGreatDoor.Wk
namespace Go.Proofs.YtjecgaiaiophpaaGreatDoor.Wk
open Go Go.RowKit
def NoC (w:World) (L:Nat):Prop:= ∃o,w.heap[L]? =some o∧o.isCells=false
theorem NoC.loop {w:World} {L:Nat} {r:Loop} (h:w.heap[L]? =some (.loop r)):NoC w L:=⟨_,h,rfl⟩
theorem NoC.mark {w:World} {D:Nat} {l:Option (List Deferred)} (h:w.heap[D]? =some (.deferred l)):NoC w D:=⟨_,h,rfl⟩
theorem NoC.lt {w:World} {L:Nat} (h:NoC w L):L<w.heap.size:=by obtain ⟨o,h,_⟩:=h;exact (Array.getElem?_eq_some_iff.1 h).1
theorem Bk.nl {w:World} {b L:Nat} {T:TypeId} {cs:List Value} (h:Bk w b T cs) (hL:NoC w L):b≠L:=by
 rintro rfl
 obtain ⟨o,h1,h2⟩:=hL
 have:=h1.symm.trans h
 cases this;cases h2
theorem nO.nl {α:Type} {R:Rel α} {e:TypeId} {sz:Nat} {Pb Pe:Nat→Prop} {w:World} {v:Value} {xs:List α} {L:Nat} (h:nO R e sz Pb Pe w v xs) (hL:NoC w L) {k:Nat} (hk:v.ownBlock=some k):k≠L:=by
 obtain ⟨cs,⟨_,h⟩,_⟩:=h
 rcases h with ⟨rfl,_⟩|⟨g,cap,cur,rfl,_,hg,_⟩
 ·cases hk
 ·rintro rfl
  have:g=k:=by simpa [Value.ownBlock] using hk
  subst this
  obtain ⟨o,h1,h2⟩:=hL
  have:=h1.symm.trans hg
  cases this;cases h2
theorem Chg.putObj (w:World) (L:Nat) (o:Obj):Chg (fun k=>k=L) w (w.putObj L o):=
 ⟨rfl,rfl,rfl,by simp,fun k _ hk=>World.putObj_heap_other hk⟩
theorem Bk.put {w:World} {b L:Nat} {T:TypeId} {cs:List Value} (o:Obj) (h:Bk w b T cs) (hL:NoC w L):Bk (w.putObj L o) b T cs:=h.chg (Chg.putObj w L o) (h.nl hL)
theorem nO.put {α:Type} {R:Rel α} {e:TypeId} {sz:Nat} {Pb Pe:Nat→Prop} {w:World} {v:Value} {xs:List α} {L:Nat} (o:Obj) (hR:Plain R) (h:nO R e sz Pb Pe w v xs) (hL:NoC w L):nO R e sz Pb Pe (w.putObj L o) v xs:=
 h.chg hR (Chg.putObj w L o) fun _ hk=>h.nl hL hk
theorem Chg.put {M:Nat→Prop} {w0 w:World} {L:Nat} (o:Obj) (h:Chg M w0 w) (hL:w0.heap.size≤L):Chg M w0 (w.putObj L o):=
 Chg.trans h (Chg.putObj w L o) fun k hk e=>by omega
theorem Keep.put {Pb:Nat→Prop} {w:World} {L:Nat} (o:Obj) (h: ¬Pb L):Keep Pb w (w.putObj L o):=fun b hb _=>World.putObj_heap_other fun e=>h (e▸hb)
theorem rC.put {P:Program} {k:TypeId} {w:World} {b L:Nat} {l:List (Value×Value)} (o:Obj) (h:rC P k w b l) (hL:L≠b):rC P k (w.putObj L o) b l:=h.chg (Chg.putObj w L o) fun e=>hL e.symm
theorem jT {w:World} (r:Obj) (r':Obj):New w ((w.alloc r).alloc r'):=Chg.trans (Chg.alloc _ _ _) (Chg.alloc _ _ _) fun _ _ e=>e
end Go.Proofs.YtjecgaiaiophpaaGreatDoor.Wk
namespace Go.Proofs.YtjecgaiaiophpaaGreatDoor
open Go Wk
open Go.RowKit (Below)
attribute [local irreducible] Go.Calls
theorem mY {P:Program} {n:Nat} {w:World} {f:FuncId} {fn:Func} {c:Code} {l:List Value} {R:Ending→World→Prop} (hf:P.funcs[f]? =some fn) (hb:fn.body=some c) (hn:fn.ntmps=n)
 (hl:Nat.ble l.length n=true) (h:Wr P n none (Qfn P n fn R) c (Gs l) w):CallsIn Fence.wide 0 P f l.toArray w R:=by
 refine callsIn_of_wp hf hb trivial ?_ rfl
 rw [hn,BV l n (Nat.le_of_ble_eq_true hl)]
 unfold Wr at h
 refine wpIn_mono h ?_
 rintro e a w ⟨F,rfl,hq⟩
 unfold Qfn at hq
 cases e<;>first|exact ⟨rfl,hq⟩|exact hq
theorem Wk.YieldAt.mono {P:Program} {l:Nat} {args:Array Value} {W:World} {R R':Ending→World→Prop} (h:YieldAt Fence.wide 0 P l args W R) (hR: ∀e w,R e w→R' e w):YieldAt Fence.wide 0 P l args W R':=by
 obtain ⟨fn,tmps,asg,bd,h1,h2⟩:=h
 exact ⟨fn,tmps,asg,bd,h1,h2.mono hR⟩
abbrev pT (b:Nat):Value:=.pointer (some ⟨b,0,none⟩)
def pK (t:List Nd):List Nm:=(List.range t.length).map (oO t)
theorem xG (t:List Nd):(pK t).length=t.length:=by simp [pK]
theorem tJ {t:List Nd} {k:Nat} (hk:k<t.length):(pK t)[k]? =some (oO t k):=by
 unfold pK
 rw [List.getElem?_map,List.getElem?_range hk];rfl
def SqW (Pb:Nat→Prop) (bs:Nat) (v:Value) (l:List Nm) (W:World):Prop:=Bk W bs 24 [v]∧RdS (Wk.one vs) 1 Pb W v l
theorem SqW.new {Pb:Nat→Prop} {bs:Nat} {v:Value} {l:List Nm} {W W':World} (h:SqW Pb bs v l W) (n:New W W'):SqW Pb bs v l W':=⟨h.1.chg n (fun e=>e),h.2.keep (nS _) n.keep⟩
theorem SqW.put {Pb:Nat→Prop} {bs L:Nat} {v:Value} {l:List Nm} {W:World} (o:Obj) (h:SqW Pb bs v l W) (hL:NoC W L) (hP: ¬Pb L):SqW Pb bs v l (W.putObj L o):=⟨h.1.put o hL,h.2.keep (nS _) (Keep.put o hP)⟩
theorem SqW.chg {Pb M:Nat→Prop} {bs:Nat} {v:Value} {l:List Nm} {W W':World} (h:SqW Pb bs v l W) (c:Chg M W W') (hb: ¬M bs) (hP: ∀k,Pb k→ ¬M k):SqW Pb bs v l W':=⟨h.1.chg c hb,h.2.keep (nS _) (c.keep fun k _ hk=>hP k hk)⟩
theorem iter_walk {Pb:Nat→Prop} {bs:Nat} {v:Value} {l:List Nm}:XT Tryz.prog 95 #[pT bs] l.length (fun k=> #[vs (l.getD k []),vi k]) (SqW Pb bs v l):=by
 intro L J Jx W hRd hN hY h0
 obtain ⟨hb,hr⟩:=hRd _ _ h0
 obtain ⟨a,cp,rfl,hc1,hc2⟩:=hr.form
 simp only [maxLen] at hc2
 show CallsIn Fence.wide 0 Tryz.prog _ ([.func (.yield L) #[] #[],pT bs]:List Value).toArray W _
 refine mY Tryz.func95 rfl Tryz.ntmps95 rfl ?_
 (repeat' (first|refine eP ?_|refine dK rfl (by repeat' (first|exact Qfn.out (by rintro _ ⟨⟨_,e⟩,_⟩;cases e)|exact Qrd.out|exact Qas.out|refine Qsr.out ?_|refine nJ.out ?_|refine Qsc.out ?_|refine nN.out ?_)) ?_))
 refine ay rfl (hb.cell (o:=0) rfl) ?_
 (repeat' (first|refine aa0 ?_|refine af ?_|refine pz ?_|refine dR ?_|refine Wr.block ?_))
 refine Wr.loop (σ:=Nat) (fun k=>[(0,.func (.yield L) #[] #[]),(5,.slice a l.length cp),(6,vi l.length),(7,vi k)]) (fun k W'=>k≤l.length∧J k W') (fun k=>l.length-k) 0 ⟨rfl,rfl,rfl,rfl,trivial⟩ ⟨Nat.zero_le _,h0⟩ ?_
 rintro k G W1 ⟨hk,hJ⟩
 obtain ⟨hb1,hr1⟩:=hRd _ _ hJ
 simp only [oU]
 (repeat' (first|refine aa0 ?_|refine af ?_|refine dR ?_|refine eP ?_|refine dK rfl (by repeat' (first|exact Qfn.out (by rintro _ ⟨⟨_,e⟩,_⟩;cases e)|exact Qrd.out|exact Qas.out|refine Qsr.out ?_|refine nJ.out ?_|refine Qsc.out ?_|refine nN.out ?_)) ?_|refine Wr.block ?_|refine Wr.skip ?_|refine Wr.exit ?_|refine Qsr.exit ?_|refine aI ?_|refine aO ?_|refine gq rfl ?_|refine gu rfl ?_|refine oZ (fun _=>?_) (fun _=>?_)))
 ·obtain ⟨y,hy⟩:=nV l (k:=k) (by omega)
  refine bI hr1 rfl rfl (by omega) (by rw [Int.toNat_natCast];exact hy) fun bb o hcell=>?_
  refine ay (u:=vs y) rfl hcell ?_
  (repeat' (first|refine aa1 ?_|refine af ?_|refine dR ?_|refine eP ?_))
  refine mX (l1:=[_,_,_]) (l2:=[_]) rfl rfl rfl (by repeat' (first|exact Qfn.out (by rintro _ ⟨⟨_,e⟩,_⟩;cases e)|exact Qrd.out|exact Qas.out|refine Qsr.out ?_|refine nJ.out ?_|refine Qsc.out ?_|refine nN.out ?_)) ?_
  (repeat' (first|refine aa0 ?_|refine af ?_))
  refine ⟨rfl,L,vs y,vi k,rfl,rfl,rfl,?_⟩
  have hg:l.getD k []=y:=by rw [List.getD_eq_getElem?_getD,hy];rfl
  have hy2:=hY k W1 (by omega) hJ
  dsimp only at hy2
  rw [hg] at hy2
  refine Wk.YieldAt.mono hy2 ?_
  rintro e W4 (⟨rfl,hJ4⟩|⟨rfl,hJ4⟩)
  ·refine ⟨_,rfl,?_⟩
   (repeat' (first|refine aa0 ?_|refine af ?_|refine aV rfl ?_|refine dR ?_|refine dK rfl (by repeat' (first|exact Qfn.out (by rintro _ ⟨⟨_,e⟩,_⟩;cases e)|exact Qrd.out|exact Qas.out|refine Qsr.out ?_|refine nJ.out ?_|refine Qsc.out ?_|refine nN.out ?_)) ?_|refine Wr.skip ?_|refine aH ?_|refine gu rfl ?_|refine aa7 ?_))
   exact aG (k+1) ⟨rfl,rfl,rfl,rfl,trivial⟩ ⟨by omega,hJ4⟩ (by omega)
  ·refine ⟨_,rfl,?_⟩
   (repeat' (first|refine af ?_|refine aV rfl ?_|refine dR ?_|refine Wr.ret ?_|refine Qsr.ret ?_|refine aZ ?_|refine bD ?_|refine gq rfl ?_))
   exact fH rfl ⟨⟨_,rfl⟩,.inr hJ4⟩
 ·have e:k=l.length:=by omega
  subst e
  exact dF rfl ⟨⟨_,rfl⟩,.inl hJ⟩
theorem JF {Pb:Nat→Prop} {w:World} {v:Value} {l:List Nd} (h:RdS rNd 3 Pb w v l) (hok:oG l=true):
 Calls Tryz.prog 44 #[v] w (Ret fun r w'=>(∃bs sv,r=.func (.func 95) #[] #[pT bs]∧w.heap.size≤bs∧SqW (fun b=>w.heap.size≤b∧b<w'.heap.size) bs sv (pK l) w')∧New w w'):=by
 obtain ⟨a,cap,rfl,hc1,hc2⟩:=h.form
 have hlen:=oP hok
 replace h:=h.mono (Pb':=fun k=>k<w.heap.size) yC fun k hk _=>hk
 refine nI Tryz.func44 rfl Tryz.ntmps44 rfl ?_
 (repeat' (first|refine aa1 ?_|refine af ?_|refine ah ?_|refine au ?_|refine ak ?_))
 refine Wl.alloc fun w1 b1 n1 s1=>?_
 replace b1:Bk w1 w.heap.size 24 [.slice none 0 0]:=b1
 (repeat' (first|refine aa0 ?_|refine af ?_|refine ah ?_|refine au ?_|refine ak ?_))
 refine aB (vG (h.keep oz n1.keep)) rfl ?_
 rintro _ w2 ⟨rfl,n2⟩
 unfold Fg
 rw [if_pos hok]
 have n02:=New.trans n1 n2
 have b2:=b1.chg n2 fun e=>e
 have hz2:=n2.size
 have hpl:=xG l
 (repeat' (first|refine aa0 ?_|refine aa1 ?_|refine af ?_|refine pG ?_|refine pz ?_|refine ah ?_|refine au ?_|refine ak ?_|refine Wc.block ?_|refine aa3 ?_|(refine bJ rfl rfl (fun _=>?_) (fun _=>?_)<;>(first|(exfalso;omega)|skip))))
 refine aP (σ:=Nat×Value) (fun q=>[(0,.slice a l.length cap),(3,pT w.heap.size),(14,.slice a l.length cap),(15,vi l.length),(16,vi q.1)])
  (fun q W=>q.1≤l.length∧Bk W w.heap.size 24 [q.2]∧nO (Wk.one vs) 9 1 (fun b=>w.heap.size<b) NoB W q.2 ((pK l).take q.1)∧New w W) (fun q=>l.length-q.1) (0,.slice none 0 0) ⟨rfl,rfl,rfl,rfl,rfl,trivial⟩ ⟨Nat.zero_le _,b2,bF,n02⟩ ?_
 rintro ⟨i,u⟩ G W ⟨hi,bW,own,nW⟩
 dsimp only at hi bW own nW
 simp only [oU]
 have hzW:=nW.size
 have hbl:=bW.lt
 obtain ⟨ua,uc,rfl,_,_⟩:=own.form
 (repeat' (first|refine aa0 ?_|refine aa1 ?_|refine af ?_|refine ah ?_|refine au ?_|refine ak ?_|refine Wc.block ?_|refine Wc.skip ?_|refine aJ ?_|refine aK ?_|refine aI ?_|refine aO ?_|refine aa3 ?_|refine aa4 ?_|refine oZ (fun _=>?_) (fun _=>?_)))
 ·have hx:=tJ (t:=l) (k:=i) (by omega)
  have hlt:((pK l).take i).length≤512:=by simp only [List.length_take];omega
  have hne: ∀k,(Value.slice ua ((pK l).take i).length uc).ownBlock=some k→w.heap.size<k:=fun k hk=>(own.lt hk).1
  refine bQ rfl (by kernel_rfl) (fun w'=>Chg (fun k=>(Value.slice ua ((pK l).take i).length uc).ownBlock=some k) W w') (Chg.drew _ _) ?_
  intro w3 n3
  skip
  refine aa2 (aC (u:=.slice ua ((pK l).take i).length uc) rfl (fun w' hw=>(bW.chg hw fun e=>by have:=hne _ e;omega).cell (o:=0) rfl) (ax ?_))
  (repeat' (refine aa2 (aa9 (ax ?_))))
  refine aT rfl (aB (Jq (i:=i) ((h.keep oz nW.keep).keep oz n3.keep) hok (by omega)) rfl ?_)
  rintro _ w4 ⟨rfl,n4⟩
  replace n4:=New.trans n3 n4
  refine af ⟨rfl,n4.any,?_⟩
  refine aT rfl (bT (R:=Wk.one vs) (y:=oO l i) (Pe:=NoB) qR rfl rfl rfl rfl (by omega) (by omega) fun vt w5 ot n5 s5 MO=>?_)
  have n45:=New.trans n4 n5
  refine af ⟨rfl,n45.any,?_⟩
  refine aT rfl (bU qR (own.new (nM _) n45) (ot.rd qR.mo) (fun y cs hy=>hy) rfl rfl (by omega) (by simp only [maxLen,List.length_singleton];omega) (by simp only [List.length_singleton];omega) fun v6 w6 o6 c6 lie _=>?_)
  have c36:Chg (fun k=>(Value.slice ua ((pK l).take i).length uc).ownBlock=some k) W w6:=Chg.trans n45.any c6 fun _ _ e=>e
  refine af ⟨rfl,c36,?_⟩
  have b6:=bW.chg c36 fun e=>by have:=hne _ e;omega
  refine Wt.last rfl (aY (u:=v6) b6 rfl (show (0:Nat)<1 by omega) rfl (by obtain ⟨_,_,rfl,_⟩:=o6.form;rfl) fun w7 b7 c7=>?_)
  refine af ?_
  have hz5:=n45.size
  have hs6: ∀k,v6.ownBlock=some k→w.heap.size<k:=fun k hk=>by
   rcases (o6.lt hk).1 with e|e
   ·exact e
   ·omega
  (repeat' (first|refine aa0 ?_|refine af ?_|refine ah ?_|refine ak ?_|refine aH ?_|refine aa7 ?_))
  refine aG (i+1,v6) ⟨rfl,rfl,rfl,rfl,rfl,trivial⟩ ⟨by dsimp only;omega,b7,?_,Chg.trans (Chg.trans (M:=fun k=>w.heap.size≤k) nW.any c36 fun k _ e=>by have:=hne k e;omega) c7 (fun k _ e=>by omega) |>.toNew fun k hk e=>by omega⟩ (by dsimp only;omega)
  rw [take_snoc hx]
  exact (o6.chg (nM _) c7 fun k hk e=>by have:=hs6 k hk;omega).mono qR.mo (fun b _ e=>by rcases e with e|e;exact e;omega) (fun _ _ e=>e)
 ·obtain rfl:i=l.length:=by omega
  have e:(pK l).take l.length=pK l:=List.take_of_length_le (by omega)
  rw [e] at own bW
  refine dH (f1:=[]) (c1:=[pT w.heap.size]) rfl rfl ?_
  (repeat' (first|refine aa1 ?_|refine af ?_|refine ah ?_|refine aA ?_))
  exact aF rfl rfl ⟨_,rfl,⟨w.heap.size,.slice ua (pK l).length uc,rfl,Nat.le_refl _,bW,(own.rd qR.mo).mono qR.mo fun b hb e=>by rcases e with e|e;(exact ⟨by omega,hb⟩);exact e.elim⟩,nW⟩
end Go.Proofs.YtjecgaiaiophpaaGreatDoor
namespace Go.Proofs.YtjecgaiaiophpaaGreatDoor.Wk
open Go Go.RowKit
section
variable {P:Program} {n:Nat} {ds:List Deferred} {Q:Po} {F0:Fr} {w0:World} {ops:List Oper}
structure O5 (ops:List Oper) (N:Nat) (Φ:Nat→Value→World→Prop) (F0:Fr) (wb:World) (listed:Array Bool) (F:Fr) (w:World):Prop where
 size:listed.size=ops.length
 last:listed[N]? =some false
 new:New wb w
 done: ∀i:Nat,listed[i]? =some true→Φ i (F (uZ ops i)) w
 rest: ∀s:Nat,(∀i:Nat,listed[i]? =some true→uZ ops i≠s)→F s=F0 s
 YG: ∀(i:Nat) (o:Oper),listed[i]? =some true→ops[i]? =some o→ ∀e∈o.after,Region.binds .any e=true→listed[e.on]? =some true
def KQ (ops:List Oper):Bool:=match ops[ops.length-1]? with
 |some z=>(List.range (ops.length-1)).all (fun i=>z.after.any fun e=>e.on == i&&Region.binds .any e)&&z.after.all fun e=>e.on<ops.length-1
 |none=>false
def QT (ops:List Oper) (i s:Nat):Bool:=(ops.take (ops.length-1)).all fun o:Oper=>o.dst != some s||o.after.any fun e:Edge=>e.on == i&&Region.binds .any e
theorem JG: ∀ {l:List Bool} {i j:Nat},i≠j→l[i]? =some false→l[j]? =some false→2≤l.count false
 | [],i,j,_,h,_=>by simp at h
 |b::r,0,0,h,_,_=>absurd rfl h
 |b::r,0,j+1,_,h1,h2=>by
  simp at h1 h2;subst h1
  have:0<r.count false:=List.count_pos_iff.2 (List.mem_of_getElem? h2)
  rw [List.count_cons];simp only [BEq.rfl,if_true];omega
 |b::r,i+1,0,_,h1,h2=>by
  simp at h1 h2;subst h2
  have:0<r.count false:=List.count_pos_iff.2 (List.mem_of_getElem? h1)
  rw [List.count_cons];simp only [BEq.rfl,if_true];omega
 |b::r,i+1,j+1,h,h1,h2=>by
  have:=JG (l:=r) (i:=i) (j:=j) (by omega) (by simpa using h1) (by simpa using h2)
  rw [List.count_cons];omega
theorem mZ {id:Nat} (Φ:Nat→Value→World→Prop) (hm:P.follows .mixedOrders=true) (h1:Ui (ops.take (ops.length-1))=true) (h2:XI (ops.take (ops.length-1))=true) (h3:KQ ops=true)
 (hst: ∀i v w w',New w w'→Φ i v w→Φ i v w')
 (step: ∀(i:Nat) (o:Oper),i<ops.length-1→ops[i]? =some o→ ∀F w,New w0 w→(∀j,(o.after.any fun e=>e.on == j&&Region.binds .any e)=true→Φ j (F (uZ ops j)) w)→(∀s,QT ops i s=true→F s=F0 s)→
   Wl P n ds (zx Φ w (uZ ops i) i F) ops [o] F w)
 (fin: ∀F w z,New w0 w→ops[ops.length-1]? =some z→(∀i,i<ops.length-1→Φ i (F (uZ ops i)) w)→(∀s,(∀i,i<ops.length-1→uZ ops i≠s)→F s=F0 s)→Wl P n ds (fun e F' w'=>e=.normal∧Q .normal F' w') ops [z] F w):
 Wc P n ds Q (.region id ops.toArray true) F0 w0:=by
 obtain ⟨N,hN⟩: ∃N,ops.length-1=N:=⟨_,rfl⟩
 obtain ⟨z,hz⟩: ∃z,ops[N]? =some z:=by
  unfold KQ at h3
  rw [hN] at h3
  cases h:ops[N]? with
  |none=>rw [h] at h3;cases h3
  |some z=>exact ⟨z,rfl⟩
 have hNl:N<ops.length:=(List.getElem?_eq_some_iff.1 hz).1
 rw [hN] at h1 h2 step fin
 have hzB:(∀i,i<N→(z.after.any fun e=>e.on == i&&Region.binds .any e)=true)∧ ∀e∈z.after,e.on<N:=by
  unfold KQ at h3
  rw [hN,hz] at h3
  simp only [Bool.and_eq_true] at h3
  refine ⟨fun i hi=>List.all_eq_true.1 h3.1 i (List.mem_range.2 hi),fun e he=>?_⟩
  have:=Array.all_eq_true'.1 h3.2 e he
  simpa using this
 have htk: ∀i,i<N→(ops.take N)[i]? =ops[i]? :=fun i hi=>by rw [List.getElem?_take,if_pos hi]
 have htl:(ops.take N).length=N:=by rw [List.length_take];omega
 have hdst: ∀i o,i<N→ops[i]? =some o→o.dst=some (uZ ops i)∧ ∀e∈o.after,e.on<i:=by
  intro i o hi ho
  have:=List.all_eq_true.1 h1 i (List.mem_range.2 (by omega))
  simp only [htk i hi,ho,Bool.and_eq_true] at this
  refine ⟨?_,fun e he=>?_⟩
  ·simp only [uZ,ho,Option.bind_some]
   cases hd:o.dst with
   |none=>rw [hd] at this;simp at this
   |some d=>rfl
  ·have h:=Array.all_eq_true'.1 this.2 e he
   simpa using h
 have hne: ∀i j,i<N→j<N→i≠j→uZ ops i≠uZ ops j:=by
  intro i j hi hj hij he
  have:=List.all_eq_true.1 (List.all_eq_true.1 h2 i (List.mem_range.2 (by omega))) j (List.mem_range.2 (by omega))
  simp only [Bool.or_eq_true,beq_iff_eq,hij,false_or,bne_iff_ne,ne_eq,htk i hi,htk j hj] at this
  apply this
  have ei:=(hdst i _ hi (List.getElem?_eq_getElem (by omega))).1
  have ej:=(hdst j _ hj (List.getElem?_eq_getElem (by omega))).1
  rw [List.getElem?_eq_getElem (by omega),List.getElem?_eq_getElem (by omega)]
  simp only [Option.bind_some,ei,ej,he]
 unfold Wc
 refine wp_region_any hm ?_
 have noQ: ∀ {Q':Po},(∀e F w,Q' e F w→e=.normal)→ ∀e a w',e≠ .normal→ ¬QA n ds Q' e a w':=by
  rintro Q' hQ e a w' he ⟨F',_,h⟩;exact he (hQ _ _ _ h)
 have hmono: ∀ {Q':Po} {i:Nat} {o:Oper} {F:Fr} {w:World} {K K':Act→World→Prop},(∀e F w,Q' e F w→e=.normal)→ops.toArray[i]? =some o→(∀a w,K a w→K' a w)→wpOp P ops.toArray (QA n ds Q') i K (act n ds F) w→wpOp P ops.toArray (QA n ds Q) i K' (act n ds F) w:=by
  intro Q' i o F w K K' hQ ho hK hh
  have noQ:=noQ hQ
  unfold wpOp at hh ⊢
  simp only [ho] at hh ⊢
  split
  ·rename_i hw
   rw [if_pos hw] at hh
   rcases hh with hh|⟨_,a₀,w₀,hq⟩
   ·refine .inl ?_
    unfold Oper.wp at*
    generalize (execOp (act n ds F).eval o).run P w=r at*
    cases r with
    |ok nx w'=>
     cases nx<;>simp only [Oper.upon] at hh ⊢ <;>
      first
       |exact hK _ _ hh
       |exact Calls.mono hh (fun e w'' he=>by cases e<;>first|exact hK _ _ he|exact absurd he (noQ _ _ _ (by simp))|(obtain ⟨a₀,w₀,hq⟩:=he;exact absurd hq (noQ _ _ _ (by simp))))
       |exact Rows.mono hh (fun _ _ he=>hK _ _ he)
    |halt x w'=>cases x<;>simp only [Oper.upon] at hh ⊢ <;>exact absurd hh (noQ _ _ _ (by simp))
   ·exact absurd hq (noQ _ _ _ (by simp))
  ·rename_i hw
   rw [if_neg hw] at hh
   exact hK _ _ hh
 have key: ∀fuel (listed:Array Bool) F w,O5 ops N Φ F0 w0 listed F w→unl listed=fuel+1→wpAny P .any ops.toArray (QA n ds Q) (fuel+1) listed (act n ds F) w:=by
  intro fuel
  have QU: ∀(listed:Array Bool) F w,O5 ops N Φ F0 w0 listed F w→Region.ready .any ops.toArray listed≠ []:=by
   intro listed F w hI hr
   have hall: ∀i,i<N→listed[i]? =some true:=by
    intro i
    induction i using Nat.strongRecOn with
    |ind i ih=>
     intro hi
     have his:i<listed.size:=by rw [hI.size];omega
     cases hb:listed[i] with
     |true=>rw [Array.getElem?_eq_getElem his,hb]
     |false=>
      exfalso
      have:i∈Region.ready .any ops.toArray listed:=by
       refine mem_ready.2 ⟨?_,ops[i]'(by omega),by simp,fun e he _=>?_⟩
       ·simp [Array.getD_eq_getD_getElem?,Array.getElem?_eq_getElem his,hb]
       ·have:=(hdst i _ hi (List.getElem?_eq_getElem (by omega))).2 e he
        simp [Array.getD_eq_getD_getElem?,ih e.on this (by omega)]
      rw [hr] at this
      cases this
   have:N∈Region.ready .any ops.toArray listed:=by
    refine mem_ready.2 ⟨?_,z,by simpa using hz,fun e he _=>?_⟩
    ·simp [Array.getD_eq_getD_getElem?,hI.last]
    ·simp [Array.getD_eq_getD_getElem?,hall e.on (hzB.2 e he)]
   rw [hr] at this
   cases this
  induction fuel with
  |zero=>
   intro listed F w hI hu
   refine ⟨fun hr=>absurd hr (QU listed F w hI),fun i hi=>?_⟩
   obtain ⟨h0,o,ho,O6⟩:=mem_ready.1 hi
   have ho':ops[i]? =some o:=by simpa using ho
   have hil:i<ops.length:=(List.getElem?_eq_some_iff.1 ho').1
   have his:i<listed.size:=by rw [hI.size];exact hil
   have hli:listed[i]=false:=by simpa [Array.getD_eq_getD_getElem?,Array.getElem?_eq_getElem his] using h0
   have hlt: ∀e∈o.after,Region.binds .any e=true→listed[e.on]? =some true:=by
    intro e he hb
    have h:=O6 e he hb
    rcases Nat.lt_or_ge e.on listed.size with h'|h'
    ·simp [Array.getD_eq_getD_getElem?,Array.getElem?_eq_getElem h'] at h
     rw [Array.getElem?_eq_getElem h',h]
    ·simp [Array.getD_eq_getD_getElem?,Array.getElem?_eq_none h'] at h
   have hlN: ∀k,listed[k]? =some true→k<N:=fun k hk=>by
    have hkl:k<ops.length:=by
     rcases Nat.lt_or_ge k ops.length with h|h
     ·exact h
     ·rw [Array.getElem?_eq_none (by rw [hI.size];exact h)] at hk;cases hk
    rcases Nat.lt_or_ge k N with h|h
    ·exact h
    ·obtain rfl:k=N:=by omega
     rw [hI.last] at hk;cases hk
   rcases Nat.lt_or_ge i N with hiN|hiN
   ·have hs:=step i o hiN ho' F w hI.new (fun j hj=>by
     obtain ⟨e,he,hb⟩:=Array.any_eq_true'.1 hj
     simp only [Bool.and_eq_true,beq_iff_eq] at hb
     exact hI.done j (hb.1▸hlt e he hb.2)) (fun s hs=>hI.rest s fun k hk he=>by
      have hkN:=hlN k hk
      have hok:=List.getElem?_eq_getElem (l:=ops) (i:=k) (by omega)
      have hmem:ops[k]'(by omega)∈ops.take N:=List.mem_iff_getElem?.2 ⟨k,by rw [htk k hkN];exact hok⟩
      unfold QT at hs
      rw [hN] at hs
      have h3:=List.all_eq_true.1 hs _ hmem
      rw [(hdst k _ hkN hok).1,he] at h3
      simp only [bne_self_eq_false,Bool.false_or] at h3
      obtain ⟨e,hee,hb⟩:=Array.any_eq_true'.1 h3
      simp only [Bool.and_eq_true,beq_iff_eq] at hb
      have:=hI.YG k _ hk hok e hee hb.2
      rw [hb.1,Array.getElem?_eq_getElem his,hli] at this
      cases this)
    have hwp:wpOp P ops.toArray (QA n ds (zx Φ w (uZ ops i) i F)) i (fun a w'=>QA n ds (zx Φ w (uZ ops i) i F) .normal a w') (act n ds F) w:=by
     have hs2:=hs
     unfold Wl wpList at hs2
     unfold wpOp
     simp only [ho]
     exact hs2
    refine hmono (fun _ _ _ h=>h.1) ho ?_ hwp
    rintro a w' ⟨F',rfl,_,v,rfl,hn,hΦ⟩
    exfalso
    have h2:2≤listed.toList.count false:=by
     have e1:listed.toList[i]? =some false:=by rw [Array.getElem?_toList,Array.getElem?_eq_getElem his,hli]
     have e2:listed.toList[N]? =some false:=by rw [Array.getElem?_toList];exact hI.last
     exact JG (by omega) e1 e2
    unfold unl at hu
    omega
   ·obtain rfl:i=N:=by omega
    rw [hz] at ho';cases ho'
    have hall: ∀k,k<i→listed[k]? =some true:=fun k hk=>by
     obtain ⟨e,he,hb⟩:=Array.any_eq_true'.1 (hzB.1 k hk)
     simp only [Bool.and_eq_true,beq_iff_eq] at hb
     exact hb.1▸hlt e he hb.2
    have hs:=fin F w z hI.new hz (fun k hk=>hI.done k (hall k hk)) (fun s hs=>hI.rest s fun k hk=>hs k (hlN k hk))
    have hwp:wpOp P ops.toArray (QA n ds (fun e F' w'=>e=.normal∧Q .normal F' w')) i (fun a w'=>QA n ds (fun e F' w'=>e=.normal∧Q .normal F' w') .normal a w') (act n ds F) w:=by
     have hs2:=hs
     unfold Wl wpList at hs2
     unfold wpOp
     simp only [ho]
     exact hs2
    refine hmono (fun _ _ _ h=>h.1) ho ?_ hwp
    rintro a w' ⟨F',rfl,_,hQ⟩
    have hdone: ∀k,k<(listed.setIfInBounds i true).size→(listed.setIfInBounds i true)[k]? =some true:=fun k hk=>by
     rw [Array.size_setIfInBounds,hI.size] at hk
     by_cases hki:k=i
     ·subst hki;simp [his]
     ·rw [Array.getElem?_setIfInBounds_ne (Ne.symm hki)]
      exact hall k (by omega)
    have hr:Region.ready .any ops.toArray (listed.setIfInBounds i true)=[]:=by
     rw [List.eq_nil_iff_forall_not_mem]
     intro k hk
     have h0:=(mem_ready.1 hk).1
     rcases Nat.lt_or_ge k (listed.setIfInBounds i true).size with h|h
     ·have:=hdone k h
      simp [Array.getD_eq_getD_getElem?,this] at h0
     ·simp [Array.getD_eq_getD_getElem?,Array.getElem?_eq_none h] at h0
    exact ⟨hr,F',rfl,hQ⟩
  |succ fuel ih=>
   intro listed F w hI hu
   refine ⟨fun hr=>absurd hr (QU listed F w hI),fun i hi=>?_⟩
   obtain ⟨h0,o,ho,O6⟩:=mem_ready.1 hi
   have ho':ops[i]? =some o:=by simpa using ho
   have hil:i<ops.length:=(List.getElem?_eq_some_iff.1 ho').1
   have his:i<listed.size:=by rw [hI.size];exact hil
   have hli:listed[i]=false:=by simpa [Array.getD_eq_getD_getElem?,Array.getElem?_eq_getElem his] using h0
   have hlt: ∀e∈o.after,Region.binds .any e=true→listed[e.on]? =some true:=by
    intro e he hb
    have h:=O6 e he hb
    rcases Nat.lt_or_ge e.on listed.size with h'|h'
    ·simp [Array.getD_eq_getD_getElem?,Array.getElem?_eq_getElem h'] at h
     rw [Array.getElem?_eq_getElem h',h]
    ·simp [Array.getD_eq_getD_getElem?,Array.getElem?_eq_none h'] at h
   have hlN: ∀k,listed[k]? =some true→k<N:=fun k hk=>by
    have hkl:k<ops.length:=by
     rcases Nat.lt_or_ge k ops.length with h|h
     ·exact h
     ·rw [Array.getElem?_eq_none (by rw [hI.size];exact h)] at hk;cases hk
    rcases Nat.lt_or_ge k N with h|h
    ·exact h
    ·obtain rfl:k=N:=by omega
     rw [hI.last] at hk;cases hk
   rcases Nat.lt_or_ge i N with hiN|hiN
   ·have hs:=step i o hiN ho' F w hI.new (fun j hj=>by
     obtain ⟨e,he,hb⟩:=Array.any_eq_true'.1 hj
     simp only [Bool.and_eq_true,beq_iff_eq] at hb
     exact hI.done j (hb.1▸hlt e he hb.2)) (fun s hs=>hI.rest s fun k hk he=>by
      have hkN:=hlN k hk
      have hok:=List.getElem?_eq_getElem (l:=ops) (i:=k) (by omega)
      have hmem:ops[k]'(by omega)∈ops.take N:=List.mem_iff_getElem?.2 ⟨k,by rw [htk k hkN];exact hok⟩
      unfold QT at hs
      rw [hN] at hs
      have h3:=List.all_eq_true.1 hs _ hmem
      rw [(hdst k _ hkN hok).1,he] at h3
      simp only [bne_self_eq_false,Bool.false_or] at h3
      obtain ⟨e,hee,hb⟩:=Array.any_eq_true'.1 h3
      simp only [Bool.and_eq_true,beq_iff_eq] at hb
      have:=hI.YG k _ hk hok e hee hb.2
      rw [hb.1,Array.getElem?_eq_getElem his,hli] at this
      cases this)
    have hwp:wpOp P ops.toArray (QA n ds (zx Φ w (uZ ops i) i F)) i (fun a w'=>QA n ds (zx Φ w (uZ ops i) i F) .normal a w') (act n ds F) w:=by
     have hs2:=hs
     unfold Wl wpList at hs2
     unfold wpOp
     simp only [ho]
     exact hs2
    refine hmono (fun _ _ _ h=>h.1) ho ?_ hwp
    rintro a w' ⟨F',rfl,_,v,rfl,hn,hΦ⟩
    refine ih _ _ _ ⟨by simpa using hI.size,by rw [Array.getElem?_setIfInBounds_ne (by omega)];exact hI.last,New.trans hI.new hn,fun j hj=>?_,fun s hs=>?_,fun j oj hj hoj e he hb=>?_⟩ ?_
    ·by_cases hji:j=i
     ·subst hji
      rw [Ak,if_pos rfl];exact hΦ
     ·rw [Array.getElem?_setIfInBounds_ne (Ne.symm hji)] at hj
      rw [Ak,if_neg (hne j i (hlN j hj) hiN hji)]
      exact hst _ _ _ _ hn (hI.done j hj)
    ·have:=hs i (by simp [his])
     rw [Ak,if_neg (Ne.symm this)]
     exact hI.rest s fun j hj=>hs j (by
      by_cases hji:j=i
      ·subst hji;simp [his]
      ·rw [Array.getElem?_setIfInBounds_ne (Ne.symm hji)];exact hj)
    ·by_cases hei:e.on=i
     ·rw [hei];simp [his]
     ·rw [Array.getElem?_setIfInBounds_ne (Ne.symm hei)]
      by_cases hji:j=i
      ·subst hji
       rw [ho'] at hoj;cases hoj
       exact hlt e he hb
      ·rw [Array.getElem?_setIfInBounds_ne (Ne.symm hji)] at hj
       exact hI.YG j oj hj hoj e he hb
    ·unfold unl at hu ⊢
     rw [Array.toList_setIfInBounds,List.count_set (by simpa using his)]
     simp [hli,hu]
   ·obtain rfl:i=N:=by omega
    rw [hz] at ho';cases ho'
    have hall: ∀k,k<i→listed[k]? =some true:=fun k hk=>by
     obtain ⟨e,he,hb⟩:=Array.any_eq_true'.1 (hzB.1 k hk)
     simp only [Bool.and_eq_true,beq_iff_eq] at hb
     exact hb.1▸hlt e he hb.2
    have hs:=fin F w z hI.new hz (fun k hk=>hI.done k (hall k hk)) (fun s hs=>hI.rest s fun k hk=>hs k (hlN k hk))
    have hwp:wpOp P ops.toArray (QA n ds (fun e F' w'=>e=.normal∧Q .normal F' w')) i (fun a w'=>QA n ds (fun e F' w'=>e=.normal∧Q .normal F' w') .normal a w') (act n ds F) w:=by
     have hs2:=hs
     unfold Wl wpList at hs2
     unfold wpOp
     simp only [ho]
     exact hs2
    refine hmono (fun _ _ _ h=>h.1) ho ?_ hwp
    rintro a w' ⟨F',rfl,_,hQ⟩
    have hdone: ∀k,k<(listed.setIfInBounds i true).size→(listed.setIfInBounds i true)[k]? =some true:=fun k hk=>by
     rw [Array.size_setIfInBounds,hI.size] at hk
     by_cases hki:k=i
     ·subst hki;simp [his]
     ·rw [Array.getElem?_setIfInBounds_ne (Ne.symm hki)]
      exact hall k (by omega)
    have hr:Region.ready .any ops.toArray (listed.setIfInBounds i true)=[]:=by
     rw [List.eq_nil_iff_forall_not_mem]
     intro k hk
     have h0:=(mem_ready.1 hk).1
     rcases Nat.lt_or_ge k (listed.setIfInBounds i true).size with h|h
     ·have:=hdone k h
      simp [Array.getD_eq_getD_getElem?,this] at h0
     ·simp [Array.getD_eq_getD_getElem?,Array.getElem?_eq_none h] at h0
    exact ⟨fun _=>⟨F',rfl,hQ⟩,fun k hk=>by rw [hr] at hk;cases hk⟩
 have hI0:O5 ops N Φ F0 w0 (Array.replicate ops.length false) F0 w0.drew:=
  ⟨by simp,by rw [Array.getElem?_replicate,if_pos hNl],Chg.drew _ _,fun i hi=>(by rw [Array.getElem?_replicate] at hi;split at hi<;>cases hi),fun s _=>rfl,fun i o hi=>(by rw [Array.getElem?_replicate] at hi;split at hi<;>cases hi)⟩
 have:=key (ops.length-1) _ _ _ hI0 (by simp [unl];omega)
 have e1:ops.toArray.size=ops.length-1+1:=by simp;omega
 have e2:Array.replicate ops.toArray.size false=Array.replicate ops.length false:=by simp
 rw [e2,e1]
 exact this
def XU (P:Program) (n:Nat) (ds:List Deferred) (Φ:Nat→Value→World→Prop) (ops:List Oper) (F0:Fr) (w0:World) (i:Nat) (o:Oper):Prop:=
 ∀F w,New w0 w→(∀j,(o.after.any fun e=>e.on == j&&Region.binds .any e)=true→Φ j (F (uZ ops j)) w)→(∀s,QT ops i s=true→F s=F0 s)→
    Wl P n ds (zx Φ w (uZ ops i) i F) ops [o] F w
def Ik (P:Program) (n:Nat) (ds:List Deferred) (Φ:Nat→Value→World→Prop) (ops:List Oper) (F0:Fr) (w0:World):Nat→List Oper→Prop
 |_,[]=>True
 |_,[_]=>True
 |i,o::o2::r=>XU P n ds Φ ops F0 w0 i o∧Ik P n ds Φ ops F0 w0 (i+1) (o2::r)
theorem Ik.get {Φ:Nat→Value→World→Prop}: ∀ {l:List Oper} {k:Nat},Ik P n ds Φ ops F0 w0 k l→ ∀(i:Nat) (o:Oper),i<l.length-1→l[i]? =some o→XU P n ds Φ ops F0 w0 (k+i) o
 | [],_,_,i,o,_,h=>by simp at h
 | [_],_,_,i,o,hi,_=>by simp at hi
 |o'::o2::r,k,hs,0,o,_,h=>by simp at h;subst h;exact hs.1
 |o'::o2::r,k,hs,i+1,o,hi,h=>by
  have:=Ik.get hs.2 i o (by simp only [List.length_cons] at hi ⊢;omega) (by simpa using h)
  rw [Nat.add_right_comm] at this
  exact this
theorem ni {id:Nat} (Φ:Nat→Value→World→Prop) (hm:P.follows .mixedOrders=true) (h1:Ui (ops.take (ops.length-1))=true) (h2:XI (ops.take (ops.length-1))=true) (h3:KQ ops=true)
 (hst: ∀i v w w',New w w'→Φ i v w→Φ i v w') (step:Ik P n ds Φ ops F0 w0 0 ops)
 (fin: ∀F w z,New w0 w→ops[ops.length-1]? =some z→(∀i,i<ops.length-1→Φ i (F (uZ ops i)) w)→(∀s,(∀i,i<ops.length-1→uZ ops i≠s)→F s=F0 s)→Wl P n ds (fun e F' w'=>e=.normal∧Q .normal F' w') ops [z] F w):
 Wc P n ds Q (.region id ops.toArray true) F0 w0:=
 mZ Φ hm h1 h2 h3 hst (fun i o hi ho=>by have:=step.get i o hi ho;rwa [Nat.zero_add] at this) fin
end
end Go.Proofs.YtjecgaiaiophpaaGreatDoor.Wk
namespace Go.Proofs.YtjecgaiaiophpaaGreatDoor.Wk
open Go Go.RowKit
section
variable {P:Program} {r:Option Nat} {md:Region.Mode} {ops:Array Oper} {Q:Exit→Act→World→Prop}
theorem Xn (hout: ¬LetsOut Q) (hpl: ∀(i:Nat) (o:Oper),ops[i]? =some o→ ∀c,o.op≠ .defer c) {i:Nat} {K K':Act→World→Prop} (hK: ∀a w,K a w→K' a w) {a:Act} {w:World} (h:wpOp P ops Q i K a w):wpOpIn (FR r) 0 P ops Q i K' a w:=by
 have Vh: ∀f,(FR r).fn f:=by cases r<;>exact fun _=>trivial
 unfold wpOp at h
 unfold wpOpIn
 split
 ·rename_i ho
  rw [ho] at h;exact hK _ _ h
 ·rename_i o ho
  simp only [ho] at h
  split
  ·rename_i hw
   rw [if_pos hw] at h
   rcases h with h|⟨_,h⟩
   ·refine ⟨fun f _=>Vh f,?_⟩
    rw [Oper.semAt_eq _ _ _ (hpl i o ho)]
    exact JE hK h
   ·exact absurd h hout
  ·rename_i hw
   rw [if_neg hw] at h
   exact ⟨fun f _=>Vh f,hK _ _ h⟩
theorem Ny (hout: ¬LetsOut Q) (hpl: ∀(i:Nat) (o:Oper),ops[i]? =some o→ ∀c,o.op≠ .defer c): ∀(fuel:Nat) (listed:Array Bool) (a:Act) (w:World),wpAny P md ops Q fuel listed a w→wpAnyIn (FR r) 0 P md ops Q fuel listed a w
 |0,_,_,_,h=>h
 |fuel+1,_,_,_,h=>⟨h.1,fun i hi=>Xn hout hpl (fun a w h'=>Ny hout hpl fuel _ a w h') (h.2 i hi)⟩
end
section
variable {P:Program} {n:Nat} {r:Option Nat} {ops:List Oper} {Q:Po} {F:Fr} {w:World}
theorem jU {rid:Nat} (hpl:Dc ops=true) (hQ: ∀F w, ¬Q .outgrown F w) (hm:P.follows .mixedOrders=true) (hB:okT ops.toArray=true) (C:World→Prop) (hC:C w.drew) (h: ∀w',New w w'→Wt P n [] C Q ops ops F w'):Wr P n r Q (.region rid ops.toArray true) F w:=by
 unfold Wr
 refine wpIn_region_any hm (Ny (fun hx=>by obtain ⟨a,w,F',_,hq⟩:=hx;exact hQ F' w hq) (fun i o ho c e=>?_) _ _ _ _ ?_)
 ·unfold Dc at hpl
  have:=List.all_eq_true.1 hpl o (List.mem_of_getElem? (by simpa using ho))
  rw [e] at this;cases this
 have hleft:left ops.toArray (Array.replicate ops.toArray.size false)=(List.range ops.length).map (0+ ·):=by
  unfold left
  rw [show ((fun x=>0+x):Nat→Nat)=id from funext fun x=>Nat.zero_add x,List.map_id]
  simp only [List.size_toArray]
  refine List.filter_eq_self.2 fun k hk=>?_
  have:=List.mem_range.1 hk
  simp [Array.getD_eq_getD_getElem?,Array.getElem?_replicate,this]
 have h0:yO ops.toArray (Array.replicate ops.toArray.size false):=by
  intro j o hj
  exfalso
  simp only [Array.getD_eq_getD_getElem?,Array.getElem?_replicate] at hj
  split at hj<;>simp at hj
 refine Fe (C:=C) hB _ _ _ _ (by simp) (by rw [hleft];simp) h0 (fun _=>hC) ?_
 rw [hleft]
 exact AB ops 0 F w.drew (fun j=>by rw [Nat.zero_add]) (h _ (Chg.drew _ _))
end
end Go.Proofs.YtjecgaiaiophpaaGreatDoor.Wk
namespace Go.Proofs.YtjecgaiaiophpaaGreatDoor
open Go Wk
open Go.RowKit (Below)
attribute [local irreducible] Go.Calls
theorem Wk.RdS.afe {α:Type} {f:α→Value} {Pb:Nat→Prop} {w:World} {v:Value} {xs:List α} {L:Nat} (o:Obj) (h:RdS (Wk.one f) 1 Pb w v xs) (hL:NoC w L):RdS (Wk.one f) 1 Pb (w.putObj L o) v xs:=by
 rcases h with h|h|⟨b,off,cap,cur,e',fr,hv,hb,hh,r⟩
 ·exact .inl h
 ·exact .inr (.inl h)
 ·refine .inr (.inr ⟨b,off,cap,cur,e',fr,hv,hb,?_,r⟩)
  rw [World.putObj_heap_other]
  ·exact hh
  ·rintro rfl
   obtain ⟨o2,h1,h2⟩:=hL
   rw [hh] at h1
   cases h1
   cases h2
theorem Wk.nO.aan {Pb Pe:Nat→Prop} {w:World} {v:Value} {xs:List Ed} {L:Nat} (o:Obj) (h:nO rEd 150 6 Pb Pe w v xs) (hL:NoC w L):nO rEd 150 6 Pb Pe (w.putObj L o) v xs:=by
 have hk: ∀k,v.ownBlock=some k→k≠L:=fun k hk=>h.nl hL hk
 obtain ⟨cs,hoc,he⟩:=h.BN (Pb':=fun b=>v.ownBlock=some b∧Pb b) fun b hb hP=>⟨hb,hP⟩
 refine ⟨cs,(hoc.keep fun b hb _=>World.putObj_heap_other (hk b hb.1)).mono fun b _ hP=>hP.2,fun i x hx=>?_⟩
 obtain ⟨av,e,hr⟩:=he i x hx
 exact ⟨av,e,Wk.RdS.afe o hr hL⟩
section
variable {P:Program} {α:Type} {R:Rel α} {e:TypeId} {sz:Nat} {Pb Pe:Nat→Prop} {w:World} {v:Value} {xs:List α}
theorem Wk.nO.ty (h:nO R e sz Pb Pe w v xs) {k:Nat} (hk:v.ownBlock=some k): ∃cur,w.heap[k]? =some (.cells cur e (0,0)):=by
 obtain ⟨cs,⟨_,h⟩,_⟩:=h
 rcases h with ⟨rfl,_⟩|⟨g,cap,cur,rfl,_,hg,_⟩
 ·cases hk
 ·simp only [Value.ownBlock,Option.some.injEq] at hk
  subst hk
  exact ⟨cur,hg⟩
theorem Wk.nO.pO (h:nO R e sz Pb Pe w v xs) {b:Nat} {T:TypeId} {cs:List Value} (hb:Bk w b T cs) (ne:Nat.beq e T=false) {k:Nat} (hk:v.ownBlock=some k):k≠b:=by
 rintro rfl
 obtain ⟨cur,hc⟩:=h.ty hk
 have:=hc.symm.trans hb
 simp only [Option.some.injEq,Obj.cells.injEq] at this
 exact Nat.ne_of_beq_eq_false ne this.2.1
theorem Wk.nO.rE (h:nO R e sz Pb Pe w v xs) {b:Nat} {kt:TypeId} {l:List (Value×Value)} (hm:rC P kt w b l) {k:Nat} (hk:v.ownBlock=some k):k≠b:=by
 rintro rfl
 obtain ⟨cur,hc⟩:=h.ty hk
 obtain ⟨es,cl,h2,_⟩:=hm
 cases hc.symm.trans h2
theorem Wk.nO.um {β:Type} {R':Rel β} {e':TypeId} {sz':Nat} {Qb Qe:Nat→Prop} {u:Value} {ys:List β} (h:nO R e sz Pb Pe w v xs) (h':nO R' e' sz' Qb Qe w u ys) (ne:Nat.beq e e'=false):Sep v u:=by
 intro k h1 h2
 obtain ⟨c1,e1⟩:=h.ty h1
 obtain ⟨c2,e2⟩:=h'.ty h2
 have:=e1.symm.trans e2
 simp only [Option.some.injEq,Obj.cells.injEq] at this
 exact Nat.ne_of_beq_eq_false ne this.2.1
theorem Wk.Bk.pO {w:World} {b b':Nat} {T T':TypeId} {cs cs':List Value} (h:Bk w b T cs) (h':Bk w b' T' cs') (ne:Nat.beq T T'=false):b≠b':=by
 rintro rfl
 have:=h.symm.trans h'
 simp only [Option.some.injEq,Obj.cells.injEq] at this
 exact Nat.ne_of_beq_eq_false ne this.2.1
theorem Wk.Bk.rE {w:World} {b b':Nat} {T kt:TypeId} {cs:List Value} {l:List (Value×Value)} (h:Bk w b T cs) (hm:rC P kt w b' l):b≠b':=by
 rintro rfl
 obtain ⟨es,cl,h2,_⟩:=hm
 cases h.symm.trans h2
end
abbrev vbo:Bool→Value:=fun b=>.bool b
theorem Dh:qQ (Wk.one vbo) 1:=uh _ fun _=>rfl
abbrev tX:=Value×List Nat
abbrev wrC:tX→List Value:=fun x=>[x.1]
structure Gr0 (lo bg hm b6 n:Nat) (m:List (Nat×Nat)) (ps:List Nm) (lv wv gv pv:Value) (W:World):Prop where
 b:Bk W bg 225 (grC lv hm (.slice none 0 0) wv gv pv)
 v6:Bk W b6 220 [pT bg]
 mp:rC Tryz.prog 166 W hm (A8 m)
 wa:nO (flat wrC) 41 1 (fun b=>lo≤b) NoB W wv (List.replicate n (.slice none 0 0,[]))
 ga:nO (Wk.one vbo) 4 1 (fun b=>lo≤b) NoB W gv (List.replicate n false)
 pa:nO (Wk.one vs) 9 1 (fun b=>lo≤b) NoB W pv ps
 lo2:lo≤bg∧lo≤b6∧lo≤hm
section
variable {lo bg hm b6 n:Nat} {m:List (Nat×Nat)} {ps:List Nm} {lv wv gv pv:Value} {W W':World}
theorem Gr0.new (g:Gr0 lo bg hm b6 n m ps lv wv gv pv W) (c:New W W'):Gr0 lo bg hm b6 n m ps lv wv gv pv W':=
 ⟨g.b.chg c fun e=>e,g.v6.chg c fun e=>e,g.mp.chg c fun e=>e,g.wa.new (nH _) c,g.ga.new (nM _) c,g.pa.new (nM _) c,g.lo2⟩
theorem Gr0.put (g:Gr0 lo bg hm b6 n m ps lv wv gv pv W) {L:Nat} (o:Obj) (hL:NoC W L) (hm':L≠hm):Gr0 lo bg hm b6 n m ps lv wv gv pv (W.putObj L o):=
 ⟨g.b.put o hL,g.v6.put o hL,g.mp.put o hm',g.wa.put o (nH _) hL,g.ga.put o (nM _) hL,g.pa.put o (nM _) hL,g.lo2⟩
theorem Gr0.map (g:Gr0 lo bg hm b6 n m ps lv wv gv pv W) (c:Chg (fun k=>k=hm) W W') {m':List (Nat×Nat)} (h:rC Tryz.prog 166 W' hm (A8 m')):Gr0 lo bg hm b6 n m' ps lv wv gv pv W':=
 ⟨g.b.chg c fun e=>g.b.rE g.mp e,g.v6.chg c fun e=>g.v6.rE g.mp e,h,g.wa.chg (nH _) c fun k hk e=>g.wa.rE g.mp hk e,g.ga.chg (nM _) c fun k hk e=>g.ga.rE g.mp hk e,g.pa.chg (nM _) c fun k hk e=>g.pa.rE g.mp hk e,g.lo2⟩
theorem Gr0.path (g:Gr0 lo bg hm b6 n m ps lv wv gv pv W) {w1:World} {pv':Value} {ps':List Nm} (c:Chg (fun k=>pv.ownBlock=some k) W w1) (own:nO (Wk.one vs) 9 1 (fun b=>lo≤b) NoB w1 pv' ps') (b:Bk W' bg 225 (grC lv hm (.slice none 0 0) wv gv pv')) (c2:Chg (fun k=>k=bg) w1 W'):Gr0 lo bg hm b6 n m ps' lv wv gv pv' W':=by
 have v1:=g.v6.chg c fun e=>g.pa.pO g.v6 rfl e rfl
 have m1:=g.mp.chg c fun e=>g.pa.rE g.mp e rfl
 have b1:=g.b.chg c fun e=>g.pa.pO g.b rfl e rfl
 have wa1:=g.wa.chg (nH _) c fun k hk e=>g.wa.um g.pa rfl k hk e
 have ga1:=g.ga.chg (nM _) c fun k hk e=>g.ga.um g.pa rfl k hk e
 exact ⟨b,v1.chg c2 fun e=>v1.pO b1 rfl e,m1.chg c2 fun e=>b1.rE m1 e.symm,wa1.chg (nH _) c2 fun k hk e=>wa1.pO b1 rfl hk e,ga1.chg (nM _) c2 fun k hk e=>ga1.pO b1 rfl hk e,own.chg (nM _) c2 fun k hk e=>own.pO b1 rfl hk e,g.lo2⟩
end
def Zn (lo bg hm b6:Nat) (bs:List tX) (wv gv pv:Value) (b:Nat):Prop:=lo≤b∧b≠bg∧b≠b6∧b≠hm∧wv.ownBlock≠some b∧(∀x∈bs,x.1.ownBlock≠some b)∧gv.ownBlock≠some b∧pv.ownBlock≠some b
structure GrA (lo bg hm b6:Nat) (t:List Nd) (m:List (Nat×Nat)) (es:List Ed) (bs:List tX) (gs:List Bool) (ps:List Nm) (lv ev wv gv pv:Value) (W:World):Prop where
 b:Bk W bg 225 (grC lv hm ev wv gv pv)
 tr:RdS rNd 3 (fun k=>k<lo) W lv t
 mp:rC Tryz.prog 166 W hm (A8 m)
 ed:nO rEd 150 6 (Zn lo bg hm b6 bs wv gv pv) (Zn lo bg hm b6 bs wv gv pv) W ev es
 wa:LLs wrC (·.1) (·.2) viN 41 3 1 (fun b=>lo≤b) W wv bs
 ga:nO (Wk.one vbo) 4 1 (fun b=>lo≤b) NoB W gv gs
 pa:nO (Wk.one vs) 9 1 (fun b=>lo≤b) NoB W pv ps
 lo2:lo≤bg∧lo≤hm
section
variable {lo bg hm b6:Nat} {t:List Nd} {m:List (Nat×Nat)} {es:List Ed} {bs:List tX} {gs:List Bool} {ps:List Nm} {lv ev wv gv pv:Value} {W W':World}
theorem GrA.new (g:GrA lo bg hm b6 t m es bs gs ps lv ev wv gv pv W) (c:New W W'):GrA lo bg hm b6 t m es bs gs ps lv ev wv gv pv W':=
 ⟨g.b.chg c fun e=>e,g.tr.keep oz c.keep,g.mp.chg c fun e=>e,g.ed.vY qj c (fun _ _ e=>e) (fun _ _ _ e=>e),g.wa.new c,g.ga.new (nM _) c,g.pa.new (nM _) c,g.lo2⟩
theorem GrA.of0 {n:Nat} (g:Gr0 lo bg hm b6 n m ps lv wv gv pv W) (tr:RdS rNd 3 (fun k=>k<lo) W lv t):GrA lo bg hm b6 t m [] (List.replicate n (.slice none 0 0,[])) (List.replicate n false) ps lv (.slice none 0 0) wv gv pv W:=
 ⟨g.b,tr,g.mp,bF,⟨g.wa,fun b hb=>(by rw [(List.mem_replicate.1 hb).2];exact bF),fun b hb=>(by rw [(List.mem_replicate.1 hb).2];intro k e;cases e),fun i j b c _ hb _=>(by
   rw [(List.mem_replicate.1 (List.mem_of_getElem? hb)).2]
   intro k e;cases e)⟩,g.ga,g.pa,⟨g.lo2.1,g.lo2.2.2⟩⟩
theorem GrA.put (g:GrA lo bg hm b6 t m es bs gs ps lv ev wv gv pv W) {L:Nat} (o:Obj) (hL:NoC W L) (h1:L≠hm) (h2:lo≤L):GrA lo bg hm b6 t m es bs gs ps lv ev wv gv pv (W.putObj L o):=
 ⟨g.b.put o hL,g.tr.keep oz (Keep.put o (by omega)),g.mp.put o h1,g.ed.aan o hL,⟨g.wa.row.put o (nH _) hL,fun b hb=>(g.wa.el b hb).put o (nM _) hL,g.wa.wR,g.wa.sep⟩,g.ga.put o (nM _) hL,g.pa.put o (nM _) hL,g.lo2⟩
theorem GrA.aao (g:GrA lo bg hm b6 t m es bs gs ps lv ev wv gv pv W):GrA lo bg hm bg t m es bs gs ps lv ev wv gv pv W:=
 ⟨g.b,g.tr,g.mp,g.ed.mono qJ (fun b _ e=>⟨e.1,e.2.1,e.2.1,e.2.2.2⟩) (fun b _ e=>⟨e.1,e.2.1,e.2.1,e.2.2.2⟩),g.wa,g.ga,g.pa,g.lo2⟩
theorem GrA.read (g:GrA lo bg hm b6 t m es bs gs ps lv ev wv gv pv W) {ev':Value} {es':List Ed} (b:Bk W' bg 225 (grC lv hm ev' wv gv pv)) (own:nO rEd 150 6 (Zn lo bg hm b6 bs wv gv pv) (Zn lo bg hm b6 bs wv gv pv) W' ev' es') (c:Chg (fun k=>k=bg∨ev.ownBlock=some k) W W'):GrA lo bg hm b6 t m es' bs gs ps lv ev' wv gv pv W':=by
 have hz: ∀k,ev.ownBlock=some k→Zn lo bg hm b6 bs wv gv pv k:=fun k hk=>(g.ed.lt hk).1
 refine ⟨b,g.tr.keep oz (c.keep fun k _ h1 e=>?_),g.mp.chg c (fun e=>?_),own,⟨g.wa.row.chg (nH _) c fun k hk e=>?_,fun x hx=>(g.wa.el x hx).chg (nM _) c fun k hk e=>?_,g.wa.wR,g.wa.sep⟩,g.ga.chg (nM _) c (fun k hk e=>?_),g.pa.chg (nM _) c (fun k hk e=>?_),g.lo2⟩
 ·rcases e with e|e
  ·have:=g.lo2.1;omega
  ·have:=(hz k e).1;omega
 ·rcases e with e|e
  ·exact g.b.rE g.mp e.symm
  ·exact g.ed.rE g.mp e rfl
 ·rcases e with e|e
  ·exact g.wa.row.pO g.b rfl hk e
  ·exact (hz k e).2.2.2.2.1 hk
 ·rcases e with e|e
  ·exact (g.wa.el x hx).pO g.b rfl hk e
  ·exact (hz k e).2.2.2.2.2.1 x hx hk
 ·rcases e with e|e
  ·exact g.ga.pO g.b rfl hk e
  ·exact (hz k e).2.2.2.2.2.2.1 hk
 ·rcases e with e|e
  ·exact g.pa.pO g.b rfl hk e
  ·exact (hz k e).2.2.2.2.2.2.2 hk
theorem GrA.gap (g:GrA lo bg hm b6 t m es bs gs ps lv ev wv gv pv W) {gs':List Bool} (own:nO (Wk.one vbo) 4 1 (fun b=>lo≤b) NoB W' gv gs') (c:Chg (fun k=>gv.ownBlock=some k) W W'):GrA lo bg hm b6 t m es bs gs' ps lv ev wv gv pv W':=by
 refine ⟨g.b.chg c fun e=>g.ga.pO g.b rfl e rfl,g.tr.keep oz (c.keep fun k _ h1 e=>?_),g.mp.chg c (fun e=>g.ga.rE g.mp e rfl),g.ed.vY qj c (fun k hk e=>g.ed.um g.ga rfl k hk e) (fun k hk _ e=>hk.2.2.2.2.2.2.1 e),⟨g.wa.row.chg (nH _) c fun k hk e=>g.wa.row.um g.ga rfl k hk e,fun x hx=>(g.wa.el x hx).chg (nM _) c fun k hk e=>(g.wa.el x hx).um g.ga rfl k hk e,g.wa.wR,g.wa.sep⟩,own,g.pa.chg (nM _) c (fun k hk e=>g.pa.um g.ga rfl k hk e),g.lo2⟩
 have h2:lo≤k:=(g.ga.lt e).1
 omega
theorem GrA.want (g:GrA lo bg hm b6 t m es bs gs ps lv ev wv gv pv W) {i:Nat} {x x':tX} {w1:World} (hi:bs[i]? =some x) (ho:nO (Wk.one viN) 3 1 (fun b=>lo≤b) NoB w1 x'.1 x'.2) (c1:Chg (fun k=>x.1.ownBlock=some k) W w1)
 (lie:x'.1.ownBlock=x.1.ownBlock∨ ∀k,x'.1.ownBlock=some k→W.heap.size≤k) (hr:nO (flat wrC) 41 1 (fun b=>lo≤b) NoB W' wv (bs.set i x')) (c2:Chg (fun k=>wv.ownBlock=some k) w1 W'):GrA lo bg hm b6 t m es (bs.set i x') gs ps lv ev wv gv pv W':=by
 have hx:=List.mem_of_getElem? hi
 have hxo:=g.wa.el x hx
 have hwa:=g.wa.set (b':=x') hi ho c1 lie hr c2
 have c:Chg (fun k=>x.1.ownBlock=some k∨wv.ownBlock=some k) W W':=Chg.trans (c1.mono fun k _ e=>.inl e) c2 fun k _ e=>.inr e
 have hlt: ∀k,(x.1.ownBlock=some k∨wv.ownBlock=some k)→lo≤k:=fun k e=>e.elim (fun e=>(hxo.lt e).1) fun e=>(g.wa.row.lt e).1
 refine ⟨g.b.chg c fun e=>e.elim (fun e=>hxo.pO g.b rfl e rfl) fun e=>g.wa.row.pO g.b rfl e rfl,g.tr.keep oz (c.keep fun k _ h1 e=>?_),g.mp.chg c (fun e=>e.elim (fun e=>hxo.rE g.mp e rfl) fun e=>g.wa.row.rE g.mp e rfl),
  ((g.ed.mono (Pb':=fun b=>Zn lo bg hm b6 bs wv gv pv b∧b<W.heap.size) (Pe':=fun b=>Zn lo bg hm b6 bs wv gv pv b∧b<W.heap.size) qJ (fun b hb e=>⟨e,hb⟩) (fun b hb e=>⟨e,hb⟩)).vY qj c (fun k hk e=>?_) (fun k hk _ e=>?_)).mono qJ (fun b _ e=>?_) (fun b _ e=>?_),hwa,g.ga.chg (nM _) c (fun k hk e=>?_),g.pa.chg (nM _) c (fun k hk e=>?_),g.lo2⟩
 ·have:=hlt k e;omega
 ·exact e.elim (fun e=>g.ed.um hxo rfl k hk e) fun e=>g.ed.um g.wa.row rfl k hk e
 ·exact e.elim (fun e=>hk.1.2.2.2.2.2.1 x hx e) fun e=>hk.1.2.2.2.2.1 e
 all_goals first
  |(obtain ⟨⟨z1,z2,z3,z0,z4,z5,z6⟩,z7⟩:=e
    refine ⟨z1,z2,z3,z0,z4,fun y hy e2=>?_,z6⟩
    rcases List.mem_or_eq_of_mem_set hy with hy|rfl
    ·exact z5 y hy e2
    ·rcases lie with l1|l1
     ·exact z5 x hx (l1▸e2)
     ·have:=l1 b e2;omega)
  |exact e.elim (fun e=>g.ga.um hxo rfl k hk e) fun e=>g.ga.um g.wa.row rfl k hk e
  |exact e.elim (fun e=>g.pa.um hxo rfl k hk e) fun e=>g.pa.um g.wa.row rfl k hk e
theorem GrA.zone (g:GrA lo bg hm b6 t m es bs gs ps lv ev wv gv pv W) (h6:b6<W.heap.size) (hlo:lo≤W.heap.size): ∀b,W.heap.size≤b→Zn lo bg hm b6 bs wv gv pv b:=fun b hb=>by
 have h1:=g.b.lt
 have h2:=g.mp.lt
 exact ⟨by omega,by omega,by omega,by omega,fun e=>by have:=(g.wa.row.lt e).2;omega,fun x hx e=>by have:=((g.wa.el x hx).lt e).2;omega,fun e=>by have:=(g.ga.lt e).2;omega,fun e=>by have:=(g.pa.lt e).2;omega⟩
end
end Go.Proofs.YtjecgaiaiophpaaGreatDoor
namespace Go.Proofs.YtjecgaiaiophpaaGreatDoor
open Go Wk
open Go.RowKit (Below)
attribute [local irreducible] Go.Calls
def O7 (lv:Value) (n lo:Nat) (i:Nat) (v:Value) (w:World):Prop:=match i with
 |0=>v=lv
 |1=> ∃b,v=.map (some b)∧lo≤b∧rC Tryz.prog 166 w b []
 |2=>v=lv
 |3=>v=vi n
 |4=>nO (flat wrC) 41 1 (fun b=>lo≤b) NoB w v (List.replicate n (.slice none 0 0,[]))
 |5=>v=lv
 |6=>v=vi n
 |7=>nO (Wk.one vbo) 4 1 (fun b=>lo≤b) NoB w v (List.replicate n false)
 |8=> ∃hm wv gv,v=.agg (grC lv hm (.slice none 0 0) wv gv (.slice none 0 0)).toArray∧lo≤hm∧rC Tryz.prog 166 w hm []∧nO (flat wrC) 41 1 (fun b=>lo≤b) NoB w wv (List.replicate n (.slice none 0 0,[]))∧nO (Wk.one vbo) 4 1 (fun b=>lo≤b) NoB w gv (List.replicate n false)
 |9=> ∃bg hm wv gv,v=pT bg∧lo≤bg∧Bk w bg 225 (grC lv hm (.slice none 0 0) wv gv (.slice none 0 0))∧lo≤hm∧rC Tryz.prog 166 w hm []∧nO (flat wrC) 41 1 (fun b=>lo≤b) NoB w wv (List.replicate n (.slice none 0 0,[]))∧nO (Wk.one vbo) 4 1 (fun b=>lo≤b) NoB w gv (List.replicate n false)
 |10=> ∃b,v=pT b∧lo≤b∧Bk w b 220 [.pointer none]
 |_=>True
theorem Vp {lv:Value} {n lo:Nat}: ∀i v w w',New w w'→O7 lv n lo i v w→O7 lv n lo i v w':=by
 intro i v w w' c h
 unfold O7 at h ⊢
 split at h<;>try exact h
 ·obtain ⟨b,e,h1,h2⟩:=h;exact ⟨b,e,h1,h2.chg c fun e=>e⟩
 ·exact h.new (nH _) c
 ·exact h.new (nM _) c
 ·obtain ⟨hm,wv,gv,e,h1,h2,h3,h4⟩:=h;exact ⟨hm,wv,gv,e,h1,h2.chg c fun e=>e,h3.new (nH _) c,h4.new (nM _) c⟩
 ·obtain ⟨bg,hm,wv,gv,e,h0,hb,h1,h2,h3,h4⟩:=h;exact ⟨bg,hm,wv,gv,e,h0,hb.chg c fun e=>e,h1,h2.chg c fun e=>e,h3.new (nH _) c,h4.new (nM _) c⟩
 ·obtain ⟨b,e,h1,h2⟩:=h;exact ⟨b,e,h1,h2.chg c fun e=>e⟩
theorem Nz {t:List Nd} {m:List (Nat×Nat)} {i:Nat} (hi:i<t.length):wH m i (t.drop i)=wH (if vV (ndA t i)≠0∧m.all (fun p=>decide (p.1≠vV (ndA t i)))=true then m++ [(vV (ndA t i),i)] else m) (i+1) (t.drop (i+1)):=by
 rw [drop_cons (FU hi),wH]
theorem JH {t:List Nd} {i kind:Nat} {soft:Bool}: ∀(f place:Nat) (c:List Int),(uG t i kind soft f place c).length≤f
 |0,_,_=>by simp [uG]
 |f+1,_,[]=>by simp [uG]
 |f+1,place,x::c=>by
  rw [Ig]
  split
  ·simp
  ·split
   ·simp
   ·split
    ·simp
    ·have:=JH (t:=t) (i:=i) (kind:=kind) (soft:=soft) f (place+1) (c.drop ‹Nat›)
     simp only [List.length_cons];omega
theorem EU {t:List Nd} (ht:oG t=true) {i:Nat} (hi:i<t.length) (kind:Nat) (soft:Bool):(xB t i kind soft).length≤1024:=by
 have hv: ∀nm,((tZ t i nm).getD []).length≤1024:=fun nm=>yU ht hi
 have key: ∀v:List UInt8,v.length≤1024→(if form 4 v=0 then uG t i kind soft (nums 4 v).length 0 (nums 4 v) else [⟨i,none,kind,soft,0,[]⟩]).length≤1024:=by
  intro v h
  split
  ·have h1:=JH (t:=t) (i:=i) (kind:=kind) (soft:=soft) (nums 4 v).length 0 (nums 4 v)
   have h2:=Ea v
   omega
  ·simp
 exact key _ (hv _)
def xH (t:List Nd) (i:Nat):List Ed:=[1,2,3,4,5].flatMap fun k=>xB t i k false++xB t i k true
def y8 (t:List Nd) (i k:Nat):List Ed:=([1,2,3,4,5].take (k-1)).flatMap fun k=>xB t i k false++xB t i k true
theorem O8 {t:List Nd} {i k:Nat} (h1:1≤k) (h5:k≤5):y8 t i (k+1)=y8 t i k++xB t i k false++xB t i k true:=by
 have:k=1∨k=2∨k=3∨k=4∨k=5:=by omega
 rcases this with rfl|rfl|rfl|rfl|rfl<;>simp [y8]
theorem JI {t:List Nd} (ht:oG t=true) {i:Nat} (hi:i<t.length): ∀k,(y8 t i k).length≤2048*5:=by
 intro k
 have h: ∀l:List Nat,(l.flatMap fun k=>xB t i k false++xB t i k true).length≤2048*l.length:=by
  intro l
  induction l with
  |nil=>simp
  |cons x r ih=>
   have h1:=EU ht hi x false
   have h2:=EU ht hi x true
   simp only [List.flatMap_cons,List.length_append,List.length_cons];omega
 have h2:=h ([1,2,3,4,5].take (k-1))
 have h3:([1,2,3,4,5].take (k-1)).length≤5:=by rw [List.length_take];simp only [List.length_cons,List.length_nil];omega
 unfold y8
 omega
theorem tK {t:List Nd} (ht:oG t=true): ∀i,i≤t.length→((List.range i).flatMap (xH t)).length≤10240*i:=by
 intro i
 induction i with
 |zero=>intro _;simp
 |succ i ih=>
  intro hi
  have h1:=ih (by omega)
  have h2:=JI ht (i:=i) (by omega) 6
  rw [List.range_succ,List.flatMap_append,List.length_append]
  have:([i].flatMap (xH t)).length=(y8 t i 6).length:=by simp [xH,y8]
  omega
def uV (t:List Nd) (j:Nat):List Nat:=if 0<j then [par t j] else []
def wK (i:Nat) (e:Ed):Option Nat:=if e.src=i∧e.soft=false then e.dst else none
theorem JJ (t:List Nd) (i:Nat):pR t i=uV t i++(nZ t).filterMap (wK i):=rfl
theorem vI {α:Type} {n i:Nat} {f:Nat→α} {x:α} (hi:i<n):((List.range n).map f).set i x=(List.range n).map fun j=>if j=i then x else f j:=by
 apply List.ext_getElem?
 intro j
 rw [List.getElem?_set]
 by_cases h:i=j
 ·subst h
  rw [if_pos rfl,if_pos (by simpa using hi),List.getElem?_map,List.getElem?_range hi]
  simp
 ·rw [if_neg h,List.getElem?_map,List.getElem?_map]
  by_cases hj:j<n
  ·rw [List.getElem?_range hj]
   simp only [Option.map_some]
   rw [if_neg (fun e=>h e.symm)]
  ·rw [List.getElem?_eq_none (by simpa using hj)];rfl
def SI (w w':World) (r:Value) (lv:Value) (t:List Nd):Prop:= ∃bg hm ev wv gv pv gs bs,r=.tuple #[pT bg,vi 0]∧GrA w.heap.size bg hm bg t (qX t) (nZ t) bs gs (pK t) lv ev wv gv pv w'∧bs.map (·.2)=(List.range t.length).map (pR t)∧gs.length=t.length
theorem zV {Pb:Nat→Prop} {w:World} {v:Value} {t:List Nd} (h:RdS rNd 3 Pb w v t) (hok:oG t=true):
 Calls Tryz.prog 120 #[v] w (Ret fun r w'=>SI w w' r v t∧New w w'):=by
 obtain ⟨a,cap,rfl,hc1,hc2⟩:=h.form
 have hlen:=oP hok
 have hpos:=sH hok
 replace h:=h.mono (Pb':=fun k=>k<w.heap.size) yC fun k hk _=>hk
 refine FI Tryz.func120 rfl Tryz.ntmps120 rfl ?_
 (repeat' (first|refine aa0 ?_|refine aa1 ?_|refine af ?_|refine dW ?_|refine dL ?_|refine dX ?_))
 refine aB (vG h) rfl ?_
 rintro _ w1 ⟨rfl,n1⟩
 unfold Fg
 rw [if_pos hok]
 have hz1:=n1.size
 (repeat' (first|refine aa0 ?_|refine aa1 ?_|refine af ?_|refine pG ?_|refine dW ?_|refine iJ rfl ?_|refine dL ?_|refine dX ?_|refine Wd.skip ?_|(refine qf (fun _=>?_) (fun _=>?_)<;>(first|(exfalso;omega)|skip))))
 refine Wd.of ?_
 refine ni (O7 (.slice a t.length cap) t.length w.heap.size) rfl (by kernel_rfl) (by kernel_rfl) (by kernel_rfl) Vp
  ⟨(fun F w' hn hd hf=>gV (af (eH (aQ _ _) (hf 0 rfl)))),
   (fun F w' hn hd hf=>fQ (k:=166) fun w2 m2 n2 s2=>af (eH n2 ⟨_,rfl,Nat.le_trans hz1 hn.size,m2⟩)),
   (fun F w' hn hd hf=>gV (af (eH (aQ _ _) (hf 0 rfl)))),
   (fun F w' hn hd hf=>iQ (hd 2 (by kernel_rfl)) (af (eH (aQ _ _) rfl))),
   (fun F w' hn hd hf=>eF (f:=(·.1:tX→Value)) (y0:=(.slice none 0 0,[])) rfl (hd 3 (by kernel_rfl)) (hd 3 (by kernel_rfl)) (by omega) (by omega) (by omega) fun v2 w2 o2 n2=>af (eH n2 (by rw [Int.toNat_natCast] at o2;exact o2.mono (Pb':=fun b=>w.heap.size≤b) (nP _) (fun b _ e=>Nat.le_trans (Nat.le_trans hz1 hn.size) e) (fun _ _ e=>e)))),
   (fun F w' hn hd hf=>gV (af (eH (aQ _ _) (hf 0 rfl)))),
   (fun F w' hn hd hf=>iQ (hd 5 (by kernel_rfl)) (af (eH (aQ _ _) rfl))),
   (fun F w' hn hd hf=>eF (f:=vbo) (y0:=false) rfl (hd 6 (by kernel_rfl)) (hd 6 (by kernel_rfl)) (by omega) (by omega) (by omega) fun v2 w2 o2 n2=>af (eH n2 (by rw [Int.toNat_natCast] at o2;exact o2.mono (Pb':=fun b=>w.heap.size≤b) (nU _) (fun b _ e=>Nat.le_trans (Nat.le_trans hz1 hn.size) e) (fun _ _ e=>e)))),
   (fun F w' hn hd hf=>by
    have h0:F 28=.slice a t.length cap:=hd 0 (by kernel_rfl)
    obtain ⟨hm,h1,h1l,h1m⟩: ∃b,F 29=.map (some b)∧w.heap.size≤b∧rC Tryz.prog 166 w' b []:=hd 1 (by kernel_rfl)
    have h4:nO (flat wrC) 41 1 (fun b=>w.heap.size≤b) NoB w' (F 32) (List.replicate t.length (.slice none 0 0,[])):=hd 4 (by kernel_rfl)
    have h7:nO (Wk.one vbo) 4 1 (fun b=>w.heap.size≤b) NoB w' (F 35) (List.replicate t.length false):=hd 7 (by kernel_rfl)
    obtain ⟨a4,c4,e4,_,_⟩:=h4.form
    obtain ⟨a7,c7,e7,_,_⟩:=h7.form
    rw [e4] at h4
    rw [e7] at h7
    refine bV (ps:=[(0,.tmp 28),(1,.tmp 29),(3,.tmp 32),(4,.tmp 35)]) (parts:=[(0,.slice a t.length cap),(1,.map (some hm)),(3,.slice a4 _ c4),(4,.slice a7 _ c7)]) rfl ?_ (by simp [Value.cells]) (af (eH (aQ _ _) ⟨hm,_,_,rfl,h1l,h1m,h4,h7⟩))
    show [(0,F 28),(1,F 29),(3,F 32),(4,F 35)]=_
    rw [h0,h1,e4,e7]),
   (fun F w' hn hd hf=>by
    obtain ⟨hm,wv,gv,e,h1,h2,h3,h4⟩:O7 (.slice a t.length cap) t.length w.heap.size 8 (F 36) w':=hd 8 (by kernel_rfl)
    exact bC e fun w2 b2 n2 s2=>af (eH n2 ⟨_,hm,wv,gv,rfl,Nat.le_trans hz1 hn.size,b2,h1,h2.chg n2 (fun e=>e),h3.new (nH _) n2,h4.new (nM _) n2⟩)),
   (fun F w' hn hd hf=>by
    refine Wl.alloc fun w2 b2 n2 s2=>?_
    exact af (eH n2 ⟨_,rfl,Nat.le_trans hz1 hn.size,b2⟩)),
   trivial⟩ ?_
 intro F w2 z n2 hz hd hf
 obtain ⟨bg,hm,wv,gv,e9,h0,hb,h1,h2,h3,h4⟩:O7 (.slice a t.length cap) t.length w.heap.size 9 (F 37) w2:=hd 9 (by decide)
 obtain ⟨b6,e10,h6l,h6⟩:O7 (.slice a t.length cap) t.length w.heap.size 10 (F 6) w2:=hd 10 (by decide)
 have hF0:F 0=.slice a t.length cap:=hf 0 (by decide)
 cases hz
 refine aY (u:=pT bg) h6 e10 (show (0:Nat)<1 by omega) e9 rfl fun w3 b3 c3=>?_
 replace b3:Bk w3 b6 220 [pT bg]:=b3
 refine af ⟨rfl,?_⟩
 have g3:Gr0 w.heap.size bg hm b6 t.length [] [] (.slice a t.length cap) wv gv (.slice none 0 0) w3:=⟨hb.chg c3 fun e=>hb.pO h6 rfl e,b3,h2.chg c3 fun e=>h6.rE h2 e.symm,h3.chg (nH _) c3 fun k hk e=>h3.pO h6 rfl hk e,h4.chg (nM _) c3 fun k hk e=>h4.pO h6 rfl hk e,bF,h0,h6l,h1⟩
 have n03:New w w3:=(Chg.trans (M:=fun k=>k=b6) (New.trans n1 n2).any c3 fun k _ e=>e).toNew fun k hk e=>by omega
 clear hd hf h3 h4 h2 hb h6
 have hF:agrees F [(0,.slice a t.length cap),(6,pT b6)]:=⟨hF0,e10,trivial⟩
 rw [←oN hF]
 simp only [oU]
 clear hF hF0 e9 e10
 generalize hlv:(Value.slice a t.length cap)=lv at*
 (repeat' (first|refine aa0 ?_|refine dW ?_|refine dL ?_|refine dX ?_))
 subst hlv
 refine aB (JF (h.keep oz n03.keep) hok) rfl ?_
 rintro _ w4 ⟨⟨bq,sv,rfl,hbq,hq⟩,n4⟩
 have n04:=New.trans n03 n4
 have hz3:=n03.size
 have hz4:=n4.size
 have aff:=hq.1.lt
 have hpl:=xG t
 let I:Nat→World→Prop:=fun k W=>New w W∧w4.heap.size≤W.heap.size∧SqW (fun b=>w3.heap.size≤b∧b<w4.heap.size) bq sv (pK t) W∧ ∃pv,Gr0 w.heap.size bg hm b6 t.length [] ((pK t).take k) (.slice a t.length cap) wv gv pv W∧ ∀j,pv.ownBlock=some j→w4.heap.size≤j
 have Z9:bg<w3.heap.size:=g3.b.lt
 have ahV:hm<w3.heap.size:=g3.mp.lt
 (repeat' (first|refine af ?_|refine Wd.block ?_|refine dL ?_))
 refine jS (gf:=95) (lb:= #[pT bq]) rfl (fun args _=>sF inferInstance args) (iter_walk (Pb:=fun b=>w3.heap.size≤b∧b<w4.heap.size) (bs:=bq) (v:=sv) (l:=pK t)) (fun k=>rfl) I (fun _ _=>False) ?_ ?_ ?_ ?_ ?_ ?_ ?_ ?_ ?_
 ·exact fun k W h=>h.2.2.1
 ·rintro k W W' ⟨h1,h2,h3,pv,h4,h5⟩ n
  exact ⟨h1.trans n,Nat.le_trans h2 n.size,h3.new n,pv,h4.new n,h5⟩
 ·rintro k W r r' ⟨h1,h2,h3,pv,h4,h5⟩ hL
  have z:=n04.size
  exact ⟨h1.put _ (by omega),by simpa using h2,h3.put _ (.loop hL) (by omega),pv,h4.put _ (.loop hL) (by omega),h5⟩
 ·exact fun _ _ _ _ h=>h.elim
 ·intro r
  have n:=jT (w:=w4) (.deferred (some [])) (.loop r)
  exact ⟨n04.trans n,n.size,hq.new n,_,(g3.new n4).new n,fun j e=>by cases e⟩
 ·rintro k W r hk ⟨h1,h2,h3,pv,h4,h5⟩ hL hD
  have hkt:k<t.length:=by omega
  have hgk:(pK t).getD k []=oO t k:=by rw [List.getD_eq_getElem?_getD,tJ hkt];rfl
  show Wr _ _ _ _ _ (upd (upd _ 40 (vs ((pK t).getD k []))) 41 (vi k)) W
  rw [hgk]
  (repeat' (first|refine aa1 ?_|refine af ?_|refine dK rfl (by repeat' (first|exact Qfn.out (by rintro _ ⟨⟨_,e⟩,_⟩;cases e)|exact Qrd.out|exact Qas.out|refine Qsr.out ?_|refine nJ.out ?_|refine Qsc.out ?_|refine nN.out ?_)) ?_))
  refine ⟨aQ _ _,fun r'=>?_⟩
  have nL:NoC W (w4.heap.size+1):=.loop hL
  have hLt:=nL.lt
  have q1:New w (W.putObj (w4.heap.size+1) (.loop r')):=h1.put _ (by omega)
  have q3:=h3.put (.loop r') nL (by omega)
  have q4:=h4.put (.loop r') nL (by omega)
  have qL:NoC (W.putObj (w4.heap.size+1) (.loop r')) (w4.heap.size+1):=.loop (World.putObj_heap_same hLt)
  have qD:NoC (W.putObj (w4.heap.size+1) (.loop r')) w4.heap.size:=.mark ((World.putObj_heap_other (by omega)).trans hD)
  generalize W.putObj (w4.heap.size+1) (.loop r')=W3 at*
  clear h1 h3 h4
  have zW:=q1.size
  have zL:=qL.lt
  obtain ⟨pa,pc,rfl,_,_⟩:=q4.pa.form
  have hpt:((pK t).take k).length=k:=by rw [List.length_take];omega
  (repeat' (refine Wr.block ?_))
  refine jU rfl (by repeat' (first|exact Qfn.out (by rintro _ ⟨⟨_,e⟩,_⟩;cases e)|exact Qrd.out|exact Qas.out|refine Qsr.out ?_|refine nJ.out ?_|refine Qsc.out ?_|refine nN.out ?_)) rfl (by kernel_rfl) (fun W'=>Chg (fun j=>(Value.slice pa ((pK t).take k).length pc).ownBlock=some j) W3 W') (Chg.drew _ _) ?_
  intro W4 m4
  have IY: ∀W',Chg (fun j=>(Value.slice pa ((pK t).take k).length pc).ownBlock=some j) W3 W'→Bk W' b6 220 [pT bg]:=fun W' c=>q4.v6.chg c fun e=>q4.pa.pO q4.v6 rfl e rfl
  have aap: ∀W',Chg (fun j=>(Value.slice pa ((pK t).take k).length pc).ownBlock=some j) W3 W'→Bk W' bg 225 (grC (.slice a t.length cap) hm (.slice none 0 0) wv gv (.slice pa ((pK t).take k).length pc)):=fun W' c=>q4.b.chg c fun e=>q4.pa.pO q4.b rfl e rfl
  skip
  refine aa2 (aC (u:=pT bg) rfl (fun W' c=>(IY W' c).cell (o:=0) rfl) (ax ?_))
  refine aa2 (aC (u:=pT bg) rfl (fun W' c=>(IY W' c).cell (o:=0) rfl) (ax ?_))
  (repeat' (first|refine aa2 (bf rfl (ax ?_))|refine aa2 (aa8 (ax ?_))))
  refine aa2 (aC (u:=.slice pa ((pK t).take k).length pc) rfl (fun W' c=>(aap W' c).cell (o:=5) rfl) (ax ?_))
  (repeat' (refine aa2 (aa9 (ax ?_))))
  refine aT rfl (bT (R:=Wk.one vs) (Pe:=NoB) (y:=oO t k) qR rfl rfl rfl rfl (by omega) (by omega) fun v6 W6 o6 n6 s6 e6=>?_)
  have m6:=m4.trans n6
  refine af ⟨rfl,m6.any,?_⟩
  refine aT rfl (bU (R:=Wk.one vs) qR (q4.pa.new (nM _) m6) (o6.rd qR.mo) (fun y cs hy=>hy) rfl rfl (by omega) (by simp only [maxLen,List.length_singleton];omega) (by simp only [List.length_singleton];omega) fun u' W7 o7 c7 lie _=>?_)
  have c37:Chg (fun j=>(Value.slice pa ((pK t).take k).length pc).ownBlock=some j) W3 W7:=Chg.trans m6.any c7 fun _ _ e=>e
  refine af ⟨rfl,c37,?_⟩
  (repeat' (first|refine aa2 (bf rfl (ax ?_))|refine aa2 (aa8 (ax ?_))))
  rw [←take_snoc (tJ hkt)] at o7
  have z6:=m6.size
  have o7':=o7.mono (Pb':=fun b=>w.heap.size≤b) (nU _) (fun b _ e=>by rcases e with e|e;exact e;omega) (fun _ _ e=>e)
  refine Wt.last rfl (aY (u:=u') (aap W7 c37) rfl (show (5:Nat)<6 by omega) rfl (by obtain ⟨_,_,rfl,_⟩:=o7.form;rfl) fun W8 b8 c8=>?_)
  refine af ?_
  have g8:=q4.path c37 o7' b8 c8
  have z7:=c37.size
  have z8:=c8.size
  have hown: ∀j,(Value.slice pa ((pK t).take k).length pc).ownBlock=some j→w4.heap.size≤j:=h5
  have e38:Chg (fun j=>j=bg∨(Value.slice pa ((pK t).take k).length pc).ownBlock=some j) W3 W8:=Chg.trans (c37.mono fun _ _ e=>.inr e) c8 fun _ _ e=>.inl e
  (repeat' (refine aH ?_))
  refine ⟨e38.block _ qL.lt ?_,e38.block _ qD.lt ?_,Chg.trans q1 e38 fun j hj e=>?_,by omega,q3.chg e38 ?_ ?_,u',g8,?_⟩
  ·rintro (e|e)
   ·omega
   ·exact q4.pa.nl qL e rfl
  ·rintro (e|e)
   ·omega
   ·exact q4.pa.nl qD e rfl
  ·rcases e with e|e
   ·have:=g3.lo2;omega
   ·have:=hown j e;omega
  ·rintro (e|e)
   ·omega
   ·have:=hown _ e;omega
  ·rintro j hj (e|e)
   ·omega
   ·have:=hown _ e;omega
  ·intro j e
   rcases lie with l1|l1
   ·exact hown j (l1▸e)
   ·have:=l1 j e;omega
 ·rintro W ⟨h1,h2,h3,pv,h4,h5⟩ hD
  rw [List.take_length] at h4
  clear hq n4 g3 n04
  generalize hD0:w4.heap.size=D at*
  clear I
  have ahW:w.heap.size≤b6:=h4.lo2.2.1
  have ahX:bg<D:=by omega
  have hmD:hm<D:=by omega
  (repeat' (first|refine dL ?_|refine jQ ?_))
  refine Wd.of ?_
  refine au ?_
  (repeat' (first|refine aa0 ?_|refine af ?_|refine pz ?_|refine ah ?_|refine au ?_|refine ak ?_|refine Wc.block ?_))
  refine aP (σ:=Nat×List (Nat×Nat)) (fun q=>[(0,.slice a t.length cap),(6,pT b6),(52,.slice a t.length cap),(53,vi t.length),(54,vi q.1)])
   (fun q W=>q.1≤t.length∧qX t=wH q.2 q.1 (t.drop q.1)∧Gr0 w.heap.size bg hm b6 t.length q.2 (pK t) (.slice a t.length cap) wv gv pv W∧New w W∧W.heap[D]? =some (.deferred (some []))) (fun q=>t.length-q.1) (0,[]) ⟨rfl,rfl,rfl,rfl,rfl,trivial⟩ ⟨Nat.zero_le _,rfl,h4,h1,hD⟩ ?_
  clear h4 h1 hD h2 h3
  rintro ⟨i,m⟩ G W ⟨hi,hH,g,nW,hD⟩
  dsimp only at hi hH g nW hD
  simp only [oU]
  (repeat' (first|refine aa0 ?_|refine af ?_|refine pz ?_|refine ah ?_|refine au ?_|refine ak ?_|refine Wc.block ?_|refine Wc.skip ?_|refine aJ ?_|refine aK ?_|refine aI ?_|refine aO ?_|refine aa3 ?_|refine aa4 ?_|refine oZ (fun _=>?_) (fun _=>?_)))
  ·have hil:i<t.length:=by omega
   rw [Nz hil] at hH
   refine aU (h.keep oz nW.keep) rfl rfl (by omega) (FU hil) fun b o cs hl hR hat=>?_
   obtain ⟨pvn,rfl,hpv⟩:=hR
   obtain ⟨na,nc,rfl,_,_⟩:=hpv.form
   refine bG hat rfl rfl ?_
   clear hat
   refine Wl.alloc fun w5 b5 n5 s5=>?_
   (repeat' (refine aa1 ?_))
   refine aX (new:=[vi (ndA t i).parent,vs (ndA t i).name,.slice na (ndA t i).oH.length nc]) b5 rfl rfl rfl rfl (show (3:Nat)≤3 from Nat.le_refl 3) (by intro c hc;simp at hc;rcases hc with rfl|rfl|rfl<;>rfl) fun w6 b6' c6 s6=>?_
   replace b6':Bk w6 W.heap.size 51 [vi (ndA t i).parent,vs (ndA t i).name,.slice na (ndA t i).oH.length nc]:=b6'
   have n6:New W w6:=(Chg.trans n5.any c6 fun _ _ e=>e).toNew fun k hk e=>by omega
   clear b5 n5 c6
   (repeat' (first|refine af ?_|refine ah ?_|refine au ?_|refine ak ?_))
   refine bM b6' rfl rfl ?_
   refine aB (AV (x:=ndA t i) (nm:=uT) (hpv.keep (nY pC) n6.keep)) rfl ?_
   rintro _ w7 ⟨rfl,n7⟩
   have n67:=New.trans n6 n7
   have ev1: ∀o:Option (List UInt8),J5 o=.tuple #[vs (o.getD []),.bool o.isSome]:=fun o=>by cases o<;>rfl
   rw [ev1]
   have hvl:((tZ t i uT).getD []).length≤1024:=yU hok hil
   have hhm:vV (ndA t i)=(GY ((val (ndA t i).oH uT).getD [])).getD 0:=rfl
   generalize hvv:(val (ndA t i).oH uT).getD []=txt at hhm
   have hvl:txt.length≤1024:=by rw [←hvv];exact hvl
   (repeat' (first|refine aa0 ?_|refine aa1 ?_|refine af ?_|refine pG ?_|refine ah ?_|refine au ?_|refine ak ?_))
   refine aB (ED (l:=txt) (by omega)) rfl ?_
   rintro _ w8 ⟨rfl,n8⟩
   have n68:=New.trans n67 n8
   obtain ⟨n,hn,hnl⟩:=Hf txt
   have hcm:GY txt=if (only 0 (form 4 txt) (nums 4 txt)).2=0 then some (only 0 (form 4 txt) (nums 4 txt)).1.toNat else none:=rfl
   rw [hn,Int.toNat_natCast] at hcm
   rw [hn]
   generalize (only 0 (form 4 txt) (nums 4 txt)).2=e8 at hcm
   have g8:=g.new n68
   have n08:=New.trans nW n68
   have hD8:w8.heap[D]? =some (.deferred (some [])):=(n68.block _ (Array.getElem?_eq_some_iff.1 hD).1 id).trans hD
   have nx: ∀(w':World) (G':Fr) (m':List (Nat×Nat)),Gr0 w.heap.size bg hm b6 t.length m' (pK t) (.slice a t.length cap) wv gv pv w'→New w w'→w'.heap[D]? =some (.deferred (some []))→qX t=wH m' (i+1) (t.drop (i+1))→(i+1≤t.length∧qX t=wH m' (i+1) (t.drop (i+1))∧Gr0 w.heap.size bg hm b6 t.length m' (pK t) (.slice a t.length cap) wv gv pv w'∧New w w'∧w'.heap[D]? =some (.deferred (some []))):=fun w' _ m' q1 q2 q3 q4=>⟨by omega,q4,q1,q2,q3⟩
   (repeat' (first|refine aa0 ?_|refine aa1 ?_|refine af ?_|refine pG ?_|refine ah ?_|refine au ?_|refine ak ?_))
   refine ay (u:=pT bg) rfl (g8.v6.cell (o:=0) rfl) ?_
   (repeat' (first|refine bK rfl ?_|refine aa5 ?_))
   refine ay (u:=.map (some hm)) rfl (g8.b.cell (o:=1) rfl) ?_
   (repeat' (refine aa0 ?_))
   refine jH kU g8.mp (Yo hnl) rfl rfl (fun r hr=>?_) (fun hr=>?_)
   ·have hno: ¬(m.all (fun p=>decide (p.1≠n))=true):=by
     intro hall
     obtain ⟨p,hp,e⟩:=List.mem_map.1 hr
     simp only [Prod.mk.injEq,Value.int.injEq,true_and] at e
     have:=List.all_eq_true.1 hall p hp
     rw [decide_eq_true_eq] at this
     exact this (by omega)
    have hif:(if vV (ndA t i)≠0∧m.all (fun p=>decide (p.1≠vV (ndA t i)))=true then m++ [(vV (ndA t i),i)] else m)=m:=by
     rw [if_neg]
     rintro ⟨q1,q2⟩
     rw [hhm,hcm] at q1 q2
     by_cases he:e8=0
     ·rw [if_pos he] at q2;exact hno q2
     ·rw [if_neg he] at q1;exact q1 rfl
    rw [hif] at hH
    (repeat' (first|refine aa0 ?_|refine aa1 ?_|refine af ?_|refine pG ?_|refine aa6 ?_|refine qi ?_|refine pU ?_|refine pI ?_|refine aV rfl ?_|refine ah ?_|refine au ?_|refine ak ?_|refine Wc.skip ?_|refine aH ?_|refine aa4 ?_|refine aa7 ?_|refine bJ rfl rfl (fun _=>?_) (fun _=>?_)|refine qf (fun _=>?_) (fun _=>?_)))
    all_goals exact aG (i+1,m) ⟨rfl,rfl,rfl,rfl,rfl,trivial⟩ (nx _ G m g8 n08 hD8 hH) (by dsimp only;omega)
   ·have hall:m.all (fun p=>decide (p.1≠n))=true:=by
     rw [List.all_eq_true]
     intro p hp
     have:=hr _ (List.mem_map.2 ⟨p,hp,rfl⟩)
     simp only [ne_eq,Value.int.injEq,true_and] at this
     rw [decide_eq_true_eq];omega
    have hif:(e8=0∧n≠0)∨(if vV (ndA t i)≠0∧m.all (fun p=>decide (p.1≠vV (ndA t i)))=true then m++ [(vV (ndA t i),i)] else m)=m:=by
     by_cases he:e8=0
     ·by_cases hn0:n=0
      ·right
       rw [if_neg]
       rintro ⟨q1,_⟩
       rw [hhm,hcm,if_pos he] at q1
       exact q1 hn0
      ·exact .inl ⟨he,hn0⟩
     ·right
      rw [if_neg]
      rintro ⟨q1,_⟩
      rw [hhm,hcm,if_neg he] at q1
      exact q1 rfl
    (repeat' (first|refine aa0 ?_|refine aa1 ?_|refine af ?_|refine pG ?_|refine aa6 ?_|refine qi ?_|refine pU ?_|refine pI ?_|refine aV rfl ?_|refine ah ?_|refine au ?_|refine ak ?_|refine Wc.skip ?_|refine aH ?_|refine aa3 ?_|refine aa4 ?_|refine aa7 ?_|refine bJ rfl rfl (fun _=>?_) (fun _=>?_)|refine qf (fun _=>?_) (fun _=>?_)))
    ·have hput:(if vV (ndA t i)≠0∧m.all (fun p=>decide (p.1≠vV (ndA t i)))=true then m++ [(vV (ndA t i),i)] else m)=m++ [(n,i)]:=by
      have he:vV (ndA t i)=n:=by rw [hhm,hcm,if_pos (by omega)];rfl
      rw [he,if_pos ⟨by omega,hall⟩]
     rw [hput] at hH
     refine ay (u:=pT bg) rfl (g8.v6.cell (o:=0) rfl) ?_
     (repeat' (first|refine bK rfl ?_|refine aa5 ?_))
     refine ay (u:=.map (some hm)) rfl (g8.b.cell (o:=1) rfl) ?_
     (repeat' (refine aa0 ?_))
     refine fU (u:=vi i) kU g8.mp (Yo hnl) hr rfl rfl rfl fun w9 m9 c9 s9=>?_
     have g9:=g8.map c9 (m':=m++ [(n,i)]) (by simpa [A8] using m9)
     have hlm:=g.lo2.2.2
     (repeat' (first|refine aa0 ?_|refine af ?_|refine ah ?_|refine ak ?_|refine aH ?_|refine aa7 ?_))
     exact aG (i+1,m++ [(n,i)]) ⟨rfl,rfl,rfl,rfl,rfl,trivial⟩ (nx _ G _ g9 ((Chg.trans (M:=fun k=>k=hm) n08.any c9 fun k _ e=>e).toNew fun k hk e=>by omega) ((c9.block _ (Array.getElem?_eq_some_iff.1 hD8).1 (by omega)).trans hD8) hH) (by dsimp only;omega)
    all_goals
     rcases hif with hif|hif
     ·exfalso;omega
     ·rw [hif] at hH
      exact aG (i+1,m) ⟨rfl,rfl,rfl,rfl,rfl,trivial⟩ (nx _ G m g8 n08 hD8 hH) (by dsimp only;omega)
  obtain rfl:i=t.length:=by omega
  rw [List.drop_length] at hH
  obtain rfl:qX t=m:=hH
  have ga:=g.mp
  have g6:=g.v6
  have hlm:=g.lo2.2.2
  have gA:=GrA.of0 g (h.keep oz nW.keep)
  clear ga
  let aaq:Nat→List tX→Prop:=fun i bs=>bs.map (·.2)=(List.range t.length).map fun j=>if j<i then uV t j else []
  have aar:aaq 0 (List.replicate t.length (.slice none 0 0,[])):=by
   show List.map _ _=_
   rw [List.map_replicate]
   apply List.ext_getElem?
   intro j
   rw [List.getElem?_replicate,List.getElem?_map]
   by_cases hj:j<t.length
   ·rw [if_pos hj,List.getElem?_range hj];rfl
   ·rw [if_neg hj,List.getElem?_eq_none (by simpa using hj)];rfl
  refine aP (σ:=Nat×Value×List tX) (fun q=>[(0,.slice a t.length cap),(6,pT b6),(95,.slice a t.length cap),(96,vi t.length),(97,vi q.1)])
   (fun q W=>q.1≤t.length∧aaq q.1 q.2.2∧GrA w.heap.size bg hm b6 t (qX t) ((List.range q.1).flatMap (xH t)) q.2.2 (List.replicate t.length false) (pK t) (.slice a t.length cap) q.2.1 wv gv pv W∧Bk W b6 220 [pT bg]∧New w W∧W.heap[D]? =some (.deferred (some []))) (fun q=>t.length-q.1) (0,.slice none 0 0,List.replicate t.length (.slice none 0 0,[])) ⟨rfl,rfl,rfl,rfl,rfl,trivial⟩ ⟨Nat.zero_le _,aar,gA,g6,nW,hD⟩ ?_
  clear g gA g6 nW hD aar
  rintro ⟨i,ev,bs⟩ G3 W ⟨hi,hbs,g,g6,nW,hD⟩
  dsimp only at hi hbs g g6 nW hD
  simp only [oU]
  (repeat' (first|refine aa0 ?_|refine aa1 ?_|refine af ?_|refine ah ?_|refine au ?_|refine ak ?_|refine Wc.block ?_|refine Wc.skip ?_|refine aJ ?_|refine aK ?_|refine aI ?_|refine aO ?_|refine aa3 ?_|refine aa4 ?_|refine oZ (fun _=>?_) (fun _=>?_)))
  ·have hil:i<t.length:=by omega
   refine aP (σ:=Nat×Value) (fun q=>[(0,.slice a t.length cap),(6,pT b6),(16,vi i),(17,.int .u8 q.1),(95,.slice a t.length cap),(96,vi t.length),(97,vi i)])
    (fun q W=>1≤q.1∧q.1≤6∧GrA w.heap.size bg hm b6 t (qX t) ((List.range i).flatMap (xH t)++y8 t i q.1) bs (List.replicate t.length false) (pK t) (.slice a t.length cap) q.2 wv gv pv W∧Bk W b6 220 [pT bg]∧New w W∧W.heap[D]? =some (.deferred (some []))) (fun q=>6-q.1) (1,ev) ⟨rfl,rfl,rfl,rfl,rfl,rfl,rfl,trivial⟩ ⟨Nat.le_refl _,by dsimp only;omega,by simpa [y8] using g,g6,nW,hD⟩ ?_
   clear g g6 nW hD
   rintro ⟨k,ev⟩ G4 W ⟨hk1,hk6,g,g6,nW,hD⟩
   dsimp only at hk1 hk6 g g6 nW hD
   simp only [oU]
   have hDl:=(Array.getElem?_eq_some_iff.1 hD).1
   have afg:=g6.lt
   have hzW:=nW.size
   have ahY:=tK hok i (by omega)
   have YA:=JI hok hil k
   (repeat' (first|refine aa0 ?_|refine af ?_|refine ah ?_|refine au ?_|refine ak ?_|refine Wc.block ?_|refine Wc.skip ?_|refine aJ ?_|refine aK ?_|refine aH ?_|refine aI ?_|refine aO ?_|refine aa3 ?_|refine aa4 ?_|refine aa7 ?_|refine dS rfl rfl (fun _=>?_) (fun _=>?_)|refine bH rfl rfl (fun _=>?_) (fun _=>?_)))
   ·refine ay (u:=pT bg) rfl (g6.cell (o:=0) rfl) ?_
    (repeat' (refine aa0 ?_))
    have hz:=g.zone afg hzW
    have hnz: ¬Zn w.heap.size bg hm b6 bs wv gv pv bg∧ ¬Zn w.heap.size bg hm b6 bs wv gv pv bg∧ ¬Zn w.heap.size bg hm b6 bs wv gv pv hm∧hm≠bg:=⟨fun e=>e.2.1 rfl,fun e=>e.2.1 rfl,fun e=>e.2.2.2.1 rfl,fun e=>g.b.rE g.mp e.symm⟩
    have hlz:w.heap.size≤bg∧ ∀b,b<w.heap.size→ ¬Zn w.heap.size bg hm b6 bs wv gv pv b:=⟨g.lo2.1,fun b hb e=>by have:=e.1;omega⟩
    refine aB (JA (kind:=k) (soft:=false) g.b g.tr hok hil hk1 (by omega) g.mp g.ed (by simp only [List.length_append];omega) hz hz hnz hlz) rfl ?_
    rintro u w5 ⟨ev5,b5,BL,c5,_⟩
    have g5:=g.read b5 BL c5
    have hne: ∀k,ev.ownBlock=some k→w.heap.size≤k∧k≠b6∧k≠D:=fun k hk=>⟨(g.ed.lt hk).1.1,(g.ed.lt hk).1.2.2.1,g.ed.nl (.mark hD) hk⟩
    have g65:=g6.chg c5 fun e=>e.elim (fun e=>g6.pO g.b rfl e) fun e=>(hne _ e).2.1 rfl
    have hD5:=(c5.block _ hDl fun e=>e.elim (fun e=>by omega) fun e=>(hne _ e).2.2 rfl).trans hD
    have n5:New w w5:=(Chg.trans nW.any c5 fun k _ e=>e).toNew fun k hk e=>by
     rcases e with e|e
     ·omega
     ·have:=(hne k e).1;omega
    have afh:=(Array.getElem?_eq_some_iff.1 hD5).1
    clear hne hz hnz hlz c5 b5 BL
    (repeat' (first|refine af ?_|refine ah ?_|refine ak ?_))
    refine ay (u:=pT bg) rfl (g65.cell (o:=0) rfl) ?_
    (repeat' (refine aa0 ?_))
    have hz:=g5.zone g65.lt n5.size
    have hnz: ¬Zn w.heap.size bg hm b6 bs wv gv pv bg∧ ¬Zn w.heap.size bg hm b6 bs wv gv pv bg∧ ¬Zn w.heap.size bg hm b6 bs wv gv pv hm∧hm≠bg:=⟨fun e=>e.2.1 rfl,fun e=>e.2.1 rfl,fun e=>e.2.2.2.1 rfl,fun e=>g.b.rE g.mp e.symm⟩
    have hlz:w.heap.size≤bg∧ ∀b,b<w.heap.size→ ¬Zn w.heap.size bg hm b6 bs wv gv pv b:=⟨g.lo2.1,fun b hb e=>by have:=e.1;omega⟩
    have ahZ:=EU hok hil k false
    refine aB (JA (kind:=k) (soft:=true) g5.b g5.tr hok hil hk1 (by omega) g5.mp g5.ed (by simp only [List.length_append];omega) hz hz hnz hlz) rfl ?_
    rintro u w6 ⟨ev6,b6',Sv,c6,_⟩
    have g7:=g5.read b6' Sv c6
    have hne: ∀k,ev5.ownBlock=some k→w.heap.size≤k∧k≠b6∧k≠D:=fun k hk=>⟨(g5.ed.lt hk).1.1,(g5.ed.lt hk).1.2.2.1,g5.ed.nl (.mark hD5) hk⟩
    have g67:=g65.chg c6 fun e=>e.elim (fun e=>g65.pO g5.b rfl e) fun e=>(hne _ e).2.1 rfl
    have hD7:=(c6.block _ afh fun e=>e.elim (fun e=>by omega) fun e=>(hne _ e).2.2 rfl).trans hD5
    have n7:New w w6:=(Chg.trans n5.any c6 fun k _ e=>e).toNew fun k hk e=>by
     rcases e with e|e
     ·omega
     ·have:=(hne k e).1;omega
    clear hne hz hnz hlz c6 b6' Sv g5 g65 hD5 n5
    (repeat' (first|refine aa0 ?_|refine af ?_|refine ah ?_|refine ak ?_|refine aH ?_))
    refine iP rfl rfl ?_
    rw [show (k:Int)+1=((k+1:Nat):Int) from rfl,w8 (by omega)]
    (repeat' (first|refine aa1 ?_|refine af ?_))
    refine aG (k+1,ev6) ⟨rfl,rfl,rfl,rfl,rfl,rfl,rfl,trivial⟩ ⟨by dsimp only;omega,by dsimp only;omega,?_,g67,n7,hD7⟩ (by dsimp only;omega)
    dsimp only
    rw [O8 hk1 (by omega)]
    simpa using g7
   ·have hes:(List.range i).flatMap (xH t)++y8 t i k=(List.range (i+1)).flatMap (xH t):=by
     have:k=6:=by omega
     subst this
     rw [List.range_succ,List.flatMap_append]
     simp [xH,y8]
    rw [hes] at g
    have hb2:bs.length=t.length:=by
     have:=congrArg List.length hbs
     simpa using this
    have hpi:=uf hok (i:=i) (by omega) hil
    have hne0:bs≠ []:=by intro e;rw [e] at hb2;simp at hb2;omega
    obtain ⟨wg,wc,hwv,hwl,SK,hob⟩:=g.wa.row.blk hne0
    obtain ⟨x,hx⟩:=nV bs (k:=i) (by omega)
    subst hwv
    refine bQ rfl (by kernel_rfl) (fun w'=>New W w') (Chg.drew _ _) ?_
    intro w5 n5
    skip
    refine aa2 (aC (u:=pT bg) rfl (fun w' hw=>(g6.chg hw fun e=>e).cell (o:=0) rfl) (ax ?_))
    (repeat' (first|refine aa2 (bf rfl (ax ?_))|refine aa2 (aa8 (ax ?_))))
    refine aa2 (aC (u:=.slice (some ⟨wg,0,none⟩) bs.length wc) rfl (fun w' hw=>(g.b.chg hw fun e=>e).cell (o:=3) rfl) (ax ?_))
    (repeat' (refine aa2 (aa9 (ax ?_))))
    refine aa2 (cO g.tr (fun w' hw=>hw.keep) rfl rfl (by omega) (FU hil) fun b o cs hl hR hat=>ax ?_)
    obtain ⟨pv1,rfl,_⟩:=hR
    (repeat' (refine aa2 (aa8 (ax ?_))))
    refine aa2 (aC (u:=vi (par t i)) rfl (fun w' hw=>by rw [←hpi.2];exact (hat w' hw).get 0 rfl) (ax ?_))
    clear hat
    refine aT rfl (bT (R:=Wk.one viN) (Pe:=NoB) (y:=par t i) qH rfl rfl rfl rfl (by omega) (by omega) fun v6 w6 o6 n6 s6 e6=>?_)
    have n56:=n5.trans n6
    refine af ⟨rfl,n56,?_⟩
    skip
    refine aa2 (sG (ax ?_))
    refine Wt.last rfl (dQ (f:=(·.1:tX→Value)) (q:=(v6,[par t i])) (j:=i) (cap:=wc) (g.wa.row.new (nH _) n56) rfl (by omega) (by show Value.pointer (some ⟨wg,0+(i:Int).toNat*1,none⟩)=_;simp) rfl rfl (by obtain ⟨_,_,rfl,_⟩:=o6.form;rfl) fun w7 o7 c7=>?_)
    refine af ?_
    have hz5:=n5.size
    have g7:=g.want hx (x':=(v6,[par t i])) (w1:=w6) (o6.mono (nU _) (fun b _ e=>by have h9:w5.heap.size≤b:=e;omega) (fun _ _ e=>e)) n56.any (.inr fun k hk=>by have h9:w5.heap.size≤k:=(o6.lt hk).1;omega) o7 c7
    have c07:Chg (fun k=>k=wg) W w7:=Chg.trans n56.any c7 fun k _ e=>by cases e;rfl
    have hwD:wg≠D:=g.wa.row.nl (.mark hD) rfl
    have hw6:wg≠b6:=g.wa.row.pO g6 rfl rfl
    (repeat' (first|refine aa0 ?_|refine af ?_|refine ah ?_|refine ak ?_|refine aH ?_|refine aa7 ?_))
    refine aG (i+1,ev,bs.set i (v6,[par t i])) ⟨rfl,rfl,rfl,rfl,rfl,trivial⟩ ⟨by dsimp only;omega,?_,g7,g6.chg c07 (fun e=>hw6 e.symm),(Chg.trans (M:=fun k=>k=wg) nW.any c07 fun k _ e=>e).toNew fun k hk e=>by omega,(c07.block _ hDl (fun e=>hwD e.symm)).trans hD⟩ (by dsimp only;omega)
    show List.map _ (bs.set i _)=_
    rw [List.map_set,show List.map (·.2) bs=_ from hbs,vI hil]
    apply List.map_congr_left
    intro j _
    by_cases e1:j=i
    ·rw [if_pos e1,if_pos (by omega)]
     unfold uV
     rw [if_pos (by omega),e1]
    ·rw [if_neg e1]
     by_cases e2:j<i
     ·rw [if_pos e2,if_pos (by omega)]
     ·rw [if_neg e2,if_neg (by omega)]
   ·have hes:(List.range i).flatMap (xH t)++y8 t i k=(List.range (i+1)).flatMap (xH t):=by
     have:k=6:=by omega
     subst this
     rw [List.range_succ,List.flatMap_append]
     simp [xH,y8]
    rw [hes] at g
    refine aG (i+1,ev,bs) ⟨rfl,rfl,rfl,rfl,rfl,trivial⟩ ⟨by dsimp only;omega,?_,g,g6,nW,hD⟩ (by dsimp only;omega)
    have hi0:i=0:=by omega
    show List.map _ bs=_
    rw [show List.map (·.2) bs=_ from hbs]
    apply List.map_congr_left
    intro j _
    dsimp only
    rw [hi0,if_neg (by omega)]
    by_cases e2:j<0+1
    ·rw [if_pos e2]
     unfold uV
     rw [if_neg (by omega)]
    ·rw [if_neg e2]
  ·obtain rfl:i=t.length:=by omega
   have hed:(List.range t.length).flatMap (xH t)=nZ t:=rfl
   rw [hed] at g
   have hel:=tK hok t.length (Nat.le_refl _)
   rw [hed] at hel
   have Vq:bs.map (·.2)=(List.range t.length).map fun j=>uV t j++((nZ t).take 0).filterMap (wK j):=by
    rw [show List.map (·.2) bs=_ from hbs]
    apply List.map_congr_left
    intro j hj
    rw [if_pos (by simpa using hj)];simp
   obtain ⟨ea,ec,rfl,_,_⟩:=g.ed.form
   refine ay (u:=pT bg) rfl (g6.cell (o:=0) rfl) ?_
   (repeat' (first|refine bK rfl ?_|refine aa5 ?_))
   refine ay (u:=.slice ea (nZ t).length ec) rfl (g.b.cell (o:=2) rfl) ?_
   (repeat' (first|refine aa0 ?_|refine af ?_|refine pz ?_|refine ah ?_|refine Wc.block ?_))
   clear hbs
   refine aP (σ:=Nat×List tX×List Bool) (fun q=>[(6,pT b6),(130,.slice ea (nZ t).length ec),(131,vi (nZ t).length),(132,vi q.1)])
    (fun q W=>q.1≤(nZ t).length∧q.2.1.map (·.2)=((List.range t.length).map fun j=>uV t j++((nZ t).take q.1).filterMap (wK j))∧q.2.2.length=t.length∧GrA w.heap.size bg hm b6 t (qX t) (nZ t) q.2.1 q.2.2 (pK t) (.slice a t.length cap) (.slice ea (nZ t).length ec) wv gv pv W∧Bk W b6 220 [pT bg]∧New w W∧W.heap[D]? =some (.deferred (some []))) (fun q=>(nZ t).length-q.1) (0,bs,List.replicate t.length false) ⟨rfl,rfl,rfl,rfl,trivial⟩ ⟨Nat.zero_le _,Vq,by simp,g,g6,nW,hD⟩ ?_
   clear g g6 nW hD Vq
   rintro ⟨k,bs,gs⟩ G5 W ⟨hk,hbs,hgl,g,g6,nW,hD⟩
   dsimp only at hk hbs hgl g g6 nW hD
   simp only [oU]
   have hDl:=(Array.getElem?_eq_some_iff.1 hD).1
   have hzW:=nW.size
   (repeat' (first|refine af ?_|refine ah ?_|refine au ?_|refine ak ?_|refine Wc.block ?_|refine Wc.skip ?_|refine aJ ?_|refine aK ?_|refine aI ?_|refine aO ?_|refine aa3 ?_|refine aa4 ?_|refine oZ (fun _=>?_) (fun _=>?_)))
   ·obtain ⟨e,he⟩:=nV (nZ t) (k:=k) (by omega)
    have hlt:=vH e (List.mem_of_getElem? he)
    have hb2:bs.length=t.length:=by
     have:=congrArg List.length hbs
     simpa using this
    refine aU (g.ed.rd qj.mo) rfl rfl (by omega) he fun b o cs hl hR hat=>?_
    obtain ⟨av,rfl,hav⟩:=hR
    obtain ⟨aa,ac,rfl,_,_⟩:=hav.form
    refine bG hat rfl rfl ?_
    clear hat
    refine Wl.alloc fun w5 b5 n5 s5=>?_
    refine aX (new:=edC e (.slice aa e.args.length ac)) b5 rfl rfl rfl rfl (show (6:Nat)≤6 from Nat.le_refl 6) RX fun w6 b6' c6 s6=>?_
    replace b6':Bk w6 W.heap.size 150 (edC e (.slice aa e.args.length ac)):=b6'
    have n6:New W w6:=(Chg.trans n5.any c6 fun _ _ e=>e).toNew fun k hk e=>by omega
    clear b5 n5 c6 hav
    have g':=g.new n6
    have g66:=g6.chg n6 fun e=>e
    have n06:=New.trans nW n6
    have hD6:w6.heap[D]? =some (.deferred (some [])):=(n6.block _ hDl id).trans hD
    have aas:=(Array.getElem?_eq_some_iff.1 hD6).1
    have hxl:=b6'.lt
    clear g g6
    have hst: ∀j,uV t j++((nZ t).take (k+1)).filterMap (wK j)=(uV t j++((nZ t).take k).filterMap (wK j))++(wK j e).toList:=fun j=>by
     rw [take_snoc he,List.filterMap_append,List.append_assoc]
     congr 2
    have hno:(∀j,wK j e=none)→bs.map (·.2)=(List.range t.length).map fun j=>uV t j++((nZ t).take (k+1)).filterMap (wK j):=fun hh=>by
     rw [hbs]
     apply List.map_congr_left
     intro j _
     rw [hst,hh];simp
    (repeat' (first|refine af ?_|refine ah ?_|refine au ?_|refine ak ?_|refine Wc.block ?_|refine aa5 ?_))
    refine ay (u:=.bool e.soft) rfl (b6'.cell (o:=3) rfl) ?_
    (repeat' (first|refine aa1 ?_|refine af ?_|refine ah ?_))
    cases hso:e.soft
    ·(repeat' (first|refine au ?_|refine ak ?_|refine aa4 ?_|refine aa5 ?_))
     refine ay (u:=vi (qy e.dst)) rfl (b6'.cell (o:=1) rfl) ?_
     cases hds:e.dst with
     |none=>
      rw [show qy none=(-1:Int) from rfl]
      have hno':=hno fun j=>by unfold wK;rw [hds];split<;>rfl
      have hne0:gs≠ []:=by intro e;rw [e] at hgl;simp at hgl;omega
      obtain ⟨gg,gc,hgv,hgw,ah0,hob⟩:=g'.ga.blk hne0
      subst hgv
      (repeat' (first|refine aa1 ?_|refine af ?_|refine ah ?_|refine aa3 ?_|(refine oZ (fun _=>?_) (fun _=>?_)<;>(first|(exfalso;omega)|skip))))
      refine bQ rfl (by kernel_rfl) (fun w'=>New w6 w') (Chg.drew _ _) ?_
      intro w7 n7
      skip
      refine aa2 (aC (u:=pT bg) rfl (fun w' hw=>(g66.chg hw fun e=>e).cell (o:=0) rfl) (ax ?_))
      (repeat' (first|refine aa2 (bf rfl (ax ?_))|refine aa2 (aa8 (ax ?_))))
      refine aa2 (aC (u:=.slice (some ⟨gg,0,none⟩) gs.length gc) rfl (fun w' hw=>(g'.b.chg hw fun e=>e).cell (o:=4) rfl) (ax ?_))
      (repeat' (refine aa2 (aa8 (ax ?_))))
      refine aa2 (aC (u:=vi e.src) rfl (fun w' hw=>(b6'.chg hw fun e=>e).cell (o:=0) rfl) (ax ?_))
      skip
      refine aa2 (sG (ax ?_))
      refine Wt.last rfl (dQ (f:=vbo) (q:=true) (j:=e.src) (cap:=gc) (g'.ga.new (nM _) n7) rfl (by omega) (by show Value.pointer (some ⟨gg,0+(e.src:Int).toNat*1,none⟩)=_;simp) rfl rfl rfl fun w8 o8 c8=>?_)
      refine af ?_
      have g8:=(g'.new n7).gap o8 c8
      have c68:Chg (fun k=>k=gg) w6 w8:=Chg.trans n7.any c8 fun k _ e=>by cases e;rfl
      have hwD:gg≠D:=g'.ga.nl (.mark hD6) rfl
      have hw6:gg≠b6:=g'.ga.pO g66 rfl rfl
      (repeat' (first|refine aa0 ?_|refine af ?_|refine ah ?_|refine ak ?_|refine aH ?_|refine aa7 ?_))
      exact aG (k+1,bs,gs.set e.src true) ⟨rfl,rfl,rfl,rfl,trivial⟩ ⟨by dsimp only;omega,hno',by simpa using hgl,g8,g66.chg c68 (fun e=>hw6 e.symm),(Chg.trans (M:=fun k=>k=gg) n06.any c68 fun k _ e=>e).toNew fun k hk e=>by omega,(c68.block _ aas (fun e=>hwD e.symm)).trans hD6⟩ (by dsimp only;omega)
     |some d=>
      rw [show qy (some d)=(d:Int) from rfl]
      have hne0:bs≠ []:=by intro e;rw [e] at hb2;simp at hb2;omega
      obtain ⟨wg,wc,hwv,hwl,SK,hob⟩:=g'.wa.row.blk hne0
      obtain ⟨⟨xv,xl⟩,hx⟩:=nV bs (k:=e.src) (by omega)
      have hxo:=g'.wa.el _ (List.mem_of_getElem? hx)
      dsimp only at hxo
      obtain ⟨xa,xc,rfl,Vr,KR⟩:=hxo.form
      have EW:xl=uV t e.src++((nZ t).take k).filterMap (wK e.src):=by
       have h1:=congrArg (fun l=>l[e.src]?) hbs
       simp only [List.getElem?_map,hx,List.getElem?_range hlt.1,Option.map_some,Option.some.injEq] at h1
       exact h1
      have aat:xl.length≤10000000:=by
       rw [EW,List.length_append]
       have h1:(uV t e.src).length≤1:=by unfold uV;split<;>simp
       have h2:=List.length_filterMap_le (wK e.src) ((nZ t).take k)
       have h3:((nZ t).take k).length≤(nZ t).length:=by rw [List.length_take];omega
       omega
      subst hwv
      (repeat' (first|refine aa1 ?_|refine af ?_|refine ah ?_|refine aa4 ?_|(refine oZ (fun _=>?_) (fun _=>?_)<;>(first|(exfalso;omega)|skip))))
      refine bQ rfl (by kernel_rfl) (fun w'=>Chg (fun j=>(Value.slice xa xl.length xc).ownBlock=some j) w6 w') (Chg.drew _ _) ?_
      intro w7 n7
      have h6': ∀w',Chg (fun j=>(Value.slice xa xl.length xc).ownBlock=some j) w6 w'→Bk w' b6 220 [pT bg]:=fun w' c=>g66.chg c fun e=>hxo.pO g66 rfl e rfl
      have hg': ∀w',Chg (fun j=>(Value.slice xa xl.length xc).ownBlock=some j) w6 w'→Bk w' bg 225 (grC (.slice a t.length cap) hm (.slice ea (nZ t).length ec) (.slice (some ⟨wg,0,none⟩) bs.length wc) gv pv):=fun w' c=>g'.b.chg c fun e=>hxo.pO g'.b rfl e rfl
      have hx': ∀w',Chg (fun j=>(Value.slice xa xl.length xc).ownBlock=some j) w6 w'→Bk w' W.heap.size 150 (edC e (.slice aa e.args.length ac)):=fun w' c=>b6'.chg c fun e=>hxo.pO b6' rfl e rfl
      skip
      refine aa2 (aC (u:=pT bg) rfl (fun w' hw=>(h6' w' hw).cell (o:=0) rfl) (ax ?_))
      (repeat' (first|refine aa2 (bf rfl (ax ?_))|refine aa2 (aa8 (ax ?_))))
      refine aa2 (aC (u:=.slice (some ⟨wg,0,none⟩) bs.length wc) rfl (fun w' hw=>(hg' w' hw).cell (o:=3) rfl) (ax ?_))
      (repeat' (refine aa2 (aa8 (ax ?_))))
      refine aa2 (aC (u:=vi e.src) rfl (fun w' hw=>(hx' w' hw).cell (o:=0) rfl) (ax ?_))
      skip
      refine aa2 (aC (u:=pT bg) rfl (fun w' hw=>(h6' w' hw).cell (o:=0) rfl) (ax ?_))
      (repeat' (first|refine aa2 (bf rfl (ax ?_))|refine aa2 (aa8 (ax ?_))))
      refine aa2 (aC (u:=.slice (some ⟨wg,0,none⟩) bs.length wc) rfl (fun w' hw=>(hg' w' hw).cell (o:=3) rfl) (ax ?_))
      (repeat' (refine aa2 (aa8 (ax ?_))))
      refine aa2 (aC (u:=vi e.src) rfl (fun w' hw=>(hx' w' hw).cell (o:=0) rfl) (ax ?_))
      skip
      refine aa2 (sG (ax ?_))
      have hrow: ∀w',Chg (fun j=>(Value.slice xa xl.length xc).ownBlock=some j) w6 w'→w'.cell? ⟨wg,0+(e.src:Int).toNat*1,none⟩=some (.slice xa xl.length xc):=fun w' c=>by
       have h9:=(g'.wa.row.chg (nH _) c fun j hj e=>g'.wa.wR _ (List.mem_of_getElem? hx) j e hj).at rfl rfl hx
       have:=h9.get 0 rfl
       simpa using this
      refine aa2 (aC (u:=.slice xa xl.length xc) rfl hrow (ax ?_))
      (repeat' (refine aa2 (aa8 (ax ?_))))
      refine aa2 (aC (u:=vi d) rfl (fun w' hw=>by have:=(hx' w' hw).cell (o:=1) (u:=vi (qy e.dst)) rfl;rw [hds] at this;exact this) (ax ?_))
      refine aT rfl (bT (R:=Wk.one viN) (Pe:=NoB) (y:=d) qH rfl rfl rfl rfl (by omega) (by omega) fun v8 w8 o8 n8 s8 e8=>?_)
      have n78:=n7.trans n8
      refine af ⟨rfl,n78.any,?_⟩
      refine aT rfl (bU qH (hxo.new (nM _) n78) (o8.rd qH.mo) (fun y cs hy=>hy) rfl rfl (by omega) (by simp only [maxLen,List.length_singleton];omega) (by simp only [List.length_singleton];omega) fun v9 w9 o9 c9 lie _=>?_)
      have c69:Chg (fun j=>(Value.slice xa xl.length xc).ownBlock=some j) w6 w9:=Chg.trans n78.any c9 fun _ _ e=>e
      refine af ⟨rfl,c69,?_⟩
      skip
      refine aa2 (sG (ax ?_))
      have YH:=n78.size
      refine Wt.last rfl (dQ (f:=(·.1:tX→Value)) (q:=(v9,xl++ [d])) (j:=e.src) (cap:=wc) (g'.wa.row.chg (nH _) c69 fun j hj e=>g'.wa.wR _ (List.mem_of_getElem? hx) j e hj) rfl (by omega) (by show Value.pointer (some ⟨wg,0+(e.src:Int).toNat*1,none⟩)=_;simp) rfl rfl (by obtain ⟨_,_,rfl,_⟩:=o9.form;rfl) fun w10 o10 c10=>?_)
      refine af ?_
      have F7:v9.ownBlock=(Value.slice xa xl.length xc).ownBlock∨ ∀k,v9.ownBlock=some k→w6.heap.size≤k:=lie.imp id fun h9 k hk=>by have:=h9 k hk;omega
      have g10:=g'.want hx (x':=(v9,xl++ [d])) (w1:=w9) (o9.mono (nU _) (fun b _ e=>by rcases e with e|e;exact e;omega) (fun _ _ e=>e)) c69 F7 o10 c10
      have EX:Chg (fun j=>(Value.slice xa xl.length xc).ownBlock=some j∨j=wg) w6 w10:=Chg.trans (c69.mono fun k _ e=>Or.inl e) c10 fun k _ e=>by cases e;exact .inr rfl
      have hwD:wg≠D:=g'.wa.row.nl (.mark hD6) rfl
      have hw6:wg≠b6:=g'.wa.row.pO g66 rfl rfl
      have hxD: ∀j,(Value.slice xa xl.length xc).ownBlock=some j→j≠D∧j≠b6∧w.heap.size≤j:=fun j hj=>⟨hxo.nl (.mark hD6) hj,hxo.pO g66 rfl hj,(hxo.lt hj).1⟩
      (repeat' (first|refine aa0 ?_|refine af ?_|refine ah ?_|refine ak ?_|refine aH ?_|refine aa7 ?_))
      refine aG (k+1,bs.set e.src (v9,xl++ [d]),gs) ⟨rfl,rfl,rfl,rfl,trivial⟩ ⟨by dsimp only;omega,?_,hgl,g10,g66.chg EX (fun e=>e.elim (fun e=>(hxD _ e).2.1 rfl) fun e=>hw6 e.symm),(Chg.trans (M:=fun j=>(Value.slice xa xl.length xc).ownBlock=some j∨j=wg) n06.any EX fun k _ e=>e).toNew fun k hk e=>by rcases e with e|e;(have:=(hxD k e).2.2;omega);omega,(EX.block _ aas (fun e=>e.elim (fun e=>(hxD _ e).1 rfl) fun e=>hwD e.symm)).trans hD6⟩ (by dsimp only;omega)
      show List.map _ (bs.set e.src _)=_
      rw [List.map_set,hbs,vI hlt.1]
      apply List.map_congr_left
      intro j _
      dsimp only
      rw [hst j]
      by_cases e1:j=e.src
      ·rw [if_pos e1,EW,e1]
       unfold wK
       rw [if_pos ⟨rfl,hso⟩,hds];rfl
      ·rw [if_neg e1]
       unfold wK
       rw [if_neg (fun h=>e1 h.1.symm)];simp
    ·have hno':=hno fun j=>by unfold wK;rw [if_neg (fun h=>by rw [hso] at h;cases h.2)]
     (repeat' (first|refine aa0 ?_|refine af ?_|refine ah ?_|refine ak ?_|refine Wc.skip ?_|refine aH ?_|refine aa3 ?_|refine aa7 ?_))
     exact aG (k+1,bs,gs) ⟨rfl,rfl,rfl,rfl,trivial⟩ ⟨by dsimp only;omega,hno',hgl,g',g66,n06,hD6⟩ (by dsimp only;omega)
   ·obtain rfl:k=(nZ t).length:=by omega
    rw [List.take_length] at hbs
    refine ay (u:=pT bg) rfl (g6.cell (o:=0) rfl) ?_
    (repeat' (first|refine aa1 ?_|refine af ?_|refine ah ?_|refine aA ?_))
    refine Qdn.e ?_
    refine jR (by simp) hD ?_
    have hnD:NoC W D:=.mark hD
    refine gy (v:=.tuple #[pT bg,vi 0]) (vW rfl (qN rfl) (qN rfl)) ⟨_,rfl,⟨bg,hm,.slice ea (nZ t).length ec,wv,gv,pv,gs,bs,rfl,?_,hbs,hgl⟩,nW.put _ (by omega)⟩
    exact (g.put _ hnD (by omega) (by omega)).aao
 ·exact fun _ h=>h.elim
 ·exact fun _ _ h=>h.elim
end Go.Proofs.YtjecgaiaiophpaaGreatDoor
namespace Go.Proofs.YtjecgaiaiophpaaGreatDoor
open Go Wk
open Go.RowKit (Below)
attribute [local irreducible] Go.Calls
open Classical in
noncomputable def Ee (W:Nat→List Nat) (n i:Nat):List Bool:=(List.range n).map fun k=>decide (Rch W i k)
theorem NC (W:Nat→List Nat) (n i:Nat):(Ee W n i).length=n:=by simp [Ee]
theorem y9 {W:Nat→List Nat} {n i k:Nat} (hk:k<n): ∃b,(Ee W n i)[k]? =some b∧(b=true↔Rch W i k):=by
 unfold Ee
 refine ⟨_,by rw [List.getElem?_map,List.getElem?_range hk];rfl,?_⟩
 simp
structure Mrk (W:Nat→List Nat) (i:Nat) (ks:List Nat) (S S':List Bool):Prop where
 len:S'.length=S.length
 mo: ∀k:Nat,S[k]? =some true→S'[k]? =some true
 snd: ∀k:Nat,S'[k]? =some true→S[k]? =some true∨Rch W i k
 all: ∀k∈ks,S'[k]? =some true
 cl: ∀k:Nat,S'[k]? =some true→S[k]? =some true∨ ∀m∈W k,S'[m]? =some true
theorem jV (W:Nat→List Nat) (i:Nat) (S:List Bool):Mrk W i [] S S:=⟨rfl,fun _ h=>h,fun _ h=>.inl h,by simp,fun _ h=>.inl h⟩
theorem Mrk.skip {W:Nat→List Nat} {i k:Nat} {ks:List Nat} {S S':List Bool} (h:Mrk W i ks S S') (hk:S'[k]? =some true):Mrk W i (ks++ [k]) S S':=
 ⟨h.len,h.mo,h.snd,fun m hm=>by
   rcases List.mem_append.1 hm with hm|hm
   ·exact h.all m hm
   ·rw [List.mem_singleton.1 hm];exact hk,h.cl⟩
theorem Mrk.step {W:Nat→List Nat} {i k:Nat} {ks:List Nat} {S S1 S2:List Bool} (h:Mrk W i ks S S1) (hk:k∈W i) (hl:k<S1.length) (h2:Mrk W k (W k) (S1.set k true) S2):Mrk W i (ks++ [k]) S S2:=by
 have hset: ∀m:Nat,(S1.set k true)[m]? =some true↔m=k∨S1[m]? =some true:=fun m=>by
  rw [List.getElem?_set]
  by_cases e:k=m
  ·subst e;simp [hl]
  ·rw [if_neg e]
   constructor
   ·exact .inr
   ·rintro (e2|e2)
    ·exact absurd e2.symm e
    ·exact e2
 have mo2: ∀m:Nat,S1[m]? =some true→S2[m]? =some true:=fun m hm=>h2.mo m ((hset m).2 (.inr hm))
 have hk2:S2[k]? =some true:=h2.mo k ((hset k).2 (.inl rfl))
 refine ⟨by rw [h2.len,List.length_set,h.len],fun m hm=>mo2 m (h.mo m hm),fun m hm=>?_,fun m hm=>?_,fun m hm=>?_⟩
 ·rcases h2.snd m hm with e|e
  ·rcases (hset m).1 e with rfl|e
   ·exact .inr (.one hk)
   ·exact h.snd m e
  ·exact .inr (Rch.trans (.one hk) e)
 ·rcases List.mem_append.1 hm with hm|hm
  ·exact mo2 m (h.all m hm)
  ·rw [List.mem_singleton.1 hm];exact hk2
 ·rcases h2.cl m hm with e|e
  ·rcases (hset m).1 e with rfl|e
   ·exact .inr h2.all
   ·rcases h.cl m e with e2|e2
    ·exact .inl e2
    ·exact .inr fun q hq=>mo2 q (e2 q hq)
  ·exact .inr e
theorem Mrk.full {W:Nat→List Nat} {i n:Nat} {S':List Bool} (h:Mrk W i (W i) (List.replicate n false) S'):S'=Ee W n i:=by
 have hf: ∀k:Nat,(List.replicate n false)[k]? ≠some true:=fun k e=>by
  rw [List.getElem?_replicate] at e
  split at e<;>cases e
 have hin: ∀k,Rch W i k→S'[k]? =some true:=by
  intro k hk
  induction hk with
  |one h1=>exact h.all _ h1
  |more _ h1 ih=>exact (h.cl _ ih).resolve_left (hf _) _ h1
 have hl:S'.length=n:=by rw [h.len];simp
 apply List.ext_getElem?
 intro k
 by_cases hk:k<n
 ·obtain ⟨b,e,hb⟩:=y9 (W:=W) (i:=i) hk
  rw [e]
  obtain ⟨c,hc⟩:=nV S' (k:=k) (by omega)
  rw [hc]
  congr 1
  cases c<;>cases b
  ·rfl
  ·have:=hin k (hb.1 rfl);rw [hc] at this;cases this
  ·have:=(h.snd k hc).resolve_left (hf k)
   have:=hb.2 this;cases this
  ·rfl
 ·rw [List.getElem?_eq_none (by omega),List.getElem?_eq_none (by rw [NC];omega)]
def opn (S:List Bool):Nat:=S.count false
theorem QV {S:List Bool} {k:Nat} (h:S[k]? =some false):opn (S.set k true)+1=opn S:=by
 unfold opn
 obtain ⟨hl,e⟩:=List.getElem?_eq_some_iff.1 h
 have h1:=List.count_set (a:=true) (b:=false) hl
 have h2:0<S.count false:=List.count_pos_iff.2 (List.mem_of_getElem? h)
 rw [h1,e]
 simp
 omega
theorem Mrk.opn {W:Nat→List Nat} {i:Nat} {ks:List Nat} {S S':List Bool} (h:Mrk W i ks S S'):opn S'≤opn S:=by
 unfold Go.Proofs.YtjecgaiaiophpaaGreatDoor.opn
 have key: ∀(S S':List Bool),S'.length=S.length→(∀k:Nat,S[k]? =some true→S'[k]? =some true)→S'.count false≤S.count false:=by
  intro S
  induction S with
  |nil=>intro S' h1 _;rw [List.eq_nil_of_length_eq_zero h1];simp
  |cons b r ih=>
   intro S' h1 h2
   cases S' with
   |nil=>simp at h1
   |cons c r'=>
    have:=ih r' (by simpa using h1) (fun k hk=>by have:=h2 (k+1) (by simpa using hk);simpa using this)
    rw [List.count_cons,List.count_cons]
    cases b<;>cases c<;>simp<;>try omega
    have:=h2 0 rfl
    simp at this
 exact key S S' h.len h.mo
structure Rc (W0:World) (bg b1 b2 b3:Nat) (sv:Value) (W:World):Prop where
 n:New W0 W
 v1:Bk W b1 220 [pT bg]
 v2:Bk W b2 128 [sv]
 v3:Bk W b3 233 [.func (.func 191) #[] #[pT b1,pT b2,pT b3]]
theorem Rc.chg {W0 W W':World} {bg b1 b2 b3:Nat} {sv:Value} {S:List Bool} {Pb:Nat→Prop} (h:Rc W0 bg b1 b2 b3 sv W) (own:nO (Wk.one vbo) 4 1 Pb NoB W sv S) (hlo: ∀k,sv.ownBlock=some k→W0.heap.size≤k) (c:Chg (fun k=>sv.ownBlock=some k) W W'):Rc W0 bg b1 b2 b3 sv W':=
 ⟨(Chg.trans h.n.any c fun k _ e=>e).toNew fun k hk e=>by have:=hlo k e;omega,h.v1.chg c fun e=>own.pO h.v1 rfl e rfl,h.v2.chg c fun e=>own.pO h.v2 rfl e rfl,h.v3.chg c fun e=>own.pO h.v3 rfl e rfl⟩
theorem ND {lo bg hm b6 b1 b2 b3:Nat} {t:List Nd} {m:List (Nat×Nat)} {es:List Ed} {bs:List tX} {gs:List Bool} {ps:List Nm} {lv ev wv gv pv sv:Value} {W0:World} {Wn:Nat→List Nat}
 (g0:GrA lo bg hm b6 t m es bs gs ps lv ev wv gv pv W0) (hW:bs.map (·.2)=(List.range t.length).map Wn) (hIn: ∀i,i<t.length→ ∀k∈Wn i,k<t.length) (hlo: ∀k,sv.ownBlock=some k→W0.heap.size≤k):
 ∀(N:Nat) (w:World) (S:List Bool) (i:Nat),opn S≤N→i<t.length→S.length=t.length→Rc W0 bg b1 b2 b3 sv w→nO (Wk.one vbo) 4 1 (fun b=>W0.heap.size≤b) NoB w sv S→
  Calls Tryz.prog 191 #[vi i,pT b1,pT b2,pT b3] w (Ret fun _ w'=> ∃S',Mrk Wn i (Wn i) S S'∧nO (Wk.one vbo) 4 1 (fun b=>W0.heap.size≤b) NoB w' sv S'∧Chg (fun k=>sv.ownBlock=some k) w w'):=by
 intro N
 induction N using Nat.strongRecOn with
 |ind N IH=>
  intro w S i hN hi hS rc own
  have hb2:bs.length=t.length:=by
   have:=congrArg List.length hW
   simpa using this
  obtain ⟨⟨xv,xl⟩,hx⟩:=nV bs (k:=i) (by omega)
  have hxl:xl=Wn i:=by
   have h1:=congrArg (fun l=>l[i]?) hW
   simp only [List.getElem?_map,hx,List.getElem?_range hi,Option.map_some,Option.some.injEq] at h1
   exact h1
  subst hxl
  have hxo:=g0.wa.el _ (List.mem_of_getElem? hx)
  dsimp only at hxo
  obtain ⟨xa,xc,rfl,Vr,KR⟩:=hxo.form
  simp only [maxLen] at KR
  obtain ⟨wg,wc,hwv,hwl,SK,hob⟩:=g0.wa.row.blk (by intro e;rw [e] at hb2;simp at hb2;omega)
  subst hwv
  have g:=g0.new rc.n
  refine nI Tryz.func191 rfl Tryz.ntmps191 rfl ?_
  (repeat' (first|refine au ?_|refine ak ?_))
  refine ay (u:=pT bg) rfl (rc.v1.cell (o:=0) rfl) ?_
  (repeat' (first|refine bK rfl ?_|refine aa5 ?_))
  refine ay (u:=.slice (some ⟨wg,0,none⟩) bs.length wc) rfl (g.b.cell (o:=3) rfl) ?_
  (repeat' (refine aa0 ?_))
  refine dJ rfl rfl (by omega) (by omega) ?_
  have hrow:w.cell? ⟨wg,0+(i:Int).toNat*1,none⟩=some (.slice xa (Wn i).length xc):=by
   have:=(g.wa.row.at rfl rfl hx).get 0 rfl
   simpa using this
  refine ay (u:=.slice xa (Wn i).length xc) rfl hrow ?_
  (repeat' (first|refine aa0 ?_|refine af ?_|refine pz ?_|refine ah ?_|refine Wc.block ?_))
  refine aP (σ:=Nat×List Bool) (fun q=>[(1,pT b1),(2,pT b2),(3,pT b3),(13,.slice xa (Wn i).length xc),(14,vi (Wn i).length),(15,vi q.1)])
   (fun q W=>q.1≤(Wn i).length∧Mrk Wn i ((Wn i).take q.1) S q.2∧nO (Wk.one vbo) 4 1 (fun b=>W0.heap.size≤b) NoB W sv q.2∧Rc W0 bg b1 b2 b3 sv W∧Chg (fun k=>sv.ownBlock=some k) w W) (fun q=>(Wn i).length-q.1) (0,S) ⟨rfl,rfl,rfl,rfl,rfl,rfl,trivial⟩ ⟨Nat.zero_le _,jV _ _ _,own,rc,aQ _ _⟩ ?_
  rintro ⟨j,S1⟩ G W ⟨hj,hM,yJ,rc1,c1⟩
  dsimp only at hj hM yJ rc1 c1
  simp only [oU]
  have hl1:S1.length=t.length:=by rw [hM.len];exact hS
  obtain ⟨sg,scp,hsv,hsl,hsl2,afi⟩:=yJ.blk (by intro e;rw [e] at hl1;simp at hl1;omega)
  (repeat' (first|refine af ?_|refine ah ?_|refine au ?_|refine ak ?_|refine Wc.block ?_|refine Wc.skip ?_|refine aJ ?_|refine aK ?_|refine aI ?_|refine aO ?_|refine aa3 ?_|refine aa4 ?_|refine oZ (fun _=>?_) (fun _=>?_)))
  ·obtain ⟨k,hk⟩:=nV (Wn i) (k:=j) (by omega)
   have hkm:=List.mem_of_getElem? hk
   have hkl:=hIn i hi k hkm
   have hxW:=(hxo.new (nM _) rc1.n).rd qH.mo
   refine bI hxW rfl rfl (by omega) hk fun b o hcell=>?_
   refine ay (u:=vi k) rfl hcell ?_
   (repeat' (first|refine aa1 ?_|refine af ?_|refine ah ?_|refine au ?_|refine ak ?_))
   refine ay (u:=sv) rfl (rc1.v2.cell (o:=0) rfl) ?_
   (repeat' (refine aa0 ?_))
   obtain ⟨mb,hmb⟩:=nV S1 (k:=k) (by omega)
   refine bI (yJ.rd Dh.mo) rfl rfl (by omega) hmb fun b o hcell=>?_
   refine ay (u:=.bool mb) rfl hcell ?_
   cases mb
   ·(repeat' (first|refine af ?_|refine aV rfl ?_|refine ah ?_|refine au ?_|refine ak ?_|refine aa3 ?_))
    refine ay (u:=sv) rfl (rc1.v2.cell (o:=0) rfl) ?_
    (repeat' (refine aa0 ?_))
    rw [hl1] at hsv
    refine dJ (b:=sg) (off:=0) (l:=t.length) (cap:=scp) hsv rfl (by omega) (by omega) ?_
    refine dQ (f:=vbo) (q:=true) (j:=k) (cap:=scp) yJ (by rw [hl1];exact hsv) (by omega) (by show Value.pointer (some ⟨sg,0+(k:Int).toNat*1,none⟩)=_;simp) rfl rfl rfl fun w2 o2 c2=>?_
    have rc2:=rc1.chg yJ hlo c2
    (repeat' (first|refine af ?_|refine ah ?_|refine ak ?_))
    refine ay (u:=.func (.func 191) #[] #[pT b1,pT b2,pT b3]) rfl (rc2.v3.cell (o:=0) rfl) ?_
    (repeat' (refine aa0 ?_))
    have hop:=QV hmb
    have hop1:=hM.opn
    refine dA (dst:=some 29) rfl (IH (opn (S1.set k true)) (by omega) w2 (S1.set k true) k (Nat.le_refl _) hkl (by rw [List.length_set];exact hl1) rc2 o2) rfl ?_
    rintro u w3 ⟨S3,hM3,o3,c3⟩
    simp only [Am]
    have rc3:=rc2.chg o2 hlo c3
    (repeat' (first|refine aa0 ?_|refine af ?_|refine ah ?_|refine ak ?_|refine aH ?_|refine aa7 ?_))
    refine aG (j+1,S3) ⟨rfl,rfl,rfl,rfl,rfl,rfl,trivial⟩ ⟨by dsimp only;omega,?_,o3,rc3,Chg.trans (Chg.trans c1 c2 fun _ _ e=>e) c3 fun _ _ e=>e⟩ (by dsimp only;omega)
    dsimp only
    rw [take_snoc hk]
    exact hM.step hkm (by omega) hM3
   ·(repeat' (first|refine aa0 ?_|refine af ?_|refine aV rfl ?_|refine ah ?_|refine ak ?_|refine Wc.skip ?_|refine aH ?_|refine aa4 ?_|refine aa7 ?_))
    refine aG (j+1,S1) ⟨rfl,rfl,rfl,rfl,rfl,rfl,trivial⟩ ⟨by dsimp only;omega,?_,yJ,rc1,c1⟩ (by dsimp only;omega)
    dsimp only
    rw [take_snoc hk]
    exact hM.skip hmb
  ·obtain rfl:j=(Wn i).length:=by omega
   rw [List.take_length] at hM
   exact dF rfl ⟨_,rfl,S1,hM,yJ,c1⟩
end Go.Proofs.YtjecgaiaiophpaaGreatDoor
namespace Go.Proofs.YtjecgaiaiophpaaGreatDoor
open Go Wk
open Go.RowKit (Below)
attribute [local irreducible] Go.Calls
section
variable {lo bg hm b6:Nat} {t:List Nd} {m:List (Nat×Nat)} {es:List Ed} {bs:List tX} {gs:List Bool} {ps:List Nm} {lv ev wv gv pv:Value} {W:World} {Wn:Nat→List Nat}
theorem Il {i:Nat} (g:GrA lo bg hm b6 t m es bs gs ps lv ev wv gv pv W) (hok:oG t=true) (hW:bs.map (·.2)=(List.range t.length).map Wn) (hIn: ∀i,i<t.length→ ∀k∈Wn i,k<t.length) (hi:i<t.length):
 Calls Tryz.prog 139 #[pT bg,vi i] W (Ret fun r w'=>nO (Wk.one vbo) 4 1 (fun b=>W.heap.size≤b) NoB w' r (Ee Wn t.length i)∧New W w'):=by
 have hlen:=oP hok
 obtain ⟨la,lc,rfl,_,_⟩:=g.tr.form
 refine nI Tryz.func139 rfl Tryz.ntmps139 rfl ?_
 (repeat' (first|refine au ?_|refine ak ?_))
 refine bC rfl fun w1 b1 n1 s1=>?_
 replace b1:Bk w1 W.heap.size 220 [pT bg]:=b1
 (repeat' (first|refine aa1 ?_|refine af ?_|refine ah ?_|refine au ?_|refine ak ?_))
 refine ay (u:=pT bg) rfl (b1.cell (o:=0) rfl) ?_
 (repeat' (first|refine bK rfl ?_|refine aa5 ?_))
 refine ay (u:=.slice la t.length lc) rfl ((g.new n1).b.cell (o:=0) rfl) ?_
 (repeat' (refine pz ?_))
 refine eF (f:=vbo) (y0:=false) (Pe:=NoB) rfl rfl rfl (by omega) (by omega) (by omega) fun sv w2 o2 n2=>?_
 rw [Int.toNat_natCast] at o2
 obtain ⟨sa,sc,rfl,_,_⟩:=o2.form
 refine Wl.alloc fun w3 b3 n3 s3=>?_
 skip
 have hz1:=n1.size
 have hz2:=n2.size
 refine aY (u:=.slice sa (List.replicate t.length false).length sc) b3 rfl (show (0:Nat)<1 by omega) (by rw [List.length_replicate];rfl) rfl fun w4 b4 c4=>?_
 replace b4:Bk w4 w2.heap.size 128 [.slice sa (List.replicate t.length false).length sc]:=b4
 have n24:New w2 w4:=(Chg.trans n3.any c4 fun _ _ e=>e).toNew fun k hk e=>by omega
 have hz4:=n24.size
 (repeat' (first|refine af ?_|refine ah ?_|refine au ?_|refine ak ?_))
 refine Wl.alloc fun w5 b5 n5 s5=>?_
 replace b5:Bk w5 w4.heap.size 233 [.nilFunc]:=b5
 (repeat' (first|refine af ?_|refine ah ?_|refine au ?_|refine ak ?_))
 refine dH (f1:=[]) (c1:=[pT W.heap.size,pT w2.heap.size,pT w4.heap.size]) rfl rfl ?_
 refine aY (u:=.func (.func 191) #[] #[pT W.heap.size,pT w2.heap.size,pT w4.heap.size]) b5 rfl (show (0:Nat)<1 by omega) rfl rfl fun w6 b6' c6=>?_
 replace b6':Bk w6 w4.heap.size 233 [.func (.func 191) #[] #[pT W.heap.size,pT w2.heap.size,pT w4.heap.size]]:=b6'
 have n46:New w4 w6:=(Chg.trans n5.any c6 fun _ _ e=>e).toNew fun k hk e=>by omega
 have n26:=New.trans n24 n46
 have rc:Rc W bg W.heap.size w2.heap.size w4.heap.size (.slice sa (List.replicate t.length false).length sc) w6:=⟨New.trans (New.trans n1 n2) n26,b1.chg (New.trans n2 n26) (fun e=>e),b4.chg n46 (fun e=>e),b6'⟩
 have o6:=o2.new (nM _) n26
 (repeat' (first|refine af ?_|refine ah ?_|refine au ?_|refine ak ?_))
 refine ay (u:=.func (.func 191) #[] #[pT W.heap.size,pT w2.heap.size,pT w4.heap.size]) rfl (rc.v3.cell (o:=0) rfl) ?_
 (repeat' (refine aa0 ?_))
 refine dA (dst:=some 16) rfl (ND (Wn:=Wn) g hW hIn (fun k hk=>by have h9:w1.heap.size≤k:=(o6.lt hk).1;omega) _ w6 (List.replicate t.length false) i (Nat.le_refl _) hi (by simp) rc (o6.mono (nU _) (fun b _ e=>by have h9:w1.heap.size≤b:=e;omega) (fun _ _ e=>e))) rfl ?_
 rintro u w7 ⟨S',hM,o7,c7⟩
 simp only [Am]
 have rc7:=rc.chg o6 (fun k hk=>by have h9:w1.heap.size≤k:=(o6.lt hk).1;omega) c7
 (repeat' (first|refine af ?_|refine ah ?_|refine au ?_|refine ak ?_))
 refine ay (u:=.slice sa (List.replicate t.length false).length sc) rfl (rc7.v2.cell (o:=0) rfl) ?_
 (repeat' (first|refine aa1 ?_|refine af ?_|refine ah ?_|refine aA ?_))
 have:=hM.full
 subst this
 exact aF rfl rfl ⟨_,rfl,o7,rc7.n⟩
abbrev O9:=Value×List Bool
abbrev brC:O9→List Value:=fun x=>[x.1]
abbrev BLs (lo:Nat) (w:World) (v:Value) (rs:List O9):Prop:=LLs brC (·.1) (·.2) vbo 128 4 1 (fun b=>lo≤b) w v rs
theorem Vs (g:GrA lo bg hm b6 t m es bs gs ps lv ev wv gv pv W) (hok:oG t=true) (hW:bs.map (·.2)=(List.range t.length).map Wn) (hIn: ∀i,i<t.length→ ∀k∈Wn i,k<t.length):
 Calls Tryz.prog 149 #[pT bg] W (Ret fun r w'=>(∃rs,BLs W.heap.size w' r rs∧rs.map (·.2)=(List.range t.length).map (Ee Wn t.length))∧New W w'):=by
 have hlen:=oP hok
 have hpos:=sH hok
 obtain ⟨la,lc,rfl,_,_⟩:=g.tr.form
 refine nI Tryz.func149 rfl Tryz.ntmps149 rfl ?_
 (repeat' (first|refine aa0 ?_|refine aa1 ?_|refine af ?_|refine ah ?_|refine au ?_|refine ak ?_|refine bK rfl ?_|refine aa5 ?_))
 refine ay (u:=.slice la t.length lc) rfl (g.b.cell (o:=0) rfl) ?_
 (repeat' (refine pz ?_))
 refine eF (f:=(·.1:O9→Value)) (y0:=(.slice none 0 0,[])) (Pe:=NoB) rfl rfl rfl (by omega) (by omega) (by omega) fun sv w1 o1 n1=>?_
 rw [Int.toNat_natCast] at o1
 obtain ⟨sg,sc,hsv,_,_,hob⟩:=o1.blk (by intro e;rw [List.replicate_eq_nil_iff] at e;omega)
 rw [List.length_replicate] at hsv
 subst hsv
 have L0:BLs W.heap.size w1 (.slice (some ⟨sg,0,none⟩) t.length sc) (List.replicate t.length (.slice none 0 0,[])):=⟨o1,fun b hb=>(by rw [(List.mem_replicate.1 hb).2];exact bF),fun b hb=>(by rw [(List.mem_replicate.1 hb).2];intro k e;cases e),fun i j b c _ hb _=>(by
  rw [(List.mem_replicate.1 (List.mem_of_getElem? hb)).2]
  intro k e;cases e)⟩
 have e0:(List.replicate t.length ((.slice none 0 0,[]):O9)).map (·.2)=(List.range t.length).map fun j=>if j<0 then Ee Wn t.length j else []:=by
  rw [List.map_replicate]
  apply List.ext_getElem?
  intro j
  rw [List.getElem?_replicate,List.getElem?_map]
  by_cases hj:j<t.length
  ·rw [if_pos hj,List.getElem?_range hj];rfl
  ·rw [if_neg hj,List.getElem?_eq_none (by simpa using hj)];rfl
 (repeat' (first|refine aa0 ?_|refine aa1 ?_|refine af ?_|refine pz ?_|refine ah ?_|refine au ?_|refine ak ?_|refine Wc.block ?_))
 refine aP (σ:=Nat×List O9) (fun q=>[(0,pT bg),(3,.slice (some ⟨sg,0,none⟩) t.length sc),(12,vi t.length),(13,vi q.1)])
  (fun q w'=>q.1≤t.length∧BLs W.heap.size w' (.slice (some ⟨sg,0,none⟩) t.length sc) q.2∧q.2.map (·.2)=((List.range t.length).map fun j=>if j<q.1 then Ee Wn t.length j else [])∧New W w') (fun q=>t.length-q.1) (0,List.replicate t.length (.slice none 0 0,[])) ⟨rfl,rfl,rfl,rfl,trivial⟩ ⟨Nat.zero_le _,L0,e0,n1⟩ ?_
 rintro ⟨i,rs⟩ G w2 ⟨hi,L2,e2,n2⟩
 dsimp only at hi L2 e2 n2
 simp only [oU]
 have hrl:rs.length=t.length:=by
  have:=congrArg List.length e2
  simpa using this
 (repeat' (first|refine aa0 ?_|refine aa1 ?_|refine af ?_|refine ah ?_|refine au ?_|refine ak ?_|refine Wc.block ?_|refine Wc.skip ?_|refine aJ ?_|refine aA ?_|refine aK ?_|refine aI ?_|refine aO ?_|refine aa3 ?_|refine aa4 ?_|refine oZ (fun _=>?_) (fun _=>?_)))
 ·have hil:i<t.length:=by omega
  refine aB (Il (g.new n2) hok hW hIn hil) rfl ?_
  rintro rv w3 ⟨o3,n3⟩
  obtain ⟨ra,rc,hrv,_,_⟩:=o3.form
  obtain ⟨x,hx⟩:=nV rs (k:=i) (by omega)
  skip
  refine dJ rfl rfl (by omega) (by omega) ?_
  have hz2:=n2.size
  refine dQ (f:=(·.1:O9→Value)) (q:=(rv,Ee Wn t.length i)) (j:=i) (cap:=sc) (L2.row.new (nH _) n3) (by rw [hrl]) (by omega) (by show Value.pointer (some ⟨sg,0+(i:Int).toNat*1,none⟩)=_;simp) rfl rfl (by rw [hrv];rfl) fun w4 o4 c4=>?_
  have L4:=L2.set hx (b':=(rv,Ee Wn t.length i)) (w1:=w3) (o3.mono (nU _) (fun b _ e=>by have h9:w2.heap.size≤b:=e;omega) (fun _ _ e=>e)) n3.any (.inr fun k hk=>(o3.lt hk).1) o4 c4
  have hsg:W.heap.size≤sg:=(L2.row.lt rfl).1
  (repeat' (first|refine aa0 ?_|refine af ?_|refine ah ?_|refine ak ?_|refine aH ?_|refine aa7 ?_))
  refine aG (i+1,rs.set i (rv,Ee Wn t.length i)) ⟨rfl,rfl,rfl,rfl,trivial⟩ ⟨by dsimp only;omega,L4,?_,Chg.trans (New.trans n2 n3) c4 fun k hk e=>by have h9:W.heap.size≤k:=(L2.row.lt e).1;omega⟩ (by dsimp only;omega)
  dsimp only
  rw [List.map_set,e2,vI hil]
  apply List.map_congr_left
  intro j _
  by_cases e1:j=i
  ·rw [if_pos e1,if_pos (by omega),e1]
  ·rw [if_neg e1]
   by_cases e3:j<i
   ·rw [if_pos e3,if_pos (by omega)]
   ·rw [if_neg e3,if_neg (by omega)]
 ·obtain rfl:i=t.length:=by omega
  refine aF rfl rfl ⟨_,rfl,⟨rs,L2,?_⟩,n2⟩
  rw [e2]
  apply List.map_congr_left
  intro j hj
  rw [if_pos (by simpa using hj)]
theorem Vt (pt:Nat→Nm) (a b:Nat):DV (pt a) (pt b)=ru (fun _=>0) pt a b:=by
 unfold DV ru
 rw [if_neg (Int.lt_irrefl 0),if_neg (Int.lt_irrefl 0)]
theorem KT {b2 a c:Nat} {w:World} (g:GrA lo bg hm b6 t m es bs gs (pK t) lv ev wv gv pv w) (h2:Bk w b2 220 [pT bg]) (ha:a<t.length) (hc:c<t.length) (hlen:t.length≤512):
 Calls Tryz.prog 241 #[vi a,vi c,pT b2] w (Ret fun r w'=>r=vi (ru (fun _=>0) (oO t) a c)∧Grw w w'):=by
 have hpl:=xG t
 obtain ⟨pa,pc,rfl,_,_⟩:=g.pa.form
 have hrd:=g.pa.rd qR.mo
 refine nI Tryz.func241 rfl Tryz.ntmps241 rfl ?_
 (repeat' (first|refine aa1 ?_|refine af ?_|refine ah ?_|refine au ?_|refine ak ?_))
 refine fZ [0,1,2,3,4,5,6,7,8,9,10,11,12,13] [14,15] rfl (by kernel_rfl) (by simp only [pick,List.getElem?_cons_succ,List.getElem?_cons_zero];rfl) (by simp only [pick,List.getElem?_cons_succ,List.getElem?_cons_zero];rfl) (Grw w) (Grw.drew w) ?_
 skip
 refine aC (u:=pT bg) rfl (fun w' hw=>(h2.chg hw.new fun e=>e).cell (o:=0) rfl) ?_
 (repeat' (first|refine bf rfl ?_|refine aa8 ?_))
 refine aC (u:=.slice pa (pK t).length pc) rfl (fun w' hw=>(g.b.chg hw.new fun e=>e).cell (o:=5) rfl) ?_
 (repeat' (refine aa9 ?_))
 refine dm (y:=oO t a) hrd (fun w' hw=>hw.new.keep) rfl rfl (by omega) (by rw [Int.toNat_natCast];exact tJ ha) fun bb off hcell=>?_
 refine aC (u:=vs (oO t a)) rfl hcell ?_
 skip
 refine aC (u:=pT bg) rfl (fun w' hw=>(h2.chg hw.new fun e=>e).cell (o:=0) rfl) ?_
 (repeat' (first|refine bf rfl ?_|refine aa8 ?_))
 refine aC (u:=.slice pa (pK t).length pc) rfl (fun w' hw=>(g.b.chg hw.new fun e=>e).cell (o:=5) rfl) ?_
 (repeat' (refine aa9 ?_))
 refine dm (y:=oO t c) hrd (fun w' hw=>hw.new.keep) rfl rfl (by omega) (by rw [Int.toNat_natCast];exact tJ hc) fun bb off hcell=>?_
 refine aC (u:=vs (oO t c)) rfl hcell ?_
 (repeat' (refine ax ?_))
 refine dG ?_
 refine aB (wQ (a:=oO t a) (b:=oO t c)) rfl ?_
 rintro _ _ ⟨rfl,rfl⟩
 refine af ⟨rfl,Grw.drew w,?_⟩
 refine Wch.last ?_
 (repeat' (first|refine aa1 ?_|refine af ?_|refine ah ?_|refine aA ?_))
 exact aF rfl rfl ⟨_,rfl,by rw [←Vt];rfl,Grw.drew w⟩
theorem NE {Ps:Nat→Prop} {v:Value} {some_:List Nat} (g:GrA lo bg hm b6 t m es bs gs (pK t) lv ev wv gv pv W) (hok:oG t=true) (hs:RdS (Wk.one viN) 1 Ps W v some_) (hin: ∀k∈some_,k<t.length) (hsl:some_.length≤100000):
 Calls Tryz.prog 198 #[pT bg,v] W (Ret fun r w'=>nO (Wk.one viN) 3 1 (fun b=>W.heap.size≤b) NoB w' r (some_.mergeSort fun x y=> !decide (ru (fun _=>0) (oO t) y x<0))∧New W w'):=by
 have hlen:=oP hok
 refine nI Tryz.func198 rfl Tryz.ntmps198 rfl ?_
 (repeat' (first|refine au ?_|refine ak ?_))
 refine bC rfl fun w1 b1 n1 s1=>?_
 replace b1:Bk w1 W.heap.size 220 [pT bg]:=b1
 (repeat' (first|refine aa0 ?_|refine aa1 ?_|refine af ?_|refine ah ?_|refine au ?_|refine ak ?_))
 refine aB (MQ (hs.keep (nS _) n1.keep) (by omega)) rfl ?_
 rintro cv w2 ⟨o2,n2⟩
 have n02:=New.trans n1 n2
 have b2:=b1.chg n2 fun e=>e
 have hz1:=n1.size
 (repeat' (first|refine aa0 ?_|refine aa1 ?_|refine af ?_|refine ah ?_|refine au ?_|refine ak ?_))
 refine dH (f1:=[]) (c1:=[pT W.heap.size]) rfl rfl ?_
 refine aB (CS (g:=241) (cb:= #[pT W.heap.size]) (lv:=fun _=>0) (pt:=oO t) o2 (fun a ha b hb e=>ER hok (hin a ha) (hin b hb) e) (by omega) fun w' hw a ha b hb=>?_) rfl ?_
 ·have nW:New W w':=(Chg.trans n02.any hw fun k _ e=>e).toNew fun k hk e=>by have h9:w1.heap.size≤k:=(o2.lt e).1;omega
  refine (KT (g.new nW) (b2.chg hw fun e=>o2.pO b2 rfl e rfl) (hin a ha) (hin b hb) hlen).mono ?_
  rintro _ w'' ⟨_,rfl,rfl,hg⟩
  exact ⟨rfl,hg⟩
 rintro _ w3 ⟨o3,c3⟩
 (repeat' (first|refine aa0 ?_|refine aa1 ?_|refine af ?_|refine ah ?_|refine au ?_|refine ak ?_|refine aA ?_))
 exact aF rfl rfl ⟨_,rfl,o3.mono (nU _) (fun b _ e=>by have h9:w1.heap.size≤b:=e;omega) (fun _ _ e=>e),(Chg.trans n02.any c3 fun k _ e=>e).toNew fun k hk e=>by have h9:w1.heap.size≤k:=(o2.lt e).1;omega⟩
theorem Ph (g:GrA lo bg hm b6 t m es bs gs (pK t) lv ev wv gv pv W) (hok:oG t=true):
 Calls Tryz.prog 150 #[pT bg] W (Ret fun r w'=>nO (Wk.one viN) 3 1 (fun b=>W.heap.size≤b) NoB w' r (pq t)∧New W w'):=by
 have hlen:=oP hok
 have hpos:=sH hok
 obtain ⟨la,lc,rfl,_,_⟩:=g.tr.form
 refine nI Tryz.func150 rfl Tryz.ntmps150 rfl ?_
 (repeat' (first|refine aa0 ?_|refine aa1 ?_|refine af ?_|refine ah ?_|refine au ?_|refine ak ?_|refine bK rfl ?_|refine aa5 ?_))
 refine ay (u:=.slice la t.length lc) rfl (g.b.cell (o:=0) rfl) ?_
 (repeat' (refine pz ?_))
 refine eF (f:=viN) (y0:=0) (Pe:=NoB) rfl rfl rfl (by omega) (by omega) (by omega) fun sv w1 o1 n1=>?_
 rw [Int.toNat_natCast] at o1
 obtain ⟨sg,sc,hsv,hsg,_,hob⟩:=o1.blk (by intro e;rw [List.replicate_eq_nil_iff] at e;omega)
 rw [List.length_replicate] at hsv
 subst hsv
 (repeat' (first|refine aa0 ?_|refine aa1 ?_|refine af ?_|refine pz ?_|refine ah ?_|refine au ?_|refine ak ?_|refine Wc.block ?_))
 refine aP (σ:=Nat) (fun i=>[(0,pT bg),(3,.slice (some ⟨sg,0,none⟩) t.length sc),(12,vi t.length),(13,vi i)])
  (fun i w'=>i≤t.length∧nO (Wk.one viN) 3 1 (fun b=>W.heap.size≤b) NoB w' (.slice (some ⟨sg,0,none⟩) t.length sc) (List.range i++List.replicate (t.length-i) 0)∧New W w') (fun i=>t.length-i) 0 ⟨rfl,rfl,rfl,rfl,trivial⟩ ⟨Nat.zero_le _,by simpa using o1,n1⟩ ?_
 rintro i G w2 ⟨hi,o2,n2⟩
 simp only [oU]
 have hll:(List.range i++List.replicate (t.length-i) 0).length=t.length:=by simp;omega
 (repeat' (first|refine aa0 ?_|refine aa1 ?_|refine af ?_|refine ah ?_|refine au ?_|refine ak ?_|refine Wc.block ?_|refine Wc.skip ?_|refine aJ ?_|refine aK ?_|refine aI ?_|refine aO ?_|refine aa3 ?_|refine aa4 ?_|refine oZ (fun _=>?_) (fun _=>?_)))
 ·refine dJ rfl rfl (by omega) (by omega) ?_
  refine dQ (f:=viN) (q:=i) (j:=i) (cap:=sc) o2 (by rw [hll]) (by omega) (by show Value.pointer (some ⟨sg,0+(i:Int).toNat*1,none⟩)=_;simp) rfl rfl rfl fun w3 o3 c3=>?_
  (repeat' (first|refine aa0 ?_|refine af ?_|refine ah ?_|refine ak ?_|refine aH ?_|refine aa7 ?_))
  refine aG (i+1) ⟨rfl,rfl,rfl,rfl,trivial⟩ ⟨by omega,?_,Chg.trans n2 c3 fun k hk e=>by have h9:W.heap.size≤k:=(o2.lt e).1;omega⟩ (by omega)
  have hset:(List.range i++List.replicate (t.length-i) 0).set i i=List.range (i+1)++List.replicate (t.length-(i+1)) 0:=by
   rw [show t.length-i=(t.length-(i+1))+1 by omega,List.replicate_succ,List.set_append_right _ _ (by simp),List.range_succ]
   simp
  rw [hset] at o3
  exact o3
 ·obtain rfl:i=t.length:=by omega
  rw [Nat.sub_self,List.replicate_zero,List.append_nil] at o2
  refine aB (NE (g.new n2) hok (o2.rd qH.mo) (fun k hk=>by simpa using hk) (by simp;omega)) rfl ?_
  rintro rv w3 ⟨o3,n3⟩
  have hz2:=n2.size
  (repeat' (first|refine aa1 ?_|refine af ?_|refine ah ?_|refine aA ?_))
  exact aF rfl rfl ⟨_,rfl,o3.mono (nU _) (fun b _ e=>by have h9:w2.heap.size≤b:=e;omega) (fun _ _ e=>e),New.trans n2 n3⟩
end
theorem Io {Pb:Nat→Prop} {w:World} {v:Value} {t:List Nd} (h:RdS rNd 3 Pb w v t) (hok:oG t=true):
 Calls Tryz.prog 69 #[v] w (Ret fun r w'=>(∃q,r=.tuple #[q,vi 0]∧RdS rEd 6 (fun b=>w.heap.size≤b) w' q (nZ t))∧New w w'):=by
 refine nI Tryz.func69 rfl Tryz.ntmps69 rfl ?_
 (repeat' (first|refine aa0 ?_|refine aa1 ?_|refine af ?_|refine ah ?_|refine au ?_|refine ak ?_))
 refine aB (zV h hok) rfl ?_
 rintro _ w1 ⟨⟨bg,hm,ev,wv,gv,pv,gs,bs,rfl,g,hb,_⟩,n1⟩
 (repeat' (first|refine aa0 ?_|refine aa1 ?_|refine af ?_|refine pG ?_|refine ah ?_|refine au ?_|refine ak ?_|refine Wc.skip ?_|refine aa4 ?_|refine bK rfl ?_|refine aa5 ?_|(refine qf (fun _=>?_) (fun _=>?_)<;>(first|(exfalso;omega)|skip))))
 refine ay (u:=ev) rfl (g.b.cell (o:=2) rfl) ?_
 (repeat' (first|refine aa1 ?_|refine af ?_|refine ah ?_|refine aA ?_))
 exact aS rfl rfl rfl ⟨_,rfl,⟨ev,rfl,(g.ed.rd qj.mo).mono qJ fun b _ e=>e.elim (fun e=>e.1) fun e=>e.1⟩,n1⟩
end Go.Proofs.YtjecgaiaiophpaaGreatDoor
namespace Go.Proofs.YtjecgaiaiophpaaGreatDoor
open Go Wk
open Go.RowKit (Below)
attribute [local irreducible] Go.Calls
theorem Wk.LLs.at {Pb:Nat→Prop} {w:World} {g l c i n:Nat} {rs:List O9} {Wn:Nat→List Nat} (L:LLs brC (·.1) (·.2) vbo 128 4 1 Pb w (.slice (some ⟨g,0,none⟩) l c) rs) (e:rs.map (·.2)=(List.range n).map (Ee Wn n)) (hi:i<n):
 ∃a c',w.cell? ⟨g,0+(i:Int).toNat*1,none⟩=some (.slice a n c')∧RdS (Wk.one vbo) 1 Pb w (.slice a n c') (Ee Wn n i):=by
 have hl:rs.length=n:=by
  have:=congrArg List.length e
  simpa using this
 obtain ⟨⟨xv,xl⟩,hx⟩:=nV rs (k:=i) (by omega)
 have h1:=congrArg (fun l=>l[i]?) e
 simp only [List.getElem?_map,hx,List.getElem?_range hi,Option.map_some,Option.some.injEq] at h1
 subst h1
 have ho:=L.el _ (List.mem_of_getElem? hx)
 dsimp only at ho
 obtain ⟨a,c',rfl,_,_⟩:=ho.form
 rw [NC] at*
 refine ⟨a,c',?_,?_⟩
 ·have:=(L.row.at rfl rfl hx).get 0 rfl
  simpa using this
 ·exact (ho.rd Dh.mo).mono Dh.mo fun b _ e=>e.resolve_right fun e=>e
theorem xI {t:List Nd} {k:Nat}:k∈pq t↔k<t.length:=by
 unfold pq
 rw [List.mem_mergeSort,List.mem_range]
theorem Pj (t:List Nd):(pq t).length=t.length:=by unfold pq;rw [List.length_mergeSort,List.length_range]
theorem JK {t:List Nd} (hok:oG t=true): ∀i,i<t.length→ ∀k∈pR t i,k<t.length:=by
 intro i hi k hk
 rw [JJ] at hk
 rcases List.mem_append.1 hk with hk|hk
 ·unfold uV at hk
  split at hk
  ·simp at hk;subst hk
   have:=uf hok (i:=i) (by omega) hi
   omega
  ·simp at hk
 ·obtain ⟨e,he,hd⟩:=List.mem_filterMap.1 hk
  unfold wK at hd
  split at hd
  ·exact (vH e he).2 k hd
  ·cases hd
open Classical in
noncomputable def qF (W:Nat→List Nat) (i k:Nat):Bool:=decide (Rch W i k∧Rch W k i)
open Classical in
theorem NF {W:Nat→List Nat} {i k:Nat}:qF W i k=true↔Rch W i k∧Rch W k i:=by unfold qF;exact decide_eq_true_iff
open Classical in
theorem Ef (W:Nat→List Nat) (order seen:List Nat) (i:Nat) (r:List Nat):rO W order seen (i::r)=if i∈seen∨ ¬Rch W i i then rO W order seen r else order.filter (qF W i)::rO W order (seen++order.filter (qF W i)) r:=by
 rw [rO]
 rfl
def EY (seen:List Nat) (D:List Bool) (n:Nat):Prop:=D.length=n∧ ∀k,k<n→D[k]? =some (seen.contains k)
theorem EY.set {seen:List Nat} {D:List Bool} {n k:Nat} (h:EY seen D n) (hk:k<n):EY (seen++ [k]) (D.set k true) n:=by
 refine ⟨by rw [List.length_set];exact h.1,fun j hj=>?_⟩
 have hl:=h.1
 rw [List.getElem?_set]
 by_cases e:k=j
 ·subst e;rw [if_pos rfl,if_pos (by omega)];simp
 ·rw [if_neg e,h.2 j hj]
  congr 1
  simp
  intro e2;exact absurd e2.symm e
def rW:Rel tX:=fun _ _ x cs=>cs=[x.1]∧x.1.oneCell'=true
theorem XV:qQ rW 1:=⟨fun _ _ _ _ _ _ h=>h,fun _ _ _ _ _ _ h=>h,fun _ _ x cs ⟨e,h⟩ _ c hc=>by subst e;simp at hc;subst hc;exact h⟩
theorem Wk.LLs.afj {e te:TypeId} {Pb:Nat→Prop} {w:World} {v:Value} {rs:List tX} (L:LLs wrC (·.1) (·.2) viN te e 1 Pb w v rs):nO rW te 1 Pb NoB w v rs:=by
 obtain ⟨cs,hoc,he⟩:=L.row
 refine ⟨cs,hoc,fun i x hx=>⟨he i x hx,?_⟩⟩
 obtain ⟨a,c,e,_⟩:=(L.el x (List.mem_of_getElem? hx)).form
 rw [show x.1=_ from e];rfl
theorem Wk.nO.afk {te:TypeId} {Pb:Nat→Prop} {w:World} {v:Value} {rs:List tX} (h:nO rW te 1 Pb NoB w v rs):nO (flat wrC) te 1 Pb NoB w v rs:=by
 obtain ⟨cs,hoc,he⟩:=h
 exact ⟨cs,hoc,fun i x hx=>(he i x hx).1⟩
abbrev RgL (lo:Nat) (w:World) (v:Value) (rs:List tX):Prop:=LLs wrC (·.1) (·.2) viN 41 3 1 (fun b=>lo≤b) w v rs
theorem Pm {Pb:Nat→Prop} {w:World} {v:Value} {t:List Nd} (h:RdS rNd 3 Pb w v t) (hok:oG t=true):
 Calls Tryz.prog 98 #[v] w (Ret fun r w'=>(∃q rs,r=.tuple #[q,vi 0]∧RgL w.heap.size w' q rs∧rs.map (·.2)=rJ t)∧New w w'):=by
 have hlen:=oP hok
 have hpos:=sH hok
 have hIn:=JK hok
 obtain ⟨a,cap,rfl,_,_⟩:=h.form
 refine nI Tryz.func98 rfl Tryz.ntmps98 rfl ?_
 (repeat' (first|refine aa0 ?_|refine aa1 ?_|refine af ?_|refine ah ?_|refine au ?_|refine ak ?_))
 refine aB (zV h hok) rfl ?_
 rintro _ w1 ⟨⟨bg,hm,ev,wv,gv,pv,gs,bs,rfl,g,hbs,_⟩,n1⟩
 (repeat' (first|refine aa0 ?_|refine aa1 ?_|refine af ?_|refine pG ?_|refine ah ?_|refine au ?_|refine ak ?_|refine Wc.skip ?_|refine aa4 ?_|(refine qf (fun _=>?_) (fun _=>?_)<;>(first|(exfalso;omega)|skip))))
 refine aB (Vs g hok hbs hIn) rfl ?_
 rintro av w2 ⟨⟨rs,LR,hrs⟩,n2⟩
 have hrl:rs.length=t.length:=by
  have:=congrArg List.length hrs
  simpa using this
 obtain ⟨rg,rc,hav,_,hrg,ah1⟩:=LR.row.blk (by intro e;rw [e] at hrl;simp at hrl;omega)
 rw [hrl] at hav
 subst hav
 (repeat' (first|refine aa0 ?_|refine aa1 ?_|refine af ?_|refine pz ?_|refine ah ?_|refine au ?_|refine ak ?_))
 refine eF (f:=vbo) (y0:=false) (Pe:=NoB) rfl rfl rfl (by omega) (by omega) (by omega) fun dv w3 o3 n3=>?_
 rw [Int.toNat_natCast] at o3
 obtain ⟨dg,dc,hdv,hdg,_,ah2⟩:=o3.blk (by intro e;rw [List.replicate_eq_nil_iff] at e;omega)
 rw [List.length_replicate] at hdv
 subst hdv
 have g3:=(g.new n2).new n3
 (repeat' (first|refine aa0 ?_|refine aa1 ?_|refine af ?_|refine ah ?_|refine au ?_|refine ak ?_))
 refine aB (Ph g3 hok) rfl ?_
 rintro ov w4 ⟨o4,n4⟩
 have hel:=Pj t
 obtain ⟨oa,oc,rfl,_,_⟩:=o4.form
 have LR4:=((LR.mono (Pb':=fun b=>w1.heap.size≤b∧b<w2.heap.size) fun b hb e=>⟨e,hb⟩).new n3).new n4
 have d4:=o3.new (nM _) n4
 have n04:=New.trans (New.trans n1 n2) (New.trans n3 n4)
 have hz1:=n1.size
 have hz2:=n2.size
 have hz3:=n3.size
 have hz4:=n4.size
 have hdl:=(d4.lt rfl).2
 have ah3:w2.heap.size≤dg:=hdg
 (repeat' (first|refine aa0 ?_|refine aa1 ?_|refine af ?_|refine pz ?_|refine ah ?_|refine au ?_|refine ak ?_|refine Wc.block ?_))
 refine aP (σ:=Nat×List Nat×List Bool×Value×List tX) (fun q=>[(6,.slice (some ⟨rg,0,none⟩) t.length rc),(7,.slice (some ⟨dg,0,none⟩) t.length dc),(8,q.2.2.2.1),(9,.slice oa (pq t).length oc),(30,.slice oa (pq t).length oc),(31,vi (pq t).length),(32,vi q.1)])
  (fun q W=>q.1≤(pq t).length∧rJ t=q.2.2.2.2.map (·.2)++rO (pR t) (pq t) q.2.1 ((pq t).drop q.1)∧q.2.2.2.2.length≤q.1∧EY q.2.1 q.2.2.1 t.length∧nO (Wk.one vbo) 4 1 (fun b=>w2.heap.size≤b) NoB W (.slice (some ⟨dg,0,none⟩) t.length dc) q.2.2.1∧RgL w4.heap.size W q.2.2.2.1 q.2.2.2.2∧Chg (fun k=>k=dg) w4 W) (fun q=>(pq t).length-q.1)
  (0,[],List.replicate t.length false,.slice none 0 0,[]) ⟨rfl,rfl,rfl,rfl,rfl,rfl,rfl,trivial⟩ ⟨Nat.zero_le _,rfl,by simp,⟨by simp,fun k hk=>by rw [List.getElem?_replicate,if_pos hk];rfl⟩,d4,jK,aQ _ _⟩ ?_
 rintro ⟨i,seen,D,vo,acc⟩ G W ⟨hi,hR,hal,hD,od,LA,cW⟩
 dsimp only at hi hR hal hD od LA cW
 simp only [oU]
 have nW:New w W:=(Chg.trans n04.any cW fun k _ e=>e).toNew fun k hk e=>by omega
 have hzW:=cW.size
 have LRW:=LR4.chg cW fun k hk e=>by omega
 have oW:=o4.chg (nM _) cW fun k hk e=>by have h9:w3.heap.size≤k:=(o4.lt hk).1;omega
 have hDl:=hD.1
 obtain ⟨va,vc,rfl,_,_⟩:=LA.row.form
 (repeat' (first|refine aa0 ?_|refine aa1 ?_|refine af ?_|refine ah ?_|refine au ?_|refine ak ?_|refine Wc.block ?_|refine Wc.skip ?_|refine aJ ?_|refine aA ?_|refine aK ?_|refine aI ?_|refine aO ?_|refine aa3 ?_|refine aa4 ?_|refine oZ (fun _=>?_) (fun _=>?_)))
 ·obtain ⟨x,hx⟩:=nV (pq t) (k:=i) (by omega)
  have hxl:=xI.1 (List.mem_of_getElem? hx)
  rw [drop_cons hx,Ef] at hR
  refine bI (oW.rd qH.mo) rfl rfl (by omega) hx fun b o hcell=>?_
  refine ay (u:=vi x) rfl hcell ?_
  (repeat' (first|refine aa0 ?_|refine aa1 ?_|refine af ?_|refine ah ?_|refine au ?_|refine ak ?_))
  have hdx:=hD.2 x hxl
  refine bI (od.rd Dh.mo) rfl rfl (by omega) (by rw [Int.toNat_natCast];exact hdx) fun b o hcell=>?_
  refine ay (u:=.bool (seen.contains x)) rfl hcell ?_
  obtain ⟨ra,rcc,hrow,hrd⟩:=LRW.at hrs hxl
  obtain ⟨bxx,afl,hbi⟩:=y9 (W:=pR t) (i:=x) hxl
  cases hsn:seen.contains x
  ·have afm:x∉seen:=fun e=>by rw [List.contains_iff_mem.2 e] at hsn;cases hsn
   (repeat' (first|refine aa0 ?_|refine aa6 ?_))
   refine dJ rfl rfl (by omega) (by omega) ?_
   refine aa6 ?_
   refine ay (u:=.slice ra t.length rcc) rfl hrow ?_
   (repeat' (first|refine aa0 ?_|refine aa6 ?_))
   refine bI hrd rfl rfl (by omega) (by rw [Int.toNat_natCast];exact afl) fun b o hcell=>?_
   refine aa6 ?_
   refine ay (u:=.bool bxx) rfl hcell ?_
   cases hbv:bxx
   ·rw [if_pos (.inr fun e=>by rw [hbv] at hbi;have:=hbi.2 e;cases this)] at hR
    (repeat' (first|refine aa0 ?_|refine af ?_|refine aa6 ?_|refine pI ?_|refine aV rfl ?_|refine ah ?_|refine ak ?_|refine aJ ?_|refine aK ?_|refine aI ?_|refine aa3 ?_|refine aa7 ?_))
    exact aG (i+1,seen,D,_,acc) ⟨rfl,rfl,rfl,rfl,rfl,rfl,rfl,trivial⟩ ⟨by dsimp only;omega,hR,by dsimp only;omega,hD,od,LA,cW⟩ (by dsimp only;omega)
   ·rw [if_neg (fun e=>e.elim afm fun e=>e (hbi.1 hbv))] at hR
    (repeat' (first|refine aa0 ?_|refine aa1 ?_|refine af ?_|refine aa6 ?_|refine pI ?_|refine aV rfl ?_|refine pz ?_|refine ah ?_|refine au ?_|refine ak ?_|refine Wc.block ?_|refine Wc.skip ?_|refine aa4 ?_))
    refine aP (σ:=Nat×List Bool×Value) (fun q=>[(6,.slice (some ⟨rg,0,none⟩) t.length rc),(7,.slice (some ⟨dg,0,none⟩) t.length dc),(8,.slice va acc.length vc),(9,.slice oa (pq t).length oc),(11,vi x),(12,q.2.2),(30,.slice oa (pq t).length oc),(31,vi (pq t).length),(32,vi i),(50,.slice oa (pq t).length oc),(51,vi (pq t).length),(52,vi q.1)])
     (fun q W'=>q.1≤(pq t).length∧EY (seen++((pq t).take q.1).filter (qF (pR t) x)) q.2.1 t.length∧nO (Wk.one vbo) 4 1 (fun b=>w2.heap.size≤b) NoB W' (.slice (some ⟨dg,0,none⟩) t.length dc) q.2.1∧nO (Wk.one viN) 3 1 (fun b=>W.heap.size≤b) NoB W' q.2.2 (((pq t).take q.1).filter (qF (pR t) x))∧Chg (fun k=>k=dg) W W') (fun q=>(pq t).length-q.1)
     (0,D,.slice none 0 0) ⟨rfl,rfl,rfl,rfl,rfl,rfl,rfl,rfl,rfl,rfl,rfl,rfl,trivial⟩ ⟨Nat.zero_le _,by simpa using hD,od,bF,aQ _ _⟩ ?_
    rintro ⟨j,D2,rv⟩ G2 W2 ⟨hj,hD2,od2,or2,c2⟩
    dsimp only at hj hD2 od2 or2 c2
    simp only [oU]
    have Vu:=hD2.1
    have ah4:=c2.size
    have LR2:=LRW.chg c2 fun k hk e=>by omega
    have o2:=oW.chg (nM _) c2 fun k hk e=>by have h9:w3.heap.size≤k:=(o4.lt hk).1;omega
    obtain ⟨pa,pc,rfl,_,_⟩:=or2.form
    have hfl:(((pq t).take j).filter (qF (pR t) x)).length≤512:=by
     have h1:=List.length_filter_le (qF (pR t) x) ((pq t).take j)
     have h2:((pq t).take j).length≤(pq t).length:=by rw [List.length_take];omega
     omega
    (repeat' (first|refine aa0 ?_|refine af ?_|refine ah ?_|refine au ?_|refine ak ?_|refine Wc.block ?_|refine Wc.skip ?_|refine aJ ?_|refine aK ?_|refine aI ?_|refine aO ?_|refine aa3 ?_|refine aa4 ?_|refine oZ (fun _=>?_) (fun _=>?_)))
    ·obtain ⟨y,hy⟩:=nV (pq t) (k:=j) (by omega)
     have hyl:=xI.1 (List.mem_of_getElem? hy)
     have hstep:((pq t).take (j+1)).filter (qF (pR t) x)=((pq t).take j).filter (qF (pR t) x)++if qF (pR t) x y=true then [y] else []:=by
      rw [take_snoc hy,List.filter_append]
      congr 1
      cases hr:qF (pR t) x y<;>simp [hr]
     refine bI (o2.rd qH.mo) rfl rfl (by omega) hy fun b o hcell=>?_
     refine ay (u:=vi y) rfl hcell ?_
     (repeat' (first|refine aa0 ?_|refine aa1 ?_|refine af ?_|refine ah ?_|refine au ?_|refine ak ?_))
     obtain ⟨ra1,rc1,hrow1,Pq⟩:=LR2.at hrs hxl
     obtain ⟨b1,hb1,YI⟩:=y9 (W:=pR t) (i:=x) hyl
     obtain ⟨ra2,rc2,hrow2,afn⟩:=LR2.at hrs hyl
     obtain ⟨b2,hb2,YJ⟩:=y9 (W:=pR t) (i:=y) hxl
     refine dJ rfl rfl (by omega) (by omega) ?_
     refine ay (u:=.slice ra1 t.length rc1) rfl hrow1 ?_
     (repeat' (refine aa0 ?_))
     refine bI Pq rfl rfl (by omega) (by rw [Int.toNat_natCast];exact hb1) fun b o hcell=>?_
     refine ay (u:=.bool b1) rfl hcell ?_
     have XW:qF (pR t) x y=false→ ∀(G':Fr),(j+1≤(pq t).length∧EY (seen++((pq t).take (j+1)).filter (qF (pR t) x)) D2 t.length∧nO (Wk.one vbo) 4 1 (fun b=>w2.heap.size≤b) NoB W2 (.slice (some ⟨dg,0,none⟩) t.length dc) D2∧nO (Wk.one viN) 3 1 (fun b=>W.heap.size≤b) NoB W2 (.slice pa (((pq t).take j).filter (qF (pR t) x)).length pc) (((pq t).take (j+1)).filter (qF (pR t) x))∧Chg (fun k=>k=dg) W W2):=fun hr _=>by
      rw [hstep,hr,if_neg (by decide),List.append_nil]
      exact ⟨by omega,hD2,od2,or2,c2⟩
     cases hv1:b1
     ·have hr:qF (pR t) x y=false:=by
       unfold qF
       rw [decide_eq_false_iff_not]
       rintro ⟨q1,_⟩
       rw [hv1] at YI
       have:=YI.2 q1;cases this
      (repeat' (first|refine aa0 ?_|refine af ?_|refine qi ?_|refine pI ?_|refine ah ?_|refine ak ?_|refine Wc.skip ?_|refine aH ?_|refine aa4 ?_|refine aa7 ?_))
      exact aG (j+1,D2,_) ⟨rfl,rfl,rfl,rfl,rfl,rfl,rfl,rfl,rfl,rfl,rfl,rfl,trivial⟩ (XW hr G2) (by dsimp only;omega)
     ·(repeat' (first|refine aa0 ?_|refine aa6 ?_))
      refine dJ rfl rfl (by omega) (by omega) ?_
      refine aa6 ?_
      refine ay (u:=.slice ra2 t.length rc2) rfl hrow2 ?_
      (repeat' (first|refine aa0 ?_|refine aa6 ?_))
      refine bI afn rfl rfl (by omega) (by rw [Int.toNat_natCast];exact hb2) fun b o hcell=>?_
      refine aa6 ?_
      refine ay (u:=.bool b2) rfl hcell ?_
      cases hv2:b2
      ·have hr:qF (pR t) x y=false:=by
        unfold qF
        rw [decide_eq_false_iff_not]
        rintro ⟨_,q1⟩
        rw [hv2] at YJ
        have:=YJ.2 q1;cases this
       (repeat' (first|refine aa0 ?_|refine af ?_|refine pU ?_|refine ah ?_|refine ak ?_|refine Wc.skip ?_|refine aH ?_|refine aa4 ?_|refine aa7 ?_))
       exact aG (j+1,D2,_) ⟨rfl,rfl,rfl,rfl,rfl,rfl,rfl,rfl,rfl,rfl,rfl,rfl,trivial⟩ (XW hr G2) (by dsimp only;omega)
      ·have hr:qF (pR t) x y=true:=by
        exact NF.2 ⟨YI.1 hv1,YJ.1 hv2⟩
       rw [hr,if_pos rfl] at hstep
       (repeat' (first|refine aa0 ?_|refine af ?_|refine pU ?_|refine ah ?_|refine au ?_|refine ak ?_|refine aa3 ?_))
       refine dw (R:=Wk.one viN) (y:=y) qH or2 rfl rfl rfl rfl rfl (by omega) (by omega) (by simp only [maxLen];omega) (by omega) rfl rfl fun v3 w5 p o5 c5 lie=>?_
       have od5:=od2.chg (nM _) c5 fun k hk e=>by have h8:W.heap.size≤k:=(or2.lt e).1;have h9:=(od.lt hk).2;omega
       (repeat' (first|refine aa0 ?_|refine aa1 ?_|refine af ?_|refine ah ?_|refine ak ?_))
       refine dJ rfl rfl (by omega) (by omega) ?_
       refine dQ (f:=vbo) (q:=true) (j:=y) (cap:=dc) od5 (by rw [Vu]) (by omega) (by show Value.pointer (some ⟨dg,0+(y:Int).toNat*1,none⟩)=_;simp) rfl rfl rfl fun w6 o6 c6=>?_
       (repeat' (first|refine aa0 ?_|refine af ?_|refine ah ?_|refine ak ?_|refine aH ?_|refine aa7 ?_))
       have hs3: ∀k,v3.ownBlock=some k→W.heap.size≤k:=fun k hk=>by
        rcases (o5.lt hk).1 with e|e
        ·exact e
        ·omega
       refine aG (j+1,D2.set y true,v3) ⟨rfl,rfl,rfl,rfl,rfl,rfl,rfl,rfl,rfl,rfl,rfl,rfl,trivial⟩ ⟨by dsimp only;omega,?_,o6,?_,?_⟩ (by dsimp only;omega)
       ·dsimp only
        rw [hstep, ←List.append_assoc]
        exact hD2.set hyl
       ·dsimp only
        rw [hstep]
        exact (o5.chg (nM _) c6 fun k hk e=>by have h8:=hs3 k hk;have h7:dg=k:=by injection e
                                               omega).mono qH.mo (fun b _ e=>by rcases e with e|e;exact e;omega) (fun _ _ e=>e)
       ·exact Chg.trans (Chg.trans (M:=fun k=>k=dg∨W.heap.size≤k) (c2.mono fun k _ e=>.inl e) c5 fun k _ e=>.inr (or2.lt e).1) c6 (fun k _ e=>.inl (by injection e with e;exact e.symm)) |>.mono fun k hk e=>e.resolve_right fun e=>by omega
    ·obtain rfl:j=(pq t).length:=by omega
     have htk:(pq t).take (pq t).length=pq t:=List.take_length
     rw [htk] at hD2
     have or3:nO (Wk.one viN) 3 1 (fun b=>W.heap.size≤b) NoB W2 (.slice pa (((pq t).take (pq t).length).filter (qF (pR t) x)).length pc) ((pq t).filter (qF (pR t) x)):=by simpa only [htk] using or2
     have LA2:=LA.chg c2 fun k hk e=>by omega
     skip
     refine dw (R:=rW) (y:=(.slice pa (((pq t).take (pq t).length).filter (qF (pR t) x)).length pc,(pq t).filter (qF (pR t) x))) XV LA2.afj rfl rfl rfl rfl ⟨rfl,rfl⟩ (by omega) (by omega) (by simp only [maxLen];omega) (by omega) rfl rfl fun v3 w5 p o5 c5 lie=>?_
     have hz5:=c5.size
     have L5:=LA2.snoc (b:=(.slice pa (((pq t).take (pq t).length).filter (qF (pR t) x)).length pc,(pq t).filter (qF (pR t) x))) (w':=w5) (v':=v3) ((o5.mono XV.mo (Pb':=fun b=>w4.heap.size≤b) (fun b _ e=>by rcases e with e|e;exact e;omega) (fun _ _ e=>e)).afk) c5 lie (or3.mono (nU _) (fun b _ e=>by omega) (fun _ _ e=>e)) (fun k h1 h2=>by have h8:W.heap.size≤k:=(or2.lt h1).1;have h9:=(LA.row.lt h2).2;omega) (fun c hc k h1 h2=>by have h8:W.heap.size≤k:=(or2.lt h1).1;have h9:=((LA.el c hc).lt h2).2;omega)
     have od5:=od2.chg (nM _) c5 fun k hk e=>by have h8:w4.heap.size≤k:=(LA.row.lt e).1;have h7:dg=k:=by injection hk
                                                omega
     (repeat' (first|refine aa0 ?_|refine aa1 ?_|refine af ?_|refine ah ?_|refine ak ?_|refine aH ?_|refine aa7 ?_))
     refine aG (i+1,seen++(pq t).filter (qF (pR t) x),D2,v3,acc++ [(.slice pa (((pq t).take (pq t).length).filter (qF (pR t) x)).length pc,(pq t).filter (qF (pR t) x))]) ⟨rfl,rfl,rfl,rfl,rfl,rfl,rfl,trivial⟩ ⟨by dsimp only;omega,?_,by simp;omega,hD2,od5,L5,?_⟩ (by dsimp only;omega)
     ·dsimp only
      rw [hR];simp
     ·exact (Chg.trans (M:=fun k=>k=dg∨w4.heap.size≤k) ((Chg.trans cW c2 fun _ _ e=>e).mono fun k _ e=>.inl e) c5 fun k _ e=>.inr (LA.row.lt e).1).mono fun k hk e=>e.resolve_right fun e=>by omega
  ·rw [if_pos (.inl (List.contains_iff_mem.1 hsn))] at hR
   (repeat' (first|refine aa0 ?_|refine af ?_|refine qi ?_|refine pU ?_|refine ah ?_|refine ak ?_|refine aJ ?_|refine aK ?_|refine aI ?_|refine aa3 ?_|refine aa7 ?_))
   exact aG (i+1,seen,D,_,acc) ⟨rfl,rfl,rfl,rfl,rfl,rfl,rfl,trivial⟩ ⟨by dsimp only;omega,hR,by dsimp only;omega,hD,od,LA,cW⟩ (by dsimp only;omega)
 ·obtain rfl:i=(pq t).length:=by omega
  rw [List.drop_length] at hR
  have hR:rJ t=acc.map (·.2):=by simpa [rO] using hR
  exact aS rfl rfl rfl ⟨_,rfl,⟨_,acc,rfl,LA.mono fun b _ e=>by omega,hR.symm⟩,nW⟩
end Go.Proofs.YtjecgaiaiophpaaGreatDoor
namespace Go.Proofs.YtjecgaiaiophpaaGreatDoor
open Go Wk Sy
open Go.RowKit (Below)
attribute [local irreducible] Go.Calls
def thM (th:List Bool) (i:Nat):Bool:=(th[i]?).getD false
theorem QW {th:List Bool} {i:Nat} (h:i<th.length):th[i]? =some (thM th i):=by unfold thM;rw [List.getElem?_eq_getElem h];rfl
theorem Pv {Pb:Nat→Prop} {w:World} {b n:Nat} {v:Value} {th:List Bool} {x:SE} (h:Bk w b 128 [v]) (hs:RdS (Wk.one vbo) 1 Pb w v th) (hn:th.length=n) (h1:x.1.1.src<n) (h2: ∀d,x.1.1.dst=some d→d<n):
 Calls Tryz.prog 136 #[.agg (seC x).toArray,.pointer (some ⟨b,0,none⟩)] w (Ret fun r w'=>r=.bool (!wI (thM th) x.1.1)∧New w w'):=by
 obtain ⟨a,cap,rfl,hc1,hc2⟩:=hs.form
 simp only [maxLen] at hc2
 refine nI Tryz.func136 rfl Tryz.ntmps136 rfl ?_
 (repeat' (first|refine au ?_|refine ak ?_))
 refine bC rfl fun w1 b1 n1 s1=>?_
 replace b1:Bk w1 w.heap.size 150 (seC x):=b1
 replace h:=h.chg n1 fun e=>e
 replace hs:=hs.keep (nS _) n1.keep
 obtain ⟨⟨⟨src,dst,kind,soft,place,args⟩,sv⟩,ix⟩:=x
 dsimp only at h1 h2 b1
 unfold wI
 dsimp only
 (repeat' (first|refine aa1 ?_|refine af ?_|refine ah ?_|refine au ?_|refine ak ?_|refine aa5 ?_))
 refine ay (u:=.bool soft) rfl (b1.cell (o:=3) rfl) ?_
 cases soft
 ·(repeat' (first|refine aa0 ?_|refine aa1 ?_|refine af ?_|refine qi ?_|refine pU ?_|refine aV rfl ?_|refine ah ?_|refine aA ?_))
  exact aF rfl rfl ⟨_,rfl,rfl,n1⟩
 (repeat' (first|refine aa0 ?_|refine aa6 ?_|refine aV rfl ?_))
 refine ay (u:=.slice a th.length cap) rfl (h.cell (o:=0) rfl) ?_
 (repeat' (first|refine aa6 ?_|refine aa5 ?_))
 refine ay (u:=vi src) rfl (b1.cell (o:=0) rfl) ?_
 (repeat' (refine aa6 ?_))
 refine bI hs rfl rfl (by omega) (by rw [Int.toNat_natCast];exact QW (by omega)) fun bb off hcell=>?_
 refine aa6 ?_
 refine ay (u:=.bool (thM th src)) rfl hcell ?_
 cases thM th src
 ·(repeat' (first|refine aa0 ?_|refine aa1 ?_|refine af ?_|refine aa6 ?_|refine qi ?_|refine pU ?_|refine pI ?_|refine aV rfl ?_|refine ah ?_|refine aA ?_))
  exact aF rfl rfl ⟨_,rfl,rfl,n1⟩
 (repeat' (first|refine aa0 ?_|refine aa6 ?_|refine pI ?_|refine aV rfl ?_|refine aa5 ?_))
 refine ay (u:=vi (qy dst)) rfl (b1.cell (o:=1) rfl) ?_
 cases dst with
 |none=>
  rw [show qy none= -1 from rfl]
  (repeat' (first|refine aa0 ?_|refine aa1 ?_|refine af ?_|refine aa6 ?_|refine qi ?_|refine pU ?_|refine pI ?_|refine ah ?_|refine aA ?_|(refine oZ (fun _=>?_) (fun _=>?_)<;>(first|(exfalso;omega)|skip))))
  exact aF rfl rfl ⟨_,rfl,rfl,n1⟩
 |some d=>
  rw [show qy (some d)=(d:Int) from rfl]
  have hd:=h2 d rfl
  (repeat' (first|refine aa0 ?_|refine aa6 ?_|refine pI ?_|(refine oZ (fun _=>?_) (fun _=>?_)<;>(first|(exfalso;omega)|skip))))
  refine ay (u:=.slice a th.length cap) rfl (h.cell (o:=0) rfl) ?_
  (repeat' (first|refine aa6 ?_|refine aa5 ?_))
  refine ay (u:=vi d) rfl (b1.cell (o:=1) rfl) ?_
  (repeat' (refine aa6 ?_))
  refine bI hs rfl rfl (by omega) (by rw [Int.toNat_natCast];exact QW (by omega)) fun bb off hcell=>?_
  refine aa6 ?_
  refine ay (u:=.bool (thM th d)) rfl hcell ?_
  have sh: ∀(q:Bool),(!(thM th d&&decide (d≠src)))=q→Value.bool q=Value.bool (!(true&&(true&&(thM th d&&decide (d≠src))))):=fun q e=>by rw [←e];rfl
  cases hv:thM th d
  ·(repeat' (first|refine aa0 ?_|refine aa1 ?_|refine af ?_|refine aa6 ?_|refine qi ?_|refine pU ?_|refine pI ?_|refine aV rfl ?_|refine ah ?_|refine aA ?_))
   exact aF rfl rfl ⟨_,rfl,sh true (by rw [hv];rfl),n1⟩
  (repeat' (first|refine aa0 ?_|refine aa6 ?_|refine pI ?_|refine aV rfl ?_|refine aa5 ?_))
  refine ay (u:=vi d) rfl (b1.cell (o:=1) rfl) ?_
  (repeat' (first|refine aa6 ?_|refine aa5 ?_))
  refine ay (u:=vi src) rfl (b1.cell (o:=0) rfl) ?_
  (repeat' (first|refine aa1 ?_|refine af ?_|refine aa6 ?_|refine pI ?_|refine ah ?_|refine aA ?_|refine bJ rfl rfl (fun _=>?_) (fun _=>?_)))
  ·obtain rfl:d=src:=by omega
   exact aF rfl rfl ⟨_,rfl,sh true (by simp),n1⟩
  ·have hne:d≠src:=by omega
   exact aF rfl rfl ⟨_,rfl,sh false (by rw [hv];simp [hne]),n1⟩
theorem Vw {a b:List UInt8}:DV a b<0↔a<b:=by
 unfold DV
 by_cases h:a<b
 ·rw [if_pos h];simp [h]
 ·rw [if_neg h]
  by_cases h2:b<a
  ·rw [if_pos h2];simp [h]
  ·rw [if_neg h2];simp [h]
section
variable {Pp:Nat→Prop} {t:List Nd} {bg hm b2:Nat} {lv ev wv gv pv:Value}
theorem Px {w:World} {x y:SE} (hb:Bk w bg 225 (grC lv hm ev wv gv pv)) (hp:RdS (Wk.one vs) 1 Pp w pv (pK t)) (h2:Bk w b2 220 [pT bg]) (hx:x.1.1.src<t.length) (hy:y.1.1.src<t.length) (hlen:t.length≤512):
 Calls Tryz.prog 138 #[.agg (seC x).toArray,.agg (seC y).toArray,pT b2] w (Ret fun r w'=>r=vi (DV (oO t x.1.1.src) (oO t y.1.1.src))∧New w w'):=by
 have hpl:=xG t
 obtain ⟨pa,pc,rfl,_,_⟩:=hp.form
 refine nI Tryz.func138 rfl Tryz.ntmps138 rfl ?_
 (repeat' (first|refine au ?_|refine ak ?_))
 refine bC rfl fun w1 b1 n1 s1=>?_
 replace b1:Bk w1 w.heap.size 150 (seC x):=b1
 refine bC rfl fun w3 b3 n3 s3=>?_
 replace b3:Bk w3 w1.heap.size 150 (seC y):=b3
 have n03:=New.trans n1 n3
 replace b1:=b1.chg n3 fun e=>e
 replace hb:=hb.chg n03 fun e=>e
 replace h2:=h2.chg n03 fun e=>e
 replace hp:=hp.keep (nS _) n03.keep
 (repeat' (first|refine aa1 ?_|refine af ?_|refine ah ?_|refine au ?_))
 refine fZ [0,1,2,3,4,5,6,7,8,9,10,11,12,13,14,15] [16,17] rfl (by kernel_rfl) (by simp only [pick,List.getElem?_cons_succ,List.getElem?_cons_zero];rfl) (by simp only [pick,List.getElem?_cons_succ,List.getElem?_cons_zero];rfl) (Grw w3) (Grw.drew w3) ?_
 skip
 refine aC (u:=pT bg) rfl (fun w' hw=>(h2.chg hw.new fun e=>e).cell (o:=0) rfl) ?_
 (repeat' (first|refine bf rfl ?_|refine aa8 ?_))
 refine aC (u:=.slice pa (pK t).length pc) rfl (fun w' hw=>(hb.chg hw.new fun e=>e).cell (o:=5) rfl) ?_
 (repeat' (refine aa8 ?_))
 refine aC (u:=vi x.1.1.src) rfl (fun w' hw=>(b1.chg hw.new fun e=>e).cell (o:=0) rfl) ?_
 skip
 refine dm (y:=oO t x.1.1.src) hp (fun w' hw=>hw.new.keep) rfl rfl (by omega) (by rw [Int.toNat_natCast];exact tJ hx) fun bb off hcell=>?_
 refine aC (u:=vs (oO t x.1.1.src)) rfl hcell ?_
 skip
 refine aC (u:=pT bg) rfl (fun w' hw=>(h2.chg hw.new fun e=>e).cell (o:=0) rfl) ?_
 (repeat' (first|refine bf rfl ?_|refine aa8 ?_))
 refine aC (u:=.slice pa (pK t).length pc) rfl (fun w' hw=>(hb.chg hw.new fun e=>e).cell (o:=5) rfl) ?_
 (repeat' (refine aa8 ?_))
 refine aC (u:=vi y.1.1.src) rfl (fun w' hw=>(b3.chg hw.new fun e=>e).cell (o:=0) rfl) ?_
 skip
 refine dm (y:=oO t y.1.1.src) hp (fun w' hw=>hw.new.keep) rfl rfl (by omega) (by rw [Int.toNat_natCast];exact tJ hy) fun bb off hcell=>?_
 refine aC (u:=vs (oO t y.1.1.src)) rfl hcell ?_
 (repeat' (refine ax ?_))
 refine dG ?_
 refine aB (wQ (a:=oO t x.1.1.src) (b:=oO t y.1.1.src)) rfl ?_
 rintro _ _ ⟨rfl,rfl⟩
 refine af ⟨rfl,Grw.drew w3,?_⟩
 refine Wch.last ?_
 (repeat' (first|refine aa1 ?_|refine af ?_|refine ah ?_|refine aA ?_))
 exact aF rfl rfl ⟨_,rfl,rfl,New.trans n03 (Grw.drew w3).new⟩
theorem SL {w:World} {g:Nat} (hb:Bk w bg 225 (grC lv hm ev wv gv pv)) (hp:RdS (Wk.one vs) 1 Pp w pv (pK t)) (h2:Bk w b2 220 [pT bg]) (hlen:t.length≤512) (e1:bg≠g) (e2:b2≠g) (e3: ¬Pp g):
 EQ 138 #[pT b2] (fun x=>oO t x.1.1.src) (fun x=>x.1.1.src<t.length) g w:=by
 intro w' c x y hx hy
 refine (Px (hb.chg c fun e=>e1 e) (hp.keep (nS _) (c.keep fun k _ hk e=>by subst e;exact e3 hk)) (h2.chg c fun e=>e2 e) hx hy hlen).mono ?_
 rintro _ w'' ⟨_,rfl,rfl,n⟩
 exact ⟨_,rfl,⟨_,rfl,Vw⟩,n⟩
end
end Go.Proofs.YtjecgaiaiophpaaGreatDoor
namespace Go.Proofs.YtjecgaiaiophpaaGreatDoor
open Go Wk Sy
open Go.RowKit (Below)
attribute [local irreducible] Go.Calls
noncomputable def Eg (t:List Nd) (there:Nat→Bool):List Ed×List Ed:=zS (pR t) (((nZ t).filter (wI there)).mergeSort fun x y=> !decide (oO t y.src<oO t x.src))
section
variable {cf:FuncId} {cc:Array Value} [hcf:nK Tryz.prog cf]
theorem IZ {w:World} {a:Option Addr} {cap:Nat}:Calls Tryz.prog 234 #[.slice a 0 cap,vi 0,vi 0,.func (.func cf) #[] cc] w (Ret fun _ w'=>New w w'):=by
 refine nI Tryz.func234 rfl Tryz.ntmps234 rfl ?_
 (repeat' (first|refine aa0 ?_|refine aa1 ?_|refine af ?_|refine ah ?_|refine au ?_|refine ak ?_|refine Wc.block ?_|refine aa7 ?_))
 refine aP (σ:=Unit) (fun _=>[(2,vi 0),(8,vi 1)]) (fun _ W=>New w W) (fun _=>0) () ⟨rfl,rfl,trivial⟩ (aQ _ _) ?_
 rintro _ G W n
 simp only [oU]
 (repeat' (first|refine aa0 ?_|refine af ?_|refine ah ?_|refine au ?_|refine ak ?_|refine aJ ?_|refine aK ?_|refine aI ?_|refine aO ?_|refine aa4 ?_|(refine oZ (fun _=>?_) (fun _=>?_)<;>(first|(exfalso;omega)|skip))))
 exact dF rfl ⟨_,rfl,n⟩
theorem Py {w:World} {a:Option Addr} {cap:Nat}:Calls Tryz.prog 190 #[.slice a 0 cap,vi 0,.func (.func cf) #[] cc] w (Ret fun _ w'=>New w w'):=by
 refine nI Tryz.func190 rfl Tryz.ntmps190 rfl ?_
 (repeat' (first|refine aa0 ?_|refine aa1 ?_|refine af ?_|refine ah ?_|refine au ?_|refine ak ?_|refine Wc.block ?_))
 refine aP (σ:=Unit) (fun _=>[(0,.slice a 0 cap),(1,vi 0),(2,.func (.func cf) #[] cc),(6,vi 20),(7,vi 0),(8,vi 20)]) (fun _ W=>New w W) (fun _=>0) () ⟨rfl,rfl,rfl,rfl,rfl,rfl,trivial⟩ (aQ _ _) ?_
 rintro _ G W n
 simp only [oU]
 (repeat' (first|refine aa0 ?_|refine af ?_|refine ah ?_|refine au ?_|refine ak ?_|refine aJ ?_|refine aK ?_|refine aI ?_|refine aO ?_|refine aa4 ?_|(refine dS rfl rfl (fun _=>?_) (fun _=>?_)<;>(first|(exfalso;omega)|skip))))
 refine aB (IZ (cf:=cf) (cc:=cc) (w:=W) (a:=a) (cap:=cap)) rfl ?_
 rintro u w2 n2
 (repeat' (first|refine af ?_|refine ah ?_|refine Wc.block ?_))
 refine aP (σ:=Unit) (fun _=>[(1,vi 0),(6,vi 20)]) (fun _ W=>New w W) (fun _=>0) () ⟨rfl,rfl,trivial⟩ (New.trans n n2) ?_
 rintro _ G W n
 simp only [oU]
 (repeat' (first|refine aa0 ?_|refine af ?_|refine ah ?_|refine au ?_|refine ak ?_|refine aJ ?_|refine aK ?_|refine aI ?_|refine aO ?_|refine aa4 ?_|(refine oZ (fun _=>?_) (fun _=>?_)<;>(first|(exfalso;omega)|skip))))
 exact dF rfl ⟨_,rfl,n⟩
theorem Ip {w:World} {a:Option Addr} {cap:Nat}:Calls Tryz.prog 137 #[.slice a 0 cap,.func (.func cf) #[] cc] w (Ret fun _ w'=>New w w'):=by
 refine nI Tryz.func137 rfl Tryz.ntmps137 rfl ?_
 (repeat' (first|refine aa0 ?_|refine pz ?_|refine ak ?_))
 refine aB (Py (cf:=cf) (cc:=cc) (w:=w) (a:=a) (cap:=cap)) rfl ?_
 rintro u w2 n2
 (repeat' (refine af ?_))
 exact dF rfl ⟨_,rfl,n2⟩
theorem KU {Pb:Nat→Prop} {w:World} {v:Value} {D0:List SE} {key:SE→Nm} {Pd:SE→Prop} (hix:D0.Pairwise fun x y=>x.2<y.2) (own:rD Pb w v D0) (hP: ∀y∈D0,Pd y) (hc: ∀g,v.ownBlock=some g→EQ cf cc key Pd g w) (hl:D0.length≤400000000):
 Calls Tryz.prog 137 #[v,.func (.func cf) #[] cc] w (Ret fun _ w'=> ∃E,E.Perm D0∧Srt (ltE key) E∧rD Pb w' v E∧Chg (fun k=>v.ownBlock=some k) w w'):=by
 by_cases h0:D0=[]
 ·subst h0
  obtain ⟨a,cap,rfl,_,_⟩:=own.form
  refine Ip.mono ?_
  rintro _ w' ⟨_,rfl,n⟩
  exact ⟨_,rfl,[],List.Perm.refl _,by simp,own.new (nH seC) n,n.any⟩
 ·obtain ⟨g,cap,rfl,_,_,hob⟩:=own.blk h0
  refine (FZ hix rfl own hP (hc g hob) hl).mono ?_
  rintro _ w' ⟨_,rfl,E,h1,h2,o,c⟩
  exact ⟨_,rfl,E,h1,h2,o,c.mono fun k _ e=>by rw [hob,e]⟩
end
section
variable {lo bg hm b6:Nat} {t:List Nd} {m:List (Nat×Nat)} {es:List Ed} {bs:List tX} {gs:List Bool} {ps:List Nm} {lv ev wv gv pv:Value} {W W':World}
theorem GrA.used {Pu:Nat→Prop} {uv:Value} {U:List SE} (g:GrA lo bg hm b6 t m es bs gs ps lv ev wv gv pv W) (u:rD Pu W uv U) (hu: ∀k,uv.ownBlock=some k→lo≤k) (c:Chg (fun k=>uv.ownBlock=some k) W W')
 (own:nO rEd 150 6 (Zn lo bg hm b6 bs wv gv pv) (Zn lo bg hm b6 bs wv gv pv) W' ev es):GrA lo bg hm b6 t m es bs gs ps lv ev wv gv pv W':=
 ⟨g.b.chg c fun e=>u.pO g.b rfl e rfl,g.tr.keep oz (c.keep fun k _ h1 e=>by have:=hu k e;omega),g.mp.chg c (fun e=>u.rE g.mp e rfl),own,
  ⟨g.wa.row.chg (nH _) c fun k hk e=>g.wa.row.um u rfl k hk e,fun x hx=>(g.wa.el x hx).chg (nM _) c fun k hk e=>(g.wa.el x hx).um u rfl k hk e,g.wa.wR,g.wa.sep⟩,g.ga.chg (nM _) c (fun k hk e=>g.ga.um u rfl k hk e),g.pa.chg (nM _) c (fun k hk e=>g.pa.um u rfl k hk e),g.lo2⟩
end
structure SfI (lo bg hm:Nat) (t:List Nd) (E:List SE) (bs0:List tX) (lv ev wv gv pv av:Value) (b7 N0:Nat) (bs:List tX) (Wn:Nat→List Nat) (gs:List Bool) (uv dv:Value) (U D:List SE) (W:World):Prop where
 g:GrA lo bg hm bg t (qX t) (nZ t) bs gs (pK t) lv ev wv gv pv W
 b7:Bk W b7 220 [pT bg]
 ed:nO rEd 150 6 (fun b=>Zn lo bg hm bg bs0 wv gv pv b∧b<N0) (fun b=>Zn lo bg hm bg bs0 wv gv pv b∧b<N0) W ev (nZ t)
 inc: ∀x∈bs, ∀k,x.1.ownBlock=some k→(∃y∈bs0,y.1.ownBlock=some k)∨N0≤k
 hbs:bs.map (·.2)=(List.range t.length).map Wn
 hin: ∀j,j<t.length→ ∀k∈Wn j,k<t.length
 able:rD (fun b=>lo≤b∧b<N0) W av E
 us:rD (fun b=>N0≤b) W uv U
 dr:rD (fun b=>N0≤b) W dv D
 sep:Sep uv dv
 args: ∀x∈E,RdS (Wk.one zM) 1 (fun b=>Zn lo bg hm bg bs0 wv gv pv b∧b<N0) W (svV x.1.2) x.1.1.args
 uin: ∀x,x∈U∨x∈D→x∈E
 z:N0≤W.heap.size
 hlo:lo≤N0
section
variable {lo bg hm:Nat} {t:List Nd} {E:List SE} {bs0:List tX} {lv ev wv gv pv av:Value} {b7 N0:Nat} {bs:List tX} {Wn:Nat→List Nat} {gs:List Bool} {uv dv:Value} {U D:List SE} {W W':World}
theorem SfI.new (s:SfI lo bg hm t E bs0 lv ev wv gv pv av b7 N0 bs Wn gs uv dv U D W) (n:New W W'):SfI lo bg hm t E bs0 lv ev wv gv pv av b7 N0 bs Wn gs uv dv U D W':=
 ⟨s.g.new n,s.b7.chg n fun e=>e,s.ed.vY qj n (fun _ _ e=>e) (fun _ _ _ e=>e),s.inc,s.hbs,s.hin,s.able.new (nH seC) n,s.us.new (nH seC) n,s.dr.new (nH seC) n,s.sep,fun x hx=>(s.args x hx).keep (nS _) n.keep,s.uin,Nat.le_trans s.z n.size,s.hlo⟩
theorem SfI.zn (s:SfI lo bg hm t E bs0 lv ev wv gv pv av b7 N0 bs Wn gs uv dv U D W): ∀b,(Zn lo bg hm bg bs0 wv gv pv b∧b<N0)→Zn lo bg hm bg bs wv gv pv b:=by
 rintro b ⟨⟨z1,z2,z3,z0,z4,z5,z6⟩,z7⟩
 refine ⟨z1,z2,z3,z0,z4,fun x hx e=>?_,z6⟩
 rcases s.inc x hx b e with ⟨y,hy,e2⟩|h
 ·exact z5 y hy e2
 ·omega
theorem SfI.drop1 (s:SfI lo bg hm t E bs0 lv ev wv gv pv av b7 N0 bs Wn gs uv dv U D W) {x:SE} (hx:x∈E) {dv':Value} (o:rD (fun b=>N0≤b) W' dv' (D++ [x])) (c:Chg (fun k=>dv.ownBlock=some k) W W') (lie:dv'.ownBlock=dv.ownBlock∨ ∀k,dv'.ownBlock=some k→W.heap.size≤k):
 SfI lo bg hm t E bs0 lv ev wv gv pv av b7 N0 bs Wn gs uv dv' U (D++ [x]) W':=by
 have hd: ∀k,dv.ownBlock=some k→N0≤k:=fun k hk=>(s.dr.lt hk).1
 have hed:=s.ed.vY qj c (fun k hk e=>by have h1:=(s.ed.lt hk).1.2;have:=hd k e;omega) (fun k hk _ e=>by have:=hk.2;have:=hd k e;omega)
 refine ⟨s.g.used s.dr (fun k hk=>Nat.le_trans s.hlo (hd k hk)) c (hed.mono qJ (fun b _=>s.zn b) (fun b _=>s.zn b)),s.b7.chg c fun e=>s.dr.pO s.b7 rfl e rfl,hed,s.inc,s.hbs,s.hin,s.able.chg (nH seC) c (fun k hk e=>by have h1:=(s.able.lt hk).1.2;have:=hd k e;omega),s.us.chg (nH seC) c (fun k hk e=>s.sep k hk e),o,fun k hk e=>?_,fun y hy=>(s.args y hy).keep (nS _) (c.keep fun k _ hk e=>by have:=hk.2;have:=hd k e;omega),?_,Nat.le_trans s.z c.size,s.hlo⟩
 ·rcases lie with l|l
  ·rw [l] at e;exact s.sep k hk e
  ·have:=l k e;have:=(s.us.lt hk).2;omega
 ·intro y hy
  rcases hy with hy|hy
  ·exact s.uin y (.inl hy)
  ·rcases List.mem_append.1 hy with hy|hy
   ·exact s.uin y (.inr hy)
   ·rw [List.mem_singleton.1 hy];exact hx
theorem SfI.afo (s:SfI lo bg hm t E bs0 lv ev wv gv pv av b7 N0 bs Wn gs uv dv U D W) {x:SE} (hx:x∈E) {uv':Value} (o:rD (fun b=>N0≤b) W' uv' (U++ [x])) (c:Chg (fun k=>uv.ownBlock=some k) W W') (lie:uv'.ownBlock=uv.ownBlock∨ ∀k,uv'.ownBlock=some k→W.heap.size≤k):
 SfI lo bg hm t E bs0 lv ev wv gv pv av b7 N0 bs Wn gs uv' dv (U++ [x]) D W':=by
 have hd: ∀k,uv.ownBlock=some k→N0≤k:=fun k hk=>(s.us.lt hk).1
 have hed:=s.ed.vY qj c (fun k hk e=>by have h1:=(s.ed.lt hk).1.2;have:=hd k e;omega) (fun k hk _ e=>by have:=hk.2;have:=hd k e;omega)
 refine ⟨s.g.used s.us (fun k hk=>Nat.le_trans s.hlo (hd k hk)) c (hed.mono qJ (fun b _=>s.zn b) (fun b _=>s.zn b)),s.b7.chg c fun e=>s.us.pO s.b7 rfl e rfl,hed,s.inc,s.hbs,s.hin,s.able.chg (nH seC) c (fun k hk e=>by have h1:=(s.able.lt hk).1.2;have:=hd k e;omega),o,s.dr.chg (nH seC) c (fun k hk e=>s.sep k e hk),fun k hk e=>?_,fun y hy=>(s.args y hy).keep (nS _) (c.keep fun k _ hk e=>by have:=hk.2;have:=hd k e;omega),?_,Nat.le_trans s.z c.size,s.hlo⟩
 ·rcases lie with l|l
  ·rw [l] at hk;exact s.sep k hk e
  ·have:=l k hk;have:=(s.dr.lt e).2;omega
 ·intro y hy
  rcases hy with hy|hy
  ·rcases List.mem_append.1 hy with hy|hy
   ·exact s.uin y (.inl hy)
   ·rw [List.mem_singleton.1 hy];exact hx
  ·exact s.uin y (.inr hy)
theorem SfI.aau (s:SfI lo bg hm t E bs0 lv ev wv gv pv av b7 N0 bs Wn gs uv dv U D W) {i d:Nat} {x x':tX} {w1:World} (hi:bs[i]? =some x) (hx2:x'.2=Wn i++ [d]) (hd:d<t.length) (ho:nO (Wk.one viN) 3 1 (fun b=>lo≤b) NoB w1 x'.1 x'.2) (c1:Chg (fun k=>x.1.ownBlock=some k) W w1)
 (lie:x'.1.ownBlock=x.1.ownBlock∨ ∀k,x'.1.ownBlock=some k→W.heap.size≤k) (hr:nO (flat wrC) 41 1 (fun b=>lo≤b) NoB W' wv (bs.set i x')) (c2:Chg (fun k=>wv.ownBlock=some k) w1 W') (hwv: ∀k,wv.ownBlock=some k→k<N0):
 SfI lo bg hm t E bs0 lv ev wv gv pv av b7 N0 (bs.set i x') (fun j=>if j=i then Wn i++ [d] else Wn j) gs uv dv U D W':=by
 have hx:=List.mem_of_getElem? hi
 have hxo:=s.g.wa.el x hx
 have hrow:=s.g.wa.row
 have c:Chg (fun k=>x.1.ownBlock=some k∨wv.ownBlock=some k) W W':=Chg.trans (c1.mono fun k _ e=>.inl e) c2 fun k _ e=>.inr e
 have hil:i<t.length:=by
  have h1:=congrArg List.length s.hbs
  have h2:=(List.getElem?_eq_some_iff.1 hi).1
  simp only [List.length_map,List.length_range] at h1
  omega
 have hz: ∀k,(Zn lo bg hm bg bs0 wv gv pv k∧k<N0)→ ¬(x.1.ownBlock=some k∨wv.ownBlock=some k):=by
  rintro k ⟨h1,h2⟩ (e|e)
  ·rcases s.inc x hx k e with ⟨y,hy,e2⟩|h
   ·exact h1.2.2.2.2.2.1 y hy e2
   ·omega
  ·exact h1.2.2.2.2.1 e
 refine ⟨s.g.want hi ho c1 lie hr c2,s.b7.chg c fun e=>e.elim (fun e=>hxo.pO s.b7 rfl e rfl) fun e=>hrow.pO s.b7 rfl e rfl,s.ed.vY qj c (fun k hk e=>hz k (s.ed.lt hk).1 e) (fun k hk _ e=>hz k hk e),?_,?_,?_,
  s.able.chg (nH seC) c (fun k hk e=>e.elim (fun e=>s.able.um hxo rfl k hk e) fun e=>s.able.um hrow rfl k hk e),s.us.chg (nH seC) c (fun k hk e=>e.elim (fun e=>s.us.um hxo rfl k hk e) fun e=>s.us.um hrow rfl k hk e),s.dr.chg (nH seC) c (fun k hk e=>e.elim (fun e=>s.dr.um hxo rfl k hk e) fun e=>s.dr.um hrow rfl k hk e),s.sep,
  fun y hy=>(s.args y hy).keep (nS _) (c.keep fun k _ hk e=>hz k hk e),s.uin,Nat.le_trans s.z c.size,s.hlo⟩
 ·intro y hy k e
  rcases List.mem_or_eq_of_mem_set hy with hy|rfl
  ·exact s.inc y hy k e
  ·rcases lie with l|l
   ·rw [l] at e;exact s.inc x hx k e
   ·exact .inr (Nat.le_trans s.z (l k e))
 ·rw [List.map_set,s.hbs,vI hil,hx2]
 ·intro j hj k hk
  split at hk
  ·rcases List.mem_append.1 hk with hk|hk
   ·exact s.hin i hil k hk
   ·rw [List.mem_singleton.1 hk];exact hd
  ·exact s.hin j hj k hk
end
end Go.Proofs.YtjecgaiaiophpaaGreatDoor
namespace Go.Proofs.YtjecgaiaiophpaaGreatDoor
open Go Wk Sy
open Go.RowKit (Below)
attribute [local irreducible] Go.Calls
theorem SN {Pb Pt:Nat→Prop} {w:World} {v tv:Value} {t:List Nd} {th:List Bool} (h:RdS rNd 3 Pb w v t) (ht:RdS (Wk.one vbo) 1 Pt w tv th) (hok:oG t=true) (hl:th.length=t.length):
 Calls Tryz.prog 89 #[v,tv] w (Ret fun r w'=>(∃q1 q2,r=.tuple #[q1,q2,vi 0]∧RdS rEd 6 (fun b=>w.heap.size≤b) w' q1 (Eg t (thM th)).1∧RdS rEd 6 (fun b=>w.heap.size≤b) w' q2 (Eg t (thM th)).2)∧New w w'):=by
 have hlen:=oP hok
 have hpos:=sH hok
 have hIn:=JK hok
 have hE:(nZ t).length≤10240*t.length:=tK hok t.length (Nat.le_refl _)
 obtain ⟨a,cap,rfl,_,_⟩:=h.form
 obtain ⟨ta,aav,rfl,_,_⟩:=ht.form
 replace ht:=ht.mono (Pb':=fun k=>k<w.heap.size) (nU _) fun k hk _=>hk
 refine nI Tryz.func89 rfl Tryz.ntmps89 rfl ?_
 (repeat' (first|refine au ?_|refine ak ?_))
 refine bC rfl fun w1 b3 n1 s1=>?_
 replace b3:Bk w1 w.heap.size 128 [.slice ta th.length aav]:=b3
 (repeat' (first|refine aa0 ?_|refine aa1 ?_|refine af ?_|refine ah ?_|refine au ?_|refine ak ?_))
 refine aB (zV (h.keep oz n1.keep) hok) rfl ?_
 rintro _ w2 ⟨⟨bg,hm,ev,wv,gv,pv,gs,bs,rfl,g,hbs,hgl⟩,n2⟩
 have hz1:=n1.size
 have hz2:=n2.size
 (repeat' (first|refine aa0 ?_|refine pG ?_))
 refine Wl.alloc fun w3 b7 n3 s3=>?_
 refine aY (u:=pT bg) b7 rfl (show (0:Nat)<1 by omega) rfl rfl fun w4 b7' c4=>?_
 replace b7':Bk w4 w2.heap.size 220 [pT bg]:=b7'
 have n24:New w2 w4:=(Chg.trans n3.any c4 fun _ _ e=>e).toNew fun k hk e=>by omega
 have n04:=New.trans (New.trans n1 n2) n24
 have g4:=g.new n24
 have b34:=b3.chg (New.trans n2 n24) fun e=>e
 clear b7 c4 g b3
 obtain ⟨ea,ec,rfl,_,_⟩:=g4.ed.form
 (repeat' (first|refine aa0 ?_|refine aa1 ?_|refine af ?_|refine ah ?_|refine au ?_|refine ak ?_|refine Wc.skip ?_|refine aa4 ?_|(refine qf (fun _=>?_) (fun _=>?_)<;>(first|(exfalso;omega)|skip))))
 refine ay (u:=.slice ta th.length aav) rfl (b34.cell (o:=0) rfl) ?_
 (repeat' (first|refine aa0 ?_|refine af ?_|refine pz ?_|refine ah ?_|refine au ?_|refine ak ?_|refine Wc.skip ?_|refine aa4 ?_|(refine qf (fun _=>?_) (fun _=>?_)<;>(first|(exfalso;omega)|skip))))
 refine ay (u:=pT bg) rfl (b7'.cell (o:=0) rfl) ?_
 (repeat' (first|refine bK rfl ?_|refine aa5 ?_))
 refine ay (u:=.slice ea (nZ t).length ec) rfl (g4.b.cell (o:=2) rfl) ?_
 skip
 obtain ⟨D0,hD0,hDx,rdD,hDa⟩:=aal (g4.ed.rd qj.mo)
 have ah5:D0.length=(nZ t).length:=by rw [←hD0,List.length_map]
 have hix:D0.Pairwise fun x y=>x.2<y.2:=by
  have:(D0.map (·.2)).Pairwise (· < ·):=by rw [hDx];exact List.pairwise_lt_range
  exact List.pairwise_map.1 this
 refine aB (Nw rdD (by omega)) rfl ?_
 rintro cv w5 ⟨o5,n5⟩
 have hz4:=n24.size
 have hz5:=n5.size
 skip
 refine dH (f1:=[]) (c1:=[pT w.heap.size]) rfl rfl ?_
 have hsrc: ∀x∈D0,x.1.1.src<t.length∧ ∀d,x.1.1.dst=some d→d<t.length:=fun x hx=>vH x.1.1 (by rw [←hD0];exact List.mem_map_of_mem hx)
 have b35:=b34.chg n5 fun e=>e
 have hcv: ∀k,cv.ownBlock=some k→w4.heap.size≤k:=fun k hk=>(o5.lt hk).1
 have n05:=New.trans n04 n5
 have ah6:=n04.size
 have h3l:=b34.lt
 have hz3:w.heap.size<w4.heap.size:=h3l
 refine aB (ET (p:=fun x=> !wI (thM th) x.1.1) o5 (fun y w' hy c=>?_)) rfl ?_
 ·exact Pv (b35.chg c fun e=>by have:=hcv _ e;omega) ((ht.keep (nS _) n05.keep).keep (nS _) (c.keep fun k _ hP e=>by have:=hcv k e;omega)) hl (hsrc y hy).1 (hsrc y hy).2
 rintro av w6 ⟨o6,hav,c6⟩
 have n46:New w4 w6:=(Chg.trans n5.any c6 fun _ _ e=>e).toNew fun k hk e=>by have:=hcv k e;omega
 have hAm:(D0.filter fun y=> !(!wI (thM th) y.1.1)).map (·.1.1)=(nZ t).filter (wI (thM th)):=by
  rw [←hD0,List.filter_map]
  congr 1
  apply List.filter_congr
  intro y _
  simp
 have hAs:(D0.filter fun y=> !(!wI (thM th) y.1.1)).Sublist D0:=List.filter_sublist
 have hAx:=hix.sublist hAs
 have hAl:=hAs.length_le
 have hAu: ∀y∈D0.filter (fun y=> !(!wI (thM th) y.1.1)),wI (thM th) y.1.1=true:=fun y hy=>by simpa using (List.mem_filter.1 hy).2
 generalize hA:(D0.filter fun y=> !(!wI (thM th) y.1.1))=A at*
 (repeat' (first|refine aa0 ?_|refine aa1 ?_|refine af ?_|refine ah ?_|refine au ?_|refine ak ?_))
 refine dH (f1:=[]) (c1:=[pT w2.heap.size]) rfl rfl ?_
 have hp4:=(g4.pa.rd qR.mo).mono (Pb':=fun k=>k<w4.heap.size) (nU _) fun k hk _=>hk
 have Z9:=g4.b.lt
 have aaw:=b7'.lt
 have Xo: ∀k,av.ownBlock=some k→w4.heap.size≤k:=fun k hk=>hcv k (hav k hk)
 refine aB (KU (key:=fun x=>oO t x.1.1.src) (Pd:=fun x=>x.1.1.src<t.length) hAx o6 (fun y hy=>(hsrc y (hAs.subset hy)).1) (fun g hg=>SL (g4.b.chg n46 fun e=>e) (hp4.keep (nS _) n46.keep) (b7'.chg n46 fun e=>e) hlen (fun e=>by have:=Xo g hg;omega) (fun e=>by have:=Xo g hg;omega) (fun e=>by have:=Xo g hg;omega)) (by omega)) rfl ?_
 rintro u w7 ⟨E,hEp,hEs,o7,c7⟩
 have n47:New w4 w7:=(Chg.trans n46.any c7 fun _ _ e=>e).toNew fun k hk e=>by have:=Xo k e;omega
 have n07:=New.trans n04 n47
 have ah7:=n47.size
 have hEm:=O3 (oO t) hAx hEp hEs
 rw [hAm] at hEm
 have hsm:Eg t (thM th)=zS (pR t) (E.map (·.1.1)):=by unfold Eg;rw [hEm]
 have hEA: ∀x∈E,x∈D0∧wI (thM th) x.1.1=true:=fun x hx=>⟨hAs.subset (hEp.mem_iff.1 hx),hAu x (hEp.mem_iff.1 hx)⟩
 have hEl:E.length≤5300000:=by rw [hEp.length_eq];omega
 have afp: ∀k,wv.ownBlock=some k→k<w7.heap.size:=fun k hk=>by have:=(g4.wa.row.lt hk).2;omega
 have s0:SfI w1.heap.size bg hm t E bs (.slice a t.length cap) (.slice ea (nZ t).length ec) wv gv pv av w2.heap.size w7.heap.size bs (pR t) gs (.slice none 0 0) (.slice none 0 0) [] [] w7:=by
  refine ⟨g4.new n47,b7'.chg n47 fun e=>e,((g4.new n47).ed).mono qJ (fun b hb e=>⟨e,hb⟩) (fun b hb e=>⟨e,hb⟩),fun x hx k e=>.inl ⟨x,hx,e⟩,hbs,hIn,o7.mono (nP seC) (fun b hb e=>⟨by have h9:w4.heap.size≤b:=e;omega,hb⟩) (fun _ _ e=>e),bF,bF,fun k e=>(by cases e),fun x hx=>((hDa x (hEA x hx).1).keep (nS _) n47.keep).mono (nU _) fun b hb e=>⟨e.elim id id,hb⟩,by simp,Nat.le_refl _,by omega⟩
 have hwl: ∀j,(pR t j).length≤6000000:=fun j=>by
  rw [JJ,List.length_append]
  have h1:(uV t j).length≤1:=by unfold uV;split<;>simp
  have h2:=List.length_filterMap_le (wK j) (nZ t)
  omega
 clear hDa hp4 hix hDx rdD hAx hAm hAs hAl hAu hEp hEs hEm o5 c6 o6 c7 g4 b7' b34 b35 n5 n46 hD0 hA
 obtain ⟨aa,ac,rfl,_,_⟩:=o7.form
 clear o7
 (repeat' (first|refine aa0 ?_|refine af ?_|refine pz ?_|refine ah ?_|refine au ?_|refine ak ?_|refine Wc.block ?_))
 refine aP (σ:=Nat×List tX×(Nat→List Nat)×Value×Value×List SE×List SE) (fun q=>[(4,q.2.2.2.1),(5,q.2.2.2.2.1),(7,pT w2.heap.size),(34,.slice aa E.length ac),(35,vi E.length),(36,vi q.1)])
  (fun q W=>q.1≤E.length∧SfI w1.heap.size bg hm t E bs (.slice a t.length cap) (.slice ea (nZ t).length ec) wv gv pv (.slice aa E.length ac) w2.heap.size w7.heap.size q.2.1 q.2.2.1 gs q.2.2.2.1 q.2.2.2.2.1 q.2.2.2.2.2.1 q.2.2.2.2.2.2 W∧zS (pR t) (E.map (·.1.1))=(q.2.2.2.2.2.1.map (·.1.1)++(zS q.2.2.1 ((E.drop q.1).map (·.1.1))).1,q.2.2.2.2.2.2.map (·.1.1)++(zS q.2.2.1 ((E.drop q.1).map (·.1.1))).2)∧(∀j,(q.2.2.1 j).length≤6000000+q.1)∧q.2.2.2.2.2.1.length+q.2.2.2.2.2.2.length=q.1∧New w W) (fun q=>E.length-q.1)
  (0,bs,pR t,.slice none 0 0,.slice none 0 0,[],[]) ⟨rfl,rfl,rfl,rfl,rfl,rfl,trivial⟩ ⟨Nat.zero_le _,s0,rfl,hwl,rfl,n07⟩ ?_
 clear s0
 rintro ⟨i,bs',Wn,uv,dv,U,D⟩ G W ⟨hi,s,hsg,Vx,hul,nW⟩
 dsimp only at hi s hsg Vx hul nW
 simp only [oU]
 have hzW:=nW.size
 (repeat' (first|refine aa0 ?_|refine aa1 ?_|refine af ?_|refine ah ?_|refine au ?_|refine ak ?_|refine Wc.block ?_|refine Wc.skip ?_|refine aJ ?_|refine aA ?_|refine aK ?_|refine aI ?_|refine aO ?_|refine aa3 ?_|refine aa4 ?_|refine oZ (fun _=>?_) (fun _=>?_)))
 ·obtain ⟨x,hx⟩:=nV E (k:=i) (by omega)
  have hxE:=List.mem_of_getElem? hx
  obtain ⟨hxD,hxm⟩:=hEA x hxE
  obtain ⟨hxs,hxd⟩:=hsrc x hxD
  obtain ⟨d,hd⟩: ∃d,x.1.1.dst=some d:=by
   cases e:x.1.1.dst with
   |none=>unfold wI at hxm;rw [e] at hxm;simp at hxm
   |some d=>exact ⟨d,rfl⟩
  have hdl:=hxd d hd
  rw [drop_cons hx,List.map_cons,zS,hd,Option.getD_some] at hsg
  refine aU (s.able.rd (nP seC)) rfl rfl (by omega) hx fun b o cs hl2 hR hat=>?_
  obtain rfl:cs=seC x:=hR
  refine bG hat rfl rfl ?_
  refine Wl.alloc fun w8 b8 n8 s8=>?_
  refine aX (new:=seC x) b8 rfl rfl rfl rfl (show (6:Nat)≤6 from Nat.le_refl 6) (FX x) fun w9 b9 c9 s9=>?_
  replace b9:Bk w9 W.heap.size 150 (seC x):=b9
  have n9:New W w9:=(Chg.trans n8.any c9 fun _ _ e=>e).toNew fun k hk e=>by omega
  clear b8 n8 c9 hat
  have S9:=s.new n9
  have n09:=New.trans nW n9
  have huW: ∀k,uv.ownBlock=some k→k<W.heap.size:=fun k hk=>(s.us.lt hk).2
  clear s nW
  (repeat' (first|refine af ?_|refine ah ?_|refine au ?_))
  refine fZ [0,1,2,4,5] [3,6,7] rfl (by kernel_rfl) (by simp only [pick,List.getElem?_cons_succ,List.getElem?_cons_zero];rfl) (by simp only [pick,List.getElem?_cons_succ,List.getElem?_cons_zero];rfl) (fun w'=>New w9 w') (Chg.drew _ _) ?_
  skip
  refine aC (u:=pT bg) rfl (fun w' hw=>(S9.b7.chg hw fun e=>e).cell (o:=0) rfl) ?_
  (repeat' (refine aa8 ?_))
  refine aC (u:=vi d) rfl (fun w' hw=>by have:=(b9.chg hw fun e=>e).cell (o:=1) (u:=vi (qy x.1.1.dst)) rfl;rw [hd] at this;exact this) ?_
  (repeat' (refine aa8 ?_))
  refine aC (u:=vi x.1.1.src) rfl (fun w' hw=>(b9.chg hw fun e=>e).cell (o:=0) rfl) ?_
  (repeat' (refine ax ?_))
  have n10:New w9 w9.drew:=Chg.drew _ _
  refine dG ?_
  refine aB (Il (S9.g.new n10) hok S9.hbs S9.hin hdl) rfl ?_
  rintro rv w11 ⟨orv,n11⟩
  have SQ:=New.trans n10 n11
  refine af ⟨rfl,SQ,?_⟩
  obtain ⟨ra,rc,rfl,_,_⟩:=orv.form
  obtain ⟨bb,hbb,hbr⟩:=y9 (W:=Wn) (i:=d) hxs
  refine dG ?_
  refine bI (orv.rd Dh.mo) rfl rfl (by omega) (by rw [Int.toNat_natCast];exact hbb) fun b o hcell=>?_
  refine af ⟨rfl,SQ,?_⟩
  refine Wch.last ?_
  refine ay (u:=.bool bb) rfl hcell ?_
  have S11:=S9.new SQ
  have b11:=b9.chg SQ fun e=>e
  have YK:=New.trans n09 SQ
  have U9:=SQ.size
  have hz9:=n9.size
  have hzN:=S11.z
  have hNl:w.heap.size≤w7.heap.size:=n07.size
  clear orv hcell b9 S9 n9 n10 n11
  obtain ⟨ua,uc,rfl,_,_⟩:=S11.us.form
  obtain ⟨da,dc,rfl,_,_⟩:=S11.dr.form
  cases hb:bb
  ·have hnr: ¬Rch Wn d x.1.1.src:=fun e=>by have:=hbr.2 e;rw [hb] at this;cases this
   rw [if_neg hnr] at hsg
   (repeat' (first|refine aa0 ?_|refine af ?_|refine ah ?_|refine au ?_|refine ak ?_|refine Wc.skip ?_|refine aa4 ?_))
   refine bM b11 rfl rfl ?_
   refine dw (R:=flat seC) (y:=x) OW S11.us rfl rfl rfl rfl rfl (by omega) (by omega) (by simp only [maxLen];omega) (by omega) rfl rfl fun v2 w12 p o12 c12 lie=>?_
   have ahp:=b11.lt
   have Xp:=o12.mono (Pb':=fun b=>w7.heap.size≤b) (nP seC) (fun b _ e=>by rcases e with e|e;exact e;omega) (fun _ _ e=>e)
   have S12:=S11.afo hxE Xp c12 lie
   have b12:=b11.chg c12 (fun e=>by have:=huW _ e;omega)
   have n12:New w w12:=(Chg.trans YK.any c12 fun _ _ e=>e).toNew fun k hk e=>by have:=(S11.us.lt e).1;omega
   have ah8:v2.ownBlock=v2.ownBlock:=rfl
   clear o12 Xp c12 lie S11 b11 YK
   have aax:bs'.length=t.length:=by
    have h1:=congrArg List.length S12.hbs
    simpa using h1
   have hne0:bs'≠ []:=by intro e;rw [e] at aax;simp at aax;omega
   obtain ⟨wg,wc,hwv,ah9,aia,hob⟩:=S12.g.wa.row.blk hne0
   obtain ⟨⟨xv,xl⟩,hxr⟩:=nV bs' (k:=x.1.1.src) (by omega)
   have hxo:=S12.g.wa.el _ (List.mem_of_getElem? hxr)
   dsimp only at hxo
   obtain ⟨xa,xc,rfl,Vr,KR⟩:=hxo.form
   have EW:xl=Wn x.1.1.src:=by
    have h1:=congrArg (fun l=>l[x.1.1.src]?) S12.hbs
    simp only [List.getElem?_map,hxr,List.getElem?_range hxs,Option.map_some,Option.some.injEq] at h1
    exact h1
   have aat:xl.length≤6000000+i:=by rw [EW];exact Vx _
   subst hwv
   obtain ⟨va,vc,rfl,_,_⟩:=S12.us.form
   (repeat' (first|refine aa1 ?_|refine af ?_|refine ah ?_))
   refine bQ rfl (by kernel_rfl) (fun w'=>Chg (fun j=>(Value.slice xa xl.length xc).ownBlock=some j) w12 w') (Chg.drew _ _) ?_
   intro w17 n17
   have h6': ∀w',Chg (fun j=>(Value.slice xa xl.length xc).ownBlock=some j) w12 w'→Bk w' w2.heap.size 220 [pT bg]:=fun w' c=>S12.b7.chg c fun e=>hxo.pO S12.b7 rfl e rfl
   have hg': ∀w',Chg (fun j=>(Value.slice xa xl.length xc).ownBlock=some j) w12 w'→Bk w' bg 225 (grC (.slice a t.length cap) hm (.slice ea (nZ t).length ec) (.slice (some ⟨wg,0,none⟩) bs'.length wc) gv pv):=fun w' c=>S12.g.b.chg c fun e=>hxo.pO S12.g.b rfl e rfl
   have hx': ∀w',Chg (fun j=>(Value.slice xa xl.length xc).ownBlock=some j) w12 w'→Bk w' W.heap.size 150 (seC x):=fun w' c=>b12.chg c fun e=>hxo.pO b12 rfl e rfl
   skip
   refine aa2 (aC (u:=pT bg) rfl (fun w' hw=>(h6' w' hw).cell (o:=0) rfl) (ax ?_))
   (repeat' (first|refine aa2 (bf rfl (ax ?_))|refine aa2 (aa8 (ax ?_))))
   refine aa2 (aC (u:=.slice (some ⟨wg,0,none⟩) bs'.length wc) rfl (fun w' hw=>(hg' w' hw).cell (o:=3) rfl) (ax ?_))
   (repeat' (refine aa2 (aa8 (ax ?_))))
   refine aa2 (aC (u:=vi x.1.1.src) rfl (fun w' hw=>(hx' w' hw).cell (o:=0) rfl) (ax ?_))
   skip
   refine aa2 (aC (u:=pT bg) rfl (fun w' hw=>(h6' w' hw).cell (o:=0) rfl) (ax ?_))
   (repeat' (first|refine aa2 (bf rfl (ax ?_))|refine aa2 (aa8 (ax ?_))))
   refine aa2 (aC (u:=.slice (some ⟨wg,0,none⟩) bs'.length wc) rfl (fun w' hw=>(hg' w' hw).cell (o:=3) rfl) (ax ?_))
   (repeat' (refine aa2 (aa8 (ax ?_))))
   refine aa2 (aC (u:=vi x.1.1.src) rfl (fun w' hw=>(hx' w' hw).cell (o:=0) rfl) (ax ?_))
   skip
   refine aa2 (sG (ax ?_))
   have hrow: ∀w',Chg (fun j=>(Value.slice xa xl.length xc).ownBlock=some j) w12 w'→w'.cell? ⟨wg,0+(x.1.1.src:Int).toNat*1,none⟩=some (.slice xa xl.length xc):=fun w' c=>by
    have h9:=(S12.g.wa.row.chg (nH _) c fun j hj e=>S12.g.wa.wR _ (List.mem_of_getElem? hxr) j e hj).at rfl rfl hxr
    have:=h9.get 0 rfl
    simpa using this
   refine aa2 (aC (u:=.slice xa xl.length xc) rfl hrow (ax ?_))
   (repeat' (refine aa2 (aa8 (ax ?_))))
   refine aa2 (aC (u:=vi d) rfl (fun w' hw=>by have:=(hx' w' hw).cell (o:=1) (u:=vi (qy x.1.1.dst)) rfl;rw [hd] at this;exact this) (ax ?_))
   refine aT rfl (bT (R:=Wk.one viN) (Pe:=NoB) (y:=d) qH rfl rfl rfl rfl (by omega) (by omega) fun v8 w18 o8 n8 s8 e8=>?_)
   have n78:=n17.trans n8
   refine af ⟨rfl,n78.any,?_⟩
   refine aT rfl (bU qH (hxo.new (nM _) n78) (o8.rd qH.mo) (fun y cs hy=>hy) rfl rfl (by omega) (by simp only [maxLen,List.length_singleton];omega) (by simp only [List.length_singleton];omega) fun v9 w19 o9 c9 lie _=>?_)
   have c69:Chg (fun j=>(Value.slice xa xl.length xc).ownBlock=some j) w12 w19:=Chg.trans n78.any c9 fun _ _ e=>e
   refine af ⟨rfl,c69,?_⟩
   skip
   refine aa2 (sG (ax ?_))
   have YH:=n78.size
   have aae:=n12.size
   have ahq:=S12.z
   refine Wt.last rfl (dQ (f:=(·.1:tX→Value)) (q:=(v9,xl++ [d])) (j:=x.1.1.src) (cap:=wc) (S12.g.wa.row.chg (nH _) c69 fun j hj e=>S12.g.wa.wR _ (List.mem_of_getElem? hxr) j e hj) rfl (by omega) (by show Value.pointer (some ⟨wg,0+(x.1.1.src:Int).toNat*1,none⟩)=_;simp) rfl rfl (by obtain ⟨_,_,rfl,_⟩:=o9.form;rfl) fun w20 o10 c10=>?_)
   refine af ?_
   have F7:v9.ownBlock=(Value.slice xa xl.length xc).ownBlock∨ ∀k,v9.ownBlock=some k→w12.heap.size≤k:=lie.imp id fun h9 k hk=>by have:=h9 k hk;omega
   have S20:=S12.aau hxr (x':=(v9,xl++ [d])) (w1:=w19) (by rw [EW]) hdl (o9.mono (nU _) (fun b _ e=>by rcases e with e|e;exact e;omega) (fun _ _ e=>e)) c69 F7 o10 c10 afp
   have EX:Chg (fun j=>(Value.slice xa xl.length xc).ownBlock=some j∨j=wg) w12 w20:=Chg.trans (c69.mono fun k _ e=>Or.inl e) c10 fun k _ e=>by cases e;exact .inr rfl
   have n20:New w w20:=(Chg.trans (M:=fun j=>(Value.slice xa xl.length xc).ownBlock=some j∨j=wg) n12.any EX fun k _ e=>e).toNew fun k hk e=>by rcases e with e|e;(have:=(hxo.lt e).1;omega);omega
   have hfe:(fun j=>if j=x.1.1.src then Wn j++ [d] else Wn j)=fun j=>if j=x.1.1.src then Wn x.1.1.src++ [d] else Wn j:=by
    funext j
    by_cases e:j=x.1.1.src
    ·rw [if_pos e,if_pos e,e]
    ·rw [if_neg e,if_neg e]
   (repeat' (first|refine aa0 ?_|refine af ?_|refine ah ?_|refine ak ?_|refine aH ?_|refine aa7 ?_))
   refine aG (i+1,bs'.set x.1.1.src (v9,xl++ [d]),(fun j=>if j=x.1.1.src then Wn x.1.1.src++ [d] else Wn j),_,_,U++ [x],D) ⟨rfl,rfl,rfl,rfl,rfl,rfl,trivial⟩ ⟨by dsimp only;omega,S20,?_,fun j=>?_,by dsimp only;rw [List.length_append,List.length_singleton];omega,n20⟩ (by dsimp only;omega)
   ·dsimp only
    rw [hsg, ←hfe]
    simp
   ·dsimp only
    split
    ·rw [List.length_append,List.length_singleton]
     have:=Vx x.1.1.src
     omega
    ·have:=Vx j
     omega
  ·have hnr:Rch Wn d x.1.1.src:=hbr.1 hb
   rw [if_pos hnr] at hsg
   (repeat' (first|refine aa0 ?_|refine af ?_|refine ah ?_|refine au ?_|refine ak ?_|refine aa3 ?_))
   refine bM b11 rfl rfl ?_
   refine dw (R:=flat seC) (y:=x) OW S11.dr rfl rfl rfl rfl rfl (by omega) (by omega) (by simp only [maxLen];omega) (by omega) rfl rfl fun v2 w12 p o12 c12 lie=>?_
   have Xp:=o12.mono (Pb':=fun b=>w7.heap.size≤b) (nP seC) (fun b _ e=>by rcases e with e|e;exact e;omega) (fun _ _ e=>e)
   have S12:=S11.drop1 hxE Xp c12 lie
   have n12:New w w12:=(Chg.trans YK.any c12 fun _ _ e=>e).toNew fun k hk e=>by have:=(S11.dr.lt e).1;omega
   (repeat' (first|refine aa0 ?_|refine aa1 ?_|refine af ?_|refine ah ?_|refine ak ?_|refine aJ ?_|refine aK ?_|refine aI ?_|refine aa7 ?_))
   refine aG (i+1,bs',Wn,.slice ua U.length uc,v2,U,D++ [x]) ⟨rfl,rfl,rfl,rfl,rfl,rfl,trivial⟩ ⟨by dsimp only;omega,S12,?_,fun j=>by dsimp only;have:=Vx j;omega,by dsimp only;rw [List.length_append,List.length_singleton];omega,n12⟩ (by dsimp only;omega)
   dsimp only
   rw [hsg]
   simp
 ·obtain rfl:i=E.length:=by omega
  rw [List.drop_length,List.map_nil,zS,List.append_nil,List.append_nil] at hsg
  refine dn rfl rfl rfl rfl ⟨_,rfl,⟨uv,dv,rfl,?_,?_⟩,nW⟩
  ·rw [hsm,hsg]
   exact XR (s.us.rd (nP seC)) (fun b hb=>by rcases hb with hb|hb;omega;exact hb.elim) fun y hy=>(s.args y (s.uin y (.inl hy))).mono (nU _) fun b _ hb=>by have:=hb.1.1;omega
  ·rw [hsm,hsg]
   exact XR (s.dr.rd (nP seC)) (fun b hb=>by rcases hb with hb|hb;omega;exact hb.elim) fun y hy=>(s.args y (s.uin y (.inr hy))).mono (nU _) fun b _ hb=>by have:=hb.1.1;omega
end Go.Proofs.YtjecgaiaiophpaaGreatDoor
namespace Go.Proofs.YtjecgaiaiophpaaGreatDoor
open Go Wk
structure Giv where
 tree:List Nd
 cards:List Cd
 fails:List Nm
 gone:List Nm
structure Bn where
 path:Nm
 device:Bool
 level:Int
 reason:Nat
 card:Option Nat
 why:Int
 wants:List Nat
deriving Inhabited
def qK (t:List Nd) (i:Nat):Bool:=decide (0<i)&&(onM t i&& !CP t i)
def zf (t:List Nd) (i:Nat):List Nat:=(nZ t).filterMap fun e=>if e.src=i∧e.soft=false∧qK t i=true then e.dst else none
def uX (g:Giv) (i:Nat):Option Nat:=(DJ g.tree i++ [0]).find? fun k=>g.gone.contains (oO g.tree k)
def F8 (rs:List Rfs) (i:Nat):Option Int:=rs.foldl (fun a r=>if r.node=i then some r.by_ else a) none
def Di (rs:List (List Nat)) (i:Nat):Option Nat:=rs.foldl (fun a l=>if i∈l then some (l.headD 0) else a) none
noncomputable def firstM (g:Giv) (i:Nat):Nat×Int:=
 let t:=g.tree
 let d:=qK t i
 if onM t i=false then (1, -1)
 else if d=true∧qP g.cards t i=none then (2, -1)
 else match (if d=true then F8 (qM g.cards t).2 i else none) with
  |some b=>(3,b)
  |none=>if d=true∧(∃e∈nZ t,e.src=i∧e.soft=false∧e.dst=none) then (4, -1)
   else match (if d=true then Di (rJ t) i else none) with
    |some k=>(5,(k:Int))
    |none=>match uX g i with
     |some k=>(6,(k:Int))
     |none=>(0, -1)
noncomputable def wL (g:Giv) (i:Nat):Bn:=
 let c:=if qK g.tree i=true then qP g.cards g.tree i else none
 {path:=oO g.tree i,device:=qK g.tree i,level:=match c with|some k=>(g.cards.getD k default).level|none=>0,
  reason:=(firstM g i).1,card:=c,why:=(firstM g i).2,wants:=(if 0<i then [par g.tree i] else [])++zf g.tree i}
def qm (N:Nat→Bn) (n:Nat):List Nat:=((List.range n).filter fun i=>decide ((N i).reason=0)).mergeSort fun x y=> !decide (ru (fun i=>(N i).level) (fun i=>(N i).path) y x<0)
abbrev St:=Nat→Nat
def rQ (N:Nat→Bn) (S:St):Option Nat→List Nat→Option Nat
 |best,[]=>best
 |best,n::r=>rQ N S (if S n≠1∧(∀j,best=some j→(N n).path<(N j).path) then some n else best) r
def rV (N:Nat→Bn) (S:St) (i:Nat):Option Nat:=rQ N S none (N i).wants
def qY (N:Nat→Bn) (fl:Nm→Bool) (S:St) (i:Nat):Option St:=
 if (N i).reason=0∧S i=0∧rV N S i=none then some (fun k=>if k=i then (if (N i).device&&fl (N i).path then 2 else 1) else S k) else none
structure Rnd where
 tried:List Nat
 waits:List (Nat×Nat)
deriving DecidableEq,Inhabited
def oI (N:Nat→Bn) (fl:Nm→Bool):List Nat→St→Rnd×St
 | [],S=>(⟨[],[]⟩,S)
 |i::r,S=>if S i≠0 then oI N fl r S else match qY N fl S i with
  |some S'=>let q:=oI N fl r S';(⟨i::q.1.tried,q.1.waits⟩,q.2)
  |none=>let q:=oI N fl r S;(⟨q.1.tried,(i,(rV N S i).getD 0)::q.1.waits⟩,q.2)
def doneGo (N:Nat→Bn) (fl:Nm→Bool) (order:List Nat):Nat→St→List Rnd×St
 |0,S=>([],S)
 |f+1,S=>
  let q:=oI N fl order S
  let hd:=if q.1.tried=[]∧q.1.waits=[] then [] else [q.1]
  if q.1.tried=[] then (hd,q.2) else let p:=doneGo N fl order f q.2;(hd++p.1,p.2)
def S0:St:=fun _=>0
def rG (N:Nat→Bn) (fl:Nm→Bool) (n:Nat):List Rnd×St:=doneGo N fl (qm N n) (n+1) S0
def rowOf (N:Nat→Bn) (S:St) (i:Nat):Nat×Option Nat×Int:=
 if (N i).reason≠0∨S i=1 then ((N i).reason,(N i).card,(N i).why)
 else if S i=2 then (7,(N i).card,(N i).why)
 else (8,(N i).card,match rV N S i with|some k=>(k:Int)|none=> -1)
inductive Bnd (N:Nat→Bn) (fl:Nm→Bool):Nat→Prop
 |mk (i:Nat):(N i).reason=0→((N i).device&&fl (N i).path)=false→(∀n,n∈(N i).wants→Bnd N fl n)→Bnd N fl i
def Fld (N:Nat→Bn) (fl:Nm→Bool) (i:Nat):Prop:=(N i).reason=0∧((N i).device&&fl (N i).path)=true∧ ∀n∈(N i).wants,Bnd N fl n
theorem Bnd.inv {N:Nat→Bn} {fl:Nm→Bool} {i:Nat} (h:Bnd N fl i):(N i).reason=0∧((N i).device&&fl (N i).path)=false∧ ∀n∈(N i).wants,Bnd N fl n:=by
 cases h with|mk _ h1 h2 h3=>exact ⟨h1,h2,h3⟩
theorem Eh {N:Nat→Bn} {S:St}: ∀(l:List Nat) (b:Option Nat),rQ N S b l=none↔b=none∧ ∀n∈l,S n=1
 | [],b=>by simp [rQ]
 |n::r,b=>by
  rw [rQ,Eh r]
  constructor
  ·rintro ⟨h1,h2⟩
   split at h1
   ·cases h1
   ·rename_i hc
    subst h1
    refine ⟨rfl,fun m hm=>?_⟩
    rcases List.mem_cons.1 hm with rfl|hm
    ·exact Decidable.byContradiction fun e=>hc ⟨e,fun j hj=>by cases hj⟩
    ·exact h2 m hm
  ·rintro ⟨rfl,h⟩
   refine ⟨if_neg fun e=>e.1 (h n List.mem_cons_self),fun m hm=>h m (List.mem_cons_of_mem _ hm)⟩
theorem Ba {N:Nat→Bn} {S:St} {i:Nat}:rV N S i=none↔ ∀n∈(N i).wants,S n=1:=by
 unfold rV;rw [Eh];simp
theorem FK {N:Nat→Bn} {S:St}: ∀(l:List Nat) (b:Option Nat) (k:Nat),rQ N S b l=some k→b=some k∨(k∈l∧S k≠1)
 | [],b,k,h=>.inl h
 |n::r,b,k,h=>by
  rw [rQ] at h
  rcases FK r _ k h with e|⟨e1,e2⟩
  ·split at e
   ·rename_i hc;cases e;exact .inr ⟨List.mem_cons_self,hc.1⟩
   ·exact .inl e
  ·exact .inr ⟨List.mem_cons_of_mem _ e1,e2⟩
theorem Iq {N:Nat→Bn} {S:St} {i k:Nat} (h:rV N S i=some k):k∈(N i).wants∧S k≠1:=by
 rcases FK _ _ _ h with e|e
 ·cases e
 ·exact e
structure Vld (N:Nat→Bn) (fl:Nm→Bool) (S:St):Prop where
 le: ∀i,S i≤2
 b: ∀i,S i=1→Bnd N fl i
 f: ∀i,S i=2→Fld N fl i
theorem afq {N:Nat→Bn} {fl:Nm→Bool}:Vld N fl S0:=⟨fun _=>Nat.zero_le _,fun i h=>(by cases h),fun i h=>(by cases h)⟩
theorem Vld.look {N:Nat→Bn} {fl:Nm→Bool} {S S':St} {i:Nat} (v:Vld N fl S) (h:qY N fl S i=some S'):Vld N fl S':=by
 unfold qY at h
 split at h
 ·rename_i hc
  cases h
  obtain ⟨h1,h2,h3⟩:=hc
  rw [Ba] at h3
  have hw: ∀n∈(N i).wants,Bnd N fl n:=fun n hn=>v.b n (h3 n hn)
  refine ⟨fun k=>?_,fun k hk=>?_,fun k hk=>?_⟩
  ·show (if k=i then _ else _)≤2
   split
   ·split<;>omega
   ·exact v.le k
  ·split at hk
   ·rename_i e;subst e
    split at hk
    ·cases hk
    ·rename_i e;exact .mk _ h1 (by simpa using e) hw
   ·exact v.b k hk
  ·split at hk
   ·rename_i e;subst e
    split at hk
    ·rename_i e;exact ⟨h1,e,hw⟩
    ·cases hk
   ·exact v.f k hk
 ·cases h
def Fin (N:Nat→Bn) (n:Nat) (S:St):Prop:= ∀i,i<n→(N i).reason=0→S i=0→ ∃k∈(N i).wants,S k≠1
def InN (N:Nat→Bn) (n:Nat):Prop:= ∀i,i<n→ ∀k∈(N i).wants,k<n
theorem Fin.bnd {N:Nat→Bn} {fl:Nm→Bool} {S:St} {n:Nat} (v:Vld N fl S) (f:Fin N n S) (hn:InN N n) {i:Nat} (h:Bnd N fl i):i<n→S i=1:=by
 induction h with
 |mk i h1 h2 h3 ih=>
  intro hi
  have h4:=v.le i
  by_cases e1:S i=1
  ·exact e1
  ·by_cases e2:S i=2
   ·have:=(v.f i e2).2.1;rw [h2] at this;cases this
   ·obtain ⟨k,hk,e⟩:=f i hi h1 (by omega)
    exact absurd (ih k hk (hn i hi k hk)) e
def Ir (S:St) (l:List Nat):Nat:=(l.filter fun i=>decide (S i=0)).length
theorem Bc {N:Nat→Bn} {fl:Nm→Bool} {S S':St} {i:Nat} (h:qY N fl S i=some S'):S i=0∧S' i≠0∧(∀k,S k≠0→S' k=S k)∧(∀k,k≠i→S' k=S k):=by
 unfold qY at h
 split at h
 ·rename_i hc
  cases h
  refine ⟨hc.2.1,?_,fun k hk=>?_,fun k hk=>if_neg hk⟩
  ·dsimp only;rw [if_pos rfl];split<;>decide
  ·dsimp only;rw [if_neg];intro e;subst e;exact hk hc.2.1
 ·cases h
theorem uo {N:Nat→Bn} {fl:Nm→Bool}: ∀(l:List Nat) (S:St),(∀k,S k≠0→(oI N fl l S).2 k=S k)∧(∀k,k∉l→(oI N fl l S).2 k=S k)∧(Vld N fl S→Vld N fl (oI N fl l S).2)∧
 ((oI N fl l S).1.tried=[]→(oI N fl l S).2=S∧ ∀i∈l,S i=0→qY N fl S i=none)∧(∀i∈(oI N fl l S).1.tried,i∈l∧S i=0∧(oI N fl l S).2 i≠0)
 | [],S=>⟨fun _ _=>rfl,fun _ _=>rfl,id,fun _=>⟨rfl,fun i h=>by simp at h⟩,fun i h=>by simp [oI] at h⟩
 |i::r,S=>by
  rw [oI]
  split
  ·rename_i h0
   obtain ⟨a,b,c,d,e⟩:=uo (N:=N) (fl:=fl) r S
   refine ⟨a,fun k hk=>b k fun e=>hk (List.mem_cons_of_mem _ e),c,fun h=>⟨(d h).1,fun k hk hs=>?_⟩,fun k hk=>⟨List.mem_cons_of_mem _ (e k hk).1,(e k hk).2⟩⟩
   rcases List.mem_cons.1 hk with rfl|hk
   ·exact absurd hs h0
   ·exact (d h).2 k hk hs
  ·rename_i h0
   have h0:S i=0:=Decidable.byContradiction h0
   cases hl:qY N fl S i with
   |some S'=>
    obtain ⟨k1,k2,k3,k4⟩:=Bc hl
    obtain ⟨a,b,c,d,e⟩:=uo (N:=N) (fl:=fl) r S'
    dsimp only
    refine ⟨fun k hk=>(a k (by rw [k3 k hk];exact hk)).trans (k3 k hk),fun k hk=>?_,fun v=>c (v.look hl),fun h=>(by cases h),fun k hk=>?_⟩
    ·exact (b k fun e=>hk (List.mem_cons_of_mem _ e)).trans (k4 k fun e=>hk (e▸List.mem_cons_self))
    ·rcases List.mem_cons.1 hk with rfl|hk
     ·exact ⟨List.mem_cons_self,h0,by rw [a k k2];exact k2⟩
     ·obtain ⟨e1,e2,e3⟩:=e k hk
      refine ⟨List.mem_cons_of_mem _ e1,?_,e3⟩
      exact Decidable.byContradiction fun hs=>hs ((k3 k hs).symm.trans e2)
   |none=>
    obtain ⟨a,b,c,d,e⟩:=uo (N:=N) (fl:=fl) r S
    dsimp only
    refine ⟨a,fun k hk=>b k fun e=>hk (List.mem_cons_of_mem _ e),c,fun h=>⟨(d h).1,fun k hk hs=>?_⟩,fun k hk=>⟨List.mem_cons_of_mem _ (e k hk).1,(e k hk).2⟩⟩
    rcases List.mem_cons.1 hk with rfl|hk
    ·exact hl
    ·exact (d h).2 k hk hs
theorem Vy {S S':St} {l:List Nat} (h: ∀k,S k≠0→S' k=S k) {i:Nat} (hi:i∈l) (h0:S i=0) (h1:S' i≠0):Ir S' l<Ir S l:=by
 unfold Ir
 rw [←List.countP_eq_length_filter, ←List.countP_eq_length_filter]
 induction l with
 |nil=>simp at hi
 |cons x r ih=>
  rw [List.countP_cons,List.countP_cons]
  have hle:List.countP (fun i=>decide (S' i=0)) r≤List.countP (fun i=>decide (S i=0)) r:=by
   apply List.countP_mono_left
   intro k _ hk
   rw [decide_eq_true_eq] at hk ⊢
   exact Decidable.byContradiction fun e=>e ((h k e).symm.trans hk)
  rcases List.mem_cons.1 hi with rfl|hi
  ·rw [decide_eq_true h0,decide_eq_false h1,if_neg (by decide),if_pos rfl];omega
  ·have:=ih hi
   have h2:(if decide (S' x=0)=true then 1 else 0)≤(if decide (S x=0)=true then 1 else 0):=by
    by_cases e:S x=0
    ·rw [decide_eq_true e,if_pos rfl];split<;>decide
    ·rw [decide_eq_false e,decide_eq_false (by rw [h x e];exact e)];exact Nat.le_refl _
   exact Nat.add_lt_add_of_lt_of_le this h2
theorem Iu {N:Nat→Bn} {fl:Nm→Bool} {order:List Nat}: ∀(f:Nat) (S:St),Vld N fl S→Ir S order<f→Vld N fl (doneGo N fl order f S).2∧(∀i∈order,(doneGo N fl order f S).2 i=0→qY N fl (doneGo N fl order f S).2 i=none)
 |0,S,_,h=>by omega
 |f+1,S,v,h=>by
  obtain ⟨a,b,c,d,e⟩:=uo (N:=N) (fl:=fl) order S
  rw [doneGo]
  dsimp only
  split
  ·rename_i ht
   dsimp only
   refine ⟨c v,fun i hi h0=>?_⟩
   rw [(d ht).1] at h0 ⊢
   exact (d ht).2 i hi h0
  ·rename_i ht
   obtain ⟨i,hi⟩:=List.exists_mem_of_ne_nil _ ht
   obtain ⟨e1,e2,e3⟩:=e i hi
   exact Iu f _ (c v) (by have:=Vy a e1 e2 e3;omega)
theorem FM {N:Nat→Bn} {n i:Nat}:i∈qm N n↔i<n∧(N i).reason=0:=by
 unfold qm
 rw [List.mem_mergeSort,List.mem_filter,List.mem_range,decide_eq_true_eq]
theorem NG (N:Nat→Bn) (n:Nat):(qm N n).length≤n:=by
 unfold qm
 rw [List.length_mergeSort]
 have:=List.length_filter_le (fun i=>decide ((N i).reason=0)) (List.range n)
 rwa [List.length_range] at this
theorem SS {N:Nat→Bn} {fl:Nm→Bool} {S:St} {n:Nat} (h: ∀i∈qm N n,S i=0→qY N fl S i=none):Fin N n S:=by
 intro i hi hr h0
 have:=h i (FM.2 ⟨hi,hr⟩) h0
 unfold qY at this
 split at this
 ·cases this
 ·rename_i hc
  have hw:rV N S i≠none:=fun e=>hc ⟨hr,h0,e⟩
  cases hk:rV N S i with
  |none=>exact absurd hk hw
  |some k=>exact ⟨k,Iq hk⟩
theorem EZ (N:Nat→Bn) (fl:Nm→Bool) (n:Nat):Vld N fl (rG N fl n).2∧Fin N n (rG N fl n).2:=by
 unfold rG
 have hl:Ir S0 (qm N n)<n+1:=by
  have h1:=NG N n
  have:Ir S0 (qm N n)≤(qm N n).length:=by unfold Ir;exact List.length_filter_le _ _
  omega
 obtain ⟨v,h⟩:=Iu (n+1) S0 afq hl
 exact ⟨v,SS h⟩
theorem vZ {N:Nat→Bn} {S:St} {i:Nat}:(rowOf N S i).1=0↔(N i).reason=0∧S i=1:=by
 unfold rowOf
 split
 ·rename_i h
  dsimp only
  constructor
  ·intro e;exact ⟨e,h.resolve_left fun q=>q e⟩
  ·exact fun e=>e.1
 ·rename_i h
  rw [not_or,Decidable.not_not] at h
  split
  ·simp;intro _;omega
  ·simp;intro _;exact h.2
end Go.Proofs.YtjecgaiaiophpaaGreatDoor
namespace Go.Proofs.YtjecgaiaiophpaaGreatDoor
open Go Wk
open Go.RowKit (Below)
attribute [local irreducible] Go.Calls
abbrev I4 (L:List (Nm×Int)):List (Value×Value):=L.map fun p=>(vs p.1,vi p.2)
structure Cnt (l:List Nm) (L:List (Nm×Int)):Prop where
 nd:(L.map (·.1)).Nodup
 mem: ∀p∈L,1≤p.2∧p.2≤l.length∧p.1∈l
 all: ∀s∈l, ∃c,(s,c)∈L
theorem KW {s:Nm} (h:s.length≤100000000): ∃q,keyOf Tryz.prog 9 (vs s)=some q:=
 ⟨_,WideMaps.keyOf_string_mk Tryz.underlying9 (by simp only [ByteArray.size,List.size_toArray,maxLen];omega)⟩
theorem Ei {Pb:Nat→Prop} {w:World} {v:Value} {xs:List Nm} (h:RdS (Wk.one vs) 1 Pb w v xs) (hs: ∀x∈xs,x.length≤100000000):
 Calls Tryz.prog 42 #[v] w (Ret fun r w'=>(∃b L,r=.map (some b)∧w.heap.size≤b∧rC Tryz.prog 9 w' b (I4 L)∧Cnt xs L)∧New w w'):=by
 obtain ⟨a,cap,rfl,hc1,hc2⟩:=h.form
 simp only [maxLen] at hc2
 refine nI Tryz.func42 rfl Tryz.ntmps42 rfl ?_
 (repeat' (first|refine aa1 ?_|refine af ?_|refine ah ?_|refine au ?_|refine ak ?_))
 refine fQ (k:=9) fun w1 m1 n1 s1=>?_
 generalize hbm:w.heap.size=bm at m1
 (repeat' (first|refine aa0 ?_|refine aa1 ?_|refine af ?_|refine pz ?_|refine ah ?_|refine au ?_|refine ak ?_|refine Wc.block ?_))
 refine aP (σ:=Nat×List (Nm×Int)) (fun s=>[(3,.map (some bm)),(7,.slice a xs.length cap),(8,vi xs.length),(9,vi s.1)]) (fun s W=>s.1≤xs.length∧Cnt (xs.take s.1) s.2∧rC Tryz.prog 9 W bm (I4 s.2)∧New w W) (fun s=>xs.length-s.1) (0,[]) ⟨rfl,rfl,rfl,rfl,trivial⟩
  ⟨Nat.zero_le _,⟨by simp,by simp,by simp⟩,m1,n1⟩ ?_
 rintro ⟨i,L⟩ G W ⟨hi,hC,mW,nW⟩
 dsimp only at hi hC mW nW
 simp only [oU]
 (repeat' (first|refine aa0 ?_|refine aa1 ?_|refine af ?_|refine ah ?_|refine au ?_|refine ak ?_|refine Wc.block ?_|refine Wc.skip ?_|refine aJ ?_|refine aA ?_|refine aK ?_|refine aI ?_|refine aO ?_|refine aa3 ?_|refine aa4 ?_|refine oZ (fun _=>?_) (fun _=>?_)))
 ·obtain ⟨s,hx⟩:=nV xs (k:=i) (by omega)
  refine bI (h.keep (nS _) nW.keep) rfl rfl (by omega) hx fun b o hcell=>?_
  refine ay (u:=vs s) rfl hcell ?_
  (repeat' (first|refine aa0 ?_|refine aa1 ?_|refine af ?_|refine ah ?_|refine ak ?_))
  obtain ⟨q,hq⟩:=KW (hs s (List.mem_of_getElem? hx))
  have hlen:(xs.take i).length=i:=by rw [List.length_take];omega
  refine iW (Maps.string_keyed Tryz.underlying9) mW hq rfl rfl ?_
  rintro r (hr|⟨rfl,hr⟩)
  ·obtain ⟨⟨s',c⟩,hm,e⟩:=List.mem_map.1 hr
   simp only [Prod.mk.injEq] at e
   obtain ⟨e1,rfl⟩:=e
   obtain rfl:=xq e1
   have hb:=hC.mem _ hm
   dsimp only at hb
   (repeat' (refine aa7 ?_))
   refine jI (v0:=vi c) (u:=vi (c+1)) (Maps.string_keyed Tryz.underlying9) mW hq hr rfl rfl rfl fun w2 j v2 hj m2 c2 s2=>?_
   rw [List.getElem?_map] at hj
   obtain ⟨⟨s2',c2'⟩,hj1,hj2⟩:=Option.map_eq_some_iff.1 hj
   simp only [Prod.mk.injEq] at hj2
   obtain rfl:=xq hj2.1
   have hset:(I4 L).set j (vs s2',vi (c+1))=I4 (L.set j (s2',c+1)):=by unfold I4;rw [List.map_set]
   rw [hset] at m2
   (repeat' (first|refine aa0 ?_|refine af ?_|refine ah ?_|refine ak ?_|refine aH ?_|refine aa7 ?_))
   have hjl:=(List.getElem?_eq_some_iff.1 hj1).1
   refine aG (i+1,L.set j (s2',c+1)) ⟨rfl,rfl,rfl,rfl,trivial⟩ ⟨by dsimp only;omega,⟨?_,fun p hp=>?_,fun t ht=>?_⟩,m2,Chg.trans nW c2 fun k hk e=>by omega⟩ (by dsimp only;omega)
   ·rw [List.map_set]
    have:(L.map (·.1)).set j s2'=L.map (·.1):=by
     apply List.ext_getElem?
     intro m
     rw [List.getElem?_set]
     split
     ·rename_i e;subst e
      rw [if_pos (by simpa using hjl),List.getElem?_map,hj1];rfl
     ·rfl
    rw [this];exact hC.nd
   ·rw [take_snoc hx,List.length_append,hlen]
    rcases List.mem_or_eq_of_mem_set hp with hp|rfl
    ·have:=hC.mem p hp
     rw [hlen] at this
     exact ⟨this.1,by simp;omega,List.mem_append_left _ this.2.2⟩
    ·rw [hlen] at hb
     exact ⟨by dsimp only;omega,by simp;omega,by simp⟩
   ·rw [take_snoc hx] at ht
    have hin:t=s2'∨t∈xs.take i:=by
     rcases List.mem_append.1 ht with ht|ht
     ·exact .inr ht
     ·exact .inl (List.mem_singleton.1 ht)
    by_cases e:t=s2'
    ·subst e;exact ⟨c+1,List.mem_set hjl _⟩
    ·obtain ⟨d,hd⟩:=hC.all t (hin.resolve_left e)
     obtain ⟨m,hm'⟩:=List.mem_iff_getElem?.1 hd
     refine ⟨d,List.mem_iff_getElem?.2 ⟨m,?_⟩⟩
     rw [List.getElem?_set_ne]
     ·exact hm'
     ·rintro rfl;rw [hj1] at hm';cases hm';exact e rfl
  ·(repeat' (refine aa7 ?_))
   refine fU (u:=vi 1) (Maps.string_keyed Tryz.underlying9) mW hq hr rfl rfl rfl fun w2 m2 c2 s2=>?_
   (repeat' (first|refine aa0 ?_|refine af ?_|refine ah ?_|refine ak ?_|refine aH ?_|refine aa7 ?_))
   refine aG (i+1,L++ [(s,1)]) ⟨rfl,rfl,rfl,rfl,trivial⟩ ⟨by dsimp only;omega,⟨?_,fun p hp=>?_,fun t ht=>?_⟩,by simpa [I4] using m2,Chg.trans nW c2 fun k hk e=>by omega⟩ (by dsimp only;omega)
   ·rw [List.map_append,List.nodup_append]
    refine ⟨hC.nd,by simp,fun x hx y hy=>?_⟩
    obtain ⟨p,hp,rfl⟩:=List.mem_map.1 hx
    simp at hy
    subst hy
    intro e
    exact hr (vs p.1,vi p.2) (List.mem_map.2 ⟨p,hp,rfl⟩) (by rw [e])
   ·rw [take_snoc hx,List.length_append,hlen]
    rcases List.mem_append.1 hp with hp|hp
    ·have:=hC.mem p hp
     rw [hlen] at this
     exact ⟨this.1,by simp;omega,List.mem_append_left _ this.2.2⟩
    ·rw [List.mem_singleton.1 hp]
     exact ⟨Int.le_refl 1,by simp;omega,by simp⟩
   ·rw [take_snoc hx] at ht
    rcases List.mem_append.1 ht with ht|ht
    ·obtain ⟨d,hd⟩:=hC.all t ht
     exact ⟨d,List.mem_append_left _ hd⟩
    ·rw [List.mem_singleton.1 ht];exact ⟨1,by simp⟩
 ·obtain rfl:i=xs.length:=by omega
  rw [List.take_length] at hC
  exact aF rfl rfl ⟨_,rfl,⟨bm,L,rfl,by omega,mW,hC⟩,nW⟩
end Go.Proofs.YtjecgaiaiophpaaGreatDoor
namespace Go.Proofs.YtjecgaiaiophpaaGreatDoor
open Go Wk
open Go.RowKit (Below)
attribute [local irreducible] Go.Calls
section
variable {P:Program} {n:Nat} {ds:List Deferred} {C:World→Prop} {K:Fr→Prop} {F:Fr} {ops rest:List Oper} {d:Nat} {ty t t':TypeId} {pos:String} {aft:Array Edge} {x y:Operand} {a b:List UInt8}
theorem Wk.Wq.slss (hx:ev n F x=vs a) (hy:ev n F y=vs b) (ht:a<b→Wq P n ds C K ops rest (upd F d (.bool true))) (hf: ¬a<b→Wq P n ds C K ops rest (upd F d (.bool false))):
 Wq P n ds C K ops (⟨some d,.binOp .lss t x y t',ty,pos,aft,none⟩::rest) F:=by
 by_cases h:a<b
 ·exact Wq.val (fun w _=>by simp only [execOp,hx,hy,Sem.run_bind,qw,Result.andThen_ok,binOp_string_lss,ByteArray.toList_mk,Sem.run_pure,bytesLess_eq,decide_eq_true h]) (ht h)
 ·exact Wq.val (fun w _=>by simp only [execOp,hx,hy,Sem.run_bind,qw,Result.andThen_ok,binOp_string_lss,ByteArray.toList_mk,Sem.run_pure,bytesLess_eq,decide_eq_false h]) (hf h)
end
structure Nb where
 bn:Bn
 wv:SV
 st:Nat
deriving Inhabited
abbrev nbC (x:Nb):List Value:=[vs x.bn.path,.bool x.bn.device,.int .u8 x.bn.level,.int .u8 x.bn.reason,vi (qy x.bn.card),vi x.bn.why,svV x.wv,.bool (x.st == 1),.bool (x.st == 2)]
theorem Vz (x:Nb): ∀c∈nbC x,c.oneCell'=true:=by
 intro c hc
 simp at hc
 rcases hc with rfl|rfl|rfl|rfl|rfl|rfl|rfl|rfl|rfl<;>rfl
theorem VA:qQ (flat nbC) 9:=qU _ (fun _=>rfl) Vz
def bnF (N:List Nb) (i:Nat):Bn:=(N.getD i default).bn
def stF (N:List Nb) (i:Nat):Nat:=(N.getD i default).st
theorem sO {N:List Nb} {i:Nat} {x:Nb} (h:N[i]? =some x):bnF N i=x.bn:=by unfold bnF;rw [List.getD_eq_getElem?_getD,h];rfl
theorem wU {N:List Nb} {i:Nat} {x:Nb} (h:N[i]? =some x):stF N i=x.st:=by unfold stF;rw [List.getD_eq_getElem?_getD,h];rfl
structure WkM (Pb:Nat→Prop) (bw bm:Nat) (N:List Nb) (ord:List Nat) (fl:List (Nm×Int)) (nv ov:Value) (W:World):Prop where
 b:Bk W bw 108 [nv,ov,.map (some bm)]
 nd:LLs nbC (fun x=>svV x.wv) (fun x=>x.bn.wants) viN 118 3 9 Pb W nv N
 od:nO (Wk.one viN) 3 1 Pb NoB W ov ord
 mp:rC Tryz.prog 9 W bm (I4 fl)
 so: ∀x∈N,Sep (svV x.wv) ov
 win: ∀x∈N, ∀k∈x.bn.wants,k<N.length
 nl:N.length≤512
 fn:(fl.map (·.1)).Nodup∧ ∀x∈N,x.bn.path.length≤1000000
 lo2:Pb bw∧Pb bm
section
variable {Pb:Nat→Prop} {bw bm:Nat} {N:List Nb} {ord:List Nat} {fl:List (Nm×Int)} {nv ov:Value} {W W':World}
theorem WkM.new (g:WkM Pb bw bm N ord fl nv ov W) (c:New W W'):WkM Pb bw bm N ord fl nv ov W':=
 ⟨g.b.chg c fun e=>e,g.nd.new c,g.od.new (nM _) c,g.mp.chg c fun e=>e,g.so,g.win,g.nl,g.fn,g.lo2⟩
theorem Dj {i:Nat} (g:WkM Pb bw bm N ord fl nv ov W) (hi:i<N.length):
 Calls Tryz.prog 65 #[pT bw,vi i] W (Ret fun r w'=>r=vi (qy (rV (bnF N) (stF N) i))∧New W w'):=by
 have hnl:=g.nl
 obtain ⟨na,nc,rfl,_,_⟩:=g.nd.row.form
 have hrd:=g.nd.row.rd (nP nbC)
 obtain ⟨x,hx⟩:=nV N hi
 have hw:=(g.nd.el x (List.mem_of_getElem? hx)).rd qH.mo
 have hwin:=g.win x (List.mem_of_getElem? hx)
 unfold rV
 rw [sO hx]
 obtain ⟨bn,wv,st⟩:=x
 obtain ⟨wa,wl,wc⟩:=wv
 obtain ⟨a',c',e',hwc,hwm⟩:=hw.form
 have hwl:wl=bn.wants.length:=by injection e'
 subst hwl
 dsimp only at hw hwin hwc ⊢
 clear e'
 have aib:bn.wants.length≤9223372036854775807:=by unfold maxLen at hwm;omega
 refine nI Tryz.func65 rfl Tryz.ntmps65 rfl ?_
 (repeat' (first|refine aa0 ?_|refine aa1 ?_|refine af ?_|refine ah ?_|refine au ?_|refine ak ?_|refine bK rfl ?_|refine aa5 ?_))
 refine ay (u:=.slice na N.length nc) rfl (g.b.cell (o:=0) rfl) ?_
 (repeat' (refine aa0 ?_))
 refine aU hrd rfl rfl (by omega) hx fun b o cs hl hR hat=>?_
 obtain rfl:cs=nbC _:=hR
 (repeat' (refine aa5 ?_))
 refine ay (u:=.slice wa bn.wants.length wc) rfl (hat.get 6 rfl) ?_
 clear hat
 (repeat' (first|refine aa0 ?_|refine af ?_|refine pz ?_|refine ah ?_|refine Wc.block ?_))
 refine aP (σ:=Nat×Option Nat) (fun q=>[(0,pT bw),(5,vi (qy q.2)),(15,.slice wa bn.wants.length wc),(16,vi bn.wants.length),(17,vi q.1)])
  (fun q w'=>q.1≤bn.wants.length∧(∀j,q.2=some j→j<N.length)∧rQ (bnF N) (stF N) none bn.wants=rQ (bnF N) (stF N) q.2 (bn.wants.drop q.1)∧New W w') (fun q=>bn.wants.length-q.1)
  (0,none) ⟨rfl,rfl,rfl,rfl,rfl,trivial⟩ ⟨Nat.zero_le _,fun j e=>(by cases e),rfl,aQ _ _⟩ ?_
 rintro ⟨k,best⟩ G w1 ⟨hk,hbl,hgo,n1⟩
 dsimp only at hk hbl hgo n1
 simp only [oU]
 have g1:=g.new n1
 have Pq:=hrd.keep (nY nbC) n1.keep
 (repeat' (first|refine aa0 ?_|refine aa1 ?_|refine af ?_|refine ah ?_|refine au ?_|refine ak ?_|refine Wc.block ?_|refine Wc.skip ?_|refine aJ ?_|refine aA ?_|refine aK ?_|refine aI ?_|refine aO ?_|refine aa3 ?_|refine aa4 ?_|refine oZ (fun _=>?_) (fun _=>?_)))
 ·obtain ⟨m,hm⟩:=nV bn.wants (k:=k) (by omega)
  have hml:=hwin m (List.mem_of_getElem? hm)
  rw [drop_cons hm,rQ] at hgo
  obtain ⟨y,hy⟩:=nV N hml
  rw [wU hy,sO hy] at hgo
  refine bI (hw.keep (nS _) n1.keep) rfl rfl (by omega) hm fun b o hcell=>?_
  refine ay (u:=vi m) rfl hcell ?_
  (repeat' (first|refine aa1 ?_|refine af ?_|refine ah ?_|refine au ?_))
  refine eG rfl (by kernel_rfl) ?_
  (repeat' (first|refine aa9 ?_|refine bf rfl ?_|refine aa8 ?_))
  refine aC (u:=.slice na N.length nc) rfl (fun w' hw=>(g1.b.chg hw fun e=>e).cell (o:=0) rfl) ?_
  (repeat' (refine aa9 ?_))
  refine cO Pq (fun w' hw=>hw.keep) rfl rfl (by omega) (by rw [Int.toNat_natCast];exact hy) fun b o cs hl hR hat=>?_
  obtain rfl:cs=nbC y:=hR
  (repeat' (refine aa8 ?_))
  refine aC (u:=.bool (y.st == 1)) rfl (fun w' hw=>(hat w' hw).get 7 rfl) ?_
  clear hat
  have hok: ∀(b2:Option Nat) (w':World),New w1 w'→(∀j,b2=some j→j<N.length)→(if y.st≠1∧(∀j,best=some j→y.bn.path<(bnF N j).path) then some m else best)=b2→(k+1≤bn.wants.length∧(∀j,b2=some j→j<N.length)∧rQ (bnF N) (stF N) none bn.wants=rQ (bnF N) (stF N) b2 (bn.wants.drop (k+1))∧New W w'):=fun b2 w' n' hb2 e=>⟨by omega,hb2,by rw [hgo,e],New.trans n1 n'⟩
  clear hgo
  have hsm: ∀j,some m=some j→j<N.length:=fun j e=>by cases e;exact hml
  cases hst:(y.st == 1) with
  |true=>
   have hst':y.st=1:=by simpa using hst
   (repeat' (first|refine aa9 ?_|refine ax ?_|refine dN rfl rfl ?_|refine jA rfl ?_|refine uY ?_|refine dP rfl ?_))
   intro w2 n2
   (repeat' (first|refine aa0 ?_|refine af ?_|refine ah ?_|refine ak ?_|refine Wc.skip ?_|refine aH ?_|refine aa4 ?_|refine aa7 ?_))
   exact aG (k+1,best) ⟨rfl,rfl,rfl,rfl,rfl,trivial⟩ (hok best w2 n2 hbl (if_neg fun e=>e.1 hst')) (by dsimp only;omega)
  |false=>
   have hst':y.st≠1:=by simpa using hst
   cases best with
   |none=>
    rw [show qy none= -1 from rfl]
    (repeat' (first|refine aa9 ?_|refine ax ?_|refine qE ?_|refine dN rfl rfl ?_|refine xh ?_|refine dP rfl ?_|(refine eu rfl rfl (fun _=>?_) (fun _=>?_)<;>(first|(exfalso;omega)|skip))))
    intro w2 n2
    (repeat' (first|refine aa0 ?_|refine aa1 ?_|refine af ?_|refine ah ?_|refine ak ?_|refine aH ?_|refine aa3 ?_|refine aa7 ?_))
    exact aG (k+1,some m) ⟨rfl,rfl,rfl,rfl,rfl,trivial⟩ (hok (some m) w2 n2 hsm (if_pos ⟨hst',fun j e=>by cases e⟩)) (by dsimp only;omega)
   |some j=>
    rw [show qy (some j)=(j:Int) from rfl]
    have hjl:=hbl j rfl
    obtain ⟨z,hz⟩:=nV N hjl
    (repeat' (first|refine aa9 ?_|refine qE ?_|refine dP rfl ?_|refine bf rfl ?_|refine aa8 ?_|(refine eu rfl rfl (fun _=>?_) (fun _=>?_)<;>(first|(exfalso;omega)|skip))))
    refine aC (u:=.slice na N.length nc) rfl (fun w' hw=>(g1.b.chg hw fun e=>e).cell (o:=0) rfl) ?_
    (repeat' (first|refine aa9 ?_|refine qE ?_))
    refine cO Pq (fun w' hw=>hw.keep) rfl rfl (by omega) (by rw [Int.toNat_natCast];exact hy) fun b o cs hl hR hat=>?_
    obtain rfl:cs=nbC y:=hR
    (repeat' (first|refine qE ?_|refine aa8 ?_))
    refine aC (u:=vs y.bn.path) rfl (fun w' hw=>(hat w' hw).get 0 rfl) ?_
    clear hat
    (repeat' (first|refine aa9 ?_|refine qE ?_|refine bf rfl ?_|refine aa8 ?_))
    refine aC (u:=.slice na N.length nc) rfl (fun w' hw=>(g1.b.chg hw fun e=>e).cell (o:=0) rfl) ?_
    (repeat' (first|refine aa9 ?_|refine qE ?_))
    refine cO Pq (fun w' hw=>hw.keep) rfl rfl (by omega) (by rw [Int.toNat_natCast];exact hz) fun b o cs hl hR hat=>?_
    obtain rfl:cs=nbC z:=hR
    (repeat' (first|refine qE ?_|refine aa8 ?_))
    refine aC (u:=vs z.bn.path) rfl (fun w' hw=>(hat w' hw).get 0 rfl) ?_
    clear hat
    (repeat' (refine qE ?_))
    refine Wq.slss rfl rfl (fun hlt=>?_) (fun hlt=>?_)
    ·(repeat' (first|refine ax ?_|refine qE ?_|refine xh ?_|refine uY ?_))
     intro w2 n2
     (repeat' (first|refine aa0 ?_|refine aa1 ?_|refine af ?_|refine ah ?_|refine ak ?_|refine aH ?_|refine aa3 ?_|refine aa7 ?_))
     exact aG (k+1,some m) ⟨rfl,rfl,rfl,rfl,rfl,trivial⟩ (hok (some m) w2 n2 hsm (if_pos ⟨hst',fun q e=>by cases e;rw [sO hz];exact hlt⟩)) (by dsimp only;omega)
    ·(repeat' (first|refine ax ?_|refine qE ?_|refine xh ?_|refine uY ?_))
     intro w2 n2
     (repeat' (first|refine aa0 ?_|refine af ?_|refine ah ?_|refine ak ?_|refine Wc.skip ?_|refine aH ?_|refine aa4 ?_|refine aa7 ?_))
     exact aG (k+1,some j) ⟨rfl,rfl,rfl,rfl,rfl,trivial⟩ (hok (some j) w2 n2 hbl (if_neg fun e=>hlt (by have:=e.2 j rfl;rw [sO hz] at this;exact this))) (by dsimp only;omega)
 ·obtain rfl:k=bn.wants.length:=by omega
  rw [List.drop_length,rQ] at hgo
  exact aF rfl rfl ⟨_,rfl,(congrArg (fun o=>vi (qy o)) hgo).symm,n1⟩
end
end Go.Proofs.YtjecgaiaiophpaaGreatDoor
namespace Go.Proofs.YtjecgaiaiophpaaGreatDoor
open Go Wk
open Go.RowKit (Below)
attribute [local irreducible] Go.Calls
abbrev rwC (r:Nat×Option Nat×Int):List Value:=[.int .u8 r.1,vi (qy r.2.1),vi r.2.2]
section
variable {Pb:Nat→Prop} {bw bm:Nat} {N:List Nb} {ord:List Nat} {fl:List (Nm×Int)} {nv ov:Value} {W W':World}
theorem VB {i:Nat} (g:WkM Pb bw bm N ord fl nv ov W) (hi:i<N.length):
 Calls Tryz.prog 62 #[pT bw,vi i] W (Ret fun r w'=>r=.agg (rwC (rowOf (bnF N) (stF N) i)).toArray∧New W w'):=by
 have hnl:=g.nl
 obtain ⟨na,nc,rfl,_,_⟩:=g.nd.row.form
 have hrd:=g.nd.row.rd (nP nbC)
 obtain ⟨x,hx⟩:=nV N hi
 unfold rowOf
 rw [sO hx,wU hx]
 refine nI Tryz.func62 rfl Tryz.ntmps62 rfl ?_
 (repeat' (first|refine au ?_|refine ak ?_))
 refine Wl.alloc fun w1 b4 n1 s1=>?_
 replace b4:Bk w1 W.heap.size 39 [.int .u8 0,vi 0,vi 0]:=b4
 have g1:=g.new n1
 (repeat' (first|refine aa0 ?_|refine af ?_|refine ah ?_|refine au ?_|refine ak ?_|refine bK rfl ?_|refine aa5 ?_))
 refine ay (u:=.slice na N.length nc) rfl (g1.b.cell (o:=0) rfl) ?_
 (repeat' (refine aa0 ?_))
 refine aU (hrd.keep (nY nbC) n1.keep) rfl rfl (by omega) hx fun b o cs hl hR hat=>?_
 obtain rfl:cs=nbC x:=hR
 refine bG hat rfl rfl ?_
 clear hat
 refine Wl.alloc fun w2 b5 n2 s2=>?_
 refine aX (new:=nbC x) b5 rfl rfl rfl rfl (show (9:Nat)≤9 from Nat.le_refl 9) (Vz x) fun w3 b5' c3 s3=>?_
 replace b5':Bk w3 w1.heap.size 118 (nbC x):=b5'
 have n13:New w1 w3:=(Chg.trans n2.any c3 fun _ _ e=>e).toNew fun k hk e=>by omega
 clear b5 n2 c3
 (repeat' (first|refine af ?_|refine ah ?_|refine au ?_|refine ak ?_|refine aa5 ?_))
 refine bG (cs:=[.int .u8 x.bn.reason,vi (qy x.bn.card),vi x.bn.why]) (o:=0+3) (fun j u hu=>b5'.cell (o:=0+3+j) (by rw [show 0+3+j=j+3 by omega];match j,hu with|0,h=>exact h|1,h=>exact h|2,h=>exact h|j+3,h=>cases h)) rfl rfl ?_
 refine Wl.alloc fun w4 b6 n4 s4=>?_
 refine aX (new:=[.int .u8 x.bn.reason,vi (qy x.bn.card),vi x.bn.why]) b6 rfl rfl rfl rfl (show (3:Nat)≤3 from Nat.le_refl 3) (by intro c hc;simp at hc;rcases hc with rfl|rfl|rfl<;>rfl) fun w5 b6' c5 s5=>?_
 replace b6':Bk w5 w3.heap.size 39 [.int .u8 x.bn.reason,vi (qy x.bn.card),vi x.bn.why]:=b6'
 have n35:New w3 w5:=(Chg.trans n4.any c5 fun _ _ e=>e).toNew fun k hk e=>by omega
 clear b6 n4 c5
 have n15:=New.trans n13 n35
 have b45:=b4.chg n15 fun e=>e
 have b55:=b5'.chg n35 fun e=>e
 have n05:=New.trans n1 n15
 have z1:=n1.size
 have z13:=n13.size
 have hb4:=b4.lt
 have hb5:=b5'.lt
 clear b4 b5' n13 n35 n15 g1
 (repeat' (first|refine af ?_|refine ah ?_))
 refine dV (fun F w6=>agrees F [(4,pT W.heap.size),(6,pT w3.heap.size)]∧Bk w6 W.heap.size 39 [.int .u8 0,vi 0,vi 0]∧Bk w6 w3.heap.size 39 (rwC (if x.bn.reason≠0∨x.st=1 then (x.bn.reason,x.bn.card,x.bn.why) else if x.st=2 then (7,x.bn.card,x.bn.why) else (8,x.bn.card,match rV (bnF N) (stF N) i with|some k=>(k:Int)|none=> -1)))∧New W w6) ?_ ?_
 ·(repeat' (first|refine au ?_|refine ak ?_|refine Wc.block ?_|refine aa5 ?_))
  refine ay (u:=.int .u8 x.bn.reason) rfl (b6'.cell (o:=0) rfl) ?_
  (repeat' (first|refine aa0 ?_|refine aa1 ?_|refine af ?_|refine aa6 ?_|refine qi ?_|refine pU ?_|refine ah ?_|refine Wc.skip ?_|refine aH ?_|refine aa3 ?_|refine aa5 ?_|refine qf (fun _=>?_) (fun _=>?_)))
  ·have hr:x.bn.reason≠0:=by omega
   exact cu ⟨⟨rfl,rfl,trivial⟩,b45,by rw [if_pos (.inl hr)];exact b6',n05⟩
  ·have hr:x.bn.reason=0:=by omega
   refine ay (u:=.bool (x.st == 1)) rfl (b55.cell (o:=7) rfl) ?_
   cases hs1:(x.st == 1) with
   |true=>
    (repeat' (first|refine aa1 ?_|refine af ?_|refine pI ?_|refine ah ?_|refine Wc.skip ?_|refine aH ?_|refine aa3 ?_))
    exact cu ⟨⟨rfl,rfl,trivial⟩,b45,by rw [if_pos (.inr (by simpa using hs1))];exact b6',n05⟩
   |false=>
    have hs1':x.st≠1:=by simpa using hs1
    rw [if_neg (fun e=>e.elim (fun e=>e hr) hs1')]
    (repeat' (first|refine aa1 ?_|refine af ?_|refine pI ?_|refine ah ?_|refine au ?_|refine ak ?_|refine aa4 ?_|refine aa5 ?_))
    refine ay (u:=.bool (x.st == 2)) rfl (b55.cell (o:=8) rfl) ?_
    cases hs2:(x.st == 2) with
    |true=>
     rw [if_pos (by simpa using hs2)]
     (repeat' (first|refine aa1 ?_|refine af ?_|refine ah ?_|refine ak ?_|refine aa3 ?_|refine aa5 ?_))
     refine aY (u:=.int .u8 7) b6' rfl (show (0:Nat)<3 by omega) rfl rfl fun w7 b7 c7=>?_
     (repeat' (first|refine af ?_|refine aH ?_))
     exact cu ⟨⟨rfl,rfl,trivial⟩,b45.chg c7 (fun e=>by omega),b7,(Chg.trans n05.any c7 fun _ _ e=>e).toNew fun k hk e=>by omega⟩
    |false=>
     rw [if_neg (by simpa using hs2)]
     (repeat' (first|refine aa0 ?_|refine aa1 ?_|refine af ?_|refine ah ?_|refine ak ?_|refine aa4 ?_))
     refine aB (Dj (g.new n05) hi) rfl ?_
     rintro _ w7 ⟨rfl,n7⟩
     (repeat' (refine aa5 ?_))
     refine aY (u:=.int .u8 8) (b6'.chg n7 fun e=>e) rfl (show (0:Nat)<3 by omega) rfl rfl fun w8 b8 c8=>?_
     (repeat' (refine aa5 ?_))
     refine aY (u:=vi (qy (rV (bnF N) (stF N) i))) b8 rfl (show (2:Nat)<3 by omega) rfl rfl fun w9 b9 c9=>?_
     have c79:Chg (fun k=>k=w3.heap.size) w7 w9:=Chg.trans c8 c9 fun _ _ e=>e
     (repeat' (first|refine af ?_|refine aH ?_))
     refine cu ⟨⟨rfl,rfl,trivial⟩,(b45.chg n7 fun e=>e).chg c79 (fun e=>by omega),?_,(Chg.trans (New.trans n05 n7).any c79 fun _ _ e=>e).toNew fun k hk e=>by omega⟩
     cases hw:rV (bnF N) (stF N) i<;>(rw [hw] at b9;exact b9)
 ·rintro F w6 ⟨hF,h4,h6,n6⟩
  rw [←oN hF]
  simp only [oU]
  clear hF
  (repeat' (first|refine au ?_|refine ak ?_))
  refine bM h6 rfl rfl ?_
  refine aX (new:=rwC _) h4 rfl rfl rfl rfl (show (3:Nat)≤3 from Nat.le_refl 3) (by intro c hc;simp at hc;rcases hc with rfl|rfl|rfl<;>rfl) fun w7 h4' c7 s7=>?_
  (repeat' (first|refine af ?_|refine ah ?_|refine aA ?_))
  exact jJ (hu:=⟨Tryz.underlying39⟩) (sz:=3) rfl rfl rfl h4' rfl rfl ⟨_,rfl,rfl,(Chg.trans n6.any c7 fun _ _ e=>e).toNew fun k hk e=>by omega⟩
end
end Go.Proofs.YtjecgaiaiophpaaGreatDoor
namespace Go.Proofs.YtjecgaiaiophpaaGreatDoor
open Go Wk
open Go.RowKit (Below)
attribute [local irreducible] Go.Calls
section
variable {P:Program} {n:Nat} {ds:List Deferred} {C:World→Prop} {K:Fr→Prop} {F:Fr} {ops rest:List Oper} {d:Nat} {ty:TypeId} {pos:String} {aft:Array Edge}
theorem jW {x i:Operand} {t k e:TypeId} {sz bytes:Nat} {agg:Bool} {z:Value} {b:Nat} {l:List (Value×Value)} {key:Value} {q:Lit} [ht:Und P t (.map k e)] [he:ElT P e sz bytes agg z] (Kd:Maps.Keyed P k) (hC: ∀w',C w'→rC P k w' b l) (hu: ∀r r',(key,r)∈l→(key,r')∈l→r=r') (hq:keyOf P k key=some q)
 (hx:ev n F x=.map (some b)) (hi:ev n F i=key) (c1: ∀r,(key,r)∈l→Wq P n ds C K ops rest (upd F d r)) (c2:(∀p∈l,p.1≠key)→Wq P n ds C K ops rest (upd F d z)):
 Wq P n ds C K ops (⟨some d,.lookup t x i false,ty,pos,aft,none⟩::rest) F:=by
 by_cases hin: ∃r,(key,r)∈l
 ·obtain ⟨u0,hin⟩:=hin
  refine Wq.val (v:=u0) (fun w hw=>?_) (c1 u0 hin)
  obtain ⟨r,hr,hp|⟨_,hp⟩⟩:=zB ht.h he Kd (hC w hw) hq
  ·rw [hu _ _ hp hin] at hr
   simp only [execOp,hx,hi,Sem.run_bind,hr,Result.andThen_ok,Sem.run_pure]
  ·exact absurd rfl (hp _ hin)
 ·have hno: ∀p∈l,p.1≠key:=fun p hp e=>hin ⟨p.2,e▸hp⟩
  refine Wq.val (v:=z) (fun w hw=>?_) (c2 hno)
  obtain ⟨r,hr,hp|⟨rfl,hp⟩⟩:=zB ht.h he Kd (hC w hw) hq
  ·exact absurd rfl (hno _ hp)
  ·simp only [execOp,hx,hi,Sem.run_bind,hr,Result.andThen_ok,Sem.run_pure]
end
section
variable {β γ:Type} {f:β→List Value} {g:β→Value} {xs:β→List γ} {h:γ→Value} {te e sz:Nat} {Pb:Nat→Prop} {w w':World} {v:Value} {bs:List β}
theorem Wk.LLs.put (H:LLs f g xs h te e sz Pb w v bs) {i:Nat} {b b':β} (hi:bs[i]? =some b) (hg:g b'=g b) (hx:xs b'=xs b) (hr:nO (flat f) te sz Pb (fun _=>False) w' v (bs.set i b')) (c:Chg (fun k=>v.ownBlock=some k) w w'):LLs f g xs h te e sz Pb w' v (bs.set i b'):=
 H.set hi (w1:=w) (by rw [hg,hx];exact H.el b (List.mem_of_getElem? hi)) (aQ _ _) (.inl (by rw [hg])) hr c
end
def flF (L:List (Nm×Int)) (s:Nm):Bool:=L.any fun p=>decide (p.1=s∧0<p.2)
theorem Gl: ∀ {L:List (Nm×Int)},(L.map (·.1)).Nodup→ ∀ {s:Nm} {a b:Int},(s,a)∈L→(s,b)∈L→a=b
 | [],_,s,a,b,h,_=>by cases h
 |p::r,hn,s,a,b,h1,h2=>by
  rw [List.map_cons,List.nodup_cons] at hn
  rcases List.mem_cons.1 h1 with e1|h1<;>rcases List.mem_cons.1 h2 with e2|h2
  ·rw [←e1] at e2;cases e2;rfl
  ·exact absurd (List.mem_map.2 ⟨_,h2,by rw [←e1]⟩) hn.1
  ·exact absurd (List.mem_map.2 ⟨_,h1,by rw [←e2]⟩) hn.1
  ·exact Gl hn.2 h1 h2
theorem QY {L:List (Nm×Int)} (hn:(L.map (·.1)).Nodup) {s:Nm} {c:Int} (h:(s,c)∈L):flF L s=decide (0<c):=by
 unfold flF
 by_cases hc:0<c
 ·rw [decide_eq_true hc]
  exact List.any_eq_true.2 ⟨_,h,decide_eq_true ⟨rfl,hc⟩⟩
 ·rw [decide_eq_false hc]
  refine List.any_eq_false.2 fun p hp e=>?_
  have e:=of_decide_eq_true e
  obtain ⟨ps,pc⟩:=p
  obtain rfl:ps=s:=e.1
  rw [Gl hn h hp] at hc
  exact hc e.2
theorem YL {L:List (Nm×Int)} {s:Nm} (h: ∀p∈L,p.1≠s):flF L s=false:=
 List.any_eq_false.2 fun p hp e=>h p hp (of_decide_eq_true e).1
section
variable {Pb:Nat→Prop} {bw bm:Nat} {N:List Nb} {ord:List Nat} {fl:List (Nm×Int)} {nv ov:Value} {W W':World}
theorem Xq {i s:Nat} {x:Nb} (hx:N[i]? =some x):bnF (N.set i {x with st:=s})=bnF N:=by
 funext k
 unfold bnF
 rw [List.getD_eq_getElem?_getD,List.getD_eq_getElem?_getD,List.getElem?_set]
 by_cases e:i=k
 ·subst e
  rw [if_pos rfl,if_pos (List.getElem?_eq_some_iff.1 hx).1,hx];rfl
 ·rw [if_neg e]
theorem Xr {i s:Nat} {x:Nb} (hx:N[i]? =some x):stF (N.set i {x with st:=s})=fun k=>if k=i then s else stF N k:=by
 funext k
 unfold stF
 rw [List.getD_eq_getElem?_getD,List.getD_eq_getElem?_getD,List.getElem?_set]
 by_cases e:i=k
 ·subst e
  rw [if_pos rfl,if_pos (List.getElem?_eq_some_iff.1 hx).1,if_pos rfl];rfl
 ·rw [if_neg e,if_neg (fun h=>e h.symm)]
theorem WkM.chg {M:Nat→Prop} (g:WkM Pb bw bm N ord fl nv ov W) (c:Chg M W W') (h: ∀k,Pb k→ ¬M k):WkM Pb bw bm N ord fl nv ov W':=
 ⟨g.b.chg c (h bw g.lo2.1),g.nd.chg c h,g.od.chg (nM _) c fun k hk=>h k (g.od.lt hk).1,g.mp.chg c (h bm g.lo2.2),g.so,g.win,g.nl,g.fn,g.lo2⟩
theorem WkM.mono {Pb':Nat→Prop} (g:WkM Pb bw bm N ord fl nv ov W) (h: ∀b,b<W.heap.size→Pb b→Pb' b):WkM Pb' bw bm N ord fl nv ov W:=
 ⟨g.b,g.nd.mono h,g.od.mono (nU _) h (fun _ _ e=>e),g.mp,g.so,g.win,g.nl,g.fn,⟨h _ g.b.lt g.lo2.1,h _ g.mp.lt g.lo2.2⟩⟩
theorem WkM.put (g:WkM Pb bw bm N ord fl nv ov W) {i s:Nat} {x:Nb} (hx:N[i]? =some x) (hr:nO (flat nbC) 118 9 Pb NoB W' nv (N.set i {x with st:=s})) (c:Chg (fun k=>nv.ownBlock=some k) W W'):WkM Pb bw bm (N.set i {x with st:=s}) ord fl nv ov W':=by
 have hm: ∀y∈N.set i {x with st:=s}, ∃z∈N,y.bn=z.bn∧y.wv=z.wv:=fun y hy=>by
  rcases List.mem_or_eq_of_mem_set hy with hy|rfl
  ·exact ⟨y,hy,rfl,rfl⟩
  ·exact ⟨x,List.mem_of_getElem? hx,rfl,rfl⟩
 refine ⟨g.b.chg c fun e=>g.nd.row.pO g.b rfl e rfl,g.nd.put hx rfl rfl hr c,g.od.chg (nM _) c fun k hk e=>g.od.um g.nd.row rfl k hk e,g.mp.chg c (fun e=>g.nd.row.rE g.mp e rfl),fun y hy=>?_,fun y hy k hk=>?_,by rw [List.length_set];exact g.nl,⟨g.fn.1,fun y hy=>?_⟩,g.lo2⟩
 ·obtain ⟨z,hz,_,e⟩:=hm y hy
  rw [e];exact g.so z hz
 ·obtain ⟨z,hz,e,_⟩:=hm y hy
  rw [e] at hk;rw [List.length_set];exact g.win z hz k hk
 ·obtain ⟨z,hz,e,_⟩:=hm y hy
  rw [e];exact g.fn.2 z hz
def NH (Pb:Nat→Prop) (bw bm:Nat) (N:List Nb) (ord:List Nat) (fl:List (Nm×Int)) (nv ov:Value) (i:Nat) (w w':World):Prop:=
 ∃N',WkM Pb bw bm N' ord fl nv ov w'∧N'.length=N.length∧bnF N'=bnF N∧stF N'=(qY (bnF N) (flF fl) (stF N) i).getD (stF N)∧Chg (fun k=>nv.ownBlock=some k) w w'
end
end Go.Proofs.YtjecgaiaiophpaaGreatDoor
