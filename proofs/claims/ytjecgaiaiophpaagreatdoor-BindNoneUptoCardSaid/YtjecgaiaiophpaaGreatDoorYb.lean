/-
  Texts of this claim, one behind the other: Tb, Sp, B1, Lit, Jg, Ut, Ho, BJ, B5, B2, B6, B3, B4, B7, So, BH, BI, Br, If, Pan, BE, It, BN, B9, BD, BK, Mp, Mq, At, Lo, BO, BF, C1.
-/
import Derived.Test.YtjecgaiaiophpaaGreatDoorYa
import Derived.Shelf.Strings.Split
import Derived.Shelf.Strings.SplitShaped
import Derived.Sort.Row
import Derived.Sort.Grow
import Derived.Lib.Join
import Derived.Lib.IndexLaws
import Derived.Lib.SplitLaws
import Derived.Shelf.Strings.SplitCore
import Derived.Lib.IfaceEq
import Derived.WideLaws
import Derived.Defers
import Derived.Recover
import Derived.Laws.Cover1
import Derived.Lib.OthersKept
import Derived.Lib.TrimUEq
import Derived.Laws.BitsLemmas
set_option linter.all false
set_option maxHeartbeats 16000000
set_option maxRecDepth 8000
namespace Go.Proofs.YtjecgaiaiophpaaGreatDoor
open Go Wk
open Go.RowKit (Below)
attribute [local irreducible] Go.Calls
abbrev Kid:=Int×List UInt8
def IJ (k:Kid):Value:=.agg #[vi k.1,vs k.2]
theorem RZ {a b:Kid} (h:IJ a=IJ b):a=b:=by
 obtain ⟨a1,a2⟩:=a
 obtain ⟨b1,b2⟩:=b
 simp only [IJ,Value.agg.injEq] at h
 have h':=congrArg Array.toList h
 simp only [List.cons.injEq,and_true] at h'
 have e1:a1=b1:=by have:=h'.1;simpa using this
 rw [e1,wu h'.2]
theorem JO:Maps.Keyed Tryz.prog 251:=
 Maps.Keyed.of_law (deep_law (m:=2) (by decide) (by kernel_rfl) (by kernel_rfl) (by rw [Tryz.underlying251]))
theorem WE (p:Int) (s:List UInt8) (h0:0≤p) (h1:p<1000) (hs:s.length≤31): ∃q,keyOf Tryz.prog 251 (IJ (p,s))=some q:=by
 have h1':Tryz.prog.keyType 251=true:=by kernel_rfl
 have h2:(IJ (p,s)).formed Tryz.prog 251=true:=by kernel_rfl
 have hc:Tryz.prog.cellsOf 251=2:=by kernel_rfl
 have hi:Tryz.prog.cellsOf 3=1:=by kernel_rfl
 have hst:Tryz.prog.cellsOf 9=1:=by kernel_rfl
 have hw:(Lit.int .i64 p).wf=true:=by simp [Lit.wf,IntKind.min,IntKind.max,IntKind.signed,IntKind.bits];omega
 have hl:(⟨s.toArray⟩:ByteArray).size≤maxLen:=by simp only [ByteArray.size,List.size_toArray,maxLen];omega
 obtain ⟨D,hD⟩: ∃D,Tryz.prog.types.size=D+1:=⟨_,show Tryz.prog.types.size=(Tryz.prog.types.size-1)+1 by kernel_rfl⟩
 have e1:Tryz.prog.keyLits (D+1) 3 [vi p]=some [.int .i64 p]:=by
  simp [Program.keyLits,Tryz.underlying3,hw]
 have e2:Tryz.prog.keyLits (D+1) 9 [vs s]=some [.string s]:=by
  simp [Program.keyLits,Tryz.underlying9,hl]
 have h3: ∃L,Tryz.prog.keyLits (Tryz.prog.types.size+1) 251 [vi p,vs s]=some L:=by
  rw [hD]
  refine ⟨[.int .i64 p,.string s],?_⟩
  simp [Program.keyLits,Tryz.underlying251,Tryz.underlying3,Tryz.underlying9,hc,hi,hst,hw,hl]
 obtain ⟨L,h3⟩:=h3
 unfold keyOf
 rw [Tryz.underlying251]
 simp only [h1',h2,Bool.and_self,if_true]
 exact ⟨_,by rw [show (IJ (p,s)).cells.toList=[vi p,vs s] from rfl,h3];rfl⟩
def vJ:Nat→List Int→List Int→List Kid→List Nd→Int×Option (List Int)
 |_,dp,_,_,[]=>(0,some dp)
 |i,dp,pt,sn,x::r=>
  if 512≤i∨yM x.oJ=false then ((i:Int),none)
  else if i=0 then (if x.parent≠ -1∨x.name≠ [] then (0,none) else vJ 1 (dp++ [1]) [0] sn r)
  else if pY x.name=false∨x.parent<0∨(i:Int)≤x.parent then ((i:Int),none)
  else if (pt.length:Int)<dp.getD x.parent.toNat 0∨pt.getD (dp.getD x.parent.toNat 0-1).toNat 0≠x.parent∨16<dp.getD x.parent.toNat 0+1∨sn.contains (x.parent,x.name)=true then ((i:Int),none)
  else vJ (i+1) (dp++ [dp.getD x.parent.toNat 0+1]) (pt.take (dp.getD x.parent.toNat 0).toNat++ [(i:Int)]) (sn++ [(x.parent,x.name)]) r
theorem MK {Pb:Nat→Prop} {w:World} {v:Value} {l:List Nd} (h:RdS rNd 3 Pb w v l):
 Calls Tryz.prog 90 #[v] w (Ret fun r w'=>(∃u,r=.tuple #[vi (vJ 0 [] [] [] l).1,u,.bool ((vJ 0 [] [] [] l).2.isSome&&decide (0<l.length))])∧New w w'):=by
 obtain ⟨a,cap,rfl,hc1,hc2⟩:=h.form
 simp only [maxLen] at hc2
 refine mQ (n:=116) Tryz.func90 rfl rfl rfl ?_
 (repeat' (first|refine aa0 ?_|refine aa1 ?_|refine af ?_|refine aO rfl ?_|refine ah ?_|refine aj ?_|refine ai ?_))
 refine Wl.aac rfl rfl ?_
 refine iP (R:=Wk.one vi) (Pe:=fun _=>False) (c:=if (512:Int)<(l.length:Int) then 512 else (l.length:Int)) rfl rfl (by split<;>omega) (by split<;>omega) (by split<;>omega) fun vd w1 od n1=>?_
 (repeat' (first|refine aa1 ?_|refine af ?_|refine ah ?_|refine aj ?_|refine ai ?_))
 refine fV (k:=251) fun w2 m2 n2 s2=>?_
 have od2:=(od.mono (Pb':=fun b=>w.heap.size≤b∧b≠w1.heap.size) (nD _) (fun b hb h=>⟨h,by omega⟩) (fun _ _ h=>h)).new (mZ _) n2
 clear od
 replace n2:=New.trans n1 n2
 have hs1:=n1.size
 generalize hbm:w1.heap.size=bm at m2 od2
 (repeat' (first|refine aa0 ?_|refine aa1 ?_|refine af ?_|refine aO rfl ?_|refine ah ?_|refine aj ?_|refine ai ?_|refine Wc.block ?_))
 refine aU (σ:=Nat×Value×Value×List Int×List Int×List Kid) (fun s=>[(0,.slice a l.length cap),(5,s.2.1),(6,s.2.2.1),(7,.map (some bm)),(17,.slice a l.length cap),(18,vi l.length),(19,vi s.1)])
  (fun s w'=>s.1≤l.length∧s.1≤512∧vJ 0 [] [] [] l=vJ s.1 s.2.2.2.1 s.2.2.2.2.1 s.2.2.2.2.2 (l.drop s.1)∧s.2.2.2.1.length=s.1∧(∀x∈s.2.2.2.1,1≤x∧x≤16)∧s.2.2.2.2.1.length≤17∧
    ny (Wk.one vi) 3 1 (fun b=>w.heap.size≤b∧b≠bm) (fun _=>False) w' s.2.1 s.2.2.2.1∧ny (Wk.one vi) 3 1 (fun b=>w.heap.size≤b∧b≠bm) (fun _=>False) w' s.2.2.1 s.2.2.2.2.1∧Sep s.2.1 s.2.2.1∧
    qO Tryz.prog 251 w' bm (PU IJ s.2.2.2.2.2)∧New w w') (fun s=>l.length-s.1) (0,vd,.slice none 0 0,[],[],[]) ⟨rfl,rfl,rfl,rfl,rfl,rfl,rfl,trivial⟩
  ⟨Nat.zero_le _,by simp,by simp,rfl,by simp,by simp,od2,bK,fun _ _=>by simp [Value.ownBlock],m2,n2⟩ ?_
 rintro ⟨i,vd,vp,dp,pt,sn⟩ G w3 ⟨hi,ac3,hgo,hdl,hd,hpl,od3,op3,hsep,m3,n3⟩
 dsimp only at hi ac3 hgo hdl hd hpl od3 op3 hsep m3 n3
 obtain ⟨pp,cp,rfl,_,_⟩:=op3.form
 simp only [oO]
 (repeat' (first|refine aa0 ?_|refine aa1 ?_|refine af ?_|refine aO rfl ?_|refine ah ?_|refine aj ?_|refine ai ?_|refine Wc.block ?_|refine Wc.skip ?_|refine aQ ?_|refine ax ?_|refine aS ?_|refine aP ?_|refine aT ?_|refine aa3 ?_|refine aa4 ?_|refine aa9 (fun _=>?_) (fun _=>?_)|refine bM rfl rfl (fun _=>?_) (fun _=>?_)))
 ·obtain ⟨x,hx⟩:=nN l (k:=i) (by omega)
  refine dW h n3.keep rfl rfl (by omega) hx fun b o cs hl hR hat=>?_
  obtain ⟨pv,rfl,hpr⟩:=hR
  refine bQ hat rfl rfl ?_
  refine Wl.alloc fun w4 b4 n4 s4=>?_
  (repeat' (refine aa1 ?_))
  refine aX (new:=[vi x.parent,vs x.name,pv]) b4 rfl rfl rfl rfl (show (3:Nat)≤3 from Nat.le_refl 3) (WC.oc Pb w x _ ⟨pv,rfl,hpr⟩ rfl) fun w5 b5 c5 s5=>?_
  replace b5:Bk w5 w3.heap.size 51 [vi x.parent,vs x.name,pv]:=b5
  have m5:=(m3.keep n4.keep (Pb:=fun _=>True) trivial).chg c5 (by have:=m3.lt;omega)
  have od5:=(od3.new (mZ _) n4).chg (mZ _) c5 (fun k hk e=>by have:=(od3.lt hk).2;omega)
  have op5:=(op3.new (mZ _) n4).chg (mZ _) c5 (fun k hk e=>by have:=(op3.lt hk).2;omega)
  have hn3:=n3.size
  have n5:New w w5:=Chg.trans (New.trans n3 n4) c5 fun k hk e=>by omega
  have hbn:w3.heap.size≠bm:=by have:=m3.lt;omega
  clear m3 od3 op3 b4 c5 n4 n3
  rw [drop_cons hx] at hgo
  simp only [vJ] at hgo
  (repeat' (first|refine aa0 ?_|refine aa1 ?_|refine af ?_|refine aa6 ?_|refine qi ?_|refine pG ?_|refine ah ?_|refine aj ?_|refine ai ?_|refine ax ?_|refine aN ?_|refine bf ?_|refine bG ?_|refine aa3 ?_|refine aa5 ?_|refine cZ rfl rfl (fun _=>?_) (fun _=>?_)))
  ·rw [if_pos (.inl (by omega))] at hgo
   rw [hgo]
   exact dA rfl rfl rfl rfl ⟨_,rfl,⟨_,rfl⟩,n5⟩
  ·refine au rfl (b5.cell (o:=2) rfl) ?_
   refine aa6 ?_
   refine ay (MJ (hpr.keep (nU pC) n5.keep)) rfl ?_
   rintro _ w6 ⟨rfl,n6⟩
   have b6:=b5.keep n6.keep (Pb:=fun _=>True) trivial
   have m6:=m5.keep n6.keep (Pb:=fun _=>True) trivial
   have od6:=od5.new (mZ _) n6
   have op6:=op5.new (mZ _) n6
   replace n6:=New.trans n5 n6
   clear b5 m5 od5 op5
   cases hpo:yM x.oJ with
   |false=>
    (repeat' (first|refine aa0 ?_|refine aa1 ?_|refine af ?_|refine aa6 ?_|refine pq ?_|refine aZ rfl ?_|refine ah ?_|refine aj ?_|refine ai ?_|refine ax ?_|refine aN ?_|refine bf ?_|refine bG ?_|refine aa3 ?_))
    rw [if_pos (.inr hpo)] at hgo
    rw [hgo]
    exact dA rfl rfl rfl rfl ⟨_,rfl,⟨_,rfl⟩,n6⟩
   |true=>
    rw [if_neg (by rw [hpo];simp;omega)] at hgo
    (repeat' (first|refine aa0 ?_|refine af ?_|refine aa6 ?_|refine pq ?_|refine aZ rfl ?_|refine ah ?_|refine aj ?_|refine ai ?_|refine Wc.skip ?_|refine aa3 ?_|refine aa4 ?_|refine aa5 ?_|refine bV rfl rfl (fun _=>?_) (fun _=>?_)))
    ·have e0:i=0:=by omega
     subst e0
     rw [if_pos rfl] at hgo
     refine au rfl (b6.cell (o:=0) rfl) ?_
     (repeat' (first|refine aa0 ?_|refine aa1 ?_|refine af ?_|refine aa6 ?_|refine qi ?_|refine pG ?_|refine ah ?_|refine aj ?_|refine ai ?_|refine ax ?_|refine aN ?_|refine bf ?_|refine bG ?_|refine aa3 ?_|refine aa5 ?_|refine pV (fun _=>?_) (fun _=>?_)))
     ·rw [if_pos (.inl (by assumption))] at hgo
      rw [hgo]
      exact dA rfl rfl rfl rfl ⟨_,rfl,⟨_,rfl⟩,n6⟩
     ·refine au rfl (b6.cell (o:=1) rfl) ?_
      (repeat' (first|refine aa1 ?_|refine af ?_|refine aa6 ?_|refine pq ?_|refine ah ?_|refine aj ?_|refine ai ?_|refine Wc.skip ?_|refine ax ?_|refine aN ?_|refine bf ?_|refine bG ?_|refine aa3 ?_|refine aa4 ?_|refine gI rfl rfl (fun _=>?_) (fun _=>?_)))
      ·rw [if_pos (.inr (by assumption))] at hgo
       rw [hgo]
       exact dA rfl rfl rfl rfl ⟨_,rfl,⟨_,rfl⟩,n6⟩
      ·rw [if_neg (by simp only [not_or,Decidable.not_not];exact ⟨by assumption,by assumption⟩)] at hgo
       have s6:=n6.size
       refine dB (R:=Wk.one vi) (y:=0) (Pe:=fun _=>False) (tu _ fun _=>rfl) rfl rfl rfl rfl (by omega) (by omega) fun vp' w7 op7 n7 s7 hob=>?_
       have od7:=od6.new (mZ _) n7
       have m7:=m6.keep n7.keep (Pb:=fun _=>True) trivial
       have hm7:=m6.lt
       (repeat' (refine aa0 ?_))
       refine dF (y:=1) (tu _ fun _=>rfl) od7 rfl rfl rfl rfl rfl (by omega) (by omega) (by simp only [maxLen];omega) (by omega) rfl rfl fun vd' w8 p od8 c8 lie=>?_
       (repeat' (first|refine aa0 ?_|refine aa1 ?_|refine af ?_|refine ah ?_|refine ai ?_|refine aQ ?_|refine aS ?_|refine aP ?_|refine aa7 ?_))
       have hsp:Sep vp' vd:=fun k hk hk'=>by rw [hob] at hk;cases hk;have:=(od6.lt hk').2;omega
       refine aK (1,vd',vp',dp++ [1],[0],sn) ⟨rfl,rfl,rfl,rfl,rfl,rfl,rfl,trivial⟩ ⟨by dsimp only;omega,by dsimp only;omega,hgo,by simp [hdl],?_,by simp,od8.mono (nD _) (fun b hb h=>by rcases h with h|h;exact h;exact ⟨by omega,by omega⟩) (fun _ _ h=>h),
        (op7.mono (nD _) (fun b hb h=>⟨by omega,by omega⟩) (fun _ _ h=>h)).chg (mZ _) c8 hsp,(zB op7 hsp lie).symm,m7.chg c8 (fun e=>(od7.lt e).1.2 rfl),Chg.trans (New.trans n6 n7) c8 fun k hk e=>by have:=(od7.lt e).1.1;omega⟩ (by dsimp only;omega)
       intro y hy
       rcases List.mem_append.1 hy with hy|hy
       ·exact hd y hy
       ·simp at hy;omega
    ·have hi0:i≠0:=by omega
     rw [if_neg hi0] at hgo
     refine au rfl (b6.cell (o:=1) rfl) ?_
     refine ay (Hl (s:=x.name)) rfl ?_
     rintro _ w7 ⟨rfl,n7⟩
     have b7:=b6.keep n7.keep (Pb:=fun _=>True) trivial
     have m7:=m6.keep n7.keep (Pb:=fun _=>True) trivial
     have od7:=od6.new (mZ _) n7
     have op7:=op6.new (mZ _) n7
     replace n7:=New.trans n6 n7
     clear b6 m6 od6 op6
     (repeat' (first|refine aa0 ?_|refine aa1 ?_|refine af ?_|refine aa6 ?_|refine qi ?_|refine pG ?_|refine ah ?_|refine aj ?_|refine ai ?_|refine ax ?_|refine aN ?_|refine bf ?_|refine bG ?_|refine aa3 ?_|refine aa5 ?_|refine pV (fun _=>?_) (fun _=>?_)))
     ·rw [if_pos (.inl (Fp (by assumption)))] at hgo
      rw [hgo]
      exact dA rfl rfl rfl rfl ⟨_,rfl,⟨_,rfl⟩,n7⟩
     ·have hnm:=Ho (by assumption)
      refine au rfl (b7.cell (o:=0) rfl) ?_
      (repeat' (first|refine aa0 ?_|refine aa1 ?_|refine af ?_|refine aa6 ?_|refine qi ?_|refine pG ?_|refine pq ?_|refine ah ?_|refine aj ?_|refine ai ?_|refine ax ?_|refine aN ?_|refine bf ?_|refine bG ?_|refine aa3 ?_|refine aa5 ?_|refine aa9 (fun _=>?_) (fun _=>?_)))
      ·rw [if_pos (.inr (.inl (by assumption)))] at hgo
       rw [hgo]
       exact dA rfl rfl rfl rfl ⟨_,rfl,⟨_,rfl⟩,n7⟩
      ·refine au rfl (b7.cell (o:=0) rfl) ?_
       (repeat' (first|refine aa0 ?_|refine aa1 ?_|refine af ?_|refine aa6 ?_|refine pq ?_|refine ah ?_|refine aj ?_|refine ai ?_|refine Wc.skip ?_|refine ax ?_|refine aN ?_|refine bf ?_|refine bG ?_|refine aa3 ?_|refine aa4 ?_|refine aa5 ?_|refine cZ rfl rfl (fun _=>?_) (fun _=>?_)))
       ·rw [if_pos (.inr (.inr (by assumption)))] at hgo
        rw [hgo]
        exact dA rfl rfl rfl rfl ⟨_,rfl,⟨_,rfl⟩,n7⟩
       ·rw [if_neg (by rw [hnm];simp;omega)] at hgo
        obtain ⟨d,hdx⟩:=nN dp (k:=x.parent.toNat) (by omega)
        have hdr:=hd d (List.mem_of_getElem? hdx)
        rw [List.getD_eq_getElem?_getD,hdx,Option.getD_some] at hgo
        refine au rfl (b7.cell (o:=0) rfl) ?_
        refine bY (od7.rd (nD _)) rfl rfl (by omega) hdx fun b' o' hc=>?_
        refine au rfl hc ?_
        (repeat' (first|refine aa1 ?_|refine af ?_|refine ah ?_|refine aj ?_|refine ai ?_|refine aa5 ?_))
        refine au rfl (b7.cell (o:=0) rfl) ?_
        (repeat' (refine aa5 ?_))
        refine au rfl (b7.cell (o:=1) rfl) ?_
        refine bZ (ps:=[(0,.tmp 69),(1,.tmp 71)]) (parts:=[(0,vi x.parent),(1,vs x.name)]) rfl rfl (by simp [Value.cells]) ?_
        refine Wl.alloc fun w8 b8 n8 s8=>?_
        refine aX (new:=[vi x.parent,vs x.name]) b8 rfl rfl rfl rfl (show (2:Nat)≤2 from Nat.le_refl 2) (by simp;exact ⟨rfl,rfl⟩) fun w9 b9 c9 s9=>?_
        replace b9:Bk w9 w7.heap.size 251 [vi x.parent,vs x.name]:=b9
        have s7:=n7.size
        have m9:=(m7.keep n8.keep (Pb:=fun _=>True) trivial).chg c9 (by have:=m7.lt;omega)
        have od9:=(od7.new (mZ _) n8).chg (mZ _) c9 (fun k hk e=>by have:=(od7.lt hk).2;omega)
        have op9:=(op7.new (mZ _) n8).chg (mZ _) c9 (fun k hk e=>by have:=(op7.lt hk).2;omega)
        have n9:New w w9:=Chg.trans (New.trans n7 n8) c9 fun k hk e=>by omega
        have b79:=(b7.keep n8.keep (Pb:=fun _=>True) trivial).chg c9 (by have:=b7.lt;omega)
        clear m7 od7 op7 b8 c9 n8 b7
        (repeat' (first|refine af ?_|refine ah ?_|refine aj ?_))
        obtain ⟨q,hq⟩:=WE x.parent x.name (by omega) (by omega) (yN hnm)
        refine fM rfl (by kernel_rfl) ?_
        (repeat' (first|refine pF ?_|refine ak ?_|refine di rfl rfl ?_|refine fQ rfl rfl ?_|refine dM rfl (by conv=>{lhs;whnf}) ?_|refine Wq.oU rfl ?_|refine Wq.sub rfl rfl (by omega) (by omega) ?_|refine fO rfl rfl (fun _=>?_) (fun _=>?_)))
        ·intro w10 n10
         replace n10:=New.trans n9 n10
         (repeat' (first|refine aa0 ?_|refine aa1 ?_|refine af ?_|refine ah ?_|refine aj ?_|refine ai ?_|refine ax ?_|refine aN ?_|refine bf ?_|refine bG ?_|refine aa3 ?_))
         rw [if_pos (.inl (by omega))] at hgo
         rw [hgo]
         exact dA rfl rfl rfl rfl ⟨_,rfl,⟨_,rfl⟩,n10⟩
        ·obtain ⟨y,hy⟩:=nN pt (k:=(d-1).toNat) (by omega)
         rw [List.getD_eq_getElem?_getD,hy,Option.getD_some] at hgo
         (try refine di rfl rfl ?_)
         refine dJ (op9.rd (nD _)) (fun w' hw=>hw.keep) rfl rfl (by omega) hy fun b2 o2 hc2=>?_
         (try refine di rfl rfl ?_)
         refine aB rfl hc2 ?_
         (try refine di rfl rfl ?_)
         refine pK ?_
         (try refine di rfl rfl ?_)
         refine aB rfl (fun w' hw=>(b79.chg hw id).cell (o:=0) rfl) ?_
         (repeat' (first|refine pF ?_|refine ak ?_|refine di rfl rfl ?_|refine fQ rfl rfl ?_|refine dM rfl (by conv=>{lhs;whnf}) ?_|refine dS rfl (by conv=>{lhs;whnf}) ?_|refine Wq.add rfl rfl (by omega) (by omega) ?_|refine fO rfl rfl (fun _=>?_) (fun _=>?_)|refine Wq.neq rfl rfl (fun _=>?_) (fun _=>?_)))
         ·intro w10 n10
          replace n10:=New.trans n9 n10
          (repeat' (first|refine aa0 ?_|refine aa1 ?_|refine af ?_|refine ah ?_|refine aj ?_|refine ai ?_|refine ax ?_|refine aN ?_|refine bf ?_|refine bG ?_|refine aa3 ?_))
          rw [if_pos (.inr (.inl (by assumption)))] at hgo
          rw [hgo]
          exact dA rfl rfl rfl rfl ⟨_,rfl,⟨_,rfl⟩,n10⟩
         ·intro w10 n10
          replace n10:=New.trans n9 n10
          (repeat' (first|refine aa0 ?_|refine aa1 ?_|refine af ?_|refine ah ?_|refine aj ?_|refine ai ?_|refine ax ?_|refine aN ?_|refine bf ?_|refine bG ?_|refine aa3 ?_))
          rw [if_pos (.inr (.inr (.inl (by omega))))] at hgo
          rw [hgo]
          exact dA rfl rfl rfl rfl ⟨_,rfl,⟨_,rfl⟩,n10⟩
         ·(try refine di rfl rfl ?_)
          refine cu (fun w' hw=>(b9.chg hw id).at) rfl rfl ?_
          (try refine di rfl rfl ?_)
          refine kG JO m9 (u0:=.bool true) (fun p hp=>by obtain ⟨k,_,rfl⟩:=List.mem_map.1 hp;rfl) (fun w' hw=>hw.block _ m9.lt id) hq rfl rfl (fun hin=>?_) (fun hnot=>?_)
          ·have hcon:sn.contains (x.parent,x.name)=true:=by
            obtain ⟨k,hk,e⟩:=List.mem_map.1 hin
            simp only [Prod.mk.injEq,and_true] at e
            rw [RZ e] at hk
            exact List.contains_iff_mem.2 hk
           (repeat' (first|refine ak ?_|refine dS rfl (by conv=>{lhs;whnf}) ?_))
           intro w10 n10
           replace n10:=New.trans n9 n10
           (repeat' (first|refine aa0 ?_|refine aa1 ?_|refine af ?_|refine ah ?_|refine aj ?_|refine ai ?_|refine ax ?_|refine aN ?_|refine bf ?_|refine bG ?_|refine aa3 ?_))
           rw [if_pos (.inr (.inr (.inr hcon)))] at hgo
           rw [hgo]
           exact dA rfl rfl rfl rfl ⟨_,rfl,⟨_,rfl⟩,n10⟩
          ·have hcon:sn.contains (x.parent,x.name)=false:=by
            rw [Bool.eq_false_iff];intro hc
            exact hnot (IJ (x.parent,x.name),.bool true) (List.mem_map.2 ⟨_,List.contains_iff_mem.1 hc,rfl⟩) rfl
           have hy':y=x.parent:=by assumption
           rw [if_neg (by rw [hcon,hy'];simp;omega)] at hgo
           (repeat' (first|refine ak ?_|refine dS rfl (by conv=>{lhs;whnf}) ?_))
           intro w10 n10
           have m10:=m9.keep n10.keep (Pb:=fun _=>True) trivial
           have WG:=od9.new (mZ _) n10
           have WH:=op9.new (mZ _) n10
           have b10:=b9.keep n10.keep (Pb:=fun _=>True) trivial
           replace n10:=New.trans n9 n10
           clear m9 od9 op9 b9 n9
           (repeat' (first|refine aa0 ?_|refine ah ?_|refine aj ?_|refine ai ?_|refine Wc.skip ?_|refine aa4 ?_))
           refine dh b10 rfl rfl ?_
           refine fZ (u:=.bool true) (key:=IJ (x.parent,x.name)) JO m10 hq hnot rfl rfl rfl fun w11 m11 c11 s11=>?_
           have WI:=WG.chg (mZ _) c11 (fun k hk e=>(WG.lt hk).1.2 e)
           have Yp:=WH.chg (mZ _) c11 (fun k hk e=>(WH.lt hk).1.2 e)
           have n11:New w w11:=Chg.trans n10 c11 fun k hk e=>by omega
           have s9':=n11.size
           clear m10 WG WH b10 n10
           (repeat' (first|refine aa0 ?_|refine af ?_|refine ah ?_|refine ai ?_))
           refine kH Yp rfl rfl (by omega) (by omega) fun vq oq ob=>?_
           (repeat' (refine aa0 ?_))
           refine dF (y:=(i:Int)) (tu _ fun _=>rfl) oq rfl rfl rfl rfl rfl (by omega) (by omega) (by simp only [maxLen,List.length_take];omega) (by simp only [List.length_take];omega) rfl rfl fun vp' w12 p UM c12 Yq=>?_
           have hsq:Sep vd vq:=fun k hk hk'=>hsep k hk (ob▸hk')
           have WJ:=WI.chg (mZ _) c12 hsq
           have m12:=m11.chg c12 (fun e=>(oq.lt e).1.2 rfl)
           have afW:=m11.lt
           have n12:New w w12:=Chg.trans n11 c12 fun k hk e=>by have:=(oq.lt e).1.1;omega
           have Si:Sep vd vp':=zB WI hsq Yq
           replace UM:=UM.mono (Pb':=fun b=>w.heap.size≤b∧b≠bm) (nD _) (fun b hb h=>by rcases h with h|h;exact h;exact ⟨by omega,by omega⟩) (fun _ _ h=>h)
           have s12:=c12.size
           clear oq Yp WI m11 c12
           (repeat' (first|refine aa0 ?_|refine aa7 ?_))
           refine dF (y:=d+1) (tu _ fun _=>rfl) WJ rfl rfl rfl rfl rfl (by omega) (by omega) (by simp only [maxLen];omega) (by omega) rfl rfl fun vd' w13 p ac4 c13 Yr=>?_
           have afX:=m12.lt
           (repeat' (first|refine aa0 ?_|refine aa1 ?_|refine af ?_|refine ah ?_|refine ai ?_|refine aJ ?_|refine aa7 ?_))
           refine aK (i+1,vd',vp',dp++ [d+1],pt.take d.toNat++ [(i:Int)],sn++ [(x.parent,x.name)]) ⟨rfl,rfl,rfl,rfl,rfl,rfl,rfl,trivial⟩ ⟨by dsimp only;omega,by dsimp only;omega,hgo,by simp [hdl],?_,by simp;omega,
            ac4.mono (nD _) (fun b hb h=>by rcases h with h|h;exact h;exact ⟨by omega,by omega⟩) (fun _ _ h=>h),
            UM.chg (mZ _) c13 Si.symm,(zB UM Si.symm Yr).symm,?_,Chg.trans n12 c13 fun k hk e=>by have:=(WJ.lt e).1.1;omega⟩ (by dsimp only;omega)
           ·intro z hz
            rcases List.mem_append.1 hz with hz|hz
            ·exact hd z hz
            ·simp at hz;omega
           ·have:=m12.chg c13 (fun e=>(WJ.lt e).1.2 rfl)
            simpa [PU] using this
 all_goals
  have e:i=l.length:=by omega
  subst e
  rw [List.drop_length] at hgo
  simp only [vJ] at hgo
  obtain ⟨qd,cd,rfl,_,_⟩:=od3.form
  rw [hgo]
  refine dA rfl rfl rfl rfl ⟨_,rfl,⟨.slice qd dp.length cd,?_⟩,n3⟩
  rw [Option.isSome_some,Bool.true_and]
  first|(rw [decide_eq_true (by omega)];rfl)|(rw [decide_eq_false (by omega)];rfl)
end Go.Proofs.YtjecgaiaiophpaaGreatDoor
namespace Go.Proofs.YtjecgaiaiophpaaGreatDoor
open Go Wk
open Go.RowKit (Below)
attribute [local irreducible] Go.Calls
def xA (c:UInt8):List UInt8→List (List UInt8)
 | []=>[[]]
 |b::l=>if b=c then []::xA c l else (match xA c l with|h::t=>(b::h)::t| []=>[[b]])
theorem Ec {c:UInt8}: ∀ {l:List UInt8},(∀b∈l,b≠c)→xA c l=[l]
 | [],_=>rfl
 |b::l,h=>by
  rw [xA,if_neg (h b (by simp)),Ec fun x hx=>h x (by simp [hx])]
theorem Hq {c:UInt8} {r:List UInt8}: ∀ {p:List UInt8},(∀b∈p,b≠c)→xA c (p++c::r)=p::xA c r
 | [],_=>by simp [xA]
 |b::l,h=>by
  rw [List.cons_append,xA,if_neg (h b (by simp)),Hq fun x hx=>h x (by simp [hx])]
end Go.Proofs.YtjecgaiaiophpaaGreatDoor
namespace Go.Proofs.YtjecgaiaiophpaaGreatDoor
open Go Wk
open Go.RowKit (Below)
attribute [local irreducible] Go.Calls
def nV (l:List Nd):Bool:=(vJ 0 [] [] [] l).2.isSome&&decide (0<l.length)
def Sj (l:List Nd):Int:=if nV l=true then 0 else (vJ 0 [] [] [] l).1
def Ee (l:List Nd):Int:=if nV l=true then 0 else 40
theorem uJ {Pb:Nat→Prop} {w:World} {v:Value} {l:List Nd} (h:RdS rNd 3 Pb w v l):
 Calls Tryz.prog 40 #[v] w (Ret fun r w'=>r=.tuple #[vi (Sj l),vi (Ee l)]∧New w w'):=by
 refine mQ Tryz.func40 rfl Tryz.ntmps40 rfl ?_
 (repeat' (first|refine aa0 ?_|refine aa1 ?_|refine af ?_|refine ah ?_|refine aj ?_|refine ai ?_))
 refine ay (MK h) rfl ?_
 rintro _ w1 ⟨⟨u,rfl⟩,n1⟩
 unfold Sj Ee
 cases hok:nV l with
 |true=>
  have e:((vJ 0 [] [] [] l).2.isSome&&decide (0<l.length))=true:=hok
  rw [e]
  (repeat' (first|refine aa0 ?_|refine aa1 ?_|refine af ?_|refine aa8 ?_|refine aZ rfl ?_|refine ah ?_|refine aj ?_|refine ai ?_|refine Wc.skip ?_|refine ax ?_|refine aa4 ?_))
  exact aW rfl rfl rfl ⟨_,rfl,rfl,n1⟩
 |false=>
  have e:((vJ 0 [] [] [] l).2.isSome&&decide (0<l.length))=false:=hok
  rw [e]
  (repeat' (first|refine aa0 ?_|refine aa1 ?_|refine af ?_|refine aa8 ?_|refine aZ rfl ?_|refine ah ?_|refine aj ?_|refine ai ?_|refine ax ?_|refine aN ?_|refine aa3 ?_))
  exact aW rfl rfl rfl ⟨_,rfl,rfl,n1⟩
theorem tY {l:List Nd} (h:nV l=true):0<l.length:=by
 unfold nV at h
 simp only [Bool.and_eq_true,decide_eq_true_eq] at h
 exact h.2
structure Yt (i:Nat) (x:Nd):Prop where
 lt:i<512
 pr:yM x.oJ=true
 root:i=0→x.parent= -1∧x.name=[]
 kid:i≠0→0≤x.parent∧x.parent<i∧pY x.name=true
theorem Fq: ∀(l:List Nd) (i:Nat) (dp pt:List Int) (sn:List Kid),(vJ i dp pt sn l).2.isSome=true→ ∀j x,l[j]? =some x→Yt (i+j) x
 | [],_,_,_,_,_,j,x,h=>by simp at h
 |y::r,i,dp,pt,sn,h,j,x,hx=>by
  rw [vJ] at h
  split at h
  ·cases h
  ·rename_i h1
   simp only [not_or,Nat.not_le,Bool.not_eq_false] at h1
   split at h
   ·rename_i h0
    subst h0
    split at h
    ·cases h
    ·rename_i h2
     simp only [not_or,Decidable.not_not] at h2
     cases j with
     |zero=>
      simp at hx;subst hx
      exact ⟨by omega,h1.2,fun _=>h2,fun e=>absurd rfl e⟩
     |succ j=>
      have:=Fq r 1 _ _ _ h j x (by simpa using hx)
      rwa [show 0+(j+1)=1+j by omega]
   ·rename_i h0
    split at h
    ·cases h
    ·rename_i h2
     simp only [not_or,Bool.not_eq_false,Int.not_lt,Int.not_le] at h2
     split at h
     ·cases h
     ·cases j with
      |zero=>
       simp at hx;subst hx
       exact ⟨by omega,h1.2,fun e=>absurd e h0,fun _=>⟨h2.2.1,h2.2.2,h2.1⟩⟩
      |succ j=>
       have:=Fq r (i+1) _ _ _ h j x (by simpa using hx)
       rwa [show i+(j+1)=i+1+j by omega]
theorem qA {l:List Nd} (h:nV l=true) {j:Nat} {x:Nd} (hx:l[j]? =some x):Yt j x:=by
 unfold nV at h
 simp only [Bool.and_eq_true] at h
 have:=Fq l 0 [] [] [] h.1 j x hx
 rwa [Nat.zero_add] at this
theorem oN {l:List Nd} (h:nV l=true):l.length≤512:=by
 rcases Nat.eq_zero_or_pos l.length with h0|h0
 ·omega
 ·obtain ⟨x,hx⟩:=nN l (k:=l.length-1) (by omega)
  have:=(qA h hx).lt
  omega
abbrev Nm:=List UInt8
def EG (t:List Nd):Nat→Nat→List Nm
 |0,_=>[]
 |f+1,i=>if i=0 then [] else match t[i]? with|some x=>EG t f x.parent.toNat++ [x.name]|none=>[]
def xO (t:List Nd) (i:Nat):List Nm:=EG t i i
theorem UN {t:List Nd} (ht:nV t=true): ∀(f i:Nat),i≤f→EG t f i=xO t i:=by
 have key: ∀(i f g:Nat),i≤f→i≤g→EG t f i=EG t g i:=by
  intro i
  induction i using Nat.strongRecOn with
  |ind i ih=>
   intro f g hf hg
   cases f with
   |zero=>cases g with
    |zero=>rfl
    |succ g=>obtain rfl:i=0:=by omega
             simp [EG]
   |succ f=>
    cases g with
    |zero=>obtain rfl:i=0:=by omega
           simp [EG]
    |succ g=>
     simp only [EG]
     split
     ·rfl
     ·rename_i h0
      split
      ·rename_i x hx
       have:=(qA ht hx).kid h0
       rw [ih x.parent.toNat (by omega) f g (by omega) (by omega)]
      ·rfl
 exact fun f i h=>key i f i h (Nat.le_refl _)
theorem wz (t:List Nd):xO t 0=[]:=rfl
theorem su {t:List Nd} (ht:nV t=true) {i:Nat} {x:Nd} (hx:t[i]? =some x) (h0:i≠0):xO t i=xO t x.parent.toNat++ [x.name]:=by
 obtain ⟨m,rfl⟩: ∃m,i=m+1:=⟨i-1,by omega⟩
 have:=(qA ht hx).kid h0
 show EG t (m+1) (m+1)=_
 rw [EG,if_neg h0,hx]
 dsimp only
 rw [UN ht m x.parent.toNat (by omega)]
def zf (l:List Nm):List UInt8:=if l=[] then [47] else l.flatMap fun n=>47::n
def JP (n:Nm):Prop:=n≠ []∧ ∀b∈n,b≠47
theorem Ef {n:Nm} (h:pY n=true):JP n:=by
 unfold pY at h
 simp only [Bool.and_eq_true,decide_eq_true_eq] at h
 refine ⟨h.1.1,fun b hb e=>?_⟩
 have:=List.all_eq_true.1 h.2 b hb
 subst e
 rw [Cc] at this
 simp at this
theorem Bc: ∀(l:List Nm) (n:Nm),(∀b∈n,b≠47)→(∀m∈l, ∀b∈m,b≠47)→xA 47 (n++l.flatMap fun n=>47::n)=n::l
 | [],n,hn,_=>by simp [Ec hn]
 |m::l,n,hn,hl=>by
  rw [List.flatMap_cons,List.cons_append,Hq hn,Bc l m (hl m (by simp)) fun x hx=>hl x (by simp [hx])]
theorem PV {l m:List Nm} (hl: ∀n∈l,JP n) (hm: ∀n∈m,JP n) (h:zf l=zf m):l=m:=by
 have key: ∀(x:Nm) (r:List Nm),JP x→zf (x::r)≠ [47]:=fun x r hx e=>by
  unfold zf at e
  rw [if_neg (by simp),List.flatMap_cons,List.cons_append] at e
  have:=(List.cons.inj e).2
  exact hx.1 (List.append_eq_nil_iff.1 this).1
 cases l with
 |nil=>cases m with
  |nil=>rfl
  |cons x r=>exact absurd (h.symm.trans (by unfold zf;rw [if_pos rfl])) (key x r (hm x (by simp)))
 |cons x r=>cases m with
  |nil=>exact absurd (h.trans (by unfold zf;rw [if_pos rfl])) (key x r (hl x (by simp)))
  |cons y s=>
   unfold zf at h
   rw [if_neg (by simp),if_neg (by simp),List.flatMap_cons,List.flatMap_cons,List.cons_append,List.cons_append] at h
   have h2:=congrArg (xA 47) (List.cons.inj h).2
   rwa [Bc r x (hl x (by simp)).2 fun z hz=>(hl z (by simp [hz])).2,Bc s y (hm y (by simp)).2 fun z hz=>(hm z (by simp [hz])).2] at h2
theorem yO {t:List Nd} (ht:nV t=true): ∀(i:Nat), ∀n∈xO t i,JP n∧n.length≤31:=by
 intro i
 induction i using Nat.strongRecOn with
 |ind i ih=>
  intro n hn
  by_cases h0:i=0
  ·subst h0;simp [wz] at hn
  ·by_cases hi:i<t.length
   ·obtain ⟨x,hx⟩:=nN t hi
    have hk:=(qA ht hx).kid h0
    rw [su ht hx h0] at hn
    rcases List.mem_append.1 hn with hn|hn
    ·exact ih _ (by omega) n hn
    ·simp at hn;subst hn;exact ⟨Ef hk.2.2,yN hk.2.2⟩
   ·obtain ⟨m,rfl⟩: ∃m,i=m+1:=⟨i-1,by omega⟩
    unfold xO at hn
    rw [EG,if_neg h0,List.getElem?_eq_none (by omega)] at hn
    simp at hn
theorem PW {t:List Nd} (ht:nV t=true): ∀(i:Nat),(xO t i).length≤i:=by
 intro i
 induction i using Nat.strongRecOn with
 |ind i ih=>
  by_cases h0:i=0
  ·subst h0;simp [wz]
  ·by_cases hi:i<t.length
   ·obtain ⟨x,hx⟩:=nN t hi
    have hk:=(qA ht hx).kid h0
    rw [su ht hx h0]
    have:=ih x.parent.toNat (by omega)
    simp only [List.length_append,List.length_singleton];omega
   ·obtain ⟨m,rfl⟩: ∃m,i=m+1:=⟨i-1,by omega⟩
    unfold xO
    rw [EG,if_neg h0,List.getElem?_eq_none (by omega)]
    simp
theorem PX {l:List Nm} (h: ∀n∈l,n.length≤31):(zf l).length≤32*l.length+1:=by
 have key:(l.flatMap fun n=>47::n).length≤32*l.length:=by
  induction l with
  |nil=>simp
  |cons x r ih=>
   have h1:=ih fun n hn=>h n (by simp [hn])
   have h2:=h x (by simp)
   simp only [List.flatMap_cons,List.length_append,List.length_cons] at h1 ⊢
   omega
 unfold zf
 split
 ·simp
 ·omega
def val (ps:List Pr) (nm:Nm):Option (List UInt8):=(ps.find? fun p=>decide (p.1=nm)).map (·.2)
theorem Sl {ps:List Pr} {nm:Nm}:val ps nm=none↔ ∀p∈ps,p.1≠nm:=by
 unfold val
 rw [Option.map_eq_none_iff,List.find?_eq_none]
 simp
def zI (l:List Nd) (i:Int):Int:=if nV l=true then (if i<0∨(l.length:Int)≤i then 1 else 0) else 40
theorem wC {Pb:Nat→Prop} {w:World} {v:Value} {l:List Nd} {i:Int} (h:RdS rNd 3 Pb w v l):
 Calls Tryz.prog 85 #[v,vi i] w (Ret fun r w'=>r=vi (zI l i)∧New w w'):=by
 obtain ⟨a,cap,rfl,hc1,hc2⟩:=h.form
 simp only [maxLen] at hc2
 refine mQ Tryz.func85 rfl Tryz.ntmps85 rfl ?_
 (repeat' (first|refine aa0 ?_|refine aa1 ?_|refine af ?_|refine ah ?_|refine aj ?_|refine ai ?_))
 refine ay (uJ h) rfl ?_
 rintro _ w1 ⟨rfl,n1⟩
 unfold Ee zI
 cases hok:nV l with
 |false=>
  rw [if_neg (by simp),if_neg (by simp)]
  (repeat' (first|refine aa0 ?_|refine aa1 ?_|refine af ?_|refine aa8 ?_|refine ah ?_|refine aj ?_|refine ai ?_|refine ax ?_|refine aN ?_|refine aa3 ?_|(refine pV (fun _=>?_) (fun _=>?_)<;>(first|(exfalso;omega)|skip))))
  exact aA rfl rfl ⟨_,rfl,rfl,n1⟩
 |true=>
  rw [if_pos rfl,if_pos rfl]
  (repeat' (first|refine aa0 ?_|refine aa1 ?_|refine af ?_|refine aa8 ?_|refine aa6 ?_|refine qi ?_|refine pG ?_|refine pq ?_|refine aO rfl ?_|refine ah ?_|refine aj ?_|refine ai ?_|refine Wc.skip ?_|refine ax ?_|refine aN ?_|refine aa3 ?_|refine aa4 ?_|refine aa9 (fun _=>?_) (fun _=>?_)|refine cZ rfl rfl (fun _=>?_) (fun _=>?_)|(refine pV (fun _=>?_) (fun _=>?_)<;>(first|(exfalso;omega)|skip))))
  ·rw [if_pos (.inl (by omega))]
   exact aA rfl rfl ⟨_,rfl,rfl,n1⟩
  ·rw [if_pos (.inr (by omega))]
   exact aA rfl rfl ⟨_,rfl,rfl,n1⟩
  ·rw [if_neg (by omega)]
   exact aA rfl rfl ⟨_,rfl,rfl,n1⟩
end Go.Proofs.YtjecgaiaiophpaaGreatDoor
namespace Go.Proofs.YtjecgaiaiophpaaGreatDoor.Wk
open Go Go.RowKit
def JQ:Nat→List Value→List (Nat×Value)
 |_,[]=>[]
 |k,u::us=>(k,u)::JQ (k+1) us
theorem fill_dense (sz:Nat): ∀(us:List Value) (k:Nat) (pre zs:List Value),pre.length=k*sz→zs.length=us.length*sz→(∀u∈us,u.cells.size=sz)→
 Instr.fill (fun i=>some (i*sz,sz)) (pre++zs).toArray (JQ k us)=some (pre++us.flatMap fun u=>u.cells.toList).toArray
 | [],k,pre,zs,hp,hz,_=>by
   have:zs=[]:=List.eq_nil_of_length_eq_zero (by simpa using hz)
   subst this
   simp [JQ,Instr.fill]
 |u::us,k,pre,zs,hp,hz,h=>by
  have hu:=h u (by simp)
  simp only [List.length_cons,Nat.add_mul,Nat.one_mul] at hz
  simp only [JQ,Instr.fill,hu]
  rw [if_neg (by simp;omega)]
  have hsp:zs=zs.take sz++zs.drop sz:=(List.take_append_drop sz zs).symm
  have h1:=AZ (k*sz) u.cells.toList 0 pre (zs.drop sz) (zs.take sz) (by simp [hu];omega) (by omega)
  rw [List.append_assoc, ←hsp] at h1
  rw [←Array.foldl_toList,Array.toList_zipIdx]
  have h2:List.foldl (fun (cs:Array Value) (x:Value×Nat)=>match x with|(c,j)=>cs.setIfInBounds (k*sz+j) c) (pre++zs).toArray (u.cells.toList.zipIdx)=(pre++u.cells.toList++zs.drop sz).toArray:=h1
  rw [h2,fill_dense sz us (k+1) (pre++u.cells.toList) (zs.drop sz) (by simp [hu,hp,Nat.add_mul]) (by simp;omega) fun v hv=>h v (by simp [hv])]
  simp
def PY {α:Type} (R:Rel α) (sz:Nat) (Pb:Nat→Prop) (w:World):List α→List Value→Prop
 | [],[]=>True
 |x::xs,u::us=>u.cells.size=sz∧R Pb w x u.cells.toList∧PY R sz Pb w xs us
 |_,_=>False
theorem PY.length {α:Type} {R:Rel α} {sz:Nat} {Pb:Nat→Prop} {w:World}: ∀ {xs:List α} {us:List Value},PY R sz Pb w xs us→us.length=xs.length∧ ∀u∈us,u.cells.size=sz
 | [],[],_=>⟨rfl,by simp⟩
 |x::xs,u::us,h=>by
  obtain ⟨h1,_,h2⟩:=h
  have:=h2.length
  exact ⟨by simp [this.1],fun v hv=>by rcases List.mem_cons.1 hv with rfl|hv;exact h1;exact this.2 v hv⟩
 | [],_::_,h=>h.elim
 |_::_,[],h=>h.elim
theorem PY.get {α:Type} {R:Rel α} {sz:Nat} {Pb:Nat→Prop} {w:World}: ∀ {xs:List α} {us:List Value} {i:Nat} {x:α},PY R sz Pb w xs us→xs[i]? =some x→R Pb w x (((us.flatMap fun u=>u.cells.toList).drop (i*sz)).take sz)
 | [],[],i,x,_,h=>by simp at h
 |y::xs,u::us,i,x,h,hx=>by
  obtain ⟨h1,h2,h3⟩:=h
  have hl:u.cells.toList.length=sz:=by simpa using h1
  cases i with
  |zero=>
   simp at hx
   subst hx
   simp only [List.flatMap_cons,Nat.zero_mul,List.drop_zero]
   rw [List.take_append_of_le_length (by omega),List.take_of_length_le (by omega)]
   exact h2
  |succ i=>
   have:=h3.get (i:=i) (by simpa using hx)
   rw [List.flatMap_cons,List.drop_append,List.drop_eq_nil_of_le (show u.cells.toList.length≤(i+1)*sz by rw [hl,Nat.add_mul];omega),List.nil_append,hl,Nat.add_mul,Nat.one_mul,Nat.add_sub_cancel]
   exact this
 | [],_::_,_,_,h,_=>h.elim
 |_::_,[],_,_,h,_=>h.elim
section
variable {P:Program} {n:Nat} {ds:List Deferred} {Q:Po} {F:Fr} {w w':World} {ops rest:List Oper} {d d1 d2:Nat} {ty ty1 ty2:TypeId} {pos pos1 pos2:String} {aft E5 E8:Array Edge}
theorem uP {us:List Value} {sz:Nat} (h: ∀u∈us,u.cells.size=sz):(us.flatMap fun u=>u.cells.toList).length=us.length*sz:=by
 induction us with
 |nil=>simp
 |cons u us ih=>simp [ih fun v hv=>h v (by simp [hv]),h u (by simp),Nat.add_mul];omega
theorem ve {t e:TypeId} {sz bytes:Nat} {agg:Bool} {z:Value} {us:List Value} (ht:P.underlying t=some (.slice e)) (he:ElT P e sz bytes agg z) (hv: ∀u∈us,u.cells.size=sz) (hs:0<us.length*sz) (hs2:us.length*sz≤16777216):
 (Instr.buildSlice t us.length (JQ 0 us).toArray).run P w=.ok (.slice (some ⟨w.heap.size,0,none⟩) us.length us.length) (w.alloc (.cells (us.flatMap fun u=>u.cells.toList).toArray e)):=by
 have hne: ¬us.length*sz=0:=by omega
 have hz:=he.hz
 have e3:=fill_dense sz us 0 [] (((List.range (us.length*sz)).map fun i=>z.cells[i % z.cells.size]!)) (by simp) (by simp) hv
 have e4:(Array.range (us.length*sz)).map (fun i=>z.cells[i % z.cells.size]!)=(((List.range (us.length*sz)).map fun i=>z.cells[i % z.cells.size]!)).toArray:=by
  apply Array.ext'
  simp [Array.toList_range]
 rw [List.nil_append,List.nil_append, ←e4] at e3
 simp only [Instr.buildSlice,Sem.run_bind,run_underlying ht,Result.andThen_ok,he.sizeOf]
 rw [if_neg (by omega),if_neg hne]
 simp only [Sem.run_bind,Result.andThen_ok,he.zeroValue,Sem.run_pure,e3,newRow,run_newObj]
 rfl
theorem iE {α:Type} {R:Rel α} {N:Nat} {ps:List (Nat×Operand)} {t e:TypeId} {sz bytes:Nat} {agg:Bool} {z:Value} {xs:List α} {us:List Value} {Pe:Nat→Prop} (hR:qG R sz) [ht:Und P t (.slice e)] [he:ElT P e sz bytes agg z] (hN:us.length=N) (hps:ps.map (fun p=>(p.1,ev n F p.2))=JQ 0 us)
 (h:PY R sz (fun b=>Pe b∧w.heap.size≠b) w xs us) (hsz:0<us.length*sz) (hsz2:us.length*sz≤16777216)
 (c: ∀v w',ny R e sz (fun b=>b=w.heap.size) Pe w' v xs→New w w'→w'.heap.size=w.heap.size+1→v.ownBlock=some w.heap.size→Wl P n ds Q ops rest (upd F d v) w'):
 Wl P n ds Q ops (⟨some d,.buildSlice t N ps.toArray,ty,pos,aft,none⟩::rest) F w:=by
 subst hN
 obtain ⟨hl,hall⟩:=h.length
 have hr:=ve (P:=P) (w:=w) ht.h he hall hsz hsz2
 have hn:New w (w.alloc (.cells (us.flatMap fun u=>u.cells.toList).toArray e)):=Chg.alloc _ _ _
 refine Wl.val (w':=w.alloc (.cells (us.flatMap fun u=>u.cells.toList).toArray e)) ?_ (c _ _ ⟨us.flatMap fun u=>u.cells.toList,⟨by rw [uP hall,hl],.inr ⟨w.heap.size,us.length,(us.flatMap fun u=>u.cells.toList).toArray,by rw [hl],rfl,heap_alloc_new w _,by omega,?_,by simpa using uP hall,?_⟩⟩,fun i x hx=>?_⟩ hn (by simp) rfl)
 ·simp only [execOp,List.map_toArray,hps,Sem.run_bind,hr,Result.andThen_ok,Sem.run_pure]
  rw [hl]
 ·have:0<sz:=by rcases Nat.eq_zero_or_pos sz with h0|h0;rw [h0] at hsz;simp at hsz;exact h0
  have:us.length*1≤us.length*sz:=Nat.mul_le_mul_left _ this
  unfold maxLen;omega
 ·show List.take (xs.length*sz) (us.flatMap fun u=>u.cells.toList)=_
  rw [←hl, ←uP hall,List.take_length]
 ·have h1:=hR.st _ _ _ _ _ hn.keep (h.get hx)
  exact hR.mo _ _ _ _ _ (fun b _ hb=>⟨hb.1,fun e=>hb.2 (by simpa [Value.ownBlock] using e)⟩) h1
end
end Go.Proofs.YtjecgaiaiophpaaGreatDoor.Wk
namespace Go.Proofs.YtjecgaiaiophpaaGreatDoor.Wk
open Go Go.RowKit
section
variable {P:Program} {n:Nat} {ds:List Deferred} {Q:Po} {F:Fr} {w:World} {ops rest:List Oper} {d:Nat} {ty:TypeId} {pos:String} {aft:Array Edge}
theorem Eg {t e m bytes b:Nat} {agg:Bool} {z:Value} {k:IntKind} {j:Int} (ht:P.underlying t=some (.array m e)) (he:ElT P e 1 bytes agg z) (h0:0≤j) (h1:j<m):
 (Instr.indexAt t (.pointer (some ⟨b,0,none⟩)) (.int k j)).run P w=.ok (.pointer (some ⟨b,j.toNat,none⟩)) w:=by
 simp [Instr.indexAt,asIntOf,run_underlying ht,h0,h1,he.sizeOf,Instr.sureAddr,addr_add]
theorem gY {x i:Operand} {t e m bytes b:Nat} {agg:Bool} {z:Value} {k:IntKind} {j:Int} [ht:Und P t (.array m e)] [he:ElT P e 1 bytes agg z] (hx:ev n F x=.pointer (some ⟨b,0,none⟩)) (hi:ev n F i=.int k j) (h0:0≤j) (h1:j<m)
 (c:Wl P n ds Q ops rest (upd F d (.pointer (some ⟨b,j.toNat,none⟩))) w):Wl P n ds Q ops (⟨some d,.indexAddr t x i,ty,pos,aft,none⟩::rest) F w:=
 Wl.val (by simp only [execOp,hx,hi,Sem.run_bind,Eg ht.h he h0 h1,Result.andThen_ok,Sem.run_pure]) c
end
end Go.Proofs.YtjecgaiaiophpaaGreatDoor.Wk
namespace Go.Proofs.YtjecgaiaiophpaaGreatDoor.Wk
open Go Go.RowKit
section
variable {P:Program} {n:Nat} {ds:List Deferred} {Q:Po} {C:World→Prop} {K:Fr→Prop} {F:Fr} {w w':World} {ops rest:List Oper} {d:Nat} {ty:TypeId} {pos:String} {aft:Array Edge} {x lo hi i:Operand} {t:TypeId} {k k':IntKind} {a b j:Int} {l:List UInt8}
theorem iT {c:UInt8} [ht:Und P t .string] (hx:ev n F x=vs l) (hi:ev n F i=.int k j) (h0:0≤j) (hj:l[j.toNat]? =some c)
 (q:Wq P n ds C K ops rest (upd F d (.int .u8 c.toNat))):Wq P n ds C K ops (⟨some d,.index t x i,ty,pos,aft,none⟩::rest) F:=
 Wq.val (fun w _=>by simp only [execOp,hx,hi,Sem.run_bind,MC ht.h h0 hj,Result.andThen_ok,Sem.run_pure]) q
theorem fE {ps:List (Nat×Operand)} {parts:List (Nat×Value)} {u:Value}
 (hps:ps.map (fun p=>(p.1,ev n F p.2))=parts) (hr:(Instr.build t parts.toArray).run P w=.ok u w) (c:Wl P n ds Q ops rest (upd F d u) w):Wl P n ds Q ops (⟨some d,.build t ps.toArray,ty,pos,aft,none⟩::rest) F w:=by
 refine Wl.val ?_ c
 subst hps
 simp only [execOp,List.map_toArray,Sem.run_bind]
 rw [hr];rfl
end
theorem qR:qG (Wk.one vs) 1:=tu _ fun _=>rfl
theorem w8 {k:Nat} (h:k<256):IntKind.u8.wrap (k:Int)=(k:Int):=A7 rfl (by omega) (by show (k:Int)<2^8;omega)
theorem Chg.toNew {M:Nat→Prop} {w w':World} (c:Chg M w w') (h: ∀k,k<w.heap.size→ ¬M k):New w w':=c.mono fun k hk e=>h k hk e
abbrev NoB:Nat→Prop:=fun _=>False
end Go.Proofs.YtjecgaiaiophpaaGreatDoor.Wk
namespace Go.Proofs.YtjecgaiaiophpaaGreatDoor.Wk
open Go Go.RowKit
open Go.Sort (Holds putRow)
theorem OA {α:Type} {enc:α→Value} {T:TypeId} {Pb Pe:Nat→Prop} {w:World} {g cap:Nat} {xs:List α} (h:ny (Wk.one enc) T 1 Pb Pe w (.slice (some ⟨g,0,none⟩) xs.length cap) xs):
 ∃cur,Pb g∧w.heap[g]? =some (.cells cur T (0,0))∧xs.length≤cap∧cap≤maxLen∧cur.size=cap∧ ∀(j:Nat) (hj:j<xs.length),cur[j]? =some (enc xs[j]):=by
 obtain ⟨hcl,h0|⟨g',cap',cur,e1,hPg,hheap,h1,h2,h3,h4⟩⟩:=h.to1
 ·cases h0.1
 cases e1
 refine ⟨cur,hPg,hheap,h1,h2,by omega,fun j hj=>?_⟩
 have h5:(List.take (xs.length*1) cur.toList)[j]? =(xs.map enc)[j]? :=by rw [h4]
 rw [List.getElem?_take,if_pos (by omega),List.getElem?_map,List.getElem?_eq_getElem hj] at h5
 simpa using h5
theorem Hr {α:Type} [Inhabited α] {enc:α→Value} {T:TypeId} {Pb Pe:Nat→Prop} {w:World} {g cap:Nat} {xs:List α} (h:ny (Wk.one enc) T 1 Pb Pe w (.slice (some ⟨g,0,none⟩) xs.length cap) xs):Holds enc w g 0 xs.toArray:=by
 obtain ⟨cur,_,hheap,_,_,_,hcur⟩:=OA h
 intro j hj
 have hj':j<xs.length:=by simpa using hj
 refine ⟨?_,?_⟩
 ·simp only [World.cell?,hheap,Nat.zero_add]
  have:xs.toArray[j]! =xs[j]:=by simp [hj']
  rw [this]
  simpa using hcur j hj'
 ·simp [World.frozen?,hheap]
theorem OB {α β:Type} [Inhabited β] {enc:α→Value} {JR:β→Value} {T:TypeId} {Pb Pe Pe':Nat→Prop} {w w':World} {g cap:Nat} {xs:List α} {d:List β} (h:ny (Wk.one enc) T 1 Pb Pe w (.slice (some ⟨g,0,none⟩) xs.length cap) xs)
 (hl:d.length=xs.length) (hw: ∀cs,w.heap[g]? =some (.cells cs T (0,0))→w'.heap[g]? =some (.cells (Sort.putCells JR 0 d.toArray cs) T (0,0))):ny (Wk.one JR) T 1 Pb Pe' w' (.slice (some ⟨g,0,none⟩) xs.length cap) d:=by
 obtain ⟨cur,hPg,hheap,h1,h2,h3,hcur⟩:=OA h
 refine gQ (m:=xs.length) hl.symm ⟨by simp [hl],.inr ⟨g,cap,_,rfl,hPg,hw _ hheap,h1,h2,by simp [Sort.putCells,h3],?_⟩⟩
 apply List.ext_getElem?
 intro j
 rw [List.getElem?_take]
 by_cases hj:j<xs.length
 ·rw [if_pos (by omega),Array.getElem?_toList,Sort.putCells,Array.getElem?_mapIdx,hcur j hj,Option.map_some,if_pos ⟨Nat.zero_le _,by simp;omega⟩]
  have hjD:j<d.length:=by omega
  rw [List.getElem?_map,List.getElem?_eq_getElem hjD]
  simp [hjD]
 ·rw [if_neg (by omega),List.getElem?_eq_none (by simp;omega)]
theorem MN {β:Type} [Inhabited β] {JR:β→Value} {w:World} {g n:Nat} {d:Array β}:Chg (fun k=>k=g) w (putRow JR (Sort.ahead w n) g 0 d):=
 ⟨rfl,rfl,rfl,by simp [putRow,Sort.mapBlock,Sort.ahead],fun j hj hn=>by
   have: ¬g=j:=fun e=>hn e.symm
   simp only [putRow,Sort.mapBlock,Sort.ahead]
   rw [Array.getElem?_modify,if_neg this]⟩
theorem JS {β:Type} [Inhabited β] {JR:β→Value} {w:World} {g n:Nat} {d:Array β} {cs:Array Value} {T:TypeId} (h:w.heap[g]? =some (.cells cs T (0,0))):
 (putRow JR (Sort.ahead w n) g 0 d).heap[g]? =some (.cells (Sort.putCells JR 0 d cs) T (0,0)):=by
 simp only [putRow,Sort.mapBlock,Sort.ahead]
 rw [Array.getElem?_modify,if_pos rfl,h]
 rfl
end Go.Proofs.YtjecgaiaiophpaaGreatDoor.Wk
namespace Go.Proofs.YtjecgaiaiophpaaGreatDoor
open Go Wk
open Go.RowKit (Below)
attribute [local irreducible] Go.Calls
theorem Ce {sep:List UInt8} {m:Nat}: ∀ {xs:List (List UInt8)},(∀x∈xs,x.length≤m)→(Lib.joinTail sep xs).length≤(m+sep.length)*xs.length
 | [],_=>by simp [Lib.joinTail]
 |x::xs,h=>by
  have e:Lib.joinTail sep (x::xs)=sep++x++Lib.joinTail sep xs:=by simp [Lib.joinTail]
  have h1:=Ce (sep:=sep) (m:=m) (xs:=xs) fun y hy=>h y (by simp [hy])
  have h2:=h x (by simp)
  rw [e,List.length_append,List.length_append,List.length_cons,Nat.mul_add]
  omega
theorem Sm {sep:List UInt8} {m:Nat} {xs:List (List UInt8)} (h: ∀x∈xs,x.length≤m):(Lib.join xs sep).length≤(m+sep.length)*xs.length:=by
 cases xs with
 |nil=>simp [Lib.join,List.intercalate]
 |cons x r=>
  rw [Lib.join_cons,List.length_append,List.length_cons,Nat.mul_add]
  have h1:=Ce (sep:=sep) (m:=m) (xs:=r) fun y hy=>h y (by simp [hy])
  have h2:=h x (by simp)
  omega
theorem PZ {Pb:Nat→Prop} {w:World} {v:Value} {xs:List (List UInt8)} {sep:List UInt8} (h:RdS (Wk.one vs) 1 Pb w v xs) (hn:xs.length≤1000000000) (hl:(Lib.join xs sep).length≤100000000000):
 Calls Tryz.prog 131 #[v,vs sep] w (Ret fun r w'=>r=vs (Lib.join xs sep)∧New w w'):=by
 have key: ∀a c,xs=[]→Calls Tryz.prog 131 #[.slice a 0 c,vs sep] w (Ret fun r w'=>r=vs (Lib.join xs sep)∧New w w'):=by
  intro a c hx
  refine (kK a c ⟨sep.toArray⟩ w).mono ?_
  rintro e w' ⟨rfl,rfl⟩
  subst hx
  exact ⟨_,rfl,rfl,aV _ _⟩
 rcases h with ⟨rfl,rfl⟩|⟨a,cap,rfl,rfl,hc⟩|⟨b,off,cap,cur,e,fr,rfl,hb,hh,h1,h2,h3,h4⟩
 ·exact key none 0 rfl
 ·exact key (some a) cap rfl
 ·have em:(xs.map fun x=>(⟨x.toArray⟩:ByteArray)).map (·.data.toList)=xs:=by
   rw [List.map_map];conv=>rhs;rw [←List.map_id xs]
   exact List.map_congr_left fun x _=>rfl
  have:=kL b off cap (xs.map fun x=>⟨x.toArray⟩) ⟨sep.toArray⟩ w ?_ (uj hh) (by simp;omega) (by simpa using h1) (by rw [em];show (Lib.join xs sep).length≤_;omega)
  ·rw [em,List.length_map] at this
   refine this.mono ?_
   rintro e w' ⟨rfl,hB⟩
   exact ⟨_,rfl,rfl,jf hB⟩
  ·intro j x hx
   rw [List.getElem?_map] at hx
   obtain ⟨y,hy,rfl⟩:=Option.map_eq_some_iff.1 hx
   have h5:=h4 j y hy
   simp only [one,Nat.mul_one] at h5
   have h6:=congrArg (fun q=>q[0]?) h5
   simp only [List.getElem?_take,List.getElem?_drop] at h6
   simp only [World.cell?,hh]
   simpa using h6
theorem P5 {x:Nm} {l:List Nm}:[47]++Lib.join (x::l) [47]=zf (x::l):=by
 unfold zf
 rw [if_neg (by simp),Lib.join_cons,List.flatMap_cons]
 have: ∀l:List Nm,Lib.joinTail [47] l=l.flatMap fun n=>47::n:=by
  intro l
  induction l with
  |nil=>rfl
  |cons y l ih=>
   have e:Lib.joinTail [47] (y::l)=[47]++y++Lib.joinTail [47] l:=by simp [Lib.joinTail]
   rw [e,ih,List.flatMap_cons]
   simp
 rw [this]
 simp
theorem IK {Pb:Nat→Prop} {w:World} {v:Value} {xs:List Nm} (h:ny (Wk.one vs) 9 1 Pb NoB w v xs) (hl:xs.length≤1000000000):
 Calls Tryz.prog 130 #[v] w (Ret fun _ w'=>ny (Wk.one vs) 9 1 Pb NoB w' v xs.reverse∧Chg (fun k=>v.ownBlock=some k) w w'):=by
 by_cases h0:xs=[]
 ·subst h0
  obtain ⟨a,cap,rfl,_,_⟩:=h.form
  refine (lH a cap w).mono ?_
  rintro _ w' ⟨rfl,rfl⟩
  exact ⟨_,rfl,h,aV _ _⟩
 ·obtain ⟨g,cap,rfl,_,_,_⟩:=h.blk h0
  refine (lG g 0 cap xs w (Hr h) (by omega)).mono ?_
  rintro _ w' ⟨rfl,n,rfl⟩
  refine ⟨_,rfl,OB h (by simp) fun cs hc=>JS hc,MN.mono fun k _ e=>by rw [e];rfl⟩
end Go.Proofs.YtjecgaiaiophpaaGreatDoor
namespace Go.Proofs.YtjecgaiaiophpaaGreatDoor
open Go Wk
structure Cd where
 name:Nm
 family:Nm
 level:Int
 compat:List Nm
 score:Int
 uQ:Nm
 entry:Int
deriving DecidableEq,Inhabited
def VR (s:Nm):Bool:=decide (s≠ []∧s.length≤63)&& !s.contains 0
def Bd (l:List Nm):Nat→List Nm→Bool
 |_,[]=>true
 |i,s::r=>VR s&&(!(l.take i).contains s&&Bd l (i+1) r)
def IL (c:Cd):Bool:=
 pY c.name&&(pY c.family&&((decide (c.uQ=[])||pY c.uQ)&&(decide (c.level≤4)&&(decide (-100≤c.score∧c.score≤100)&&(decide (-1≤c.entry∧c.entry≤47)&&(decide (0<c.compat.length∧c.compat.length≤8)&&Bd c.compat 0 c.compat))))))
def yP:Nat→List Nm→List Cd→Bool
 |_,_,[]=>true
 |i,seen,c::r=>decide (i<64)&&(IL c&&(!seen.contains c.name&&yP (i+1) (seen++ [c.name]) r))
def sK (l:List Cd):Bool:=yP 0 [] l
theorem Fv: ∀(l:List Cd) (i:Nat) (seen:List Nm),yP i seen l=true→i+l.length≤64+(if l=[] then i else 0)∧(∀c∈l,IL c=true)∧(l.map Cd.name).Nodup∧ ∀c∈l,c.name∉seen
 | [],i,seen,_=>by simp
 |c::r,i,seen,h=>by
  rw [yP] at h
  simp only [Bool.and_eq_true,decide_eq_true_eq,Bool.not_eq_true',List.contains_eq_mem,decide_eq_false_iff_not] at h
  obtain ⟨h1,h2,h3,h4⟩:=h
  obtain ⟨i1,i2,i3,i4⟩:=Fv r (i+1) _ h4
  refine ⟨?_,?_,?_,?_⟩
  ·rw [if_neg (by simp)]
   split at i1
   ·rename_i e;subst e;simp;omega
   ·simp only [List.length_cons];omega
  ·intro x hx
   rcases List.mem_cons.1 hx with rfl|hx
   ·exact h2
   ·exact i2 x hx
  ·rw [List.map_cons,List.nodup_cons]
   refine ⟨fun e=>?_,i3⟩
   obtain ⟨x,hx,e⟩:=List.mem_map.1 e
   exact i4 x hx (by rw [e];simp)
  ·intro x hx
   rcases List.mem_cons.1 hx with rfl|hx
   ·exact h3
   ·exact fun e=>i4 x hx (by simp [e])
theorem JU {l:List Cd} (h:sK l=true):l.length≤64:=by
 have:=(Fv l 0 [] h).1
 split at this
 ·rename_i e;subst e;simp
 ·omega
def better (a b:Cd):Bool:=if a.score=b.score then decide (a.name<b.name) else decide (b.score<a.score)
def um (cs:List Cd) (s:Nm):Nat→Option Nat→List Cd→Option Nat
 |_,b,[]=>b
 |i,b,c::r=>um cs s (i+1) (if c.compat.contains s=true∧(∀j,b=some j→better c (cs.getD j default)=true) then some i else b) r
def OC (cs:List Cd) (s:Nm):Option Nat:=um cs s 0 none cs
def Be (cs:List Cd):Nat→List Nm→Option (Nat×Nat)
 |_,[]=>none
 |k,s::r=>match OC cs s with|some i=>some (i,k)|none=>Be cs (k+1) r
def wE (cs:List Cd) (texts:List Nm):Option (Nat×Nat):=Be cs 0 texts
theorem Ht {cs:List Cd} {s:Nm}: ∀(l:List Cd) (i:Nat) (b:Option Nat),i+l.length=cs.length→(∀j,b=some j→j<cs.length)→ ∀j,um cs s i b l=some j→j<cs.length
 | [],i,b,_,hb,j,h=>hb j h
 |c::r,i,b,hi,hb,j,h=>by
  simp only [List.length_cons] at hi
  rw [um] at h
  refine Ht r (i+1) _ (by omega) (fun k hk=>?_) j h
  split at hk
  ·cases hk;omega
  ·exact hb k hk
theorem Sr {cs:List Cd} {s:Nm} {j:Nat} (h:OC cs s=some j):j<cs.length:=Ht cs 0 none (by simp) (by simp) j h
theorem JV {cs:List Cd} {texts:List Nm} {i k:Nat} (h:wE cs texts=some (i,k)):i<cs.length∧k<texts.length:=by
 have key: ∀(l:List Nm) (m:Nat),Be cs m l=some (i,k)→i<cs.length∧k<m+l.length:=by
  intro l
  induction l with
  |nil=>intro m h;cases h
  |cons s r ih=>
   intro m h
   rw [Be] at h
   cases hb:OC cs s with
   |some j=>rw [hb] at h;cases h;exact ⟨Sr hb,by simp⟩
   |none=>rw [hb] at h;have:=ih (m+1) h;simp only [List.length_cons];omega
 have:=key texts 0 h
 rwa [Nat.zero_add] at this
end Go.Proofs.YtjecgaiaiophpaaGreatDoor
namespace Go.Proofs.YtjecgaiaiophpaaGreatDoor
open Go Wk
open Go.RowKit (Below)
attribute [local irreducible] Go.Calls
def number (l:List UInt8):Nat:=l.foldl (fun n c=>n*256+c.toNat) 0
theorem JW (l:List UInt8) (c:UInt8):number (l++ [c])=number l*256+c.toNat:=by simp [number]
theorem Eh {l:List UInt8} {k:Nat} {c:UInt8} (h:l[k]? =some c):number (l.take (k+1))=number (l.take k)*256+c.toNat:=by
 rw [List.take_add_one,h];exact JW _ _
theorem JX (l:List UInt8): ∀n:Nat,l.foldl (fun n c=>n*256+c.toNat) n=n*256^l.length+number l:=by
 induction l with
 |nil=>intro n;simp [number]
 |cons c l ih=>
  intro n
  have e1:number (c::l)=(0*256+c.toNat)*256^l.length+number l:=by
   show List.foldl _ (0*256+c.toNat) l=_
   exact ih _
  rw [List.foldl_cons,ih,e1,List.length_cons,Nat.zero_mul,Nat.zero_add,Nat.pow_succ,Nat.add_mul,Nat.mul_assoc,Nat.mul_comm 256]
  omega
theorem JY (c:UInt8) (l:List UInt8):number (c::l)=c.toNat*256^l.length+number l:=by
 have:=JX l (0*256+c.toNat)
 simpa [number] using this
theorem xP (l:List UInt8):number l<256^l.length:=by
 induction l with
 |nil=>simp [number]
 |cons c l ih=>
  rw [JY,List.length_cons,Nat.pow_succ]
  have h1:(c.toNat+1)*256^l.length≤256*256^l.length:=Nat.mul_le_mul_right _ (by have:=c.toNat_lt;omega)
  rw [Nat.add_mul] at h1
  omega
theorem Fz (k m:Nat) (h:k≤m):256^k≤256^m:=Nat.pow_le_pow_right (by omega) h
theorem WL (l:List UInt8) {k:Nat} (h:k<l.length): ∃x,l[k]? =some x:=⟨l[k],List.getElem?_eq_getElem h⟩
theorem P6 {l:List UInt8} {w:World} (hl:l.length=4):Calls Tryz.prog 256 #[.agg (l.map by8).toArray] w (Ret fun r w'=>r=.int .u32 (number l)∧New w w'):=by
 refine mQ (n:=18) Tryz.func256 rfl rfl rfl ?_
 (repeat' (first|refine aj ?_|refine ai ?_))
 refine bJ rfl fun w1 h1 n1 s1=>?_
 have h1':Bk w1 w.heap.size 359 (l.map by8):=h1
 (repeat' (first|refine aa1 ?_|refine af ?_|refine ah ?_|refine aj ?_|refine ai ?_))
 refine dh h1' (by simpa using hl) rfl ?_
 (repeat' (first|refine aa0 ?_|refine af ?_|refine ah ?_|refine Wc.block ?_))
 refine aU (σ:=Nat) (fun k=>[(3,.int .u32 (number (l.take k))),(6,.agg (l.map by8).toArray),(7,vi k)]) (fun k w'=>k≤4∧w1=w') (fun k=>4-k) 0 ⟨by simp [number];rfl,rfl,rfl,trivial⟩ ⟨Nat.zero_le _,rfl⟩ ?_
 rintro k G _ ⟨hk,rfl⟩
 simp only [oO]
 (repeat' (first|refine aa0 ?_|refine aa1 ?_|refine af ?_|refine ah ?_|refine aj ?_|refine ai ?_|refine Wc.block ?_|refine Wc.skip ?_|refine aQ ?_|refine ax ?_|refine aS ?_|refine aP ?_|refine aT ?_|refine aa3 ?_|refine aa4 ?_|refine aa9 (fun _=>?_) (fun _=>?_)))
 ·obtain ⟨c,hc⟩:=WL l (k:=k) (by omega)
  have hn:=xP (l.take k)
  have hp:=Fz (l.take k).length 3 (by simp;omega)
  have hcl:=c.toNat_lt
  have h3:(256:Nat)^3=16777216:=by decide
  refine jk (cs:=l.map by8) (u:=by8 c) rfl rfl (by omega) (by omega) (by simp [hc]) ?_
  (repeat' (first|refine aa0 ?_|refine aa1 ?_|refine af ?_|refine ah ?_|refine aj ?_|refine ai ?_))
  refine jd rfl rfl (by omega) ?_
  (repeat' (first|refine aa0 ?_|refine aa1 ?_|refine af ?_|refine ah ?_|refine ai ?_|refine dP rfl ?_))
  have e1:IntKind.u32.wrap ((number (l.take k):Int)*2^(min (8:Int).toNat IntKind.u32.bits))=((number (l.take k)*2^8:Nat):Int):=by
   rw [show (2:Int)^(min (8:Int).toNat IntKind.u32.bits)=256 from by decide,show (2:Nat)^8=256 from by decide,A7 rfl (by omega) (by simp only [IntKind.bits];omega)]
   omega
  have e2:IntKind.u32.wrap (c.toNat:Int)=(c.toNat:Int):=A7 rfl (by omega) (by simp only [IntKind.bits];omega)
  refine Wl.orU (number (l.take k)) c.toNat 8 rfl e1 e2 (by omega) (by simp only [IntKind.bits];omega) rfl rfl ?_
  (repeat' (first|refine aa0 ?_|refine aa1 ?_|refine af ?_|refine ah ?_|refine ai ?_|refine aJ ?_|refine aa7 ?_))
  refine aK (k+1) ⟨?_,rfl,rfl,trivial⟩ ⟨by omega,rfl⟩ (by omega)
  show Value.int _ _=Value.int _ _
  rw [Eh hc]
 ·have:k=l.length:=by omega
  refine aA rfl rfl ⟨_,rfl,?_,n1⟩
  rw [this,List.take_length];rfl
abbrev yQ:Int→Value:=fun x=>.int .u32 x
theorem Dv:qG (Wk.one yQ) 1:=tu _ fun _=>rfl
theorem EU {x:Int} {n:Nat} (h:x=(n:Int)) (hn:n<9223372036854775808):IntKind.i64.wrap x=(n:Int):=by
 subst h
 simp [IntKind.wrap,IntKind.bits,IntKind.signed]
 omega
def pieces (k:Nat) (l:List UInt8):List Int:=(List.range (l.length / k)).map fun i=>((number ((l.drop (k*i)).take k):Nat):Int)
theorem xC (k:Nat) (l:List UInt8):(pieces k l).length=l.length / k:=by simp [pieces]
theorem MO {k:Nat} {l:List UInt8} {i:Nat} (h:i<l.length / k):(pieces k l)[i]? =some ((number ((l.drop (k*i)).take k):Nat):Int):=by
 simp [pieces,h]
theorem JZ {k:Nat} {l:List UInt8} {i:Nat} (h:i<l.length / k):(pieces k l).take (i+1)=(pieces k l).take i++ [((number ((l.drop (k*i)).take k):Nat):Int)]:=by
 rw [List.take_add_one,MO h];rfl
theorem MP {k:Nat} {l:List UInt8} {i:Nat} (h:i=l.length / k):(pieces k l).take i=pieces k l:=by
 rw [h, ←xC,List.take_length]
def form (k:Nat) (l:List UInt8):Int:=if l.length % k=0 then 0 else 4
def nums (k:Nat) (l:List UInt8):List Int:=if l.length % k=0 then pieces k l else []
theorem Sv {k:Nat} {l:List UInt8} (h: ¬l.length % k=0):form k l=4∧nums k l=[]:=⟨if_neg h,if_neg h⟩
theorem UO {k:Nat} {l:List UInt8} (h:l.length % k=0):form k l=0∧nums k l=pieces k l:=⟨if_pos h,if_pos h⟩
theorem UQ {α:Type} {f:α→Value} {Pb:Nat→Prop} {w:World} {v:Value} {xs:List α} (h:RdS (Wk.one f) 1 Pb w v xs) (h0:0<xs.length):
 ∃b o cap,v=.slice (some ⟨b,o,none⟩) xs.length cap∧ ∀(j:Nat) y,xs[j]? =some y→w.cell? ⟨b,o+j,none⟩=some (f y):=by
 obtain ⟨b,o,cap,rfl,_⟩:=h.cells (i:=0) (List.getElem?_eq_getElem h0)
 refine ⟨b,o,cap,rfl,fun j y hy=>?_⟩
 obtain ⟨b2,o2,cap2,e,_,cs,_,hR,hc⟩:=h.cells hy
 cases e
 have:=hc 0 (f y) (by rw [hR];rfl)
 simpa using this
theorem Yu {P:Program} {n:Nat} {ds:List Deferred} {Q:Po} {F:Fr} {w:World} {ops rest:List Oper} {d:Nat} {ty:TypeId} {pos:String} {aft:Array Edge}
 {x:Operand} {e sz bytes:Nat} {z:Value} {b o:Nat} {cs:List Value} [he:ElT P e sz bytes true z] (hl:cs.length=sz) (hc: ∀j u,cs[j]? =some u→w.cell? ⟨b,o+j,none⟩=some u) (hx:ev n F x=.pointer (some ⟨b,o,none⟩))
 (c:Wl P n ds Q ops rest (upd F d (.agg cs.toArray)) w):Wl P n ds Q ops (⟨some d,.load e x,ty,pos,aft,none⟩::rest) F w:=
 Wl.val (by simp only [execOp,hx,Sem.run_bind,Ad he hl hc,Result.andThen_ok,Sem.run_pure]) c
theorem Bf {w:World} {l:List UInt8} (hl:l.length≤20000000):
 Calls Tryz.prog 220 #[vs l] w (Ret fun r w'=> ∃v,r=.tuple #[v,vi (form 4 l)]∧ny (Wk.one yQ) 166 1 (fun b=>w.heap.size≤b) (fun _=>False) w' v (nums 4 l)∧New w w'):=by
 refine mQ (n:=29) Tryz.func220 rfl rfl rfl ?_
 have e4:(l.length:Int).tmod 4=((l.length % 4:Nat):Int):=rfl
 have e5:IntKind.i64.wrap ((l.length:Int).tdiv 4)=((l.length / 4:Nat):Int):=EU (show (l.length:Int).tdiv 4=((l.length / 4:Nat):Int) from rfl) (by omega)
 (repeat' (first|refine aa0 ?_|refine aa1 ?_|refine af ?_|refine eu rfl ?_|refine ah ?_|refine aj ?_|refine ai ?_))
 refine Wl.Z8 rfl rfl (by omega) ?_
 rw [e4]
 (repeat' (first|refine aa0 ?_|refine aa1 ?_|refine af ?_|refine eu rfl ?_|refine ah ?_|refine aj ?_|refine ai ?_|refine Wc.skip ?_|refine ax ?_|refine aN ?_|refine aa3 ?_|refine aa4 ?_|refine pV (fun _=>?_) (fun _=>?_)))
 ·obtain ⟨f1,f2⟩:=Sv (k:=4) (l:=l) (by omega)
  rw [f1,f2]
  exact aW rfl rfl rfl ⟨_,rfl,_,rfl,bK,aV _ _⟩
 ·obtain ⟨f1,f2⟩:=UO (k:=4) (l:=l) (by omega)
  rw [f1,f2]
  refine Wl.Z7 rfl rfl (by omega) ?_
  rw [e5]
  refine iP (R:=Wk.one yQ) (Pe:=fun _=>False) rfl rfl (by omega) (by omega) (by omega) fun v0 w0 ho0 n0=>?_
  (repeat' (first|refine aa0 ?_|refine aa1 ?_|refine af ?_|refine ah ?_|refine aj ?_|refine ai ?_))
  refine iQ (l:=l) rfl (by simp only [maxLen];omega) fun w1 cap C fr hC htk hCs n1 s1 hr1=>?_
  (repeat' (first|refine aa1 ?_|refine af ?_|refine ah ?_|refine Wc.block ?_))
  refine aU (σ:=Nat×Value×Value) (fun s=>[(4,s.2.1),(5,s.2.2)]) (fun s w'=>4*s.1≤l.length∧ny (Wk.one yQ) 166 1 (fun b=>w.heap.size≤b∧b≠w0.heap.size) (fun _=>False) w' s.2.1 ((pieces 4 l).take s.1)∧RdS (Wk.one by8) 1 (fun b=>b=w0.heap.size) w' s.2.2 (l.drop (4*s.1))∧w0.heap.size<w'.heap.size∧New w w') (fun s=>l.length-s.1) (0,v0,_)
   ⟨rfl,rfl,trivial⟩ ⟨Nat.zero_le _,(ho0.mono Dv.mo (fun b hb h=>⟨h,by omega⟩) (fun _ _ h=>h)).VN n1.keep,RdS.mono (nD _) (fun b hb h=>by omega) hr1,by omega,New.trans n0 n1⟩ ?_
  rintro ⟨i,v,bv⟩ G w2 ⟨hi,ho,hb,hsz,hn⟩
  simp only at hi ho hb
  obtain ⟨ba,bc,rfl,_,_⟩:=hb.form
  have hdl:(l.drop (4*i)).length=l.length-4*i:=List.length_drop
  simp only [oO]
  (repeat' (first|refine aa0 ?_|refine aa1 ?_|refine af ?_|refine aO rfl ?_|refine ah ?_|refine aj ?_|refine ai ?_|refine Wc.block ?_|refine Wc.skip ?_|refine aQ ?_|refine ax ?_|refine aS ?_|refine aP ?_|refine aT ?_|refine aa3 ?_|refine aa4 ?_|refine bM rfl rfl (fun _=>?_) (fun _=>?_)))
  ·have hd:4≤(l.drop (4*i)).length:=by omega
   have hlt:((l.drop (4*i)).take 4).length=4:=by simp only [List.length_take];omega
   have hpl:((pieces 4 l).take i).length≤20000000:=by simp only [List.length_take,xC];omega
   obtain ⟨g,o,c2,e,hc⟩:=UQ hb (by omega)
   cases e
   refine kD rfl (by omega) ?_
   refine Yu (cs:=((l.drop (4*i)).take 4).map by8) (by simpa using hlt) (fun j u hu=>?_) rfl ?_
   ·rw [List.getElem?_map,List.getElem?_take] at hu
    obtain ⟨y,hy,rfl⟩:=Option.map_eq_some_iff.1 hu
    split at hy
    ·exact hc j y hy
    ·cases hy
   refine ay (P6 hlt) rfl ?_
   rintro _ w3 ⟨rfl,n3⟩
   have ho3:=ho.VN n3.keep
   refine dF (y:=((number ((l.drop (4*i)).take 4):Nat):Int)) Dv ho3 rfl rfl rfl rfl rfl (by omega) (by omega) (by simp only [maxLen];omega) (by omega) rfl rfl fun v4 w4 p ho4 hc4 _=>?_
   have hb4:=(hb.keep (nT _) n3.keep).keep (nT _) (hc4.keep fun k _ hk e=>(ho3.lt e).1.2 hk)
   (repeat' (first|refine aa0 ?_|refine aa1 ?_|refine af ?_|refine ah ?_|refine ai ?_|refine aJ ?_))
   refine jg hb4 rfl rfl (by omega) (by omega) fun v5 hr5=>?_
   (repeat' (first|refine aa1 ?_|refine af ?_))
   have s3:=n3.size
   have s4:=hc4.size
   refine aK (i+1,v4,v5) ⟨rfl,rfl,trivial⟩ ⟨by simp only;omega,?_,?_,by omega,Chg.trans (New.trans hn n3) hc4 fun b hb e=>by have:=(ho3.lt e).1;omega⟩ (by simp only;omega)
   ·simp only
    rw [JZ (by omega)]
    exact ho4.mono Dv.mo (fun b _ hb=>by have:=hn.size;rcases hb with hb|hb<;>omega) (fun _ _ h=>h)
   ·simp only
    have:l.drop (4*(i+1))=(l.drop (4*i)).drop 4:=by rw [List.drop_drop];congr 1
    rw [this];exact hr5
  ·rw [MP (by omega)] at ho
   exact aW rfl rfl rfl ⟨_,rfl,_,rfl,ho.mono Dv.mo (fun _ _ h=>h.1) (fun _ _ h=>h),hn⟩
theorem UR:qG (Wk.one vs) 1:=tu _ fun _=>rfl
def stp (s:List (List UInt8)×List UInt8) (c:UInt8):List (List UInt8)×List UInt8:=if c=0 then (s.1++ [s.2],[]) else (s.1,s.2++ [c])
def uS (l:List UInt8):List (List UInt8)×List UInt8:=l.foldl stp ([],[])
theorem P7 (l:List UInt8) (c:UInt8):uS (l++ [c])=stp (uS l) c:=by simp [uS]
theorem Yv (l:List UInt8): ∀(xs:List (List UInt8)) (q:List UInt8),l.foldl stp (xs,q)=(xs++(l.foldl stp ([],q)).1,(l.foldl stp ([],q)).2):=by
 induction l with
 |nil=>intro xs q;simp
 |cons c l ih=>
  intro xs q
  by_cases e:c=0
  ·simp only [List.foldl_cons,stp,if_pos e]
   rw [ih (xs++ [q]) [],ih ([]++ [q]) []]
   simp
  ·simp only [List.foldl_cons,stp,if_neg e]
   exact ih xs (q++ [c])
theorem Hu (l:List UInt8): ∀(q:List UInt8),(∀c∈l,c≠0)→l.foldl stp ([],q)=([],q++l):=by
 induction l with
 |nil=>intro q _;simp
 |cons c l ih=>
  intro q h
  simp only [List.foldl_cons,stp,if_neg (h c (by simp))]
  rw [ih _ fun d hd=>h d (by simp [hd])]
  simp
theorem P8 {l:List UInt8} (h: ∀c∈l,c≠0):uS l=([],l):=by
 unfold uS;rw [Hu l [] h];simp
theorem P9 {p:List UInt8} (h: ∀c∈p,c≠0) (r:List UInt8):uS (p++0::r)=(p::(uS r).1,(uS r).2):=by
 unfold uS
 rw [List.foldl_append,Hu p [] h,List.foldl_cons]
 simp only [stp,if_pos,List.nil_append]
 rw [Yv r [p] []]
 simp
def AO (l:List UInt8):Int:=if l=[]∨l.getLast?=some 0 then 0 else 4
def Bg (l:List UInt8):List (List UInt8):=if l=[]∨l.getLast?=some 0 then (uS l).1 else []
theorem Sz {l:List UInt8} (h: ¬(l=[]∨l.getLast?=some 0)):AO l=4∧Bg l=[]:=⟨if_neg h,if_neg h⟩
theorem WM {l:List UInt8} (h:l=[]∨l.getLast?=some 0):AO l=0∧Bg l=(uS l).1:=⟨if_pos h,if_pos h⟩
theorem Hw {l:List UInt8} {c:UInt8} (h:l[l.length-1]? =some c):l.drop (l.length-1)=[c]:=by
 obtain ⟨hlt,rfl⟩:=List.getElem?_eq_some_iff.1 h
 rw [List.drop_eq_getElem_cons hlt,List.drop_eq_nil_of_le (by omega)]
theorem Qa {l:List UInt8} (h:l.getLast?=some 0):l=l.take (l.length-1)++ [0]:=by
 rw [List.getLast?_eq_getElem?] at h
 rw [←Hw h,List.take_append_drop]
theorem Ei: ∀(k:Nat) (l:List UInt8),l.count 0=k→Lib.splitK [0] 0 k l=(uS l).1++ [(uS l).2]
 |0,l,h=>by
  rw [P8 fun c hc e=>by subst e;exact absurd (List.count_pos_iff.2 hc) (by omega)]
  rfl
 |k+1,l,h=>by
  have hge:=Lib.indexByte_ge l 0
  have hne:Lib.indexByte l 0≠ -1:=fun e=>by
   obtain ⟨j,hj⟩:=List.mem_iff_getElem?.1 (List.count_pos_iff.1 (show 0<l.count 0 by omega))
   exact Lib.indexByte_none e j hj
  obtain ⟨o,ho⟩:=Int.eq_ofNat_of_zero_le (show 0≤Lib.indexByte l 0 by omega)
  obtain ⟨h1,h2⟩:=Lib.indexByte_some ho
  obtain ⟨hlt,he⟩:=List.getElem?_eq_some_iff.1 h1
  have hl:l=l.take o++0::l.drop (o+1):=by
   conv=>lhs;rw [←List.take_append_drop o l,List.drop_eq_getElem_cons hlt,he]
  have hfree: ∀c∈l.take o,c≠0:=fun c hc e=>by
   subst e
   obtain ⟨j,hj⟩:=List.mem_iff_getElem?.1 hc
   rw [List.getElem?_take] at hj
   split at hj
   ·exact h2 j ‹_› hj
   ·cases hj
  have hc0:(l.take o).count 0=0:=List.count_eq_zero.2 fun hm=>hfree 0 hm rfl
  have hcd:(l.drop (o+1)).count 0=k:=by
   rw [hl,List.count_append,hc0,List.count_cons_self] at h
   omega
  have hi:(Lib.index l [0] == -1)=false:=by rw [Lib.index_one,ho];simp
  unfold Lib.splitK
  rw [hi,Lib.index_one,ho]
  simp only [Bool.false_eq_true,if_false,Int.toNat_natCast,Nat.add_zero,List.length_singleton]
  rw [Ei k _ hcd]
  conv=>rhs;rw [hl]
  rw [P9 hfree]
  rfl
theorem J3 {l:List UInt8} {w:World} (hl:l.length≤2000000):
 Calls Tryz.prog 133 #[vs l,vs [0]] w (Ret fun r w'=>ny (Wk.one vs) 9 1 (fun b=>w.heap.size≤b) (fun _=>False) w' r ((uS l).1++ [(uS l).2])∧New w w'):=by
 refine mQ (n:=8) Tryz.func133 rfl rfl rfl ?_
 (repeat' (first|refine aa0 ?_|refine aa1 ?_|refine af ?_|refine ah ?_|refine aj ?_|refine ai ?_))
 have hsz:(⟨l.toArray⟩:ByteArray).size=l.length:=by simp [ByteArray.size]
 have hcnt:Lib.countB ⟨l.toArray⟩ ⟨#[0]⟩=l.count 0:=Lib.count_one 0 l
 have hle:l.count 0≤l.length:=List.count_le_length
 have hC:Calls Tryz.prog 232 #[.string ⟨l.toArray⟩,.string ⟨#[0]⟩] w fun e w'=>e=.returned (.int .i64 (Lib.countB ⟨l.toArray⟩ ⟨#[0]⟩))∧w'=w:=by
  refine (kZ ⟨l.toArray⟩ 0 w).mono fun e w' h=>⟨?_,h.2⟩
  rw [h.1,hcnt];rfl
 have hI: ∀(x:ByteArray) (c:Array Value),x.size≤(⟨l.toArray⟩:ByteArray).size→Calls Tryz.prog 233 #[.string x,.string ⟨#[0]⟩] (w.alloc (.cells c 9)) fun e w'=>e=.returned (.int .i64 (Lib.indexB x ⟨#[0]⟩))∧w'=w.alloc (.cells c 9):=by
  intro x c _
  refine (kW x 0 _).mono fun e w' h=>⟨?_,h.2⟩
  rw [h.1]
  show _=Ending.returned (Value.int .i64 (Lib.index x.data.toList [0]))
  rw [Lib.index_one]
 have core:=Any.strings_genSplit_core lC (by kernel_rfl) ⟨l.toArray⟩ ⟨#[0]⟩ 0 (-1) (l.count 0+1) w (by rw [hsz];omega) (Nat.le_refl 1) (Nat.zero_le _) hI hC (by decide) (by decide) (by rw [if_pos (by decide),hcnt,hsz];omega)
 have hdata:(Lib.splitB ⟨#[0]⟩ 0 (l.count 0) ⟨l.toArray⟩).map (·.data.toList)=(uS l).1++ [(uS l).2]:=by
  rw [Lib.splitB_data];exact Ei _ l rfl
 have hlen:=congrArg List.length hdata
 simp only [List.length_map] at hlen
 have hln:(Lib.splitB ⟨#[0]⟩ 0 (l.count 0) ⟨l.toArray⟩).length=l.count 0+1:=Lib.splitB_all ⟨#[0]⟩ (Nat.le_refl 1) 0 _ _ hcnt
 have hcells:(Lib.cellsOf (Lib.splitB ⟨#[0]⟩ 0 (l.count 0) ⟨l.toArray⟩) (l.count 0+1))=(((uS l).1++ [(uS l).2]).map vs).toArray:=by
  unfold Lib.cellsOf
  rw [hln,Nat.sub_self,List.replicate_zero,List.append_nil, ←hdata,List.map_map]
  rfl
 refine ay (φ:=fun r w'=>ny (Wk.one vs) 9 1 (fun b=>w.heap.size≤b) (fun _=>False) w' r ((uS l).1++ [(uS l).2])∧New w w') (core.mono fun e w' h=>⟨_,h.1,?_,?_⟩) rfl ?_
 ·rw [h.2,Nat.add_sub_cancel,hcells,hlen]
  refine ⟨((uS l).1++ [(uS l).2]).map vs,⟨by simp,.inr ⟨_,_,_,rfl,Nat.le_refl _,heap_alloc_new w _,?_,by simp only [maxLen];omega,?_,?_⟩⟩,fun i x hx=>?_⟩
  ·omega
  ·simp only [List.size_toArray,List.length_map];omega
  ·rw [Nat.mul_one,List.take_of_length_le (by simp)]
  ·rw [Nat.mul_one]
   show List.take 1 (List.drop i (List.map vs _))=[vs x]
   obtain ⟨h1,h2⟩:=List.getElem?_eq_some_iff.1 hx
   rw [List.drop_eq_getElem_cons (by simpa using h1),List.getElem_map,h2];rfl
 ·rw [h.2];exact Chg.alloc _ _ _
 ·rintro v w1 ⟨h1,n1⟩
  (repeat' (first|refine aa1 ?_|refine af ?_|refine ah ?_|refine ax ?_))
  exact aA rfl rfl ⟨_,rfl,h1,n1⟩
theorem EH {l:List UInt8} {w:World} (hl:l.length≤2000000):
 Calls Tryz.prog 268 #[vs l,vs [0]] w (Ret fun r w'=>r=.bool (decide (l.getLast?=some 0))∧w=w'):=by
 have h1:(([0]:List UInt8).length:Int)=1:=rfl
 refine mQ (n:=21) Tryz.func268 rfl rfl rfl ?_
 (repeat' (first|refine aa0 ?_|refine aa1 ?_|refine af ?_|refine aa6 ?_|refine qi ?_|refine pq ?_|refine eu rfl ?_|refine ah ?_|refine aj ?_|refine ai ?_|refine ax ?_|refine Aq ?_|refine cZ rfl rfl (fun _=>?_) (fun _=>?_)))
 ·obtain ⟨c,hc⟩:=WL l (k:=l.length-1) (by omega)
  have hlast:l.getLast?=some c:=by rw [List.getLast?_eq_getElem?];exact hc
  refine ji rfl rfl (by omega) (by omega) ?_
  have e:l.drop ((l.length:Int)-(([0]:List UInt8).length:Int)).toNat=[c]:=by
   have:((l.length:Int)-(([0]:List UInt8).length:Int)).toNat=l.length-1:=by omega
   rw [this];exact Hw hc
  rw [e]
  (repeat' (first|refine aa0 ?_|refine aa1 ?_|refine af ?_|refine aa6 ?_|refine pG ?_|refine ah ?_|refine ax ?_|refine fF rfl rfl (fun _=>?_) (fun _=>?_)))
  ·have e2:c=0:=by have:[c]=[(0:UInt8)]:=by assumption
                   simpa using this
   subst e2
   refine aA rfl rfl ⟨_,rfl,?_,rfl⟩
   rw [decide_eq_true hlast];rfl
  ·have e2:c≠0:=fun e3=>by subst e3;contradiction
   refine aA rfl rfl ⟨_,rfl,?_,rfl⟩
   rw [decide_eq_false (fun h=>e2 (Option.some.inj (hlast.symm.trans h)))];rfl
 ·have:l=[]:=List.eq_nil_of_length_eq_zero (by omega)
  subst this
  exact aA rfl rfl ⟨_,rfl,rfl,rfl⟩
def FB (l:List UInt8):Value:=if l.getLast?=some 0 then .tuple #[vs (l.take (l.length-1)),.bool true] else .tuple #[vs l,.bool false]
theorem Dw {l:List UInt8} {w:World} (hl:l.length≤2000000):
 Calls Tryz.prog 239 #[vs l,vs [0]] w (Ret fun r w'=>r=FB l∧w=w'):=by
 have h1:(([0]:List UInt8).length:Int)=1:=rfl
 refine mQ (n:=18) Tryz.func239 rfl rfl rfl ?_
 (repeat' (first|refine aa0 ?_|refine aa1 ?_|refine af ?_|refine ah ?_|refine aj ?_|refine ai ?_))
 refine ay (EH hl) rfl ?_
 rintro r _ ⟨hr,rfl⟩
 unfold FB
 by_cases h:l.getLast?=some 0
 ·rw [decide_eq_true h] at hr
  subst hr
  have hpos:0<l.length:=by cases l with|nil=>cases h|cons c l=>simp
  rw [if_pos h]
  (repeat' (first|refine aa0 ?_|refine af ?_|refine aZ rfl ?_|refine eu rfl ?_|refine ah ?_|refine aj ?_|refine ai ?_|refine Wc.skip ?_|refine aa4 ?_|refine Aq ?_))
  refine jh rfl rfl (by omega) (by omega) ?_
  have e:l.take ((l.length:Int)-(([0]:List UInt8).length:Int)).toNat=l.take (l.length-1):=by congr 1;omega
  rw [e]
  (repeat' (first|refine aa1 ?_|refine af ?_|refine ah ?_|refine ax ?_))
  exact aW rfl rfl rfl ⟨_,rfl,rfl,rfl⟩
 ·rw [decide_eq_false h] at hr
  subst hr
  rw [if_neg h]
  (repeat' (first|refine aa0 ?_|refine aa1 ?_|refine af ?_|refine aZ rfl ?_|refine ah ?_|refine aj ?_|refine ai ?_|refine ax ?_|refine aN ?_|refine aa3 ?_))
  exact aW rfl rfl rfl ⟨_,rfl,rfl,rfl⟩
theorem EI {l:List UInt8} {w:World} (hl:l.length≤2000000):
 Calls Tryz.prog 197 #[vs l,vs [0]] w (Ret fun r w'=>r=FB l∧w=w'):=by
 refine mQ (n:=11) Tryz.func197 rfl rfl rfl ?_
 (repeat' (first|refine aa0 ?_|refine aa1 ?_|refine af ?_|refine ah ?_|refine aj ?_|refine ai ?_))
 refine ay (Dw hl) rfl ?_
 rintro _ _ ⟨rfl,rfl⟩
 unfold FB
 split
 ·(repeat' (first|refine aa1 ?_|refine af ?_|refine aa8 ?_|refine ah ?_|refine ax ?_))
  exact aW rfl rfl rfl ⟨_,rfl,rfl,rfl⟩
 ·(repeat' (first|refine aa1 ?_|refine af ?_|refine aa8 ?_|refine ah ?_|refine ax ?_))
  exact aW rfl rfl rfl ⟨_,rfl,rfl,rfl⟩
theorem Ej {w:World} {l:List UInt8} (hl:l.length≤2000000):
 Calls Tryz.prog 145 #[vs l] w (Ret fun r w'=> ∃v,r=.tuple #[v,vi (AO l)]∧ny (Wk.one vs) 9 1 (fun b=>w.heap.size≤b) (fun _=>False) w' v (Bg l)∧New w w'):=by
 refine mQ (n:=17) Tryz.func145 rfl rfl rfl ?_
 (repeat' (first|refine aa0 ?_|refine aa1 ?_|refine af ?_|refine ah ?_|refine aj ?_|refine ai ?_|refine Wc.skip ?_|refine ax ?_|refine aN ?_|refine aa3 ?_|refine aa4 ?_|refine fF rfl rfl (fun _=>?_) (fun _=>?_)))
 ·have e:l=[]:=by assumption
  subst e
  obtain ⟨f1,f2⟩:=WM (l:=[]) (.inl rfl)
  rw [f1,f2]
  exact aW rfl rfl rfl ⟨_,rfl,_,rfl,bK,aV _ _⟩
 ·have hne:l≠ []:=by assumption
  refine ay (EI hl) rfl ?_
  rintro _ _ ⟨rfl,rfl⟩
  unfold FB
  by_cases h:l.getLast?=some 0
  ·obtain ⟨f1,f2⟩:=WM (l:=l) (.inr h)
   rw [if_pos h,f1,f2]
   (repeat' (first|refine aa0 ?_|refine aa1 ?_|refine af ?_|refine aa8 ?_|refine aZ rfl ?_|refine ah ?_|refine aj ?_|refine ai ?_|refine Wc.skip ?_|refine aa4 ?_))
   refine ay (J3 (l:=l.take (l.length-1)) (by simp only [List.length_take];omega)) rfl ?_
   rintro v w1 ⟨ho,hn⟩
   (repeat' (first|refine aa1 ?_|refine af ?_|refine ah ?_|refine ax ?_))
   refine aW rfl rfl rfl ⟨_,rfl,_,rfl,?_,hn⟩
   have e:uS l=((uS (l.take (l.length-1))).1++ [(uS (l.take (l.length-1))).2],[]):=by
    conv=>lhs;rw [Qa h]
    rw [P7];rfl
   rw [e];exact ho
  ·obtain ⟨f1,f2⟩:=Sz (l:=l) (fun h2=>h2.elim hne h)
   rw [if_neg h,f1,f2]
   (repeat' (first|refine aa0 ?_|refine aa1 ?_|refine af ?_|refine aa8 ?_|refine aZ rfl ?_|refine ah ?_|refine aj ?_|refine ai ?_|refine ax ?_|refine aN ?_|refine aa3 ?_))
   exact aW rfl rfl rfl ⟨_,rfl,_,rfl,bK,aV _ _⟩
def only {α:Type} (z:α) (e:Int) (xs:List α):α×Int:=if e=0∧xs.length=1 then (xs.headD z,0) else (z,4)
theorem Dx {w:World} {l:List UInt8} (hl:l.length≤2000000):
 Calls Tryz.prog 172 #[vs l] w (Ret fun r w'=>r=.tuple #[yQ (only 0 (form 4 l) (nums 4 l)).1,vi (only 0 (form 4 l) (nums 4 l)).2]∧New w w'):=by
 refine mQ (n:=21) Tryz.func172 rfl rfl rfl ?_
 (repeat' (first|refine aa0 ?_|refine aa1 ?_|refine af ?_|refine ah ?_|refine aj ?_|refine ai ?_))
 refine ay (Bf (Nat.le_trans hl (by decide))) rfl ?_
 rintro _ w1 ⟨v,rfl,ho,hn⟩
 obtain ⟨a,cap,rfl,_,_⟩:=ho.form
 unfold only
 (repeat' (first|refine aa0 ?_|refine aa1 ?_|refine af ?_|refine aa8 ?_|refine aa6 ?_|refine qi ?_|refine pG ?_|refine pq ?_|refine aO rfl ?_|refine ah ?_|refine aj ?_|refine ai ?_|refine Wc.skip ?_|refine ax ?_|refine aN ?_|refine aa3 ?_|refine aa4 ?_|refine pV (fun _=>?_) (fun _=>?_)))
 ·rw [if_neg (by omega)]
  exact aW rfl rfl rfl ⟨_,rfl,rfl,hn⟩
 ·rw [if_neg (by omega)]
  exact aW rfl rfl rfl ⟨_,rfl,rfl,hn⟩
 ·rw [if_pos (by omega)]
  obtain ⟨y,hy⟩: ∃y,(nums 4 l)[(0:Int).toNat]? =some y:=⟨(nums 4 l)[0]'(by omega),by simp⟩
  refine bY (ho.rd Dv.mo) rfl rfl (by omega) hy fun b o hc=>?_
  refine au rfl hc ?_
  (repeat' (first|refine aa1 ?_|refine af ?_|refine ah ?_|refine ax ?_))
  refine aW rfl rfl rfl ⟨_,rfl,?_,hn⟩
  have e2:(nums 4 l)[0]? =some y:=hy
  rw [List.headD_eq_head?_getD,List.head?_eq_getElem?,e2];rfl
theorem MQ {w:World} {l:List UInt8} (hl:l.length≤2000000):
 Calls Tryz.prog 148 #[vs l] w (Ret fun r w'=>r=.tuple #[vs (only [] (AO l) (Bg l)).1,vi (only [] (AO l) (Bg l)).2]∧New w w'):=by
 refine mQ (n:=21) Tryz.func148 rfl rfl rfl ?_
 (repeat' (first|refine aa0 ?_|refine aa1 ?_|refine af ?_|refine ah ?_|refine aj ?_|refine ai ?_))
 refine ay (Ej hl) rfl ?_
 rintro _ w1 ⟨v,rfl,ho,hn⟩
 obtain ⟨a,cap,rfl,_,_⟩:=ho.form
 unfold only
 (repeat' (first|refine aa0 ?_|refine aa1 ?_|refine af ?_|refine aa8 ?_|refine aa6 ?_|refine qi ?_|refine pG ?_|refine pq ?_|refine aO rfl ?_|refine ah ?_|refine aj ?_|refine ai ?_|refine Wc.skip ?_|refine ax ?_|refine aN ?_|refine aa3 ?_|refine aa4 ?_|refine pV (fun _=>?_) (fun _=>?_)))
 ·rw [if_neg (by omega)]
  exact aW rfl rfl rfl ⟨_,rfl,rfl,hn⟩
 ·rw [if_neg (by omega)]
  exact aW rfl rfl rfl ⟨_,rfl,rfl,hn⟩
 ·rw [if_pos (by omega)]
  obtain ⟨y,hy⟩: ∃y,(Bg l)[(0:Int).toNat]? =some y:=⟨(Bg l)[0]'(by omega),by simp⟩
  refine bY (ho.rd UR.mo) rfl rfl (by omega) hy fun b o hc=>?_
  refine au rfl hc ?_
  (repeat' (first|refine aa1 ?_|refine af ?_|refine ah ?_|refine ax ?_))
  refine aW rfl rfl rfl ⟨_,rfl,?_,hn⟩
  have e2:(Bg l)[0]? =some y:=hy
  rw [List.headD_eq_head?_getD,List.head?_eq_getElem?,e2];rfl
end Go.Proofs.YtjecgaiaiophpaaGreatDoor
namespace Go.Proofs.YtjecgaiaiophpaaGreatDoor
open Go Wk
abbrev ndA (t:List Nd) (i:Nat):Nd:=t.getD i default
def par (t:List Nd) (i:Nat):Nat:=(ndA t i).parent.toNat
def sZ (t:List Nd) (i:Nat) (nm:Nm):Option (List UInt8):=val (ndA t i).oJ nm
def IQ (t:List Nd):Nat→Nat→List Nat
 |0,_=>[]
 |f+1,i=>if i=0 then [] else i::IQ t f (par t i)
def Cf (t:List Nd) (i:Nat):List Nat:=IQ t i i
theorem uo {t:List Nd} (ht:nV t=true) {i:Nat} (h0:i≠0) (hi:i<t.length):par t i<i∧(ndA t i).parent=(par t i:Nat):=by
 obtain ⟨x,hx⟩:=nN t hi
 have:=(qA ht hx).kid h0
 have e:ndA t i=x:=by unfold ndA;rw [List.getD_eq_getElem?_getD,hx];rfl
 unfold par
 rw [e];omega
theorem UU {t:List Nd} (ht:nV t=true): ∀(i:Nat),i<t.length→ ∀(f g:Nat),i≤f→i≤g→IQ t f i=IQ t g i:=by
 intro i
 induction i using Nat.strongRecOn with
 |ind i ih=>
  intro hi f g hf hg
  by_cases h0:i=0
  ·subst h0
   cases f<;>cases g<;>simp [IQ]
  ·obtain ⟨f,rfl⟩: ∃m,f=m+1:=⟨f-1,by omega⟩
   obtain ⟨g,rfl⟩: ∃m,g=m+1:=⟨g-1,by omega⟩
   have hp:=(uo ht h0 hi).1
   rw [IQ,IQ,if_neg h0,if_neg h0,ih _ hp (by omega) f g (by omega) (by omega)]
theorem Ag (t:List Nd):Cf t 0=[]:=rfl
theorem Ah {t:List Nd} (ht:nV t=true) {i:Nat} (h0:i≠0) (hi:i<t.length):Cf t i=i::Cf t (par t i):=by
 obtain ⟨m,rfl⟩: ∃m,i=m+1:=⟨i-1,by omega⟩
 have hp:=(uo ht h0 hi).1
 show IQ t (m+1) (m+1)=_
 rw [IQ,if_neg h0,UU ht _ (by omega) m (par t (m+1)) (by omega) (Nat.le_refl _)]
 rfl
theorem UW {t:List Nd} (ht:nV t=true): ∀(i:Nat),i<t.length→ ∀k∈Cf t i,k≠0∧k≤i:=by
 intro i
 induction i using Nat.strongRecOn with
 |ind i ih=>
  intro hi k hk
  by_cases h0:i=0
  ·subst h0;simp [Ag] at hk
  ·have hp:=(uo ht h0 hi).1
   rw [Ah ht h0 hi] at hk
   rcases List.mem_cons.1 hk with rfl|hk
   ·exact ⟨h0,Nat.le_refl _⟩
   ·have:=ih _ hp (by omega) k hk;omega
def okay (t:List Nd) (i:Nat):Bool:=match sZ t i [115,116,97,116,117,115] with
 |none=>true
 |some v=>decide ((only [] (AO v) (Bg v)).2=0∧(only [] (AO v) (Bg v)).1=[111,107,97,121])
def onM (t:List Nd) (i:Nat):Bool:=(Cf t i).all (okay t)&&okay t 0
def qm:Nm:=[99,111,109,112,97,116,105,98,108,101]
def rE (t:List Nd) (i:Nat):List Nm:=Bg ((sZ t i qm).getD [])
def Bh (t:List Nd) (i:Nat):Bool:=(sZ t i qm).isNone&&onM t i
def oz (t:List Nd) (i:Nat):Nm:=zf (xO t i)
def FC (v:List UInt8):Option Nat:=if (only 0 (form 4 v) (nums 4 v)).2=0 then some (only 0 (form 4 v) (nums 4 v)).1.toNat else none
def IU (ps:List Pr) (nm:Nm) (least dflt:Nat):Option Nat:=match val ps nm with
 |none=>some dflt
 |some s=>match FC s with
  |some n=>if least≤n∧n≤2 then some n else none
  |none=>none
def SA:Nm:=[35,97,100,100,114,101,115,115,45,99,101,108,108,115]
def OD:Nm:=[35,115,105,122,101,45,99,101,108,108,115]
def vg (ps:List Pr):Option (Nat×Nat):=match IU ps SA 1 2,IU ps OD 0 1 with
 |some a,some s=>some (a,s)
 |_,_=>none
def Ar:List Nat→List UInt8→Option (List Nat×List UInt8)
 | [],s=>some ([],s)
 |w::ws,s=>if s.length<4*w then none else (Ar ws (s.drop (4*w))).map fun r=>(number (s.take (4*w))::r.1,r.2)
def xQ (ws:List Nat):Nat→List UInt8→Option (List (List Nat))
 |0,s=>if s=[] then some [] else none
 |f+1,s=>if s=[] then some [] else match Ar ws s with
  |none=>none
  |some (r,s')=>(xQ ws f s').map (r:: ·)
def xR (ws:List Nat) (s:List UInt8):Option (List (List Nat)):=xQ ws s.length s
def fitsW (a size:Nat):Bool:=decide (size=0∨a+(size-1)<2^64)
abbrev Win:=Nat×Nat
def Qc (t:List Nd) (i:Nat):Option (List Win):=match vg (ndA t (par t i)).oJ with
 |none=>none
 |some (a,s)=>match xR [a,s] ((sZ t i [114,101,103]).getD []) with
  |none=>none
  |some rs=>if rs.all (fun r=>fitsW (r.getD 0 0) (r.getD 1 0))=true then some (rs.map fun r=>(r.getD 0 0,r.getD 1 0)) else none
def J4 (t:List Nd) (i:Nat):Option (List (Nat×Nat×Nat)×Bool):=match sZ t i [114,97,110,103,101,115] with
 |none=>none
 |some text=>match vg (ndA t i).oJ,vg (ndA t (par t i)).oJ with
  |some (a,s),some (above,_)=>match xR [a,above,s] text with
   |none=>none
   |some rs=>if rs.all (fun r=>fitsW (r.getD 0 0) (r.getD 2 0)&&fitsW (r.getD 1 0) (r.getD 2 0))=true then some (rs.map fun r=>(r.getD 0 0,r.getD 1 0,r.getD 2 0),decide (text=[])) else none
  |_,_=>none
def within (w:Win) (from_ size:Nat):Bool:=decide (from_≤w.1∧w.1-from_<size∧w.2≤size-(w.1-from_))
def wW (w:Win):List (Nat×Nat×Nat)→Option Nat
 | []=>none
 |x::r=>if within w x.1 x.2.2=true then some ((x.2.1+(w.1-x.1)) % 2^64) else wW w r
def xU (t:List Nd) (i:Nat) (w:Win):Option Nat:=match J4 t i with
 |none=>none
 |some (m,same)=>if same=true then some w.1 else wW w m
def qZ (t:List Nd):List Nat→Win→Option Nat
 | [],w=>some w.1
 |i::r,w=>match xU t i w with
  |none=>none
  |some b=>qZ t r (b,w.2)
def tK {α β:Type} (f:α→Option β):List α→Option (List β)
 | []=>some []
 |x::r=>match f x with
  |none=>none
  |some y=>(tK f r).map (y:: ·)
def uq (t:List Nd) (i:Nat):Option (List Win):=match Qc t i with
 |none=>none
 |some ws=>tK (fun w=>(qZ t (Cf t (par t i)) w).map fun b=>(b,w.2)) ws
structure Clm where
 kind:Nat
 from_:Nat
 upto:Nat
deriving DecidableEq,Inhabited
def ru (a b:Clm):Int:=if a.kind<b.kind then-1 else if b.kind<a.kind then 1 else if a.from_<b.from_ then-1 else if b.from_<a.from_ then 1 else if a.upto<b.upto then-1 else if b.upto<a.upto then 1 else 0
def yR (kind from_ size:Nat):List Clm:=if 0<size then [⟨kind,from_,(from_+(size-1)) % 2^64⟩] else []
def uF (t:List Nd) (i kind:Nat) (nm:Nm):Option (List Clm):=match sZ t i nm with
 |none=>some []
 |some v=>if form 4 v=0 then some ((nums 4 v).flatMap fun n=>yR kind n.toNat 1) else none
def UX (t:List Nd) (i:Nat):Option (List Clm):=match uF t i 1 [112,105,110,115],uF t i 2 [108,105,110,101,115] with
 |some a,some b=>if i=0 then some (a++b) else match uq t i with
  |none=>none
  |some ws=>some (a++b++ws.flatMap fun w=>yR 3 w.1 w.2)
 |_,_=>none
def qK:List Clm→List Clm
 | []=>[]
 |a::r=>a::tZ a r
where tZ:Clm→List Clm→List Clm
 |_,[]=>[]
 |a,b::r=>if b=a then tZ b r else b::tZ b r
def ofM (t:List Nd) (i:Nat):Option (List Clm):=match UX t i with
 |none=>none
 |some l=>let s:=qK (l.mergeSort fun x y=> !decide (ru y x<0));if s.length≤64 then some s else none
def FD (a b:Clm):Bool:=decide (a.kind=b.kind∧a.from_≤a.upto∧b.from_≤b.upto∧a.from_≤b.upto∧b.from_≤a.upto)
abbrev Bj:=Nat×Clm
def IV (out:List Bj):List Clm→Option (Clm×Nat)
 | []=>none
 |c::r=>match out.find? fun o=>FD o.2 c with
  |some o=>some (c,o.1)
  |none=>IV out r
structure Rfs where
 node:Nat
 claim:Clm
 by_:Int
deriving DecidableEq,Inhabited
def tC (t:List Nd):List Bj→List Nat→List Bj×List Rfs
 |out,[]=>(out,[])
 |out,n::r=>match ofM t n with
  |none=>let q:=tC t out r;(q.1,⟨n,⟨0,0,0⟩, -1⟩::q.2)
  |some l=>match IV out l with
   |some (c,b)=>let q:=tC t out r;(q.1,⟨n,c,b⟩::q.2)
   |none=>tC t (out++l.map fun c=>(n,c)) r
def allM (cs:List Cd) (t:List Nd):List (Option (Nat×Nat)):=(List.range t.length).map fun i=>wE cs (rE t i)
def qI (cs:List Cd) (t:List Nd) (i:Nat):Option Nat:=(wE cs (rE t i)).map (·.1)
def Dy (cs:List Cd) (t:List Nd) (i:Nat):Int:=match qI cs t i with|some c=>(cs.getD c default).level|none=>0
def qN (lv:Nat→Int) (pt:Nat→Nm) (a b:Nat):Int:=if lv a<lv b then-1 else if lv b<lv a then 1 else if pt a<pt b then-1 else if pt b<pt a then 1 else 0
def Ci (cs:List Cd) (t:List Nd):List Nat:=
 ((List.range t.length).filter fun i=>onM t i&&(qI cs t i).isSome).mergeSort fun x y=> !decide (qN (Dy cs t) (oz t) y x<0)
def qC (cs:List Cd) (t:List Nd):List Bj×List Rfs:=tC t [] (Ci cs t)
end Go.Proofs.YtjecgaiaiophpaaGreatDoor
namespace Go.Proofs.YtjecgaiaiophpaaGreatDoor
open Go Wk
open Go.RowKit (Below)
attribute [local irreducible] Go.Calls
theorem xE {t:List Nd} {i:Nat} {x:Nd} (h:t[i]? =some x):ndA t i=x:=by unfold ndA;rw [List.getD_eq_getElem?_getD,h];rfl
theorem SB {t:List Nd} (ht:nV t=true) {i:Nat} (hi:i<t.length):(oz t i).length≤16400:=by
 have h1:=PX fun n hn=>(yO ht i n hn).2
 have h2:=PW ht i
 have h3:=oN ht
 unfold oz
 omega
theorem Hy {Pb:Nat→Prop} {w:World} {v:Value} {l:List Nd} {i:Nat} (h:RdS rNd 3 Pb w v l) (hok:nV l=true) (hi:i<l.length):
 Calls Tryz.prog 86 #[v,vi i] w (Ret fun r w'=>r=vs (oz l i)∧New w w'):=by
 obtain ⟨a,cap,rfl,hc1,hc2⟩:=h.form
 have hlen:=oN hok
 refine mQ Tryz.func86 rfl Tryz.ntmps86 rfl ?_
 (repeat' (first|refine aa0 ?_|refine aa1 ?_|refine af ?_|refine ah ?_|refine aj ?_|refine ai ?_|refine Wc.block ?_|refine Wc.skip ?_|refine ax ?_|refine aN ?_|refine aa3 ?_|refine aa4 ?_|refine bV rfl rfl (fun _=>?_) (fun _=>?_)))
 ·obtain rfl:i=0:=by omega
  exact aA rfl rfl ⟨_,rfl,rfl,aV _ _⟩
 ·refine aU (σ:=Nat×Value×List Nm) (fun s=>[(0,.slice a l.length cap),(1,vi s.1),(5,s.2.1)]) (fun s w'=>s.1≤i∧s.2.2.length+s.1≤i∧xO l i=xO l s.1++s.2.2.reverse∧ny (Wk.one vs) 9 1 (fun b=>w.heap.size≤b) NoB w' s.2.1 s.2.2∧New w w') (fun s=>s.1) (i,.slice none 0 0,[]) ⟨rfl,rfl,rfl,trivial⟩ ⟨Nat.le_refl _,by simp,by simp,bK,aV _ _⟩ ?_
  rintro ⟨k,u,ns⟩ G w1 ⟨hk,hkl,hnm,own,n1⟩
  dsimp only at hk hkl hnm own n1
  simp only [oO]
  obtain ⟨p,c,rfl,hp1,hp2⟩:=own.form
  (repeat' (first|refine aa0 ?_|refine af ?_|refine ah ?_|refine aj ?_|refine ai ?_|refine Wc.block ?_|refine Wc.skip ?_|refine aQ ?_|refine aS ?_|refine aP ?_|refine aT ?_|refine aa3 ?_|refine aa4 ?_|refine bM rfl rfl (fun _=>?_) (fun _=>?_)))
  ·obtain ⟨x,hx⟩:=nN l (k:=k) (by omega)
   have hnd:=(qA hok hx).kid (by omega)
   refine dW h n1.keep rfl rfl (by omega) hx fun b o cs hl hR hat=>?_
   obtain ⟨pv,rfl,_⟩:=hR
   (repeat' (refine aa5 ?_))
   refine au (u:=vs x.name) rfl (hat.get 1 rfl) ?_
   refine dF (y:=x.name) qR own rfl rfl rfl rfl rfl (by omega) (by omega) (by simp only [maxLen];omega) (by omega) rfl rfl fun v' w2 p qW c2 lie=>?_
   have n2:New w w2:=Chg.trans n1 c2 fun k hk e=>by have:=(own.lt e).1;omega
   (repeat' (first|refine aa0 ?_|refine aa1 ?_|refine af ?_|refine ah ?_|refine ai ?_|refine aJ ?_))
   refine dW h n2.keep rfl rfl (by omega) hx fun b o cs hl hR hat=>?_
   obtain ⟨pv',rfl,_⟩:=hR
   (repeat' (refine aa5 ?_))
   refine au (u:=vi x.parent) rfl (hat.get 0 rfl) ?_
   (repeat' (first|refine aa1 ?_|refine af ?_))
   have e0:x.parent=(x.parent.toNat:Int):=by omega
   refine aK (x.parent.toNat,v',ns++ [x.name]) ⟨rfl,by rw [←e0];rfl,rfl,trivial⟩ ⟨by dsimp only;omega,by simp;omega,?_,qW.mono qR.mo (fun b hb e=>by rcases e with e|e;exact e;have:=n1.size;omega) (fun _ _ e=>e),n2⟩ (by dsimp only;omega)
   rw [hnm,su hok hx (by omega)]
   simp
  ·obtain rfl:k=0:=by omega
   refine ay (IK own (by omega)) rfl ?_
   rintro _ w2 ⟨qW,c2⟩
   have n2:New w w2:=Chg.trans n1 c2 fun k hk e=>by have:=(own.lt e).1;omega
   rw [wz,List.nil_append] at hnm
   have hne:ns.reverse≠ []:=by
    rw [←hnm]
    obtain ⟨x,hx⟩:=nN l hi
    rw [su hok hx (by omega)]
    simp
   have hgd: ∀x∈ns.reverse,x.length≤31:=fun x hx=>(yO hok i x (hnm▸hx)).2
   have hjl:=Sm (sep:=[47]) hgd
   simp only [List.length_reverse,List.length_singleton] at hjl
   have hrd:=qW.rd qR.mo
   (repeat' (first|refine aa0 ?_|refine af ?_|refine ah ?_|refine aj ?_|refine ai ?_))
   refine ay (PZ (xs:=ns.reverse) (sep:=[47]) hrd (by simp;omega) (by omega)) rfl ?_
   rintro _ w3 ⟨rfl,n3⟩
   skip
   refine jb rfl rfl (by simp;omega) ?_
   have hfin:[47]++Lib.join ns.reverse [47]=oz l i:=by
    unfold oz
    rw [hnm]
    obtain ⟨x,r,e⟩: ∃x r,ns.reverse=x::r:=by
     cases hh:ns.reverse with
     |nil=>exact absurd hh hne
     |cons x r=>exact ⟨x,r,rfl⟩
    rw [e,P5]
   rw [hfin]
   (repeat' (first|refine aa1 ?_|refine af ?_|refine ah ?_|refine ax ?_))
   exact aA rfl rfl ⟨_,rfl,rfl,New.trans n2 n3⟩
theorem Hz {Pb:Nat→Prop} {w:World} {v:Value} {l:List Nd} {i:Nat} (h:RdS rNd 3 Pb w v l) (hok:nV l=true) (hi:i<l.length):
 Calls Tryz.prog 36 #[v,vi i] w (Ret fun r w'=>r=.tuple #[vs (oz l i),vi 0]∧New w w'):=by
 refine mQ Tryz.func36 rfl Tryz.ntmps36 rfl ?_
 (repeat' (first|refine aa0 ?_|refine aa1 ?_|refine af ?_|refine ah ?_|refine aj ?_|refine ai ?_))
 refine ay (wC (i:=i) h) rfl ?_
 rintro _ w1 ⟨rfl,n1⟩
 have hp:zI l i=0:=by unfold zI;rw [if_pos hok,if_neg (by omega)]
 rw [hp]
 (repeat' (first|refine aa0 ?_|refine aa1 ?_|refine af ?_|refine ah ?_|refine aj ?_|refine ai ?_|refine Wc.skip ?_|refine aa4 ?_|(refine pV (fun _=>?_) (fun _=>?_)<;>(first|(exfalso;omega)|skip))))
 refine ay (Hy (h.keep nO n1.keep) hok hi) rfl ?_
 rintro _ w2 ⟨rfl,n2⟩
 (repeat' (first|refine aa1 ?_|refine af ?_|refine ah ?_|refine ax ?_))
 exact aW rfl rfl rfl ⟨_,rfl,rfl,New.trans n1 n2⟩
def IW:Option (List UInt8)→Value
 |some x=>.tuple #[vs x,.bool true]
 |none=>.tuple #[vs [],.bool false]
theorem yS {Pb:Nat→Prop} {w:World} {pv:Value} {x:Nd} {nm:Nm} (h:RdS rPr 2 Pb w pv x.oJ):
 Calls Tryz.prog 97 #[.agg #[vi x.parent,vs x.name,pv],vs nm] w (Ret fun r w'=>r=IW (val x.oJ nm)∧New w w'):=by
 obtain ⟨a,cap,rfl,hc1,hc2⟩:=h.form
 simp only [maxLen] at hc2
 refine mQ Tryz.func97 rfl Tryz.ntmps97 rfl ?_
 (repeat' (first|refine aj ?_|refine ai ?_))
 refine bJ rfl fun w1 b1 n1 s1=>?_
 replace b1:Bk w1 w.heap.size 51 [vi x.parent,vs x.name,.slice a x.oJ.length cap]:=b1
 (repeat' (first|refine aa1 ?_|refine af ?_|refine ah ?_|refine aj ?_|refine ai ?_|refine aa5 ?_))
 refine au (u:=.slice a x.oJ.length cap) rfl (b1.cell (o:=2) rfl) ?_
 (repeat' (first|refine aa0 ?_|refine af ?_|refine aO rfl ?_|refine ah ?_|refine Wc.block ?_))
 refine aU (σ:=Nat) (fun i=>[(1,vs nm),(9,.slice a x.oJ.length cap),(10,vi x.oJ.length),(11,vi i)]) (fun i w'=>i≤x.oJ.length∧val x.oJ nm=val (x.oJ.drop i) nm∧New w w') (fun i=>x.oJ.length-i) 0 ⟨rfl,rfl,rfl,rfl,trivial⟩ ⟨Nat.zero_le _,by simp,n1⟩ ?_
 rintro i G w2 ⟨hi,hv,n2⟩
 simp only [oO]
 (repeat' (first|refine aa1 ?_|refine af ?_|refine ah ?_|refine aj ?_|refine ai ?_|refine Wc.block ?_|refine Wc.skip ?_|refine aQ ?_|refine ax ?_|refine aS ?_|refine aP ?_|refine aT ?_|refine aa3 ?_|refine aa4 ?_|refine aa9 (fun _=>?_) (fun _=>?_)))
 ·obtain ⟨p,hp⟩:=nN x.oJ (k:=i) (by omega)
  refine bD (h.keep (nU pC) n2.keep) rfl rfl (by omega) hp fun b o cs hl hR hat=>?_
  obtain rfl:cs=pC p:=hR
  refine bQ hat rfl rfl ?_
  refine Wl.alloc fun w3 b3 n3 s3=>?_
  refine aX (new:=pC p) b3 rfl rfl rfl rfl (show (2:Nat)≤2 from Nat.le_refl 2) (II.oc (fun _=>True) w p _ rfl rfl) fun w4 b4 c4 s4=>?_
  have hz:=n2.size
  have n4:New w w4:=Chg.trans (New.trans n2 n3) c4 fun k hk e=>by omega
  replace b4:Bk w4 w2.heap.size 99 (pC p):=b4
  rw [drop_cons hp] at hv
  (repeat' (first|refine af ?_|refine ah ?_|refine aj ?_|refine ai ?_|refine aa5 ?_))
  refine au (u:=vs p.1) rfl (b4.cell (o:=0) rfl) ?_
  (repeat' (first|refine aa0 ?_|refine af ?_|refine ah ?_|refine aj ?_|refine ai ?_|refine Wc.skip ?_|refine aJ ?_|refine aa3 ?_|refine aa4 ?_|refine aa5 ?_|refine aa7 ?_|refine fF rfl rfl (fun _=>?_) (fun _=>?_)))
  ·refine au (u:=vs p.2) rfl (b4.cell (o:=1) rfl) ?_
   (repeat' (first|refine aa1 ?_|refine af ?_|refine ah ?_|refine ax ?_|refine aN ?_|refine bf ?_|refine bG ?_))
   refine aW rfl rfl rfl ⟨_,rfl,?_,n4⟩
   rw [hv]
   unfold val
   rw [List.find?_cons_of_pos (by simpa using by assumption)]
   rfl
  ·refine aK (i+1) ⟨rfl,rfl,rfl,rfl,trivial⟩ ⟨by omega,?_,n4⟩ (by omega)
   rw [hv]
   unfold val
   rw [List.find?_cons_of_neg (by simpa using by assumption)]
 ·obtain rfl:i=x.oJ.length:=by omega
  rw [List.drop_length] at hv
  refine aW rfl rfl rfl ⟨_,rfl,?_,n2⟩
  rw [hv]
  rfl
def WN:Option (List UInt8)→Value
 |some x=>.tuple #[vs x,vi 0]
 |none=>.tuple #[vs [],vi 6]
theorem MR {Pb:Nat→Prop} {w:World} {v:Value} {l:List Nd} {i:Nat} {nm:Nm} (h:RdS rNd 3 Pb w v l) (hok:nV l=true) (hi:i<l.length):
 Calls Tryz.prog 243 #[v,vi i,vs nm] w (Ret fun r w'=>r=WN (sZ l i nm)∧New w w'):=by
 obtain ⟨a,cap,rfl,hc1,hc2⟩:=h.form
 obtain ⟨x,hx⟩:=nN l hi
 refine mQ Tryz.func243 rfl Tryz.ntmps243 rfl ?_
 (repeat' (first|refine aa0 ?_|refine aa1 ?_|refine af ?_|refine ah ?_|refine aj ?_|refine ai ?_))
 refine ay (wC (i:=i) h) rfl ?_
 rintro _ w1 ⟨rfl,n1⟩
 have hp:zI l i=0:=by unfold zI;rw [if_pos hok,if_neg (by omega)]
 rw [hp]
 (repeat' (first|refine aa0 ?_|refine aa1 ?_|refine af ?_|refine ah ?_|refine aj ?_|refine ai ?_|refine Wc.skip ?_|refine aa4 ?_|(refine pV (fun _=>?_) (fun _=>?_)<;>(first|(exfalso;omega)|skip))))
 refine dW h n1.keep rfl rfl (by omega) hx fun b o cs hl hR hat=>?_
 obtain ⟨pv,rfl,hpr⟩:=hR
 refine bQ hat rfl rfl ?_
 (repeat' (refine aa0 ?_))
 refine ay (yS (x:=x) (nm:=nm) (hpr.keep (nU pC) n1.keep)) rfl ?_
 rintro _ w2 ⟨rfl,n2⟩
 have e:sZ l i nm=val x.oJ nm:=by unfold sZ;rw [xE hx]
 rw [e]
 cases val x.oJ nm with
 |none=>
  (repeat' (first|refine aa0 ?_|refine aa1 ?_|refine af ?_|refine aa8 ?_|refine ah ?_|refine aj ?_|refine ai ?_|refine Wc.skip ?_|refine ax ?_|refine aa4 ?_))
  exact aW rfl rfl rfl ⟨_,rfl,rfl,New.trans n1 n2⟩
 |some y=>
  (repeat' (first|refine aa0 ?_|refine aa1 ?_|refine af ?_|refine aa8 ?_|refine ah ?_|refine aj ?_|refine ai ?_|refine ax ?_|refine aN ?_|refine aa3 ?_))
  exact aW rfl rfl rfl ⟨_,rfl,rfl,New.trans n1 n2⟩
end Go.Proofs.YtjecgaiaiophpaaGreatDoor
namespace Go.Proofs.YtjecgaiaiophpaaGreatDoor
open Go Wk
open Go.RowKit (Below)
attribute [local irreducible] Go.Calls
theorem zJ: ∀(l:List Pr) (seen:List Nm),yL seen l=true→ ∀p∈l,pY p.1=true∧p.2.length≤1024
 | [],_,_,p,hp=>by simp at hp
 |q::r,seen,h,p,hp=>by
  rw [yL] at h
  simp only [Bool.and_eq_true,decide_eq_true_eq] at h
  rcases List.mem_cons.1 hp with rfl|hp
  ·exact ⟨h.1,h.2.1⟩
  ·exact zJ r _ h.2.2.2 p hp
theorem yT {t:List Nd} (ht:nV t=true) {i:Nat} (hi:i<t.length) {nm v:Nm} (e:sZ t i nm=some v):v.length≤1024:=by
 obtain ⟨x,hx⟩:=nN t hi
 unfold sZ at e
 rw [xE hx] at e
 unfold val at e
 obtain ⟨p,hp,rfl⟩:=Option.map_eq_some_iff.1 e
 have h:=(qA ht hx).pr
 unfold yM at h
 rw [Bool.and_eq_true] at h
 exact (zJ _ _ h.2 p (List.mem_of_find?_eq_some hp)).2
theorem xW {t:List Nd} (ht:nV t=true) {i:Nat} (hi:i<t.length) {nm:Nm}:((sZ t i nm).getD []).length≤1024:=by
 cases e:sZ t i nm with
 |none=>exact Nat.zero_le _
 |some v=>exact yT ht hi e
def onK (t:List Nd) (k:Int):Bool:=if k<0 then true else onM t k.toNat
theorem SC (t:List Nd):onM t 0=okay t 0:=by unfold onM;rw [Ag];rfl
theorem SG {t:List Nd} (ht:nV t=true) {i:Nat} (h0:i≠0) (hi:i<t.length):onM t i=(okay t i&&onM t (par t i)):=by
 unfold onM
 rw [Ah ht h0 hi,List.all_cons,Bool.and_assoc]
theorem SH {t:List Nd} (ht:nV t=true) {i:Nat} {x:Nd} (hx:t[i]? =some x):onK t (i:Int)=(okay t i&&onK t x.parent):=by
 have hi:=(List.getElem?_eq_some_iff.1 hx).1
 unfold onK
 rw [if_neg (by omega),Int.toNat_natCast]
 by_cases h0:i=0
 ·subst h0
  have:=(qA ht hx).root rfl
  rw [if_pos (by omega),SC,Bool.and_true]
 ·have h1:=(qA ht hx).kid h0
  rw [if_neg (by omega),SG ht h0 hi]
  unfold par
  rw [xE hx]
theorem Cj {Pb:Nat→Prop} {w:World} {v:Value} {l:List Nd} {i:Nat} (h:RdS rNd 3 Pb w v l) (hok:nV l=true) (hi:i<l.length):
 Calls Tryz.prog 96 #[v,vi i] w (Ret fun r w'=>r=.bool (onM l i)∧New w w'):=by
 obtain ⟨a,cap,rfl,hc1,hc2⟩:=h.form
 have hlen:=oN hok
 have e0:onM l i=onK l (i:Int):=by unfold onK;rw [if_neg (by omega),Int.toNat_natCast]
 rw [e0]
 refine mQ Tryz.func96 rfl Tryz.ntmps96 rfl ?_
 (repeat' (first|refine aa1 ?_|refine af ?_|refine ah ?_|refine aj ?_|refine ai ?_|refine Wc.block ?_))
 refine aU (σ:=Int) (fun k=>[(0,.slice a l.length cap),(1,vi k)]) (fun k w'=> -1≤k∧k≤i∧onK l (i:Int)=onK l k∧New w w') (fun k=>(k+1).toNat) i ⟨rfl,rfl,trivial⟩ ⟨by omega,by omega,rfl,aV _ _⟩ ?_
 rintro k G w1 ⟨hk1,hk2,hon,n1⟩
 simp only [oO]
 (repeat' (first|refine aa0 ?_|refine aa1 ?_|refine af ?_|refine ah ?_|refine aj ?_|refine ai ?_|refine Wc.block ?_|refine Wc.skip ?_|refine aQ ?_|refine ax ?_|refine aS ?_|refine aP ?_|refine aT ?_|refine aa3 ?_|refine aa4 ?_|refine cZ rfl rfl (fun _=>?_) (fun _=>?_)))
 ·obtain ⟨j,rfl⟩:=Int.eq_ofNat_of_zero_le (show 0≤k by omega)
  obtain ⟨x,hx⟩:=nN l (k:=j) (by omega)
  have hj:j<l.length:=by omega
  rw [SH hok hx] at hon
  have hnd:=qA hok hx
  have hpar: -1≤x.parent∧x.parent<j:=by
   by_cases h0:j=0
   ·have:=hnd.root h0;omega
   ·have:=hnd.kid h0;omega
  refine dW h n1.keep rfl rfl (by omega) hx fun b o cs hl hR hat=>?_
  obtain ⟨pv,rfl,hpr⟩:=hR
  refine bQ hat rfl rfl ?_
  refine ay (yS (x:=x) (nm:=[115,116,97,116,117,115]) (hpr.keep (nU pC) n1.keep)) rfl ?_
  rintro _ w2 ⟨rfl,n2⟩
  have n02:=New.trans n1 n2
  have e:sZ l j [115,116,97,116,117,115]=val x.oJ [115,116,97,116,117,115]:=by unfold sZ;rw [xE hx]
  have Dz:okay l j=match val x.oJ [115,116,97,116,117,115] with
   |none=>true
   |some v=>decide ((only [] (AO v) (Bg v)).2=0∧(only [] (AO v) (Bg v)).1=[111,107,97,121]):=by unfold okay;rw [e]<;>rfl
  cases hv:val x.oJ [115,116,97,116,117,115] with
  |none=>
   rw [hv] at Dz
   dsimp only at Dz
   rw [Dz,Bool.true_and] at hon
   (repeat' (first|refine aa0 ?_|refine aa1 ?_|refine af ?_|refine aa8 ?_|refine ah ?_|refine aj ?_|refine ai ?_|refine Wc.skip ?_|refine aJ ?_|refine aa4 ?_))
   refine dW h n02.keep rfl rfl (by omega) hx fun b o cs hl hR hat=>?_
   obtain ⟨pv',rfl,_⟩:=hR
   (repeat' (refine aa5 ?_))
   refine au (u:=vi x.parent) rfl (hat.get 0 rfl) ?_
   (repeat' (first|refine aa1 ?_|refine af ?_))
   exact aK x.parent ⟨rfl,rfl,trivial⟩ ⟨by omega,by omega,hon,n02⟩ (by omega)
  |some y=>
   rw [hv] at Dz
   dsimp only at Dz
   have hyl:=yT hok hj (e.trans hv)
   (repeat' (first|refine aa0 ?_|refine aa1 ?_|refine af ?_|refine aa8 ?_|refine ah ?_|refine aj ?_|refine ai ?_|refine aa3 ?_))
   refine ay (MQ (l:=y) (by omega)) rfl ?_
   rintro _ w3 ⟨rfl,n3⟩
   have n03:=New.trans n02 n3
   generalize only [] (AO y) (Bg y)=q at Dz
   obtain ⟨s,er⟩:=q
   dsimp only at Dz
   (repeat' (first|refine aa0 ?_|refine aa1 ?_|refine af ?_|refine aa8 ?_|refine aa6 ?_|refine qi ?_|refine pG ?_|refine pq ?_|refine ah ?_|refine aj ?_|refine ai ?_|refine Wc.skip ?_|refine ax ?_|refine aN ?_|refine aJ ?_|refine bf ?_|refine bG ?_|refine aa3 ?_|refine aa4 ?_|refine pV (fun _=>?_) (fun _=>?_)|refine gI rfl rfl (fun _=>?_) (fun _=>?_)))
   ·rw [decide_eq_false (by omega)] at Dz
    rw [Dz,Bool.false_and] at hon
    rw [hon]
    exact aA rfl rfl ⟨_,rfl,rfl,n03⟩
   ·rw [decide_eq_false (fun q=>by have:=q.2;contradiction)] at Dz
    rw [Dz,Bool.false_and] at hon
    rw [hon]
    exact aA rfl rfl ⟨_,rfl,rfl,n03⟩
   ·rw [decide_eq_true ⟨by omega,by assumption⟩] at Dz
    rw [Dz,Bool.true_and] at hon
    refine dW h n03.keep rfl rfl (by omega) hx fun b o cs hl hR hat=>?_
    obtain ⟨pv',rfl,_⟩:=hR
    (repeat' (refine aa5 ?_))
    refine au (u:=vi x.parent) rfl (hat.get 0 rfl) ?_
    (repeat' (first|refine aa1 ?_|refine af ?_))
    exact aK x.parent ⟨rfl,rfl,trivial⟩ ⟨by omega,by omega,hon,n03⟩ (by omega)
 ·have ek:onK l k=true:=by unfold onK;rw [if_pos (by omega)]
  rw [hon,ek]
  exact aA rfl rfl ⟨_,rfl,rfl,n1⟩
theorem DC {l:List Nd} {i:Nat} (hok:nV l=true) (hi:i<l.length):zI l i=0:=by unfold zI;rw [if_pos hok,if_neg (by omega)]
theorem Cm {Pb:Nat→Prop} {w:World} {v:Value} {l:List Nd} {i:Nat} (h:RdS rNd 3 Pb w v l) (hok:nV l=true) (hi:i<l.length):
 Calls Tryz.prog 45 #[v,vi i] w (Ret fun r w'=>r=.tuple #[.bool (onM l i),vi 0]∧New w w'):=by
 refine mQ Tryz.func45 rfl Tryz.ntmps45 rfl ?_
 (repeat' (first|refine aa0 ?_|refine aa1 ?_|refine af ?_|refine ah ?_|refine aj ?_|refine ai ?_))
 refine ay (wC (i:=i) h) rfl ?_
 rintro _ w1 ⟨rfl,n1⟩
 rw [DC hok hi]
 (repeat' (first|refine aa0 ?_|refine aa1 ?_|refine af ?_|refine ah ?_|refine aj ?_|refine ai ?_|refine Wc.skip ?_|refine aa4 ?_|(refine pV (fun _=>?_) (fun _=>?_)<;>(first|(exfalso;omega)|skip))))
 refine ay (Cj (h.keep nO n1.keep) hok hi) rfl ?_
 rintro _ w2 ⟨rfl,n2⟩
 (repeat' (first|refine aa1 ?_|refine af ?_|refine ah ?_|refine ax ?_))
 exact aW rfl rfl rfl ⟨_,rfl,rfl,New.trans n1 n2⟩
theorem J5 {Pb:Nat→Prop} {w:World} {v:Value} {l:List Nd} {i:Nat} (h:RdS rNd 3 Pb w v l) (hok:nV l=true) (hi:i<l.length):
 Calls Tryz.prog 93 #[v,vi i] w (Ret fun r w'=>(∃u,r=.tuple #[u,vi 0]∧ny (Wk.one vs) 9 1 (fun b=>w.heap.size≤b) NoB w' u (rE l i))∧New w w'):=by
 obtain ⟨a,cap,rfl,hc1,hc2⟩:=h.form
 obtain ⟨x,hx⟩:=nN l hi
 refine mQ Tryz.func93 rfl Tryz.ntmps93 rfl ?_
 (repeat' (first|refine aa0 ?_|refine aa1 ?_|refine af ?_|refine ah ?_|refine aj ?_|refine ai ?_))
 refine ay (wC (i:=i) h) rfl ?_
 rintro _ w1 ⟨rfl,n1⟩
 rw [DC hok hi]
 (repeat' (first|refine aa0 ?_|refine aa1 ?_|refine af ?_|refine ah ?_|refine aj ?_|refine ai ?_|refine Wc.skip ?_|refine aa4 ?_|(refine pV (fun _=>?_) (fun _=>?_)<;>(first|(exfalso;omega)|skip))))
 refine dW h n1.keep rfl rfl (by omega) hx fun b o cs hl hR hat=>?_
 obtain ⟨pv,rfl,hpr⟩:=hR
 refine bQ hat rfl rfl ?_
 refine ay (yS (x:=x) (nm:=qm) (hpr.keep (nU pC) n1.keep)) rfl ?_
 rintro _ w2 ⟨rfl,n2⟩
 have n02:=New.trans n1 n2
 have e:rE l i=Bg ((val x.oJ qm).getD []):=by unfold rE sZ;rw [xE hx]
 have hyl:((val x.oJ qm).getD []).length≤1024:=by
  have:=xW hok hi (nm:=qm)
  unfold sZ at this
  rwa [xE hx] at this
 have ev':IW (val x.oJ qm)=.tuple #[vs ((val x.oJ qm).getD []),.bool (val x.oJ qm).isSome]:=by cases val x.oJ qm<;>rfl
 rw [e,ev']
 generalize (val x.oJ qm).getD []=y at hyl ⊢
 (repeat' (first|refine aa0 ?_|refine aa1 ?_|refine af ?_|refine aa8 ?_|refine ah ?_|refine aj ?_|refine ai ?_))
 refine ay (Ej (l:=y) (by omega)) rfl ?_
 rintro _ w3 ⟨u,rfl,o3,n3⟩
 have n03:=New.trans n02 n3
 obtain ⟨ua,uc,rfl,_,_⟩:=o3.form
 by_cases hf:y=[]∨y.getLast?=some 0
 ·rw [(WM hf).1]
  (repeat' (first|refine aa0 ?_|refine aa1 ?_|refine af ?_|refine aa8 ?_|refine ah ?_|refine aj ?_|refine ai ?_|refine Wc.skip ?_|refine ax ?_|refine aa4 ?_|(refine pV (fun _=>?_) (fun _=>?_)<;>(first|(exfalso;omega)|skip))))
  exact aW rfl rfl rfl ⟨_,rfl,⟨_,rfl,o3.mono qR.mo (fun b _ hb=>by have:=n02.size;omega) (fun _ _ e=>e)⟩,n03⟩
 ·rw [(Sz hf).1,(Sz hf).2]
  (repeat' (first|refine aa0 ?_|refine aa1 ?_|refine af ?_|refine aa8 ?_|refine ah ?_|refine aj ?_|refine ai ?_|refine ax ?_|refine aN ?_|refine aa3 ?_|(refine pV (fun _=>?_) (fun _=>?_)<;>(first|(exfalso;omega)|skip))))
  exact aW rfl rfl rfl ⟨_,rfl,⟨_,rfl,bK⟩,n03⟩
theorem MS {Pb:Nat→Prop} {w:World} {v:Value} {l:List Nd} {i:Nat} (h:RdS rNd 3 Pb w v l) (hok:nV l=true) (hi:i<l.length):
 Calls Tryz.prog 46 #[v,vi i] w (Ret fun r w'=>r=.tuple #[.bool (Bh l i),vi 0]∧New w w'):=by
 obtain ⟨a,cap,rfl,hc1,hc2⟩:=h.form
 obtain ⟨x,hx⟩:=nN l hi
 refine mQ Tryz.func46 rfl Tryz.ntmps46 rfl ?_
 (repeat' (first|refine aa0 ?_|refine aa1 ?_|refine af ?_|refine ah ?_|refine aj ?_|refine ai ?_))
 refine ay (wC (i:=i) h) rfl ?_
 rintro _ w1 ⟨rfl,n1⟩
 rw [DC hok hi]
 (repeat' (first|refine aa0 ?_|refine aa1 ?_|refine af ?_|refine ah ?_|refine aj ?_|refine ai ?_|refine Wc.skip ?_|refine aa4 ?_|(refine pV (fun _=>?_) (fun _=>?_)<;>(first|(exfalso;omega)|skip))))
 refine dW h n1.keep rfl rfl (by omega) hx fun b o cs hl hR hat=>?_
 obtain ⟨pv,rfl,hpr⟩:=hR
 refine bQ hat rfl rfl ?_
 refine ay (yS (x:=x) (nm:=qm) (hpr.keep (nU pC) n1.keep)) rfl ?_
 rintro _ w2 ⟨rfl,n2⟩
 have n02:=New.trans n1 n2
 have e:Bh l i=((val x.oJ qm).isNone&&onM l i):=by unfold Bh sZ;rw [xE hx]
 rw [e]
 cases val x.oJ qm with
 |none=>
  (repeat' (first|refine aa0 ?_|refine aa1 ?_|refine af ?_|refine aa8 ?_|refine aa6 ?_|refine aZ rfl ?_|refine ah ?_|refine aj ?_|refine ai ?_))
  refine ay (Cj (h.keep nO n02.keep) hok hi) rfl ?_
  rintro _ w3 ⟨rfl,n3⟩
  (repeat' (first|refine aa1 ?_|refine af ?_|refine pG ?_|refine ah ?_|refine ax ?_))
  exact aW rfl rfl rfl ⟨_,rfl,rfl,New.trans n02 n3⟩
 |some y=>
  (repeat' (first|refine aa0 ?_|refine aa1 ?_|refine af ?_|refine aa8 ?_|refine qi ?_|refine pq ?_|refine aZ rfl ?_|refine ah ?_|refine aj ?_|refine ai ?_|refine ax ?_))
  exact aW rfl rfl rfl ⟨_,rfl,rfl,n02⟩
end Go.Proofs.YtjecgaiaiophpaaGreatDoor
namespace Go.Proofs.YtjecgaiaiophpaaGreatDoor
open Go Wk
structure Ed where
 src:Nat
 dst:Option Nat
 kind:Nat
 soft:Bool
 place:Nat
 args:List Int
deriving DecidableEq,Inhabited
def uw:Nm:=[112,104,97,110,100,108,101]
def uT (x:Nd):Nat:=(FC ((val x.oJ uw).getD [])).getD 0
def vk:List (Nat×Nat)→Nat→List Nd→List (Nat×Nat)
 |m,_,[]=>m
 |m,i,x::r=>vk (if uT x≠0∧m.all (fun p=>decide (p.1≠uT x))=true then m++ [(uT x,i)] else m) (i+1) r
def qM (t:List Nd):List (Nat×Nat):=vk [] 0 t
def zK (t:List Nd) (h:Nat):Option Nat:=((qM t).find? fun p=>decide (p.1=h)).map (·.2)
def rM:Nat→Nm×Nm
 |1=>([99,108,111,99,107,115],[35,99,108,111,99,107,45,99,101,108,108,115])
 |2=>([115,117,112,112,108,105,101,115],[35,115,117,112,112,108,121,45,99,101,108,108,115])
 |3=>([100,111,109,97,105,110,115],[35,100,111,109,97,105,110,45,99,101,108,108,115])
 |4=>([114,101,115,101,116,115],[35,114,101,115,101,116,45,99,101,108,108,115])
 |5=>([108,105,110,107,115],[35,108,105,110,107,45,99,101,108,108,115])
 |_=>([],[])
def FH (x:Nd) (nm:Nm):Option Nat:=match val x.oJ nm with
 |none=>some 0
 |some v=>match FC v with
  |some n=>if n≤8 then some n else none
  |none=>none
def uf (t:List Nd) (i kind:Nat) (soft:Bool):Nat→Nat→List Int→List Ed
 |0,_,_=>[]
 |_,_,[]=>[]
 |f+1,place,h::c=>match zK t h.toNat with
  |none=>[⟨i,none,kind,soft,place,[]⟩]
  |some to_=>match FH (ndA t to_) (rM kind).2 with
   |none=>[⟨i,none,kind,soft,place,[]⟩]
   |some n=>if c.length<n then [⟨i,none,kind,soft,place,[]⟩] else ⟨i,some to_,kind,soft,place,c.take n⟩::uf t i kind soft f (place+1) (c.drop n)
def wF (t:List Nd) (i kind:Nat) (soft:Bool):List Ed:=
 let v:=(sZ t i ((rM kind).1++if soft=true then [63] else [])).getD []
 if form 4 v=0 then uf t i kind soft (nums 4 v).length 0 (nums 4 v) else [⟨i,none,kind,soft,0,[]⟩]
def nY (t:List Nd):List Ed:=(List.range t.length).flatMap fun i=>[1,2,3,4,5].flatMap fun k=>wF t i k false++wF t i k true
def pM (t:List Nd) (i:Nat):List Nat:=(if 0<i then [par t i] else [])++(nY t).filterMap fun e=>if e.src=i∧e.soft=false then e.dst else none
inductive Rch (W:Nat→List Nat):Nat→Nat→Prop
 |one {a b:Nat}:b∈W a→Rch W a b
 |more {a b c:Nat}:Rch W a b→c∈W b→Rch W a c
theorem Rch.trans {W:Nat→List Nat} {a b c:Nat} (h:Rch W a b) (k:Rch W b c):Rch W a c:=by
 induction k with
 |one h1=>exact .more h h1
 |more _ h1 ih=>exact .more ih h1
def oM (t:List Nd):List Nat:=(List.range t.length).mergeSort fun x y=> !decide (qN (fun _=>0) (oz t) y x<0)
open Classical in
noncomputable def rF (W:Nat→List Nat) (order:List Nat):List Nat→List Nat→List (List Nat)
 |_,[]=>[]
 |seen,i::r=>if i∈seen∨ ¬Rch W i i then rF W order seen r
  else (order.filter fun k=>decide (Rch W i k∧Rch W k i))::rF W order (seen++order.filter fun k=>decide (Rch W i k∧Rch W k i)) r
noncomputable def rV (t:List Nd):List (List Nat):=rF (pM t) (oM t) [] (oM t)
open Classical in
noncomputable def yU (W:Nat→List Nat):List Ed→List Ed×List Ed
 | []=>([],[])
 |e::r=>if Rch W (e.dst.getD 0) e.src then let q:=yU W r;(q.1,e::q.2)
  else let q:=yU (fun i=>if i=e.src then W i++ [e.dst.getD 0] else W i) r;(e::q.1,q.2)
def vz (there:Nat→Bool) (e:Ed):Bool:=e.soft&&(there e.src&&(match e.dst with|none=>false|some d=>there d&&decide (d≠e.src)))
theorem HY: ∀(l:List Nd) (m:List (Nat×Nat)) (i n:Nat),i+l.length=n→(∀p∈m,p.2<n)→ ∀p∈vk m i l,p.2<n
 | [],_,_,_,_,hm,p,hp=>hm p hp
 |x::r,m,i,n,hn,hm,p,hp=>by
  simp only [List.length_cons] at hn
  rw [vk] at hp
  refine HY r _ (i+1) n (by omega) (fun q hq=>?_) p hp
  split at hq
  ·rcases List.mem_append.1 hq with hq|hq
   ·exact hm q hq
   ·simp at hq;subst hq;simp;omega
  ·exact hm q hq
theorem H6 {t:List Nd} {h k:Nat} (e:zK t h=some k):k<t.length:=by
 unfold zK at e
 obtain ⟨p,hp,rfl⟩:=Option.map_eq_some_iff.1 e
 exact HY t [] 0 t.length (by simp) (by simp) p (List.mem_of_find?_eq_some hp)
theorem J6 {t:List Nd} {i kind:Nat} {soft:Bool}: ∀(f place:Nat) (c:List Int), ∀e∈uf t i kind soft f place c,e.src=i∧e.soft=soft∧e.kind=kind∧ ∀d,e.dst=some d→d<t.length
 |0,_,_,e,h=>by simp [uf] at h
 |f+1,_,[],e,h=>by simp [uf] at h
 |f+1,place,x::c,e,h=>by
  rw [uf] at h
  split at h
  ·simp at h;subst h;simp
  ·rename_i to_ hto
   split at h
   ·simp at h;subst h;simp
   ·split at h
    ·simp at h;subst h;simp
    ·rcases List.mem_cons.1 h with rfl|h
     ·exact ⟨rfl,rfl,rfl,fun d hd=>by cases hd;exact H6 hto⟩
     ·exact J6 f _ _ e h
theorem J7 {t:List Nd} {i kind:Nat} {soft:Bool}: ∀e∈wF t i kind soft,e.src=i∧e.soft=soft∧e.kind=kind∧ ∀d,e.dst=some d→d<t.length:=by
 intro e h
 have key: ∀v:List UInt8,e∈(if form 4 v=0 then uf t i kind soft (nums 4 v).length 0 (nums 4 v) else [⟨i,none,kind,soft,0,[]⟩])→e.src=i∧e.soft=soft∧e.kind=kind∧ ∀d,e.dst=some d→d<t.length:=by
  intro v h
  split at h
  ·exact J6 _ _ _ e h
  ·rw [List.mem_singleton] at h;subst h;simp
 exact key _ h
theorem vV {t:List Nd}: ∀e∈nY t,e.src<t.length∧ ∀d,e.dst=some d→d<t.length:=by
 intro e h
 unfold nY at h
 obtain ⟨i,hi,h⟩:=List.mem_flatMap.1 h
 obtain ⟨k,_,h⟩:=List.mem_flatMap.1 h
 rcases List.mem_append.1 h with h|h
 ·have:=J7 e h;exact ⟨by rw [this.1];simpa using hi,this.2.2.2⟩
 ·have:=J7 e h;exact ⟨by rw [this.1];simpa using hi,this.2.2.2⟩
end Go.Proofs.YtjecgaiaiophpaaGreatDoor
namespace Go.Proofs.YtjecgaiaiophpaaGreatDoor
open Go Wk
open Go.RowKit (Below)
open Go.Sort (SWO Holds)
attribute [local irreducible] Go.Calls
def Grw (w w':World):Prop:= ∃q os,w'=Sort.grow (w.drewN q) os
theorem Grw.new {w w':World} (h:Grw w w'):New w w':=by
 obtain ⟨q,os,rfl⟩:=h
 exact ⟨rfl,rfl,rfl,by simp [Sort.grow],fun k hk _=>by
  show (w.heap++os)[k]? =_
  rw [Array.getElem?_append_left hk]⟩
theorem DF {a b:Nm} (h: ¬a<b) (h2:a≠b):b<a:=by
 rcases Std.lt_trichotomy a b with h3|h3|h3
 ·exact absurd h3 h
 ·exact absurd h3 h2
 ·exact h3
theorem vW (lv:Nat→Int) (pt:Nat→Nm) (a b:Nat):qN lv pt a b<0↔lv a<lv b∨(lv a=lv b∧pt a<pt b):=by
 unfold qN
 split
 ·rename_i h;simp [h]
 ·split
  ·rename_i h1 h2;constructor
   ·intro h;omega
   ·rintro (h|⟨h,_⟩)<;>omega
  ·rename_i h1 h2
   have e:lv a=lv b:=by omega
   split
   ·rename_i h3;simp [e,h3]
   ·rename_i h3
    have: ¬(if pt b<pt a then (1:Int) else 0)<0:=by split<;>omega
    constructor
    ·intro h;exact absurd h this
    ·rintro (h|⟨_,h⟩)
     ·omega
     ·exact absurd h h3
theorem MV (lv:Nat→Int) (pt:Nat→Nm):SWO fun a b=>decide (qN lv pt a b<0):=by
 refine ⟨fun x=>?_,fun x y z h1 h2=>?_,fun x y z h1 h2=>?_⟩
 ·refine decide_eq_false fun h=>?_
  rcases (vW _ _ _ _).1 h with h|⟨_,h⟩
  ·omega
  ·exact List.lt_irrefl _ h
 ·rw [decide_eq_true_eq,vW] at h1 h2
  refine decide_eq_true ((vW _ _ _ _).2 ?_)
  rcases h1 with h1|⟨h1,h3⟩<;>rcases h2 with h2|⟨h2,h4⟩
  ·exact .inl (by omega)
  ·exact .inl (by omega)
  ·exact .inl (by omega)
  ·exact .inr ⟨by omega,List.lt_trans h3 h4⟩
 ·rw [decide_eq_false_iff_not,vW] at h1 h2
  refine decide_eq_false fun h=>?_
  rw [vW] at h
  have i1: ¬lv x<lv y:=fun q=>h1 (.inl q)
  have i2: ¬lv y<lv z:=fun q=>h2 (.inl q)
  rcases h with h|⟨h,h3⟩
  ·omega
  ·have e1:lv x=lv y:=by omega
   have e2:lv y=lv z:=by omega
   have h1': ¬pt x<pt y:=fun q=>h1 (.inr ⟨e1,q⟩)
   have h2': ¬pt y<pt z:=fun q=>h2 (.inr ⟨e2,q⟩)
   by_cases e:pt y=pt z
   ·rw [e] at h1';exact h1' h3
   ·exact h1' (List.lt_trans h3 (DF h2' e))
abbrev viN:Nat→Value:=fun k=>vi k
theorem qJ:qG (Wk.one viN) 1:=tu _ fun _=>rfl
section
variable {α:Type} [Inhabited α] {enc:α→Value} {w:World} {blk n:Nat} {d:Array α} {os:Array Obj}
theorem AP (hb:blk<w.heap.size):Chg (fun j=>j=blk) w (sortWorld enc w blk 0 n d os):=
 ⟨rfl,rfl,rfl,by simp [sortWorld,Sort.grow,Sort.putRow,Sort.mapBlock,Sort.ahead],fun j hj hn=>by
   have: ¬blk=j:=fun e=>hn e.symm
   simp only [sortWorld,Sort.grow,Sort.putRow,Sort.mapBlock,Sort.ahead]
   rw [Array.getElem?_append_left (by simpa using hj),Array.getElem?_modify,if_neg this]⟩
theorem FI {cs:Array Value} {T:TypeId} (h:w.heap[blk]? =some (.cells cs T (0,0))):(sortWorld enc w blk 0 n d os).heap[blk]? =some (.cells (Sort.putCells enc 0 d cs) T (0,0)):=by
 have hb:=(Array.getElem?_eq_some_iff.1 h).1
 simp only [sortWorld,Sort.grow,Sort.putRow,Sort.mapBlock,Sort.ahead]
 rw [Array.getElem?_append_left (by simpa using hb),Array.getElem?_modify,if_pos rfl,h]
 rfl
end
theorem Bl {Pb:Nat→Prop} {w:World} {L:List Nat} {v:Value} {lv:Nat→Int} {pt:Nat→Nm} {g:FuncId} {cb:Array Value} [hg:mX Tryz.prog g] (own:ny (Wk.one viN) 3 1 Pb NoB w v L) (hinj: ∀a∈L, ∀b∈L,pt a=pt b→a=b) (hlen:L.length≤2000000)
 (hcmp: ∀w',Chg (fun k=>v.ownBlock=some k) w w'→ ∀a∈L, ∀b∈L,Calls Tryz.prog g (#[vi a,vi b]++cb) w' (fun e w''=>e=.returned (vi (qN lv pt a b))∧Grw w' w'')):
 Calls Tryz.prog 48 #[v,.func (.func g) #[] cb] w (Ret fun _ w'=>ny (Wk.one viN) 3 1 Pb NoB w' v (L.mergeSort fun x y=> !decide (qN lv pt y x<0))∧Chg (fun k=>v.ownBlock=some k) w w'):=by
 by_cases hL:L=[]
 ·subst hL
  obtain ⟨a,cap,rfl,_,_⟩:=own.form
  refine (lN (α:=Nat) a cap _ w).mono ?_
  rintro _ w' ⟨rfl,rfl⟩
  exact ⟨_,rfl,by simpa using own,aV _ _⟩
 obtain ⟨gb,cap,rfl,_,hgb,_⟩:=own.blk hL
 obtain ⟨x0,hx0⟩:=List.exists_mem_of_ne_nil _ hL
 haveI:Inhabited {x:Nat // x∈L}:=⟨⟨x0,hx0⟩⟩
 let enc:{x:Nat // x∈L}→Value:=fun x=>vi x.1
 let cf:{x:Nat // x∈L}→{x:Nat // x∈L}→Int:=fun x y=>qN lv pt x.1 y.1
 have hlt: ∀x y,ltOf cf x y=decide (qN lv pt x.1 y.1<0):=fun x y=>rfl
 have hS:=MV lv pt
 have hO:SWO (ltOf cf):=⟨fun x=>hS.irrefl x.1,fun x y z h1 h2=>hS.trans x.1 y.1 z.1 h1 h2,fun x y z h1 h2=>hS.ntrans x.1 y.1 z.1 h1 h2⟩
 have hT: ∀x y,(ltOf cf) x y=false→(ltOf cf) y x=false→x=y:=by
  intro x y h1 h2
  rw [hlt,decide_eq_false_iff_not,vW] at h1 h2
  have i1: ¬lv x.1<lv y.1:=fun q=>h1 (.inl q)
  have i2: ¬lv y.1<lv x.1:=fun q=>h2 (.inl q)
  have e:lv x.1=lv y.1:=by omega
  have h1': ¬pt x.1<pt y.1:=fun q=>h1 (.inr ⟨e,q⟩)
  have h2': ¬pt y.1<pt x.1:=fun q=>h2 (.inr ⟨e.symm,q⟩)
  refine Subtype.ext (hinj _ x.2 _ y.2 ?_)
  by_cases e:pt x.1=pt y.1
  ·exact e
  ·exact absurd (DF h1' e) h2'
 have own':ny (Wk.one enc) 3 1 Pb NoB w (.slice (some ⟨gb,0,none⟩) L.attach.length cap) L.attach:=by
  have e:L.attach.map enc=L.map viN:=by
   have:=congrArg (List.map viN) (List.attach_map_subtype_val L)
   rw [List.map_map] at this
   exact this
  have h1:=own.to1
  have:tV Pb w 3 1 (.slice (some ⟨gb,0,none⟩) L.attach.length cap) L.attach.length (L.attach.map enc):=by
   rw [e,List.length_attach];exact h1
  exact gQ rfl this
 have hH:=Hr own'
 have hds:L.attach.toArray.size=L.length:=by simp
 have hc:CmpLays1 Tryz.prog g cb enc cf gb 0 L.attach.toArray.size w:=by
  intro m os dk hs x y
  have cg:=AP (enc:=enc) (n:=m) (d:=dk) (os:=os) hgb
  refine (hcmp _ (cg.mono fun k _ e=>by rw [e];rfl) x.1 x.2 y.1 y.2).mono ?_
  rintro e w' ⟨rfl,q,os',rfl⟩
  exact ⟨rfl,q,os',rfl⟩
 have h:=lQ enc (fun _=>rfl) cf hO g cb gb 0 cap L.attach.toArray w (fun args w=>rD hg args) hc hH hgb (by rw [hds];omega) hT
 rw [hds] at h
 refine h.mono ?_
 rintro _ w' ⟨rfl,n,os,rfl⟩
 refine ⟨_,rfl,?_,(AP hgb).mono fun k _ e=>by rw [e];rfl⟩
 have hm:(L.attach.toArray.toList.mergeSort fun x y=> !(ltOf cf) y x).map (·.1)=L.mergeSort fun x y=> !decide (qN lv pt y x<0):=by
  have:=List.map_mergeSort (r:=fun x y:{x:Nat // x∈L}=> !(ltOf cf) y x) (s:=fun x y=> !decide (qN lv pt y x<0)) (f:=fun x=>x.1) (l:=L.attach) (fun a _ b _=>rfl)
  rw [List.attach_map_subtype_val] at this
  exact this
 generalize hD:(L.attach.toArray.toList.mergeSort fun x y=> !(ltOf cf) y x)=D at hm ⊢
 have hl:D.length=L.attach.length:=by rw [←hD,List.length_mergeSort]
 have o2:=OB (Pe':=NoB) (JR:=enc) (w':=sortWorld enc w gb 0 n D.toArray os) own' hl fun cs hcs=>FI hcs
 have h2:=o2.to1
 have e2:D.map enc=(D.map (·.1)).map viN:=by rw [List.map_map];rfl
 rw [e2,hm] at h2
 rw [hl,List.length_attach] at h2
 exact gQ (by simp) h2
end Go.Proofs.YtjecgaiaiophpaaGreatDoor
namespace Go.Proofs.YtjecgaiaiophpaaGreatDoor
open Go Wk
open Go.RowKit (Below)
attribute [local irreducible] Go.Calls
def idx {α:Type} (p:α→Bool) (l:List α):Int:=match l.findIdx? p with|some i=>(i:Int)|none=> -1
theorem IX {α:Type} {p:α→Bool} {l:List α} {i:Nat} {y:α} (hi:l[i]? =some y) (h: ∀x∈l.take i,p x=false) (hy:p y=true):idx p l=i:=by
 unfold idx
 have:l.findIdx? p=some i:=by
  rw [List.findIdx?_eq_some_iff_getElem]
  obtain ⟨hlt,rfl⟩:=List.getElem?_eq_some_iff.1 hi
  refine ⟨hlt,hy,fun j hj=>?_⟩
  have:=h l[j] (by rw [List.mem_iff_getElem?];exact ⟨j,by rw [List.getElem?_take,if_pos hj,List.getElem?_eq_getElem]⟩)
  simp [this]
 rw [this]
theorem CB {α:Type} {p:α→Bool} {l:List α} (h: ∀x∈l,p x=false):idx p l= -1:=by
 unfold idx
 have:l.findIdx? p=none:=by rw [List.findIdx?_eq_none_iff];exact h
 rw [this]
theorem FK {α:Type} {p:α→Bool} {l:List α} {i:Nat} {y:α} (hi:l[i]? =some y) (h: ∀x∈l.take i,p x=false) (hy:p y=false): ∀x∈l.take (i+1),p x=false:=by
 rw [take_snoc hi]
 intro x hx
 rcases List.mem_append.1 hx with hx|hx
 ·exact h x hx
 ·rw [List.mem_singleton.1 hx];exact hy
theorem xX {Pb:Nat→Prop} {w:World} {v:Value} {l:List Pr} {p:Pr→Bool} {g:FuncId} {cap:Array Value} [hc:mX Tryz.prog g] (h:RdS rPr 2 Pb w v l)
 (hf: ∀y w',y∈l→New w w'→Calls Tryz.prog g ([Value.agg (pC y).toArray]++cap.toList).toArray w' (Ret fun r w''=>r=.bool (p y)∧New w' w'')):
 Calls Tryz.prog 218 #[v,.func (.func g) #[] cap] w (Ret fun r w'=>r=vi (idx p l)∧New w w'):=by
 obtain ⟨a,cp,rfl,hc1,hc2⟩:=h.form
 simp only [maxLen] at hc2
 refine mQ Tryz.func218 rfl Tryz.ntmps218 rfl ?_
 (repeat' (first|refine aa0 ?_|refine aa1 ?_|refine af ?_|refine aO rfl ?_|refine ah ?_|refine aj ?_|refine ai ?_|refine Wc.block ?_))
 refine aU (σ:=Nat) (fun i=>[(0,.slice a l.length cp),(1,.func (.func g) #[] cap),(7,vi l.length),(8,vi i)]) (fun i w'=>i≤l.length∧(∀x∈l.take i,p x=false)∧New w w') (fun i=>l.length-i) 0 ⟨rfl,rfl,rfl,rfl,trivial⟩ ⟨Nat.zero_le _,by simp,aV _ _⟩ ?_
 rintro i G w1 ⟨hi,hall,n1⟩
 simp only [oO]
 (repeat' (first|refine aa0 ?_|refine aa1 ?_|refine af ?_|refine ah ?_|refine aj ?_|refine ai ?_|refine Wc.block ?_|refine Wc.skip ?_|refine aQ ?_|refine ax ?_|refine aS ?_|refine aP ?_|refine aT ?_|refine aa3 ?_|refine aa4 ?_|refine aa9 (fun _=>?_) (fun _=>?_)))
 ·obtain ⟨y,hy⟩:=nN l (k:=i) (by omega)
  refine dW h n1.keep rfl rfl (by omega) hy fun b o cs hl hR hat=>?_
  obtain rfl:cs=pC y:=hR
  refine bQ hat rfl rfl ?_
  refine dG (dst:=some 16) rfl (hf y w1 (List.mem_of_getElem? hy) n1) rfl ?_
  rintro _ w2 ⟨rfl,n2⟩
  simp only [zy]
  cases hp:p y with
  |true=>
   (repeat' (first|refine aa0 ?_|refine aa1 ?_|refine af ?_|refine ah ?_|refine aj ?_|refine ai ?_|refine ax ?_|refine aN ?_|refine bf ?_|refine bG ?_|refine aa3 ?_))
   refine aA rfl rfl ⟨_,rfl,?_,New.trans n1 n2⟩
   rw [IX hy hall hp];rfl
  |false=>
   (repeat' (first|refine aa0 ?_|refine af ?_|refine ah ?_|refine ai ?_|refine Wc.skip ?_|refine aJ ?_|refine aa4 ?_|refine aa7 ?_))
   exact aK (i+1) ⟨rfl,rfl,rfl,rfl,trivial⟩ ⟨by omega,FK hy hall hp,New.trans n1 n2⟩ (by omega)
 ·have e:i=l.length:=by omega
  subst e
  rw [List.take_length] at hall
  refine aA rfl rfl ⟨_,rfl,?_,n1⟩
  rw [CB hall];rfl
theorem CG {α:Type} {p:α→Bool}: ∀(l:List α),match l.findIdx? p with|some i=> ∃y,l[i]? =some y∧l.find? p=some y|none=>l.find? p=none
 | []=>rfl
 |x::r=>by
  have ih:=CG (p:=p) r
  rw [List.findIdx?_cons]
  cases hx:p x
  ·rw [if_neg (by simp)]
   cases hr:r.findIdx? p with
   |none=>rw [hr] at ih;simp only [Option.map_none];rw [List.find?_cons_of_neg (by simp [hx])];exact ih
   |some i=>
    rw [hr] at ih
    obtain ⟨y,h1,h2⟩:=ih
    simp only [Option.map_some]
    exact ⟨y,by simpa using h1,by rw [List.find?_cons_of_neg (by simp [hx])];exact h2⟩
  ·rw [if_pos (by simp)]
   exact ⟨x,rfl,List.find?_cons_of_pos (by simp [hx])⟩
theorem IY {w:World} {b:Nat} {nm:Nm} {p:Pr} (h:Bk w b 9 [vs nm]):
 Calls Tryz.prog 314 #[.agg (pC p).toArray,.pointer (some ⟨b,0,none⟩)] w (Ret fun r w'=>r=.bool (decide (p.1=nm))∧New w w'):=by
 refine mQ Tryz.func314 rfl Tryz.ntmps314 rfl ?_
 (repeat' (first|refine aj ?_|refine ai ?_))
 refine bJ rfl fun w1 b1 n1 s1=>?_
 replace b1:Bk w1 w.heap.size 99 (pC p):=b1
 replace h:=h.chg n1 fun e=>e
 (repeat' (first|refine aa1 ?_|refine af ?_|refine ah ?_|refine aj ?_|refine ai ?_|refine aa5 ?_))
 refine au (u:=vs p.1) rfl (b1.cell (o:=0) rfl) ?_
 refine au (u:=vs nm) rfl (h.cell (o:=0) rfl) ?_
 (repeat' (first|refine aa1 ?_|refine af ?_|refine ah ?_|refine ax ?_|refine fF rfl rfl (fun _=>?_) (fun _=>?_)))
 ·rw [decide_eq_true (by assumption)]
  exact aA rfl rfl ⟨_,rfl,rfl,n1⟩
 ·rw [decide_eq_false (by assumption)]
  exact aA rfl rfl ⟨_,rfl,rfl,n1⟩
theorem zM {Pb:Nat→Prop} {w:World} {pv:Value} {x:Nd} {nm:Nm} (h:RdS rPr 2 Pb w pv x.oJ):
 Calls Tryz.prog 297 #[.agg #[vi x.parent,vs x.name,pv],vs nm] w (Ret fun r w'=>r=IW (val x.oJ nm)∧New w w'):=by
 obtain ⟨a,cap,rfl,hc1,hc2⟩:=h.form
 simp only [maxLen] at hc2
 refine mQ Tryz.func297 rfl Tryz.ntmps297 rfl ?_
 (repeat' (first|refine aj ?_|refine ai ?_))
 refine bJ rfl fun w1 b1 n1 s1=>?_
 replace b1:Bk w1 w.heap.size 51 [vi x.parent,vs x.name,.slice a x.oJ.length cap]:=b1
 skip
 refine bJ rfl fun w2 b2 n2 s2=>?_
 replace b2:Bk w2 w1.heap.size 9 [vs nm]:=b2
 replace b1:=b1.chg n2 fun e=>e
 replace n2:=New.trans n1 n2
 (repeat' (first|refine aa1 ?_|refine af ?_|refine ah ?_|refine aj ?_|refine ai ?_|refine aa5 ?_))
 refine au (u:=.slice a x.oJ.length cap) rfl (b1.cell (o:=2) rfl) ?_
 refine dL (f1:=[]) (c1:=[.pointer (some ⟨w1.heap.size,0,none⟩)]) rfl rfl ?_
 refine ay (xX (p:=fun p=>decide (p.1=nm)) (g:=314) (cap:= #[.pointer (some ⟨w1.heap.size,0,none⟩)]) (h.keep (nU pC) n2.keep) (fun y w' _ hw=>IY (b2.chg hw fun e=>e))) rfl ?_
 rintro _ w3 ⟨rfl,n3⟩
 have n03:=New.trans n2 n3
 have b3:=b1.chg n3 fun e=>e
 have hf:=CG (p:=fun p:Pr=>decide (p.1=nm)) x.oJ
 unfold val idx
 cases hi:x.oJ.findIdx? (fun p:Pr=>decide (p.1=nm)) with
 |none=>
  rw [hi] at hf
  dsimp only at hf ⊢
  rw [hf]
  (repeat' (first|refine aa0 ?_|refine aa1 ?_|refine af ?_|refine ah ?_|refine aj ?_|refine ai ?_|refine ax ?_|refine aN ?_|refine aa3 ?_|(refine aa9 (fun _=>?_) (fun _=>?_)<;>(first|(exfalso;omega)|skip))))
  exact aW rfl rfl rfl ⟨_,rfl,rfl,n03⟩
 |some i=>
  rw [hi] at hf
  obtain ⟨y,h1,h2⟩:=hf
  rw [h2]
  have hlt:=(List.getElem?_eq_some_iff.1 h1).1
  dsimp only
  (repeat' (first|refine aa0 ?_|refine aa1 ?_|refine af ?_|refine ah ?_|refine aj ?_|refine ai ?_|refine Wc.skip ?_|refine aa4 ?_|refine aa5 ?_|(refine aa9 (fun _=>?_) (fun _=>?_)<;>(first|(exfalso;omega)|skip))))
  refine au (u:=.slice a x.oJ.length cap) rfl (b3.cell (o:=2) rfl) ?_
  (repeat' (refine aa0 ?_))
  refine bD (h.keep (nU pC) n03.keep) rfl rfl (by omega) h1 fun b o cs hl hR hat=>?_
  obtain rfl:cs=pC y:=hR
  (repeat' (refine aa5 ?_))
  refine au (u:=vs y.2) rfl (hat.get 1 rfl) ?_
  (repeat' (first|refine aa1 ?_|refine af ?_|refine ah ?_|refine ax ?_))
  exact aW rfl rfl rfl ⟨_,rfl,rfl,n03⟩
theorem IZ {w:World} {b:Nat} {nm:Nm} {p:Pr} (h:Bk w b 9 [vs nm]):
 Calls Tryz.prog 219 #[.agg (pC p).toArray,.pointer (some ⟨b,0,none⟩)] w (Ret fun r w'=>r=.bool (decide (p.1=nm))∧New w w'):=by
 refine mQ Tryz.func219 rfl Tryz.ntmps219 rfl ?_
 (repeat' (first|refine aj ?_|refine ai ?_))
 refine bJ rfl fun w1 b1 n1 s1=>?_
 replace b1:Bk w1 w.heap.size 99 (pC p):=b1
 replace h:=h.chg n1 fun e=>e
 (repeat' (first|refine aa1 ?_|refine af ?_|refine ah ?_|refine aj ?_|refine ai ?_|refine aa5 ?_))
 refine au (u:=vs p.1) rfl (b1.cell (o:=0) rfl) ?_
 refine au (u:=vs nm) rfl (h.cell (o:=0) rfl) ?_
 (repeat' (first|refine aa1 ?_|refine af ?_|refine ah ?_|refine ax ?_|refine fF rfl rfl (fun _=>?_) (fun _=>?_)))
 ·rw [decide_eq_true (by assumption)]
  exact aA rfl rfl ⟨_,rfl,rfl,n1⟩
 ·rw [decide_eq_false (by assumption)]
  exact aA rfl rfl ⟨_,rfl,rfl,n1⟩
theorem zN {Pb:Nat→Prop} {w:World} {pv:Value} {x:Nd} {nm:Nm} (h:RdS rPr 2 Pb w pv x.oJ):
 Calls Tryz.prog 171 #[.agg #[vi x.parent,vs x.name,pv],vs nm] w (Ret fun r w'=>r=IW (val x.oJ nm)∧New w w'):=by
 obtain ⟨a,cap,rfl,hc1,hc2⟩:=h.form
 simp only [maxLen] at hc2
 refine mQ Tryz.func171 rfl Tryz.ntmps171 rfl ?_
 (repeat' (first|refine aj ?_|refine ai ?_))
 refine bJ rfl fun w1 b1 n1 s1=>?_
 replace b1:Bk w1 w.heap.size 51 [vi x.parent,vs x.name,.slice a x.oJ.length cap]:=b1
 skip
 refine bJ rfl fun w2 b2 n2 s2=>?_
 replace b2:Bk w2 w1.heap.size 9 [vs nm]:=b2
 replace b1:=b1.chg n2 fun e=>e
 replace n2:=New.trans n1 n2
 (repeat' (first|refine aa1 ?_|refine af ?_|refine ah ?_|refine aj ?_|refine ai ?_|refine aa5 ?_))
 refine au (u:=.slice a x.oJ.length cap) rfl (b1.cell (o:=2) rfl) ?_
 refine dL (f1:=[]) (c1:=[.pointer (some ⟨w1.heap.size,0,none⟩)]) rfl rfl ?_
 refine ay (xX (p:=fun p=>decide (p.1=nm)) (g:=219) (cap:= #[.pointer (some ⟨w1.heap.size,0,none⟩)]) (h.keep (nU pC) n2.keep) (fun y w' _ hw=>IZ (b2.chg hw fun e=>e))) rfl ?_
 rintro _ w3 ⟨rfl,n3⟩
 have n03:=New.trans n2 n3
 have b3:=b1.chg n3 fun e=>e
 have hf:=CG (p:=fun p:Pr=>decide (p.1=nm)) x.oJ
 unfold val idx
 cases hi:x.oJ.findIdx? (fun p:Pr=>decide (p.1=nm)) with
 |none=>
  rw [hi] at hf
  dsimp only at hf ⊢
  rw [hf]
  (repeat' (first|refine aa0 ?_|refine aa1 ?_|refine af ?_|refine ah ?_|refine aj ?_|refine ai ?_|refine ax ?_|refine aN ?_|refine aa3 ?_|(refine aa9 (fun _=>?_) (fun _=>?_)<;>(first|(exfalso;omega)|skip))))
  exact aW rfl rfl rfl ⟨_,rfl,rfl,n03⟩
 |some i=>
  rw [hi] at hf
  obtain ⟨y,h1,h2⟩:=hf
  rw [h2]
  have hlt:=(List.getElem?_eq_some_iff.1 h1).1
  dsimp only
  (repeat' (first|refine aa0 ?_|refine aa1 ?_|refine af ?_|refine ah ?_|refine aj ?_|refine ai ?_|refine Wc.skip ?_|refine aa4 ?_|refine aa5 ?_|(refine aa9 (fun _=>?_) (fun _=>?_)<;>(first|(exfalso;omega)|skip))))
  refine au (u:=.slice a x.oJ.length cap) rfl (b3.cell (o:=2) rfl) ?_
  (repeat' (refine aa0 ?_))
  refine bD (h.keep (nU pC) n03.keep) rfl rfl (by omega) h1 fun b o cs hl hR hat=>?_
  obtain rfl:cs=pC y:=hR
  (repeat' (refine aa5 ?_))
  refine au (u:=vs y.2) rfl (hat.get 1 rfl) ?_
  (repeat' (first|refine aa1 ?_|refine af ?_|refine ah ?_|refine ax ?_))
  exact aW rfl rfl rfl ⟨_,rfl,rfl,n03⟩
theorem FM (v:List UInt8): ∃n:Nat,(only 0 (form 4 v) (nums 4 v)).1=(n:Int)∧n<4294967296:=by
 unfold only
 split
 ·rename_i h
  cases hn:nums 4 v with
  |nil=>exact ⟨0,rfl,by decide⟩
  |cons x r=>
   have hx:x∈nums 4 v:=by rw [hn];simp
   unfold nums at hx
   split at hx
   ·unfold pieces at hx
    obtain ⟨i,hi,rfl⟩:=List.mem_map.1 hx
    refine ⟨_,rfl,?_⟩
    have h1:=xP ((v.drop (4*i)).take 4)
    have h2:256^((v.drop (4*i)).take 4).length≤256^4:=Fz _ _ (by simp only [List.length_take];omega)
    have h3:(256:Nat)^4=4294967296:=by decide
    omega
   ·simp at hx
 ·exact ⟨0,rfl,by decide⟩
def Yw:Option Nat→Value
 |some n=>.tuple #[vi n,vi 0]
 |none=>.tuple #[vi 0,vi 4]
theorem FN {Pb:Nat→Prop} {w:World} {pv:Value} {x:Nd} {nm:Nm} {least dflt:Nat} (h:RdS rPr 2 Pb w pv x.oJ) (hx: ∀v,val x.oJ nm=some v→v.length≤1024) (h1:least≤2) (h2:dflt≤2):
 Calls Tryz.prog 313 #[.agg #[vi x.parent,vs x.name,pv],vs nm,.int .u32 least,.int .u32 dflt] w (Ret fun r w'=>r=Yw (IU x.oJ nm least dflt)∧New w w'):=by
 obtain ⟨a,cap,rfl,hc1,hc2⟩:=h.form
 refine mQ Tryz.func313 rfl Tryz.ntmps313 rfl ?_
 (repeat' (first|refine aj ?_|refine ai ?_))
 refine bJ rfl fun w1 b1 n1 s1=>?_
 replace b1:Bk w1 w.heap.size 51 [vi x.parent,vs x.name,.slice a x.oJ.length cap]:=b1
 (repeat' (first|refine aa1 ?_|refine af ?_|refine ah ?_|refine aj ?_|refine ai ?_))
 refine dh b1 rfl rfl ?_
 (repeat' (refine aa0 ?_))
 refine ay (zM (x:=x) (nm:=nm) (h.keep (nU pC) n1.keep)) rfl ?_
 rintro _ w2 ⟨rfl,n2⟩
 have n02:=New.trans n1 n2
 unfold IU
 cases hv:val x.oJ nm with
 |none=>
  dsimp only
  (repeat' (first|refine aa0 ?_|refine aa1 ?_|refine af ?_|refine aa8 ?_|refine aZ rfl ?_|refine ah ?_|refine aj ?_|refine ai ?_|refine ax ?_|refine aN ?_|refine aa3 ?_|refine dP rfl ?_))
  refine aW rfl rfl rfl ⟨_,rfl,?_,n02⟩
  show Value.tuple #[.int .i64 (IntKind.i64.wrap (dflt:Int)),_]=_
  rw [EU (n:=dflt) rfl (by omega)]
  rfl
 |some s=>
  have hsl:=hx s hv
  dsimp only
  (repeat' (first|refine aa0 ?_|refine aa1 ?_|refine af ?_|refine aa8 ?_|refine aZ rfl ?_|refine ah ?_|refine aj ?_|refine ai ?_|refine Wc.skip ?_|refine aa4 ?_))
  refine ay (Dx (l:=s) (by omega)) rfl ?_
  rintro _ w3 ⟨rfl,n3⟩
  have n03:=New.trans n02 n3
  obtain ⟨n,hn,hnl⟩:=FM s
  unfold FC
  rw [hn,Int.toNat_natCast]
  (repeat' (first|refine aa0 ?_|refine aa1 ?_|refine af ?_|refine aa8 ?_|refine aa6 ?_|refine qi ?_|refine pG ?_|refine pq ?_|refine ah ?_|refine aj ?_|refine ai ?_|refine Wc.skip ?_|refine ax ?_|refine aN ?_|refine aa3 ?_|refine aa4 ?_|refine dP rfl ?_|refine aa9 (fun _=>?_) (fun _=>?_)|refine bM rfl rfl (fun _=>?_) (fun _=>?_)|refine pV (fun _=>?_) (fun _=>?_)))
  ·rw [if_neg (by omega)]
   exact aW rfl rfl rfl ⟨_,rfl,rfl,n03⟩
  ·rw [if_pos (by omega)]
   dsimp only
   rw [if_neg (by omega)]
   exact aW rfl rfl rfl ⟨_,rfl,rfl,n03⟩
  ·rw [if_pos (by omega)]
   dsimp only
   rw [if_neg (by omega)]
   exact aW rfl rfl rfl ⟨_,rfl,rfl,n03⟩
  ·rw [if_pos (by omega)]
   dsimp only
   rw [if_pos (by omega)]
   refine aW rfl rfl rfl ⟨_,rfl,?_,n03⟩
   show Value.tuple #[.int .i64 (IntKind.i64.wrap (n:Int)),_]=_
   rw [EU (n:=n) rfl (by omega)]
   rfl
def Yx:Option (Nat×Nat)→Value
 |some p=>.tuple #[vi p.1,vi p.2,vi 0]
 |none=>.tuple #[vi 0,vi 0,vi 4]
theorem Bo {Pb:Nat→Prop} {w:World} {pv:Value} {x:Nd} (h:RdS rPr 2 Pb w pv x.oJ) (hx: ∀nm v,val x.oJ nm=some v→v.length≤1024):
 Calls Tryz.prog 296 #[.agg #[vi x.parent,vs x.name,pv]] w (Ret fun r w'=>r=Yx (vg x.oJ)∧New w w'):=by
 obtain ⟨a,cap,rfl,hc1,hc2⟩:=h.form
 refine mQ Tryz.func296 rfl Tryz.ntmps296 rfl ?_
 (repeat' (first|refine aj ?_|refine ai ?_))
 refine bJ rfl fun w1 b1 n1 s1=>?_
 replace b1:Bk w1 w.heap.size 51 [vi x.parent,vs x.name,.slice a x.oJ.length cap]:=b1
 (repeat' (first|refine aa1 ?_|refine af ?_|refine ah ?_|refine aj ?_|refine ai ?_))
 refine dh b1 rfl rfl ?_
 refine ay (FN (x:=x) (nm:=SA) (least:=1) (dflt:=2) (h.keep (nU pC) n1.keep) (hx _) (by decide) (by decide)) rfl ?_
 rintro _ w2 ⟨rfl,n2⟩
 have n02:=New.trans n1 n2
 have b2:=b1.chg n2 fun e=>e
 have e1: ∀o:Option Nat,Yw o=.tuple #[vi (o.getD 0:Nat),vi (if o.isSome then 0 else 4)]:=fun o=>by cases o<;>rfl
 rw [e1]
 (repeat' (first|refine aa0 ?_|refine aa1 ?_|refine af ?_|refine aa8 ?_|refine ah ?_|refine aj ?_|refine ai ?_))
 refine dh b2 rfl rfl ?_
 refine ay (FN (x:=x) (nm:=OD) (least:=0) (dflt:=1) (h.keep (nU pC) n02.keep) (hx _) (by decide) (by decide)) rfl ?_
 rintro _ w3 ⟨rfl,n3⟩
 have n03:=New.trans n02 n3
 rw [e1]
 unfold vg
 cases IU x.oJ SA 1 2 with
 |none=>
  (repeat' (first|refine aa0 ?_|refine aa1 ?_|refine af ?_|refine aa8 ?_|refine qi ?_|refine pG ?_|refine ah ?_|refine aj ?_|refine ai ?_|refine ax ?_|refine aN ?_|refine aa3 ?_|(refine pV (fun _=>?_) (fun _=>?_)<;>(first|(exfalso;contradiction)|skip))))
  exact dA rfl rfl rfl rfl ⟨_,rfl,by cases IU x.oJ OD 0 1<;>rfl,n03⟩
 |some p=>
  cases IU x.oJ OD 0 1 with
  |none=>
   (repeat' (first|refine aa0 ?_|refine aa1 ?_|refine af ?_|refine aa8 ?_|refine aa6 ?_|refine pq ?_|refine ah ?_|refine aj ?_|refine ai ?_|refine ax ?_|refine aN ?_|refine aa3 ?_|(refine pV (fun _=>?_) (fun _=>?_)<;>(first|(exfalso;contradiction)|skip))))
   exact dA rfl rfl rfl rfl ⟨_,rfl,rfl,n03⟩
  |some q=>
   (repeat' (first|refine aa0 ?_|refine aa1 ?_|refine af ?_|refine aa8 ?_|refine aa6 ?_|refine pq ?_|refine ah ?_|refine aj ?_|refine ai ?_|refine Wc.skip ?_|refine ax ?_|refine aa4 ?_|(refine pV (fun _=>?_) (fun _=>?_)<;>(first|(exfalso;contradiction)|skip))))
   exact dA rfl rfl rfl rfl ⟨_,rfl,rfl,n03⟩
theorem Qd {Pb:Nat→Prop} {w:World} {v:Value} {l:List Nd} {i:Nat} (h:RdS rNd 3 Pb w v l) (hok:nV l=true) (hi:i<l.length):
 Calls Tryz.prog 282 #[v,vi i] w (Ret fun r w'=>ny (Wk.one viN) 3 1 (fun b=>w.heap.size≤b) NoB w' r (Cf l i)∧New w w'):=by
 obtain ⟨a,cap,rfl,hc1,hc2⟩:=h.form
 have hlen:=oN hok
 refine mQ Tryz.func282 rfl Tryz.ntmps282 rfl ?_
 (repeat' (first|refine aa1 ?_|refine af ?_|refine ah ?_|refine aj ?_|refine ai ?_|refine Wc.block ?_))
 refine aU (σ:=Nat×Value×List Nat) (fun s=>[(0,.slice a l.length cap),(1,vi s.1),(5,s.2.1)]) (fun s w'=>s.1≤i∧s.2.2.length+s.1≤i∧Cf l i=s.2.2++Cf l s.1∧ny (Wk.one viN) 3 1 (fun b=>w.heap.size≤b) NoB w' s.2.1 s.2.2∧New w w') (fun s=>s.1) (i,.slice none 0 0,[]) ⟨rfl,rfl,rfl,trivial⟩ ⟨Nat.le_refl _,by simp,by simp,bK,aV _ _⟩ ?_
 rintro ⟨k,u,ns⟩ G w1 ⟨hk,hkl,hnm,own,n1⟩
 dsimp only at hk hkl hnm own n1
 simp only [oO]
 obtain ⟨p,c,rfl,hp1,hp2⟩:=own.form
 (repeat' (first|refine aa0 ?_|refine aa1 ?_|refine af ?_|refine ah ?_|refine aj ?_|refine ai ?_|refine Wc.block ?_|refine Wc.skip ?_|refine aQ ?_|refine ax ?_|refine aS ?_|refine aP ?_|refine aT ?_|refine aa3 ?_|refine aa4 ?_|refine bM rfl rfl (fun _=>?_) (fun _=>?_)))
 ·obtain ⟨x,hx⟩:=nN l (k:=k) (by omega)
  have hpl:=uo hok (i:=k) (by omega) (by omega)
  have hxp:x.parent=(par l k:Int):=by rw [←hpl.2,xE hx]
  refine dF (R:=Wk.one viN) (y:=k) qJ own rfl rfl rfl rfl rfl (by omega) (by omega) (by simp only [maxLen];omega) (by omega) rfl rfl fun v' w2 p qW c2 lie=>?_
  have n2:New w w2:=Chg.trans n1 c2 fun k hk e=>by have:=(own.lt e).1;omega
  (repeat' (first|refine aa0 ?_|refine aa1 ?_|refine af ?_|refine ah ?_|refine ai ?_|refine aJ ?_))
  refine dW h n2.keep rfl rfl (by omega) hx fun b o cs hl hR hat=>?_
  obtain ⟨pv',rfl,_⟩:=hR
  (repeat' (refine aa5 ?_))
  refine au (u:=vi x.parent) rfl (hat.get 0 rfl) ?_
  (repeat' (first|refine aa1 ?_|refine af ?_))
  refine aK (par l k,v',ns++ [k]) ⟨rfl,by rw [hxp];rfl,rfl,trivial⟩ ⟨by dsimp only;omega,by simp;omega,?_,qW.mono qJ.mo (fun b hb e=>by rcases e with e|e;exact e;have:=n1.size;omega) (fun _ _ e=>e),n2⟩ (by dsimp only;omega)
  rw [hnm,Ah hok (by omega) (by omega)]
  simp
 ·obtain rfl:k=0:=by omega
  rw [Ag,List.append_nil] at hnm
  rw [hnm]
  exact aA rfl rfl ⟨_,rfl,own,n1⟩
end Go.Proofs.YtjecgaiaiophpaaGreatDoor
namespace Go.Proofs.YtjecgaiaiophpaaGreatDoor
open Go Wk
open Go.RowKit (Below)
attribute [local irreducible] Go.Calls
abbrev w64:Nat→Value:=fun k=>.int .u64 k
theorem OE {k:Nat} (h:k<18446744073709551616):IntKind.u64.wrap (k:Int)=(k:Int):=A7 rfl (by omega) (by show (k:Int)<2^64;omega)
theorem yV {a b:Nat} (h:b≤a) (ha:a<18446744073709551616):IntKind.u64.wrap ((a:Int)-(b:Int))=((a-b:Nat):Int):=by
 rw [show (a:Int)-(b:Int)=((a-b:Nat):Int) by omega]
 exact OE (by omega)
theorem Bq {w:World} {a s:Nat} (ha:a<18446744073709551616) (hs:s<18446744073709551616):
 Calls Tryz.prog 299 #[w64 a,w64 s] w (Ret fun r w'=>r=.bool (fitsW a s)∧w=w'):=by
 unfold fitsW
 refine mQ Tryz.func299 rfl Tryz.ntmps299 rfl ?_
 (repeat' (first|refine aa0 ?_|refine aa1 ?_|refine af ?_|refine aa6 ?_|refine qi ?_|refine pG ?_|refine ah ?_|refine aj ?_|refine ai ?_|refine ax ?_|refine bV rfl rfl (fun _=>?_) (fun _=>?_)))
 ·rw [decide_eq_true (.inl (by omega))]
  exact aA rfl rfl ⟨_,rfl,rfl,rfl⟩
 ·refine fJ rfl rfl ?_
  rw [show ((s:Int)-1)=(s:Int)-((1:Nat):Int) from rfl,yV (by omega) hs]
  refine aa6 ?_
  refine fJ rfl rfl ?_
  rw [show ((18446744073709551615:Int)-((s-1:Nat):Int))=((18446744073709551615:Nat):Int)-((s-1:Nat):Int) from rfl,yV (by omega) (by omega)]
  (repeat' (first|refine aa1 ?_|refine af ?_|refine aa6 ?_|refine pq ?_|refine ah ?_|refine ax ?_|refine dV rfl rfl (fun _=>?_) (fun _=>?_)))
  ·rw [decide_eq_true (.inr (by omega))]
   exact aA rfl rfl ⟨_,rfl,rfl,rfl⟩
  ·rw [decide_eq_false (by omega)]
   exact aA rfl rfl ⟨_,rfl,rfl,rfl⟩
theorem J8 {w:World} {x:Win} {f s:Nat} (h1:x.1<18446744073709551616) (h2:x.2<18446744073709551616) (hf:f<18446744073709551616) (hs:s<18446744073709551616):
 Calls Tryz.prog 316 #[.agg #[w64 x.1,w64 x.2],w64 f,w64 s] w (Ret fun r w'=>r=.bool (within x f s)∧New w w'):=by
 unfold within
 refine mQ Tryz.func316 rfl Tryz.ntmps316 rfl ?_
 (repeat' (first|refine aj ?_|refine ai ?_))
 refine bJ rfl fun w1 b1 n1 s1=>?_
 replace b1:Bk w1 w.heap.size 344 [w64 x.1,w64 x.2]:=b1
 (repeat' (first|refine aa1 ?_|refine af ?_|refine ah ?_|refine aj ?_|refine ai ?_|refine aa5 ?_))
 refine au (u:=w64 x.1) rfl (b1.cell (o:=0) rfl) ?_
 (repeat' (first|refine aa0 ?_|refine aa1 ?_|refine af ?_|refine aa6 ?_|refine qi ?_|refine pq ?_|refine ah ?_|refine ax ?_|refine aa5 ?_|refine cZ rfl rfl (fun _=>?_) (fun _=>?_)))
 ·refine au (u:=w64 x.1) rfl (b1.cell (o:=0) rfl) ?_
  (repeat' (first|refine aa0 ?_|refine aa6 ?_))
  refine fJ rfl rfl ?_
  rw [yV (by omega) h1]
  (repeat' (first|refine aa0 ?_|refine aa1 ?_|refine af ?_|refine aa6 ?_|refine qi ?_|refine pG ?_|refine pq ?_|refine ah ?_|refine ax ?_|refine aa5 ?_|refine aa9 (fun _=>?_) (fun _=>?_)))
  ·refine au (u:=w64 x.2) rfl (b1.cell (o:=1) rfl) ?_
   (repeat' (first|refine aa0 ?_|refine aa6 ?_|refine aa5 ?_))
   refine au (u:=w64 x.1) rfl (b1.cell (o:=0) rfl) ?_
   (repeat' (first|refine aa0 ?_|refine aa6 ?_))
   refine fJ rfl rfl ?_
   rw [yV (by omega) h1]
   refine aa6 ?_
   refine fJ rfl rfl ?_
   rw [yV (by omega) hs]
   (repeat' (first|refine aa1 ?_|refine af ?_|refine aa6 ?_|refine pG ?_|refine ah ?_|refine ax ?_|refine dV rfl rfl (fun _=>?_) (fun _=>?_)))
   ·rw [decide_eq_true (by omega)]
    exact aA rfl rfl ⟨_,rfl,rfl,n1⟩
   ·rw [decide_eq_false (by omega)]
    exact aA rfl rfl ⟨_,rfl,rfl,n1⟩
  ·rw [decide_eq_false (by omega)]
   exact aA rfl rfl ⟨_,rfl,rfl,n1⟩
 ·rw [decide_eq_false (by omega)]
  exact aA rfl rfl ⟨_,rfl,rfl,n1⟩
end Go.Proofs.YtjecgaiaiophpaaGreatDoor
namespace Go.Proofs.YtjecgaiaiophpaaGreatDoor.Wk
open Go Go.RowKit
end Go.Proofs.YtjecgaiaiophpaaGreatDoor.Wk
namespace Go.Proofs.YtjecgaiaiophpaaGreatDoor.Wk
open Go Go.RowKit
end Go.Proofs.YtjecgaiaiophpaaGreatDoor.Wk
namespace Go.Proofs.YtjecgaiaiophpaaGreatDoor.Wk
open Go Go.RowKit
section
variable {P:Program} {n:Nat} {ds:List Deferred} {Q:Po} {F:Fr} {w w':World} {ops rest:List Oper} {d:Nat} {ty:TypeId} {pos:String} {aft:Array Edge}
def FO (tmps:Array Value):ResultVar→Sem Value
 | .tmp t=>pure (tmps.getD t undef)
 | .cell a t=>do loadVar t (←asAddr (tmps.getD a undef))
theorem qo {t:Nat} (ht:Nat.blt t n=true):(FO (arr n F) (.tmp t)).run P w=.ok (F t) w:=by
 simp only [FO,Sem.run_pure]
 rw [Array.getD_eq_getD_getElem?,tH,if_pos (by rwa [Nat.blt_eq] at ht)];rfl
theorem rO {a e sz bytes b:Nat} {z:Value} {T:TypeId} {cs:List Value} [he:ElT P e sz bytes true z] (ht:Nat.blt a n=true) (hF:F a=.pointer (some ⟨b,0,none⟩)) (hb:Bk w b T cs) (hl:cs.length=sz):(FO (arr n F) (.cell a e)).run P w=.ok (.agg cs.toArray) w:=by
 have e1:(arr n F).getD a undef=.pointer (some ⟨b,0,none⟩):=by rw [Array.getD_eq_getD_getElem?,tH,if_pos (by rwa [Nat.blt_eq] at ht)];exact hF
 have:=run_loadCells_list (P:=P) w ⟨b,0,none⟩ cs (fun j u hu=>by rw [addr_add,Nat.zero_add];exact hb.cell hu)
 simp only [FO,e1]
 simp [asAddr,loadVar,he.isAgg,he.sizeOf, ←hl,this]
theorem Bv {fn:Func} {tmps:Array Value}:results fn tmps=(do let vs←fn.results.mapM (FO tmps);pure (if h:vs.size=1 then vs[0] else .tuple vs)):=by
 unfold results
 congr 1
theorem zO {fn:Func} {a:ResultVar} {u:Value} (h:fn.results= #[a]) (h1:(FO (arr n F) a).run P w=.ok u w):(results fn (arr n F)).run P w=.ok u w:=by
 rw [Bv,h]
 simp [h1]
theorem sD {fn:Func} {a b:ResultVar} {u v:Value} (h:fn.results= #[a,b]) (h1:(FO (arr n F) a).run P w=.ok u w) (h2:(FO (arr n F) b).run P w=.ok v w):(results fn (arr n F)).run P w=.ok (.tuple #[u,v]) w:=by
 rw [Bv,h]
 simp [h1,h2]
theorem eP {fn:Func} {R:Ending→World→Prop} {v:Value} (h:(results fn (arr n F)).run P w=.ok v w) (k:R (.returned v) w):Qfn P n fn R .ret F w:=by
 unfold Qfn;exact ⟨v,h,k⟩
end
end Go.Proofs.YtjecgaiaiophpaaGreatDoor.Wk
namespace Go.Proofs.YtjecgaiaiophpaaGreatDoor
open Go Wk
open Go.RowKit (Below)
attribute [local irreducible] Go.Calls
section
variable {P:Program} {n:Nat} {ds:List Deferred} {Q:Po} {F:Fr} {w:World} {ops rest:List Oper} {d:Nat} {ty t t':TypeId} {pos:String} {aft:Array Edge} {x y:Operand} {a b:List UInt8}
theorem jA (hx:ev n F x=vs a) (hy:ev n F y=vs b) (ht:a<b→Wl P n ds Q ops rest (upd F d (.bool true)) w) (hf: ¬a<b→Wl P n ds Q ops rest (upd F d (.bool false)) w):
 Wl P n ds Q ops (⟨some d,.binOp .lss t x y t',ty,pos,aft,none⟩::rest) F w:=by
 by_cases h:a<b
 ·exact Wl.val (by simp only [execOp,hx,hy,Sem.run_bind,qh,Result.andThen_ok,binOp_string_lss,ByteArray.toList_mk,Sem.run_pure,bytesLess_eq,decide_eq_true h]) (ht h)
 ·exact Wl.val (by simp only [execOp,hx,hy,Sem.run_bind,qh,Result.andThen_ok,binOp_string_lss,ByteArray.toList_mk,Sem.run_pure,bytesLess_eq,decide_eq_false h]) (hf h)
theorem Wk.Wl.ac5 (hx:ev n F x=vs a) (hy:ev n F y=vs b) (ht:b<a→Wl P n ds Q ops rest (upd F d (.bool true)) w) (hf: ¬b<a→Wl P n ds Q ops rest (upd F d (.bool false)) w):
 Wl P n ds Q ops (⟨some d,.binOp .gtr t x y t',ty,pos,aft,none⟩::rest) F w:=by
 have e:(!(decide (a<b)||a == b))=decide (b<a):=by
  by_cases h:a<b
  ·rw [decide_eq_true h,decide_eq_false (List.lt_asymm h)];rfl
  ·by_cases h2:a=b
   ·subst h2;rw [decide_eq_false h];simp
   ·rw [decide_eq_false h,decide_eq_true (DF h h2),beq_eq_false_iff_ne.2 h2];rfl
 have r:(execOp (ev n F) ⟨some d,.binOp .gtr t x y t',ty,pos,aft,none⟩).run P w=.ok (.value (.bool (decide (b<a)))) w:=by
  simp only [execOp,hx,hy,Sem.run_bind,qh,Result.andThen_ok,binOp_string_gtr,ByteArray.toList_mk,Sem.run_pure,bytesLess_eq,e]
 by_cases h:b<a
 ·rw [decide_eq_true h] at r;exact Wl.val r (ht h)
 ·rw [decide_eq_false h] at r;exact Wl.val r (hf h)
end
def CJ (a b:List UInt8):Int:=if a<b then-1 else if b<a then 1 else 0
theorem FP {w:World} {a:List UInt8}:Calls Tryz.prog 107 #[vs a] w (Ret fun r w'=>r=.bool false∧w=w'):=by
 refine mQ Tryz.func107 rfl Tryz.ntmps107 rfl ?_
 (repeat' (first|refine aa0 ?_|refine aa1 ?_|refine af ?_|refine ah ?_|refine aj ?_|refine ai ?_|refine ax ?_|(refine gI rfl rfl (fun _=>?_) (fun _=>?_)<;>(first|(exfalso;contradiction)|skip))))
 all_goals first|contradiction|exact aA rfl rfl ⟨_,rfl,rfl,rfl⟩
theorem vO {w:World} {a b:List UInt8}:Calls Tryz.prog 52 #[vs a,vs b] w (Ret fun r w'=>r=vi (CJ a b)∧w=w'):=by
 refine mQ Tryz.func52 rfl Tryz.ntmps52 rfl ?_
 (repeat' (first|refine aa0 ?_|refine aa1 ?_|refine af ?_|refine ah ?_|refine aj ?_|refine ai ?_))
 refine ay FP rfl ?_
 rintro _ _ ⟨rfl,rfl⟩
 (repeat' (first|refine aa0 ?_|refine aa1 ?_|refine af ?_|refine ah ?_|refine aj ?_|refine ai ?_))
 refine ay FP rfl ?_
 rintro _ _ ⟨rfl,rfl⟩
 (repeat' (first|refine aa0 ?_|refine aa1 ?_|refine af ?_|refine ah ?_|refine aj ?_|refine ai ?_|refine Wc.skip ?_|refine aa4 ?_))
 refine jA rfl rfl (fun h=>?_) (fun h=>?_)
 ·(repeat' (first|refine aa1 ?_|refine af ?_|refine ah ?_|refine aj ?_|refine ai ?_|refine ax ?_|refine aN ?_|refine aa3 ?_))
  refine aA rfl rfl ⟨_,rfl,?_,rfl⟩
  unfold CJ;rw [if_pos h];rfl
 ·(repeat' (first|refine aa0 ?_|refine af ?_|refine ah ?_|refine aj ?_|refine ai ?_|refine Wc.skip ?_|refine aa4 ?_))
  refine Wk.Wl.ac5 rfl rfl (fun h'=>?_) (fun h'=>?_)
  ·(repeat' (first|refine aa1 ?_|refine af ?_|refine ah ?_|refine aj ?_|refine ai ?_|refine ax ?_|refine aN ?_|refine aa3 ?_))
   refine aA rfl rfl ⟨_,rfl,?_,rfl⟩
   unfold CJ;rw [if_neg h,if_pos h'];rfl
  ·(repeat' (first|refine aa1 ?_|refine af ?_|refine ah ?_|refine aj ?_|refine ai ?_|refine Wc.skip ?_|refine ax ?_|refine aa4 ?_))
   refine aA rfl rfl ⟨_,rfl,?_,rfl⟩
   unfold CJ;rw [if_neg h,if_neg h'];rfl
def xF (a b:Int):Int:=if a<b then-1 else if b<a then 1 else 0
theorem Em {w:World} {a:Int}:Calls Tryz.prog 106 #[.int .u8 a] w (Ret fun r w'=>r=.bool false∧w=w'):=by
 refine mQ Tryz.func106 rfl Tryz.ntmps106 rfl ?_
 (repeat' (first|refine aa0 ?_|refine aa1 ?_|refine af ?_|refine ah ?_|refine aj ?_|refine ai ?_|refine ax ?_|(refine pV (fun _=>?_) (fun _=>?_)<;>(first|(exfalso;omega)|skip))))
 exact aA rfl rfl ⟨_,rfl,rfl,rfl⟩
theorem xG {w:World} {a b:Int}:Calls Tryz.prog 51 #[.int .u8 a,.int .u8 b] w (Ret fun r w'=>r=vi (xF a b)∧w=w'):=by
 refine mQ Tryz.func51 rfl Tryz.ntmps51 rfl ?_
 (repeat' (first|refine aa0 ?_|refine aa1 ?_|refine af ?_|refine ah ?_|refine aj ?_|refine ai ?_))
 refine ay Em rfl ?_
 rintro _ _ ⟨rfl,rfl⟩
 (repeat' (first|refine aa0 ?_|refine aa1 ?_|refine af ?_|refine ah ?_|refine aj ?_|refine ai ?_))
 refine ay Em rfl ?_
 rintro _ _ ⟨rfl,rfl⟩
 (repeat' (first|refine aa0 ?_|refine aa1 ?_|refine af ?_|refine ah ?_|refine aj ?_|refine ai ?_|refine Wc.skip ?_|refine ax ?_|refine aN ?_|refine aa3 ?_|refine aa4 ?_|refine aa9 (fun _=>?_) (fun _=>?_)|refine bM rfl rfl (fun _=>?_) (fun _=>?_)))
 ·refine aA rfl rfl ⟨_,rfl,?_,rfl⟩
  unfold xF;rw [if_pos (by assumption)];rfl
 ·refine aA rfl rfl ⟨_,rfl,?_,rfl⟩
  unfold xF;rw [if_neg (by omega),if_pos (by omega)];rfl
 ·refine aA rfl rfl ⟨_,rfl,?_,rfl⟩
  unfold xF;rw [if_neg (by omega),if_neg (by omega)];rfl
theorem CO {w:World} {a:Int}:Calls Tryz.prog 291 #[.int .u64 a] w (Ret fun r w'=>r=.bool false∧w=w'):=by
 refine mQ Tryz.func291 rfl Tryz.ntmps291 rfl ?_
 (repeat' (first|refine aa0 ?_|refine aa1 ?_|refine af ?_|refine ah ?_|refine aj ?_|refine ai ?_|refine ax ?_|(refine pV (fun _=>?_) (fun _=>?_)<;>(first|(exfalso;omega)|skip))))
 exact aA rfl rfl ⟨_,rfl,rfl,rfl⟩
theorem zQ {w:World} {a b:Int}:Calls Tryz.prog 272 #[.int .u64 a,.int .u64 b] w (Ret fun r w'=>r=vi (xF a b)∧w=w'):=by
 refine mQ Tryz.func272 rfl Tryz.ntmps272 rfl ?_
 (repeat' (first|refine aa0 ?_|refine aa1 ?_|refine af ?_|refine ah ?_|refine aj ?_|refine ai ?_))
 refine ay CO rfl ?_
 rintro _ _ ⟨rfl,rfl⟩
 (repeat' (first|refine aa0 ?_|refine aa1 ?_|refine af ?_|refine ah ?_|refine aj ?_|refine ai ?_))
 refine ay CO rfl ?_
 rintro _ _ ⟨rfl,rfl⟩
 (repeat' (first|refine aa0 ?_|refine aa1 ?_|refine af ?_|refine ah ?_|refine aj ?_|refine ai ?_|refine Wc.skip ?_|refine ax ?_|refine aN ?_|refine aa3 ?_|refine aa4 ?_|refine aa9 (fun _=>?_) (fun _=>?_)|refine bM rfl rfl (fun _=>?_) (fun _=>?_)))
 ·refine aA rfl rfl ⟨_,rfl,?_,rfl⟩
  unfold xF;rw [if_pos (by assumption)];rfl
 ·refine aA rfl rfl ⟨_,rfl,?_,rfl⟩
  unfold xF;rw [if_neg (by omega),if_pos (by omega)];rfl
 ·refine aA rfl rfl ⟨_,rfl,?_,rfl⟩
  unfold xF;rw [if_neg (by omega),if_neg (by omega)];rfl
def orM:List Int→Int
 | []=>0
 |x::r=>if x=0 then orM r else x
theorem I4 {Pb:Nat→Prop} {w:World} {v:Value} {xs:List Int} (h:RdS (Wk.one vi) 1 Pb w v xs):
 Calls Tryz.prog 50 #[v] w (Ret fun r w'=>r=vi (orM xs)∧w=w'):=by
 obtain ⟨a,cap,rfl,hc1,hc2⟩:=h.form
 simp only [maxLen] at hc2
 refine mQ Tryz.func50 rfl Tryz.ntmps50 rfl ?_
 (repeat' (first|refine aa0 ?_|refine aa1 ?_|refine af ?_|refine aO rfl ?_|refine ah ?_|refine aj ?_|refine ai ?_|refine Wc.block ?_))
 refine aU (σ:=Nat) (fun i=>[(3,vi 0),(6,.slice a xs.length cap),(7,vi xs.length),(8,vi i)]) (fun i w'=>i≤xs.length∧orM xs=orM (xs.drop i)∧w=w') (fun i=>xs.length-i) 0 ⟨rfl,rfl,rfl,rfl,trivial⟩ ⟨Nat.zero_le _,rfl,rfl⟩ ?_
 rintro i G _ ⟨hi,hgo,rfl⟩
 simp only [oO]
 (repeat' (first|refine aa0 ?_|refine aa1 ?_|refine af ?_|refine ah ?_|refine aj ?_|refine ai ?_|refine Wc.block ?_|refine Wc.skip ?_|refine aQ ?_|refine ax ?_|refine aS ?_|refine aP ?_|refine aT ?_|refine aa3 ?_|refine aa4 ?_|refine aa9 (fun _=>?_) (fun _=>?_)))
 ·obtain ⟨x,hx⟩:=nN xs (k:=i) (by omega)
  rw [drop_cons hx] at hgo
  simp only [orM] at hgo
  refine bY h rfl rfl (by omega) hx fun b o hcell=>?_
  refine au (u:=vi x) rfl hcell ?_
  (repeat' (first|refine aa0 ?_|refine aa1 ?_|refine af ?_|refine ah ?_|refine aj ?_|refine ai ?_|refine Wc.skip ?_|refine ax ?_|refine aN ?_|refine aJ ?_|refine bf ?_|refine bG ?_|refine aa3 ?_|refine aa4 ?_|refine aa7 ?_|refine pV (fun _=>?_) (fun _=>?_)))
  ·rw [if_neg (by assumption)] at hgo
   rw [hgo]
   exact aA rfl rfl ⟨_,rfl,rfl,rfl⟩
  ·rw [if_pos (by omega)] at hgo
   exact aK (i+1) ⟨rfl,rfl,rfl,rfl,trivial⟩ ⟨by omega,hgo,rfl⟩ (by omega)
 ·obtain rfl:i=xs.length:=by omega
  rw [List.drop_length] at hgo
  rw [hgo]
  exact aA rfl rfl ⟨_,rfl,rfl,rfl⟩
theorem OG (lv:Nat→Int) (pt:Nat→Nm) (a b:Nat):orM [xF (lv a) (lv b),CJ (pt a) (pt b)]=qN lv pt a b:=by
 unfold qN xF CJ
 simp only [orM]
 split
 ·rfl
 ·split
  ·rfl
  ·rw [if_pos rfl]
   split
   ·rfl
   ·split<;>rfl
end Go.Proofs.YtjecgaiaiophpaaGreatDoor
namespace Go.Proofs.YtjecgaiaiophpaaGreatDoor.Wk
open Go Go.RowKit
section
variable {P:Program} {n:Nat} {ds:List Deferred} {Q:Po} {F:Fr} {w w':World} {ops rest:List Oper} {d:Nat} {ty:TypeId} {pos:String} {aft:Array Edge}
theorem lT {x:Operand} {t:TypeId} {s:List UInt8} [ht:Und P t .string] (hx:ev n F x=vs s) (c: ∀w',w'.heap[w.heap.size]? =some (.stringIter ⟨s.toArray⟩ 0)→New w w'→w'.heap.size=w.heap.size+1→Wl P n ds Q ops rest (upd F d (.pointer (some ⟨w.heap.size,0,none⟩))) w'):
 Wl P n ds Q ops (⟨some d,.range t x,ty,pos,aft,none⟩::rest) F w:=by
 refine Wl.val (w':=w.alloc (.stringIter ⟨s.toArray⟩ 0)) (v:=.pointer (some ⟨w.heap.size,0,none⟩)) ?_ (c _ (heap_alloc_new w _) (Chg.alloc _ _ _) (by simp))
 simp [execOp,hx,Instr.range,run_underlying ht.h]
theorem Wl.Yy {x:Operand} {k q:Nat} {s:List UInt8} (hx:ev n F x=.pointer (some ⟨k,0,none⟩)) (hk:w.heap[k]? =some (.stringIter ⟨s.toArray⟩ q)) (hq:q<s.length)
 (c: ∀w',w'.heap[k]? =some (.stringIter ⟨s.toArray⟩ (q+(Utf8.decode ⟨s.toArray⟩ q).2))→Chg (fun b=>b=k) w w'→Wl P n ds Q ops rest (upd F d (.tuple #[.bool true,vi q,.int .i32 (Utf8.decode ⟨s.toArray⟩ q).1])) w'):Wl P n ds Q ops (⟨some d,.next x true,ty,pos,aft,none⟩::rest) F w:=by
 have hr:=Go.Lib.run_next_any_at (P:=P) w k ⟨s.toArray⟩ q ty hk (by simpa [ByteArray.size] using hq)
 refine Wl.val (w':=w.iterAt k ⟨s.toArray⟩ (q+(Utf8.decode ⟨s.toArray⟩ q).2)) (v:=.tuple #[.bool true,vi q,.int .i32 (Utf8.decode ⟨s.toArray⟩ q).1]) ?_ (c _ (Go.Lib.iterAt_heap w k _ q _ hk) ⟨rfl,rfl,rfl,by simp [World.iterAt],fun j _ hj=>Go.Lib.iterAt_other w k j _ _ hj⟩)
 simp only [execOp,hx,Sem.run_bind,hr,Result.andThen_ok,Sem.run_pure]
theorem Wl.Yz {x:Operand} {k q:Nat} {s:List UInt8} (hx:ev n F x=.pointer (some ⟨k,0,none⟩)) (hk:w.heap[k]? =some (.stringIter ⟨s.toArray⟩ q)) (hq:s.length≤q)
 (c:Wl P n ds Q ops rest (upd F d (.tuple #[.bool false])) w):Wl P n ds Q ops (⟨some d,.next x true,ty,pos,aft,none⟩::rest) F w:=by
 have hr:=Go.Lib.run_next_end_at (P:=P) w k ⟨s.toArray⟩ q ty hk (by simp [ByteArray.size];omega)
 refine Wl.val (w':=w) (v:=.tuple #[.bool false]) ?_ c
 simp only [execOp,hx,Sem.run_bind,hr,Result.andThen_ok,Sem.run_pure]
theorem lU {x:Operand} {t t':TypeId} {k:IntKind} {r:Int} {u:TypeDesc} [ht:Und P t u] [ht':Und P t' .string] (hu: ∃k,u=.int k) (hx:ev n F x=.int k r)
 (c:Wl P n ds Q ops rest (upd F d (vs (Utf8.encode r).data.toList)) w):Wl P n ds Q ops (⟨some d,.convert t t' x,ty,pos,aft,none⟩::rest) F w:=by
 obtain ⟨k',rfl⟩:=hu
 refine Wl.val ?_ c
 have:(⟨(Utf8.encode r).data.toList.toArray⟩:ByteArray)=Utf8.encode r:=by
  apply ByteArray.ext;simp
 simp only [execOp,hx,Sem.run_bind,convert,run_underlying ht.h,run_underlying ht'.h,Result.andThen_ok,Conv.intToString,Sem.run_pure,vs,this]
end
end Go.Proofs.YtjecgaiaiophpaaGreatDoor.Wk
namespace Go.Proofs.YtjecgaiaiophpaaGreatDoor
open Go Wk
open Go.RowKit (Below)
attribute [local irreducible] Go.Calls
theorem DI {l:List UInt8} {c:UInt8}:0≤Lib.indexByte l c↔l.contains c=true:=by
 constructor
 ·intro h
  obtain ⟨o,ho⟩:=Int.eq_ofNat_of_zero_le h
  exact List.contains_iff_mem.2 (List.mem_of_getElem? (Lib.indexByte_some ho).1)
 ·intro h
  have hge:=Lib.indexByte_ge l c
  rcases Int.lt_or_le (Lib.indexByte l c) 0 with h0|h0
  ·obtain ⟨k,hk⟩:=List.mem_iff_getElem?.1 (List.contains_iff_mem.1 h)
   exact absurd hk (Lib.indexByte_none (show Lib.indexByte l c= -1 by omega) k)
  ·exact h0
def sg8:List UInt8:=[44,46,95,43,45,64,35,63]
theorem DJ:sg8=[44,46,95,43,45,64,35,63]:=rfl
theorem J9: ∀c∈signs,c.toNat<128:=by rw [Cc];decide
theorem Ai: ∀c∈sg8,c.toNat<128:=by rw [DJ];decide
theorem MW: ∀q<sg8.length,Utf8.decode ⟨sg8.toArray⟩ q=((sg8.getD q 0).toNat,1):=by
 intro q hq
 rw [Lib.decode_N]
 refine Lib.decodeN_ascii _ _ _ _ _ ?_
 have:(sg8.getD q 0)∈sg8:=by
  rw [List.getD_eq_getElem?_getD,List.getElem?_eq_getElem hq]
  exact List.getElem_mem hq
 exact Ai _ this
theorem FQ {w:World} {r:Int}:Calls Tryz.prog 265 #[.int .i32 r] w (Ret fun v w'=>v=.bool (Lib.validRune r)∧w=w'):=by
 refine (kP r w).mono ?_
 rintro e w' ⟨rfl,rfl⟩
 exact ⟨_,rfl,rfl,rfl⟩
theorem Qg (c:Nat) (hc:128≤c) (e:ByteArray) (he:e=if c<0x80 then ⟨#[UInt8.ofNat c]⟩ else if c<0x800 then ⟨#[UInt8.ofNat (0xC0+c / 64),UInt8.ofNat (0x80+c % 64)]⟩
 else if c<0x10000 then ⟨#[UInt8.ofNat (0xE0+c / 4096),UInt8.ofNat (0x80+c / 64 % 64),UInt8.ofNat (0x80+c % 64)]⟩ else ⟨#[UInt8.ofNat (0xF0+c / 262144),UInt8.ofNat (0x80+c / 4096 % 64),UInt8.ofNat (0x80+c / 64 % 64),UInt8.ofNat (0x80+c % 64)]⟩):
 ∃l k,e.data.toList=l++ [k]∧128≤k.toNat∧1≤l.length∧l.length≤3:=by
 have hb: ∀m,128≤(UInt8.ofNat (0x80+m % 64)).toNat:=fun m=>by rw [UInt8.toNat_ofNat'];omega
 rw [if_neg (by omega)] at he
 split at he
 ·exact ⟨[_],_,by rw [he];rfl,hb c,by simp,by simp⟩
 ·split at he
  ·exact ⟨[_,_],_,by rw [he];rfl,hb c,by simp,by simp⟩
  ·exact ⟨[_,_,_],_,by rw [he];rfl,hb c,by simp,by simp⟩
theorem Ko {r:Nat} (h0:128≤r): ∃l c,(Utf8.encode (r:Int)).data.toList=l++ [c]∧128≤c.toNat∧1≤l.length∧l.length≤3:=by
 refine Qg (if Utf8.valid (r:Int)=true then ((r:Int)).toNat else Utf8.runeError) ?_ _ rfl
 split
 ·simpa using h0
 ·unfold Utf8.runeError;omega
theorem YA {r:Nat} (h:r<256):IntKind.u8.wrap (r:Int)=((UInt8.ofNat r).toNat:Int):=by
 rw [UInt8.toNat_ofNat',IntKind.wrap_u8]
 omega
set_option maxRecDepth 20000 in
theorem FT {w:World} {r:Nat} (hr:r≤1114111):
 Calls Tryz.prog 237 #[vs sg8,.int .i32 r] w (Ret fun v w'=>(∃k,v=vi k∧(0≤k↔r<128∧sg8.contains (UInt8.ofNat r)=true))∧New w w'):=by
 have hlen:sg8.length=8:=by rw [DJ];rfl
 refine mQ Tryz.func237 rfl Tryz.ntmps237 rfl ?_
 (repeat' (first|refine aa0 ?_|refine aa1 ?_|refine af ?_|refine aa6 ?_|refine pG ?_|refine ah ?_|refine aj ?_|refine ai ?_|refine Wc.block ?_|refine aa3 ?_|refine aa4 ?_|refine dP rfl ?_|refine aa9 (fun _=>?_) (fun _=>?_)|(refine dV rfl rfl (fun _=>?_) (fun _=>?_)<;>(first|(exfalso;omega)|skip))|refine bV rfl rfl (fun _=>?_) (fun _=>?_)))
 ·refine ay (ul (l:=sg8) (c:=UInt8.ofNat r)) (by rw [←YA (by omega)];rfl) ?_
  rintro _ _ ⟨rfl,rfl⟩
  (repeat' (first|refine aa1 ?_|refine af ?_|refine ah ?_|refine ax ?_|refine bf ?_))
  refine aA rfl rfl ⟨_,rfl,⟨_,rfl,?_⟩,aV _ _⟩
  rw [DI]
  exact ⟨fun h=>⟨by omega,h⟩,fun h=>h.2⟩
 ·refine lT rfl fun w1 h1 n1 s1=>?_
  (repeat' (first|refine af ?_|refine ah ?_|refine Wc.block ?_))
  refine aU (σ:=Nat) (fun q=>[(0,vs sg8),(1,.int .i32 r),(175,.pointer (some ⟨w.heap.size,0,none⟩))]) (fun q w'=>q≤sg8.length∧w'.heap[w.heap.size]? =some (.stringIter ⟨sg8.toArray⟩ q)∧New w w') (fun q=>sg8.length-q) 0 ⟨rfl,rfl,rfl,trivial⟩ ⟨Nat.zero_le _,h1,n1⟩ ?_
  rintro q G w2 ⟨hq,h2,n2⟩
  simp only [oO]
  by_cases hlt:q<sg8.length
  ·have hd:=MW q hlt
   have ha:=Ai _ (List.getElem_mem hlt)
   have hg:(sg8.getD q 0)=sg8[q]:=by rw [List.getD_eq_getElem?_getD,List.getElem?_eq_getElem hlt];rfl
   (repeat' (first|refine aj ?_|refine ai ?_))
   refine Wl.Yy rfl h2 hlt fun w3 h3 c3=>?_
   rw [hd,hg] at h3 ⊢
   (repeat' (first|refine aa0 ?_|refine aa1 ?_|refine af ?_|refine aa8 ?_|refine ah ?_|refine aj ?_|refine ai ?_|refine Wc.block ?_|refine Wc.skip ?_|refine aJ ?_|refine aa3 ?_|refine aa4 ?_|(refine bV rfl rfl (fun _=>?_) (fun _=>?_)<;>(first|(exfalso;omega)|skip))))
   exact aK (q+1) ⟨rfl,rfl,rfl,trivial⟩ ⟨by omega,h3,Chg.trans n2 c3 fun b hb e=>by omega⟩ (by omega)
  ·(repeat' (first|refine aj ?_|refine ai ?_))
   refine Wl.Yz rfl h2 (by omega) ?_
   (repeat' (first|refine aa1 ?_|refine af ?_|refine aa8 ?_|refine ah ?_|refine aj ?_|refine ai ?_|refine aQ ?_|refine ax ?_|refine aS ?_|refine bf ?_|refine aP ?_|refine aT ?_|refine aa4 ?_))
   exact aA rfl rfl ⟨_,rfl,⟨-1,rfl,by omega⟩,n2⟩
 ·have h128:128≤r:=by omega
  refine ay FQ rfl ?_
  rintro _ _ ⟨rfl,rfl⟩
  cases hv:Lib.validRune (r:Int) with
  |false=>
   (repeat' (first|refine aa1 ?_|refine af ?_|refine aZ rfl ?_|refine ah ?_|refine aj ?_|refine ai ?_|refine ax ?_|refine bf ?_|refine aa3 ?_))
   exact aA rfl rfl ⟨_,rfl,⟨-1,rfl,by omega⟩,aV _ _⟩
  |true=>
   (repeat' (first|refine aa0 ?_|refine aa1 ?_|refine af ?_|refine aZ rfl ?_|refine ah ?_|refine aj ?_|refine ai ?_|refine iY ?_|refine aa4 ?_))
   refine lU ⟨_,rfl⟩ rfl ?_
   obtain ⟨el,c,hel,hc,hl1,hl2⟩:=Ko h128
   rw [hel]
   clear hel hv
   have hlen2:(el++ [c]).length=el.length+1:=by simp
   have hcn:(sg8.drop (el.length+1)).contains c=false:=by
    rw [Bool.eq_false_iff]
    intro h
    have:=Ai c (List.mem_of_mem_drop (List.contains_iff_mem.1 h))
    omega
   (repeat' (first|refine aa0 ?_|refine aa1 ?_|refine af ?_|refine eu rfl ?_|refine ah ?_|refine aj ?_|refine ai ?_|refine Wc.block ?_|refine Aq ?_))
   refine aU (σ:=Unit) (fun _=>[(0,vs sg8),(7,vs (el++ [c])),(8,vi (((el++ [c]).length:Int)-1)),(9,vi (((el++ [c]).length:Int)-1))]) (fun _ w'=>w'=w) (fun _=>0) () ⟨rfl,rfl,rfl,rfl,trivial⟩ rfl ?_
   rintro _ G _ rfl
   simp only [oO]
   obtain ⟨x,hx⟩:=nN sg8 (k:=el.length) (by omega)
   have hx2:=Ai x (List.mem_of_getElem? hx)
   have hcl:(el++ [c])[el.length]? =some c:=by rw [List.getElem?_append_right (Nat.le_refl _)];simp
   have e1:(((el++ [c]).length:Int)-1).toNat=el.length:=by omega
   (repeat' (first|refine aa0 ?_|refine af ?_|refine eu rfl ?_|refine ah ?_|refine aj ?_|refine ai ?_|refine Wc.block ?_|refine Wc.skip ?_|refine iY ?_|refine aa3 ?_|(refine aa9 (fun _=>?_) (fun _=>?_)<;>(first|(exfalso;omega)|skip))))
   refine fM rfl (by kernel_rfl) ?_
   (repeat' (refine pF ?_))
   refine iT (l:=sg8) rfl rfl (by omega) (c:=x) (by rw [e1];exact hx) ?_
   (repeat' (refine pF ?_))
   refine iT (l:=el++ [c]) rfl rfl (by omega) (c:=c) (by rw [e1];exact hcl) ?_
   (repeat' (first|refine ak ?_|(refine Wq.neq rfl rfl (fun _=>?_) (fun _=>?_)<;>(first|(exfalso;omega)|skip))))
   intro w1 n1
   (repeat' (first|refine ah ?_|refine aj ?_|refine aa3 ?_))
   refine fM rfl (by kernel_rfl) ?_
   (repeat' (first|refine pF ?_|refine Wq.add rfl rfl (by omega) (by omega) ?_))
   refine kF (l:=sg8) rfl rfl (by omega) (by omega) ?_
   rw [show (((el++ [c]).length:Int)-1+1).toNat=el.length+1 by omega]
   (repeat' (refine pF ?_))
   refine iT (l:=el++ [c]) rfl rfl (by omega) (c:=c) (by rw [e1];exact hcl) ?_
   refine Wq.call (v:=vi (Lib.indexByte (sg8.drop (el.length+1)) c)) (fun w' hw=>(ul (l:=sg8.drop (el.length+1)) (c:=c)).mono ?_) rfl ?_
   ·rintro _ w'' ⟨r',rfl,rfl,rfl⟩
    exact ⟨rfl,hw⟩
   (repeat' (first|refine fB (by conv=>{lhs;whnf}) ?_|refine ak ?_))
   intro w2 n2
   have hneg:Lib.indexByte (sg8.drop (el.length+1)) c<0:=by
    rcases Int.lt_or_le (Lib.indexByte (sg8.drop (el.length+1)) c) 0 with h|h
    ·exact h
    ·rw [DI,hcn] at h;cases h
   (repeat' (first|refine aa0 ?_|refine aa1 ?_|refine af ?_|refine ah ?_|refine aj ?_|refine ai ?_|refine ax ?_|refine aN ?_|refine Qsc.ret ?_|refine bf ?_|refine bG ?_|refine aa3 ?_|(refine aa9 (fun _=>?_) (fun _=>?_)<;>(first|(exfalso;omega)|skip))))
   exact aA rfl rfl ⟨_,rfl,⟨-1,rfl,by omega⟩,New.trans n1 n2⟩
def GH (r:Nat):Bool:=decide (r<128)&&sg8.contains (UInt8.ofNat r)
theorem uy {w:World} {r:Nat} (hr:r≤1114111):
 Calls Tryz.prog 194 #[vs sg8,.int .i32 r] w (Ret fun v w'=>v=.bool (GH r)∧New w w'):=by
 refine mQ Tryz.func194 rfl Tryz.ntmps194 rfl ?_
 (repeat' (first|refine aa0 ?_|refine aa1 ?_|refine af ?_|refine ah ?_|refine aj ?_|refine ai ?_))
 refine ay (FT hr) rfl ?_
 rintro _ w1 ⟨⟨k,rfl,hk⟩,n1⟩
 unfold GH
 (repeat' (first|refine aa1 ?_|refine af ?_|refine ah ?_|refine ax ?_|refine cZ rfl rfl (fun _=>?_) (fun _=>?_)))
 ·have h:=hk.1 (by omega)
  refine aA rfl rfl ⟨_,rfl,?_,n1⟩
  rw [decide_eq_true h.1,h.2];rfl
 ·have h: ¬(r<128∧sg8.contains (UInt8.ofNat r)=true):=fun e=>by have:=hk.2 e;omega
  refine aA rfl rfl ⟨_,rfl,?_,n1⟩
  by_cases h1:r<128
  ·have h2:sg8.contains (UInt8.ofNat r)=false:=by
    rw [Bool.eq_false_iff];exact fun e=>h ⟨h1,e⟩
   rw [h2,Bool.and_false]
   rfl
  ·rw [decide_eq_false h1]
   rfl
def sgB (r:Nat):Bool:=decide (r<128)&&signs.contains (UInt8.ofNat r)
theorem OH: ∀r,r<128→sgB r=(decide (97≤r∧r≤122)||decide (48≤r∧r≤57)||GH r):=by
 unfold sgB GH
 rw [Cc,DJ]
 decide+kernel
theorem OI {r:Nat} (h:128≤r):sgB r=false∧GH r=false:=by
 unfold sgB GH
 rw [decide_eq_false (by omega)]
 exact ⟨rfl,rfl⟩
theorem SI {r:Nat} (h:97≤r∧r≤122∨48≤r∧r≤57):sgB r=true:=by
 rw [OH r (by omega)]
 rcases h with h|h
 ·rw [decide_eq_true h];rfl
 ·rw [decide_eq_true h,Bool.or_true];rfl
theorem I5 {r:Nat} (h1: ¬(97≤r∧r≤122)) (h2: ¬(48≤r∧r≤57)):sgB r=GH r:=by
 by_cases h:r<128
 ·rw [OH r h,decide_eq_false h1,decide_eq_false h2];rfl
 ·rw [(OI (by omega)).1,(OI (by omega)).2]
theorem SK {w:World} {r:Nat} (hr:r≤1114111):
 Calls Tryz.prog 193 #[.int .i32 r] w (Ret fun v w'=>v=.bool (!sgB r)∧New w w'):=by
 refine mQ Tryz.func193 rfl Tryz.ntmps193 rfl ?_
 (repeat' (first|refine aa0 ?_|refine aa1 ?_|refine af ?_|refine aa6 ?_|refine qi ?_|refine gX rfl ?_|refine pG ?_|refine pq ?_|refine aZ rfl ?_|refine ah ?_|refine aj ?_|refine ai ?_|refine ax ?_|(refine dV rfl rfl (fun _=>?_) (fun _=>?_)<;>(first|(exfalso;omega)|skip))|(refine cZ rfl rfl (fun _=>?_) (fun _=>?_)<;>(first|(exfalso;omega)|skip))))
 rotate_left 3
 ·refine ay (uy hr) (by unfold vs;rw [DJ];rfl) ?_
  rintro _ w1 ⟨rfl,n1⟩
  rw [I5 (by omega) (by omega)]
  cases GH r
  all_goals
   (repeat' (first|refine aa1 ?_|refine af ?_|refine pq ?_|refine aZ rfl ?_|refine ah ?_|refine ax ?_))
   exact aA rfl rfl ⟨_,rfl,rfl,n1⟩
 ·refine ay (uy hr) (by unfold vs;rw [DJ];rfl) ?_
  rintro _ w1 ⟨rfl,n1⟩
  rw [I5 (by omega) (by omega)]
  cases GH r
  all_goals
   (repeat' (first|refine aa1 ?_|refine af ?_|refine pq ?_|refine aZ rfl ?_|refine ah ?_|refine ax ?_))
   exact aA rfl rfl ⟨_,rfl,rfl,n1⟩
 ·exact aA rfl rfl ⟨_,rfl,by rw [SI (.inl (by omega))];rfl,aV _ _⟩
 ·refine ay (uy hr) (by unfold vs;rw [DJ];rfl) ?_
  rintro _ w1 ⟨rfl,n1⟩
  rw [I5 (by omega) (by omega)]
  cases GH r
  all_goals
   (repeat' (first|refine aa1 ?_|refine af ?_|refine pq ?_|refine aZ rfl ?_|refine ah ?_|refine ax ?_))
   exact aA rfl rfl ⟨_,rfl,rfl,n1⟩
 ·exact aA rfl rfl ⟨_,rfl,by rw [SI (.inr (by omega))];rfl,aV _ _⟩
theorem SL {n b0 b1 b2 b3:Nat} (h:128≤b0):128≤(Lib.decodeN n b0 b1 b2 b3).1:=by
 unfold Lib.decodeN
 rw [if_neg (by omega)]
 repeat' split
 all_goals (dsimp only;omega)
theorem H7 (s:List UInt8): ∀(f q:Nat),s.length≤q+f→(Lib.idxFuncFrom (fun r=> !sgB r) true ⟨s.toArray⟩ f q<0↔(s.drop q).all (fun c=>signs.contains c)=true)
 |0,q,h=>by
  rw [List.drop_eq_nil_of_le (by omega)]
  simp [Lib.idxFuncFrom]
 |f+1,q,h=>by
  unfold Lib.idxFuncFrom
  by_cases hq:q<s.length
  ·rw [if_pos (by simpa [ByteArray.size] using hq)]
   obtain ⟨c,hc⟩:=nN s hq
   have hg:s.getD q 0=c:=by rw [List.getD_eq_getElem?_getD,hc];rfl
   have hd:Utf8.decode ⟨s.toArray⟩ q=Lib.decodeN (s.length-q) c.toNat (s.getD (q+1) 0).toNat (s.getD (q+2) 0).toNat (s.getD (q+3) 0).toNat:=by
    have:=Lib.decode_N ⟨s.toArray⟩ q
    simp only [hg] at this
    exact this
   rw [hd,drop_cons hc,List.all_cons]
   by_cases h128:c.toNat<128
   ·rw [Lib.decodeN_ascii _ _ _ _ _ h128]
    have hs:sgB c.toNat=signs.contains c:=by
     unfold sgB
     rw [decide_eq_true h128,Bool.true_and]
     congr 1
     apply UInt8.toNat_inj.1
     rw [UInt8.toNat_ofNat'];omega
    cases hsc:signs.contains c with
    |true=>
     rw [if_neg (by rw [hs,hsc];simp),Bool.true_and]
     exact H7 s f (q+1) (by omega)
    |false=>
     rw [if_pos (by rw [hs,hsc];rfl),Bool.false_and]
     exact ⟨fun e=>by omega,fun e=>by cases e⟩
   ·have hbig:=SL (n:=s.length-q) (b0:=c.toNat) (b1:=(s.getD (q+1) 0).toNat) (b2:=(s.getD (q+2) 0).toNat) (b3:=(s.getD (q+3) 0).toNat) (by omega)
    have hs:sgB (Lib.decodeN (s.length-q) c.toNat (s.getD (q+1) 0).toNat (s.getD (q+2) 0).toNat (s.getD (q+3) 0).toNat).1=false:=by
     unfold sgB;rw [decide_eq_false (by omega),Bool.false_and]
    have hsc:signs.contains c=false:=by
     rw [Bool.eq_false_iff]
     intro e
     exact h128 (J9 c (List.contains_iff_mem.1 e))
    rw [if_pos (by rw [hs];rfl),hsc,Bool.false_and]
    exact ⟨fun e=>by omega,fun e=>by cases e⟩
  ·rw [if_neg (by simpa [ByteArray.size] using hq),List.drop_eq_nil_of_le (by omega)]
   simp
theorem DK {w:World} {s:List UInt8}:Calls Tryz.prog 142 #[vs s] w (Ret fun r w'=>r=.bool (pY s)∧New w w'):=by
 refine mQ Tryz.func142 rfl Tryz.ntmps142 rfl ?_
 unfold pY
 (repeat' (first|refine aa0 ?_|refine aa1 ?_|refine af ?_|refine aa6 ?_|refine qi ?_|refine pG ?_|refine pq ?_|refine eu rfl ?_|refine ah ?_|refine aj ?_|refine ai ?_|refine ax ?_|refine dV rfl rfl (fun _=>?_) (fun _=>?_)|refine gI rfl rfl (fun _=>?_) (fun _=>?_)))
 ·rename_i hne hle
  refine dG (dst:=some 12) (first:= #[]) (cap:= #[]) (vs:=[vs s,.func (.func 193) #[] #[]]) (φ:=fun r w'=>r=vi (Lib.idxFunc (fun r=> !sgB r) true ⟨s.toArray⟩)∧New w w') rfl ?_ rfl ?_
  ·have eg: ∀args w,(callFunc 193 args).run Tryz.prog w=.ok (.enter 193 args) w:=fun args w=>rD inferInstance args
   refine (lD 193 #[] eg (fun r=> !sgB r) ⟨s.toArray⟩ w ?_).mono ?_
   ·intro W x hx hb
    refine (SK (w:=W) hx).mono ?_
    rintro e w' ⟨v,rfl,rfl,n⟩
    exact ⟨rfl,n.below⟩
   ·rintro e w' ⟨rfl,hb⟩
    exact ⟨_,rfl,rfl,jf hb⟩
  ·rintro _ w1 ⟨rfl,n1⟩
   have hi:=H7 s s.length 0 (by omega)
   rw [List.drop_zero] at hi
   have hd:decide (s≠ []∧s.length≤31)=true:=decide_eq_true ⟨hne,by omega⟩
   have hf:Lib.idxFunc (fun r=> !sgB r) true ⟨s.toArray⟩=Lib.idxFuncFrom (fun r=> !sgB r) true ⟨s.toArray⟩ s.length 0:=rfl
   rw [hd,Bool.true_and]
   rw [hf]
   show Wl _ _ _ _ _ _ (upd _ 12 _) _
   (repeat' (first|refine aa1 ?_|refine af ?_|refine aa6 ?_|refine pG ?_|refine ah ?_|refine ax ?_|refine aa9 (fun _=>?_) (fun _=>?_)))
   ·rw [hi.1 (by assumption)]
    exact aA rfl rfl ⟨_,rfl,rfl,n1⟩
   ·have:(s.all fun c=>signs.contains c)=false:=by
     rw [Bool.eq_false_iff]
     intro e
     have:=hi.2 e
     omega
    rw [this]
    exact aA rfl rfl ⟨_,rfl,rfl,n1⟩
 ·rw [decide_eq_false (by omega)]
  exact aA rfl rfl ⟨_,rfl,rfl,aV _ _⟩
 ·rename_i h
  rw [decide_eq_false (by simp [h])]
  exact aA rfl rfl ⟨_,rfl,rfl,aV _ _⟩
end Go.Proofs.YtjecgaiaiophpaaGreatDoor
namespace Go.Proofs.YtjecgaiaiophpaaGreatDoor
open Go Wk
open Go.RowKit (Below)
attribute [local irreducible] Go.Calls
def cdC (c:Cd) (v:Value):List Value:=[vs c.name,vs c.family,.int .u8 c.level,v,.int .i8 c.score,vs c.uQ,.int .i16 c.entry]
def rCd:Rel Cd:=fun Pb w c cs=> ∃v,cs=cdC c v∧RdS (Wk.one vs) 1 Pb w v c.compat
theorem qx:Stable rCd:=fun _ _ _ _ _ hk ⟨v,e,h⟩=>⟨v,e,h.keep (nT _) hk⟩
theorem MX:AY rCd:=fun _ _ _ _ _ hP ⟨v,e,h⟩=>⟨v,e,h.mono (nD _) hP⟩
theorem SN:qG rCd 7:=⟨qx,MX,fun Pb w x cs ⟨v,e,h⟩ _ c hc=>by
 subst e
 obtain ⟨a,cap,rfl,_⟩:=h.form
 simp [cdC] at hc
 rcases hc with rfl|rfl|rfl|rfl|rfl|rfl|rfl<;>rfl⟩
theorem Kq {Pb:Nat→Prop} {w:World} {v:Value} {xs:List Nm} {s:Nm} (h:RdS (Wk.one vs) 1 Pb w v xs):
 Calls Tryz.prog 196 #[v,vs s] w (Ret fun r w'=>(∃k,r=vi k∧(0≤k↔xs.contains s=true))∧w=w'):=by
 obtain ⟨a,cap,rfl,hc1,hc2⟩:=h.form
 simp only [maxLen] at hc2
 refine mQ Tryz.func196 rfl Tryz.ntmps196 rfl ?_
 (repeat' (first|refine aa0 ?_|refine aa1 ?_|refine af ?_|refine aO rfl ?_|refine ah ?_|refine aj ?_|refine ai ?_|refine Wc.block ?_))
 refine aU (σ:=Nat) (fun i=>[(0,.slice a xs.length cap),(1,vs s),(7,vi xs.length),(8,vi i)]) (fun i w'=>i≤xs.length∧xs.contains s=(xs.drop i).contains s∧w=w') (fun i=>xs.length-i) 0 ⟨rfl,rfl,rfl,rfl,trivial⟩ ⟨Nat.zero_le _,by simp,rfl⟩ ?_
 rintro i G _ ⟨hi,hv,rfl⟩
 simp only [oO]
 (repeat' (first|refine aa0 ?_|refine aa1 ?_|refine af ?_|refine ah ?_|refine aj ?_|refine ai ?_|refine Wc.block ?_|refine Wc.skip ?_|refine aQ ?_|refine ax ?_|refine aS ?_|refine aP ?_|refine aT ?_|refine aa3 ?_|refine aa4 ?_|refine aa9 (fun _=>?_) (fun _=>?_)))
 ·obtain ⟨x,hx⟩:=nN xs (k:=i) (by omega)
  rw [drop_cons hx,List.contains_cons] at hv
  refine bY h rfl rfl (by omega) hx fun b o hcell=>?_
  refine au (u:=vs x) rfl hcell ?_
  (repeat' (first|refine aa0 ?_|refine aa1 ?_|refine af ?_|refine ah ?_|refine aj ?_|refine ai ?_|refine Wc.skip ?_|refine ax ?_|refine aN ?_|refine aJ ?_|refine bf ?_|refine bG ?_|refine aa3 ?_|refine aa4 ?_|refine aa7 ?_|refine fF rfl rfl (fun _=>?_) (fun _=>?_)))
  ·refine aA rfl rfl ⟨_,rfl,⟨_,rfl,?_⟩,rfl⟩
   rename_i e
   rw [hv,beq_iff_eq.2 e,Bool.true_or]
   exact ⟨fun _=>rfl,fun _=>by omega⟩
  ·rename_i e
   have:(s == x)=false:=beq_false_of_ne e
   exact aK (i+1) ⟨rfl,rfl,rfl,rfl,trivial⟩ ⟨by omega,by rw [hv,this,Bool.false_or],rfl⟩ (by omega)
 ·obtain rfl:i=xs.length:=by omega
  rw [List.drop_length] at hv
  refine aA rfl rfl ⟨_,rfl,⟨-1,rfl,?_⟩,rfl⟩
  rw [hv]
  exact ⟨fun e=>by omega,fun e=>by simp at e⟩
theorem zS {Pb:Nat→Prop} {w:World} {v:Value} {xs:List Nm} {s:Nm} (h:RdS (Wk.one vs) 1 Pb w v xs):
 Calls Tryz.prog 144 #[v,vs s] w (Ret fun r w'=>r=.bool (xs.contains s)∧w=w'):=by
 refine mQ Tryz.func144 rfl Tryz.ntmps144 rfl ?_
 (repeat' (first|refine aa0 ?_|refine aa1 ?_|refine af ?_|refine ah ?_|refine aj ?_|refine ai ?_))
 refine ay (Kq (s:=s) h) rfl ?_
 rintro _ _ ⟨⟨k,rfl,hk⟩,rfl⟩
 (repeat' (first|refine aa1 ?_|refine af ?_|refine ah ?_|refine ax ?_|refine cZ rfl rfl (fun _=>?_) (fun _=>?_)))
 ·rw [hk.1 (by omega)]
  exact aA rfl rfl ⟨_,rfl,rfl,rfl⟩
 ·have:xs.contains s=false:=by
   rw [Bool.eq_false_iff];exact fun e=>by have:=hk.2 e;omega
  rw [this]
  exact aA rfl rfl ⟨_,rfl,rfl,rfl⟩
theorem Kr {c:Cd} (h:IL c=true):pY c.name=true∧pY c.family=true∧(c.uQ=[]∨pY c.uQ=true)∧c.level≤4∧ -100≤c.score∧c.score≤100∧ -1≤c.entry∧c.entry≤47∧0<c.compat.length∧c.compat.length≤8∧Bd c.compat 0 c.compat=true:=by
 unfold IL at h
 simp only [Bool.and_eq_true,decide_eq_true_eq,Bool.or_eq_true] at h
 exact ⟨h.1,h.2.1,h.2.2.1,h.2.2.2.1,h.2.2.2.2.1.1,h.2.2.2.2.1.2,h.2.2.2.2.2.1.1,h.2.2.2.2.2.1.2,h.2.2.2.2.2.2.1.1,h.2.2.2.2.2.2.1.2,h.2.2.2.2.2.2.2⟩
theorem UZ {c:Cd} (h1:pY c.name=true) (h2:pY c.family=true) (h3:c.uQ=[]∨pY c.uQ=true) (h4:c.level≤4∧ -100≤c.score∧c.score≤100∧ -1≤c.entry∧c.entry≤47∧0<c.compat.length∧c.compat.length≤8):IL c=Bd c.compat 0 c.compat:=by
 unfold IL
 rw [h1,h2,decide_eq_true h4.1,decide_eq_true (p:= -100≤c.score∧c.score≤100) ⟨h4.2.1,h4.2.2.1⟩,decide_eq_true (p:= -1≤c.entry∧c.entry≤47) ⟨h4.2.2.2.1,h4.2.2.2.2.1⟩,decide_eq_true (p:=0<c.compat.length∧c.compat.length≤8) h4.2.2.2.2.2]
 have:(decide (c.uQ=[])||pY c.uQ)=true:=by
  rcases h3 with h3|h3
  ·rw [decide_eq_true h3];rfl
  ·rw [h3,Bool.or_true]
 rw [this]
 rfl
theorem rH {c:Cd} (h: ¬(pY c.name=true∧pY c.family=true∧(c.uQ=[]∨pY c.uQ=true)∧c.level≤4∧ -100≤c.score∧c.score≤100∧ -1≤c.entry∧c.entry≤47∧0<c.compat.length∧c.compat.length≤8)):IL c=false:=by
 rw [Bool.eq_false_iff]
 intro e
 obtain ⟨h1,h2,h3,h4,h5,h6,h7,h8,h9,h10,_⟩:=Kr e
 exact h ⟨h1,h2,h3,h4,h5,h6,h7,h8,h9,h10⟩
theorem Qh {Pb:Nat→Prop} {w:World} {v:Value} {c:Cd} (h:RdS (Wk.one vs) 1 Pb w v c.compat):
 Calls Tryz.prog 91 #[.agg (cdC c v).toArray] w (Ret fun r w'=>r=.bool (IL c)∧New w w'):=by
 obtain ⟨a,cap,rfl,hc1,hc2⟩:=h.form
 simp only [maxLen] at hc2
 refine mQ Tryz.func91 rfl Tryz.ntmps91 rfl ?_
 refine aj ?_
 (repeat' (refine ai ?_))
 refine bJ rfl fun w1 b1 n1 s1=>?_
 replace b1:Bk w1 w.heap.size 69 (cdC c (.slice a c.compat.length cap)):=b1
 (repeat' (first|refine aa1 ?_|refine af ?_|refine ah ?_))
 refine eY (fun F W=>agrees F [(1,.pointer (some ⟨w.heap.size,0,none⟩))]∧Bk W w.heap.size 69 (cdC c (.slice a c.compat.length cap))∧New w W∧pY c.name=true∧pY c.family=true∧(c.uQ=[]∨pY c.uQ=true)∧c.level≤4∧ -100≤c.score∧c.score≤100∧ -1≤c.entry∧c.entry≤47) ?_ ?_
 ·(repeat' (first|refine aj ?_|refine ai ?_|refine aa5 ?_))
  refine au (u:=vs c.name) rfl (b1.cell (o:=0) rfl) ?_
  refine ay (DK (s:=c.name)) rfl ?_
  rintro _ w2 ⟨rfl,n2⟩
  replace b1:=b1.chg n2 fun e=>e
  replace n2:=New.trans n1 n2
  clear n1
  cases h1:pY c.name
  ·(repeat' (first|refine aa0 ?_|refine aa1 ?_|refine af ?_|refine qi ?_|refine gX rfl ?_|refine pG ?_|refine aZ rfl ?_|refine ah ?_|refine aj ?_|refine ai ?_|refine ax ?_|refine aa3 ?_|refine dR ?_))
   rw [rH (fun e=>by rw [h1] at e;cases e.1)]
   exact aA rfl rfl ⟨_,rfl,rfl,n2⟩
  (repeat' (first|refine aa0 ?_|refine aa6 ?_|refine aZ rfl ?_|refine aa5 ?_))
  refine au (u:=vs c.family) rfl (b1.cell (o:=1) rfl) ?_
  refine aa6 ?_
  refine ay (DK (s:=c.family)) rfl ?_
  rintro _ w3 ⟨rfl,n3⟩
  replace b1:=b1.chg n3 fun e=>e
  replace n3:=New.trans n2 n3
  clear n2
  cases h2:pY c.family
  ·(repeat' (first|refine aa0 ?_|refine aa1 ?_|refine af ?_|refine aa6 ?_|refine qi ?_|refine gX rfl ?_|refine pG ?_|refine pq ?_|refine aZ rfl ?_|refine ah ?_|refine aj ?_|refine ai ?_|refine ax ?_|refine aa3 ?_|refine dR ?_))
   rw [rH (fun e=>by rw [h2] at e;cases e.2.1)]
   exact aA rfl rfl ⟨_,rfl,rfl,n3⟩
  (repeat' (first|refine aa0 ?_|refine aa6 ?_|refine pq ?_|refine aZ rfl ?_|refine aa5 ?_))
  refine au (u:=vs c.uQ) rfl (b1.cell (o:=5) rfl) ?_
  (repeat' (first|refine aa0 ?_|refine aa6 ?_|refine qi ?_|refine pq ?_|refine aa5 ?_|refine gI rfl rfl (fun _=>?_) (fun _=>?_)))
  ·refine au (u:=vs c.uQ) rfl (b1.cell (o:=5) rfl) ?_
   refine aa6 ?_
   refine ay (DK (s:=c.uQ)) rfl ?_
   rintro _ w4 ⟨rfl,n4⟩
   replace b1:=b1.chg n4 fun e=>e
   replace n4:=New.trans n3 n4
   clear n3
   cases h3:pY c.uQ
   ·(repeat' (first|refine aa0 ?_|refine aa1 ?_|refine af ?_|refine aa6 ?_|refine qi ?_|refine pG ?_|refine pq ?_|refine aZ rfl ?_|refine ah ?_|refine aj ?_|refine ai ?_|refine ax ?_|refine aa3 ?_|refine dR ?_))
    rename_i hq
    rw [rH (fun e=>by
     rcases e.2.2.1 with e|e
     ·exact hq e
     ·rw [h3] at e;cases e)]
    exact aA rfl rfl ⟨_,rfl,rfl,n4⟩
   (repeat' (first|refine aa0 ?_|refine aa6 ?_|refine pG ?_|refine pq ?_|refine aZ rfl ?_|refine aa5 ?_))
   refine au (u:=.int .u8 c.level) rfl (b1.cell (o:=2) rfl) ?_
   (repeat' (first|refine aa0 ?_|refine aa1 ?_|refine af ?_|refine aa6 ?_|refine qi ?_|refine pG ?_|refine pq ?_|refine ah ?_|refine aj ?_|refine ai ?_|refine ax ?_|refine aa3 ?_|refine dR ?_|refine aa5 ?_|refine bM rfl rfl (fun _=>?_) (fun _=>?_)))
   ·rw [rH (fun e=>by omega)]
    exact aA rfl rfl ⟨_,rfl,rfl,n4⟩
   refine au (u:=.int .i8 c.score) rfl (b1.cell (o:=4) rfl) ?_
   (repeat' (first|refine aa0 ?_|refine aa1 ?_|refine af ?_|refine aa6 ?_|refine qi ?_|refine pG ?_|refine pq ?_|refine ah ?_|refine aj ?_|refine ai ?_|refine ax ?_|refine aa3 ?_|refine dR ?_|refine aa5 ?_|refine aa9 (fun _=>?_) (fun _=>?_)))
   ·rw [rH (fun e=>by omega)]
    exact aA rfl rfl ⟨_,rfl,rfl,n4⟩
   refine au (u:=.int .i8 c.score) rfl (b1.cell (o:=4) rfl) ?_
   (repeat' (first|refine aa0 ?_|refine aa1 ?_|refine af ?_|refine aa6 ?_|refine qi ?_|refine pG ?_|refine pq ?_|refine ah ?_|refine aj ?_|refine ai ?_|refine ax ?_|refine aa3 ?_|refine dR ?_|refine aa5 ?_|refine bM rfl rfl (fun _=>?_) (fun _=>?_)))
   ·rw [rH (fun e=>by omega)]
    exact aA rfl rfl ⟨_,rfl,rfl,n4⟩
   refine au (u:=.int .i16 c.entry) rfl (b1.cell (o:=6) rfl) ?_
   (repeat' (first|refine aa0 ?_|refine aa1 ?_|refine af ?_|refine aa6 ?_|refine qi ?_|refine pG ?_|refine pq ?_|refine ah ?_|refine aj ?_|refine ai ?_|refine ax ?_|refine aa3 ?_|refine dR ?_|refine aa5 ?_|refine aa9 (fun _=>?_) (fun _=>?_)))
   ·rw [rH (fun e=>by omega)]
    exact aA rfl rfl ⟨_,rfl,rfl,n4⟩
   refine au (u:=.int .i16 c.entry) rfl (b1.cell (o:=6) rfl) ?_
   (repeat' (first|refine aa1 ?_|refine af ?_|refine aa6 ?_|refine pq ?_|refine ah ?_|refine aj ?_|refine ai ?_|refine Wc.skip ?_|refine ax ?_|refine aa3 ?_|refine aa4 ?_|refine dR ?_|refine bM rfl rfl (fun _=>?_) (fun _=>?_)))
   ·rw [rH (fun e=>by omega)]
    exact aA rfl rfl ⟨_,rfl,rfl,n4⟩
   exact dw ⟨⟨rfl,trivial⟩,b1,n4,rfl,rfl,.inr rfl,by omega,by omega,by omega,by omega,by omega⟩
  ·rename_i hq
   refine au (u:=.int .u8 c.level) rfl (b1.cell (o:=2) rfl) ?_
   (repeat' (first|refine aa0 ?_|refine aa1 ?_|refine af ?_|refine aa6 ?_|refine qi ?_|refine pG ?_|refine pq ?_|refine ah ?_|refine aj ?_|refine ai ?_|refine ax ?_|refine aa3 ?_|refine dR ?_|refine aa5 ?_|refine bM rfl rfl (fun _=>?_) (fun _=>?_)))
   ·rw [rH (fun e=>by omega)]
    exact aA rfl rfl ⟨_,rfl,rfl,n3⟩
   refine au (u:=.int .i8 c.score) rfl (b1.cell (o:=4) rfl) ?_
   (repeat' (first|refine aa0 ?_|refine aa1 ?_|refine af ?_|refine aa6 ?_|refine qi ?_|refine pG ?_|refine pq ?_|refine ah ?_|refine aj ?_|refine ai ?_|refine ax ?_|refine aa3 ?_|refine dR ?_|refine aa5 ?_|refine aa9 (fun _=>?_) (fun _=>?_)))
   ·rw [rH (fun e=>by omega)]
    exact aA rfl rfl ⟨_,rfl,rfl,n3⟩
   refine au (u:=.int .i8 c.score) rfl (b1.cell (o:=4) rfl) ?_
   (repeat' (first|refine aa0 ?_|refine aa1 ?_|refine af ?_|refine aa6 ?_|refine qi ?_|refine pG ?_|refine pq ?_|refine ah ?_|refine aj ?_|refine ai ?_|refine ax ?_|refine aa3 ?_|refine dR ?_|refine aa5 ?_|refine bM rfl rfl (fun _=>?_) (fun _=>?_)))
   ·rw [rH (fun e=>by omega)]
    exact aA rfl rfl ⟨_,rfl,rfl,n3⟩
   refine au (u:=.int .i16 c.entry) rfl (b1.cell (o:=6) rfl) ?_
   (repeat' (first|refine aa0 ?_|refine aa1 ?_|refine af ?_|refine aa6 ?_|refine qi ?_|refine pG ?_|refine pq ?_|refine ah ?_|refine aj ?_|refine ai ?_|refine ax ?_|refine aa3 ?_|refine dR ?_|refine aa5 ?_|refine aa9 (fun _=>?_) (fun _=>?_)))
   ·rw [rH (fun e=>by omega)]
    exact aA rfl rfl ⟨_,rfl,rfl,n3⟩
   refine au (u:=.int .i16 c.entry) rfl (b1.cell (o:=6) rfl) ?_
   (repeat' (first|refine aa1 ?_|refine af ?_|refine aa6 ?_|refine pq ?_|refine ah ?_|refine aj ?_|refine ai ?_|refine Wc.skip ?_|refine ax ?_|refine aa3 ?_|refine aa4 ?_|refine dR ?_|refine bM rfl rfl (fun _=>?_) (fun _=>?_)))
   ·rw [rH (fun e=>by omega)]
    exact aA rfl rfl ⟨_,rfl,rfl,n3⟩
   exact dw ⟨⟨rfl,trivial⟩,b1,n3,rfl,rfl,.inl hq,by omega,by omega,by omega,by omega,by omega⟩
 rintro F w2 ⟨ag,b2,n2,h1,h2,h3,h4⟩
 refine Wc.frame _ ag fun G=>?_
 clear ag
 simp only [oO]
 refine eY (fun F W=>agrees F [(1,.pointer (some ⟨w.heap.size,0,none⟩))]∧w2=W∧0<c.compat.length∧c.compat.length≤8) ?_ ?_
 ·(repeat' (first|refine aj ?_|refine ai ?_|refine aa5 ?_))
  refine au (u:=.slice a c.compat.length cap) rfl (b2.cell (o:=3) rfl) ?_
  (repeat' (first|refine aa0 ?_|refine aa1 ?_|refine af ?_|refine aa6 ?_|refine qi ?_|refine pG ?_|refine aO rfl ?_|refine ah ?_|refine aj ?_|refine ai ?_|refine ax ?_|refine aa3 ?_|refine dR ?_|refine aa5 ?_|refine bV rfl rfl (fun _=>?_) (fun _=>?_)))
  ·rw [rH (fun e=>by omega)]
   exact aA rfl rfl ⟨_,rfl,rfl,n2⟩
  ·refine au (u:=.slice a c.compat.length cap) rfl (b2.cell (o:=3) rfl) ?_
   (repeat' (first|refine aa1 ?_|refine af ?_|refine aa6 ?_|refine pq ?_|refine aO rfl ?_|refine ah ?_|refine aj ?_|refine ai ?_|refine Wc.skip ?_|refine ax ?_|refine aa3 ?_|refine aa4 ?_|refine dR ?_|refine bM rfl rfl (fun _=>?_) (fun _=>?_)))
   ·rw [rH (fun e=>by omega)]
    exact aA rfl rfl ⟨_,rfl,rfl,n2⟩
   ·exact dw ⟨⟨rfl,trivial⟩,rfl,by omega,by omega⟩
 rintro F _ ⟨ag,rfl,h5,h6⟩
 refine Wc.frame _ ag fun G=>?_
 clear ag
 simp only [oO]
 rw [UZ h1 h2 h3 ⟨h4.1,h4.2.1,h4.2.2.1,h4.2.2.2.1,h4.2.2.2.2,h5,h6⟩]
 (repeat' (first|refine aj ?_|refine ai ?_|refine aa5 ?_))
 refine au (u:=.slice a c.compat.length cap) rfl (b2.cell (o:=3) rfl) ?_
 (repeat' (first|refine aa0 ?_|refine af ?_|refine aO rfl ?_|refine ah ?_|refine Wc.block ?_))
 refine aU (σ:=Nat) (fun i=>[(1,.pointer (some ⟨w.heap.size,0,none⟩)),(62,.slice a c.compat.length cap),(63,vi c.compat.length),(64,vi i)]) (fun i w'=>i≤c.compat.length∧Bd c.compat 0 c.compat=Bd c.compat i (c.compat.drop i)∧w2=w') (fun i=>c.compat.length-i) 0 ⟨rfl,rfl,rfl,rfl,trivial⟩ ⟨Nat.zero_le _,by simp,rfl⟩ ?_
 rintro i G _ ⟨hi,hgo,rfl⟩
 simp only [oO]
 have h0:=h.keep (nT _) n2.keep
 (repeat' (first|refine aa0 ?_|refine aa1 ?_|refine af ?_|refine ah ?_|refine aj ?_|refine ai ?_|refine Wc.block ?_|refine Wc.skip ?_|refine aQ ?_|refine ax ?_|refine aS ?_|refine aP ?_|refine aT ?_|refine aa3 ?_|refine aa4 ?_|refine aa9 (fun _=>?_) (fun _=>?_)))
 ·obtain ⟨s,hs⟩:=nN c.compat (k:=i) (by omega)
  rw [drop_cons hs] at hgo
  simp only [Bd,VR] at hgo
  refine bY h0 rfl rfl (by omega) hs fun b o hcell=>?_
  refine au (u:=vs s) rfl hcell ?_
  (repeat' (first|refine aa0 ?_|refine aa1 ?_|refine af ?_|refine aa6 ?_|refine qi ?_|refine pG ?_|refine pq ?_|refine eu rfl ?_|refine ah ?_|refine aj ?_|refine ai ?_|refine ax ?_|refine aN ?_|refine bf ?_|refine bG ?_|refine aa3 ?_|refine bM rfl rfl (fun _=>?_) (fun _=>?_)|refine fF rfl rfl (fun _=>?_) (fun _=>?_)))
  ·rw [hgo,decide_eq_false (fun e=>e.1 (by assumption))]
   exact aA rfl rfl ⟨_,rfl,rfl,n2⟩
  ·rw [hgo,decide_eq_false (fun e=>by omega)]
   exact aA rfl rfl ⟨_,rfl,rfl,n2⟩
  ·rw [decide_eq_true ⟨by assumption,by omega⟩,Bool.true_and] at hgo
   refine ay (ul (l:=s) (c:=0)) rfl ?_
   rintro _ _ ⟨rfl,rfl⟩
   (repeat' (first|refine aa0 ?_|refine aa1 ?_|refine af ?_|refine aa6 ?_|refine qi ?_|refine pG ?_|refine pq ?_|refine ah ?_|refine aj ?_|refine ai ?_|refine ax ?_|refine aN ?_|refine bf ?_|refine bG ?_|refine aa3 ?_|refine aa5 ?_|refine cZ rfl rfl (fun _=>?_) (fun _=>?_)))
   ·rw [hgo,DI.1 (by omega)]
    exact aA rfl rfl ⟨_,rfl,rfl,n2⟩
   ·rw [Hg (by omega),Bool.not_false,Bool.true_and] at hgo
    refine au (u:=.slice a c.compat.length cap) rfl (b2.cell (o:=3) rfl) ?_
    (repeat' (first|refine aa0 ?_|refine aa6 ?_))
    refine kz (b:=(i:Int)) h0 rfl rfl (by omega) (by omega) fun v' hv'=>?_
    rw [Int.toNat_natCast] at hv'
    obtain ⟨pa,pc,rfl,_,_⟩:=hv'.form
    (repeat' (first|refine aa0 ?_|refine aa6 ?_))
    refine ay (zS (s:=s) hv') rfl ?_
    rintro _ _ ⟨rfl,rfl⟩
    cases hcn:(c.compat.take i).contains s
    ·rw [hcn,Bool.not_false,Bool.true_and] at hgo
     (repeat' (first|refine aa0 ?_|refine af ?_|refine pq ?_|refine ah ?_|refine ai ?_|refine Wc.skip ?_|refine aJ ?_|refine aa4 ?_|refine aa7 ?_))
     exact aK (i+1) ⟨rfl,rfl,rfl,rfl,trivial⟩ ⟨by omega,hgo,rfl⟩ (by omega)
    ·rw [hcn] at hgo
     (repeat' (first|refine aa1 ?_|refine af ?_|refine pq ?_|refine ah ?_|refine aj ?_|refine ai ?_|refine ax ?_|refine aN ?_|refine bf ?_|refine bG ?_|refine aa3 ?_))
     rw [hgo]
     exact aA rfl rfl ⟨_,rfl,rfl,n2⟩
 ·obtain rfl:i=c.compat.length:=by omega
  rw [List.drop_length] at hgo
  rw [hgo]
  exact aA rfl rfl ⟨_,rfl,rfl,n2⟩
theorem YB {s:Nm} (h:pY s=true): ∃q,keyOf Tryz.prog 9 (vs s)=some q:=RY s (yN h)
def FU (l:List Cd):Int:=if sK l=true then 0 else 70
theorem En {Pb:Nat→Prop} {w:World} {v:Value} {l:List Cd} (h:RdS rCd 7 Pb w v l):
 Calls Tryz.prog 41 #[v] w (Ret fun r w'=>(∃k,r=.tuple #[k,vi (FU l)])∧New w w'):=by
 obtain ⟨a,cap,rfl,hc1,hc2⟩:=h.form
 simp only [maxLen] at hc2
 unfold FU sK
 refine mQ Tryz.func41 rfl Tryz.ntmps41 rfl ?_
 (repeat' (first|refine aa1 ?_|refine af ?_|refine ah ?_|refine aj ?_|refine ai ?_))
 refine fV (k:=9) fun w1 m1 n1 s1=>?_
 generalize hbm:w.heap.size=bm at m1
 (repeat' (first|refine aa0 ?_|refine aa1 ?_|refine af ?_|refine aO rfl ?_|refine ah ?_|refine aj ?_|refine ai ?_|refine Wc.block ?_))
 refine aU (σ:=Nat) (fun i=>[(4,.map (some bm)),(8,.slice a l.length cap),(9,vi l.length),(10,vi i)])
  (fun i w'=>i≤l.length∧yP 0 [] l=yP i ((l.take i).map Cd.name) (l.drop i)∧qO Tryz.prog 9 w' bm (PU vs ((l.take i).map Cd.name))∧New w w') (fun i=>l.length-i) 0 ⟨rfl,rfl,rfl,rfl,trivial⟩ ⟨Nat.zero_le _,by simp,m1,n1⟩ ?_
 rintro i G w2 ⟨hi,hgo,m2,n2⟩
 simp only [oO]
 (repeat' (first|refine aa0 ?_|refine aa1 ?_|refine af ?_|refine ah ?_|refine aj ?_|refine ai ?_|refine Wc.block ?_|refine Wc.skip ?_|refine aQ ?_|refine ax ?_|refine aS ?_|refine aP ?_|refine aT ?_|refine aa3 ?_|refine aa4 ?_|refine aa9 (fun _=>?_) (fun _=>?_)))
 ·obtain ⟨x,hx⟩:=nN l (k:=i) (by omega)
  refine bD (h.keep qx n2.keep) rfl rfl (by omega) hx fun b o cs hl hR hat=>?_
  obtain ⟨cv,rfl,hcv⟩:=hR
  refine bQ hat rfl rfl ?_
  refine Wl.alloc fun w3 b3 n3 s3=>?_
  (repeat' (refine aa1 ?_))
  refine aX (new:=cdC x cv) b3 rfl rfl rfl rfl (show (7:Nat)≤7 from Nat.le_refl 7) (SN.oc _ w2 x _ ⟨cv,rfl,hcv⟩ rfl) fun w4 b4 c4 s4=>?_
  have hz2:=n2.size
  have hlt:=m2.lt
  have m4:=(m2.keep n3.keep (Pb:=fun _=>True) trivial).chg c4 (by omega)
  have n24:New w2 w4:=(Chg.trans n3.any c4 fun _ _ e=>e).toNew fun k hk e=>by omega
  have n4:New w w4:=New.trans n2 n24
  replace b4:Bk w4 w2.heap.size 69 (cdC x cv):=b4
  have U0:=hcv.keep (nT _) n24.keep
  clear m2 b3 n3 c4
  rw [drop_cons hx] at hgo
  simp only [yP] at hgo
  (repeat' (first|refine aa0 ?_|refine aa1 ?_|refine af ?_|refine aa6 ?_|refine qi ?_|refine pG ?_|refine ah ?_|refine aj ?_|refine ai ?_|refine ax ?_|refine aN ?_|refine bf ?_|refine bG ?_|refine aa3 ?_|refine cZ rfl rfl (fun _=>?_) (fun _=>?_)))
  ·rw [decide_eq_false (by omega),Bool.false_and] at hgo
   rw [hgo]
   exact aW rfl rfl rfl ⟨_,rfl,⟨_,rfl⟩,n4⟩
  ·rw [decide_eq_true (by omega),Bool.true_and] at hgo
   refine dh b4 rfl rfl ?_
   refine aa6 ?_
   refine ay (Qh (c:=x) U0) rfl ?_
   rintro _ w5 ⟨rfl,n5⟩
   replace b4:=b4.chg n5 fun e=>e
   replace m4:=m4.keep n5.keep (Pb:=fun _=>True) trivial
   replace n5:=New.trans n4 n5
   cases hmay:IL x
   ·rw [hmay,Bool.false_and] at hgo
    (repeat' (first|refine aa0 ?_|refine aa1 ?_|refine af ?_|refine aa6 ?_|refine qi ?_|refine pG ?_|refine pq ?_|refine aZ rfl ?_|refine ah ?_|refine aj ?_|refine ai ?_|refine ax ?_|refine aN ?_|refine bf ?_|refine bG ?_|refine aa3 ?_))
    rw [hgo]
    exact aW rfl rfl rfl ⟨_,rfl,⟨_,rfl⟩,n5⟩
   ·rw [hmay,Bool.true_and] at hgo
    (repeat' (first|refine aa0 ?_|refine aa6 ?_|refine pq ?_|refine aZ rfl ?_|refine aa5 ?_))
    refine au (u:=vs x.name) rfl (b4.cell (o:=0) rfl) ?_
    obtain ⟨q,hq⟩:=YB (Kr hmay).1
    refine aa6 ?_
    refine iR (Maps.string_keyed Tryz.underlying9) m4 hq rfl rfl ?_
    rintro r (hr|⟨rfl,hr⟩)
    ·obtain ⟨k,hk,e⟩:=List.mem_map.1 hr
     simp only [Prod.mk.injEq] at e
     obtain ⟨e1,rfl⟩:=e
     rw [wu e1] at hk
     rw [List.contains_iff_mem.2 hk,Bool.not_true,Bool.false_and] at hgo
     (repeat' (first|refine aa0 ?_|refine aa1 ?_|refine af ?_|refine pq ?_|refine ah ?_|refine aj ?_|refine ai ?_|refine ax ?_|refine aN ?_|refine bf ?_|refine bG ?_|refine aa3 ?_))
     rw [hgo]
     exact aW rfl rfl rfl ⟨_,rfl,⟨_,rfl⟩,n5⟩
    ·have hnk:((l.take i).map Cd.name).contains x.name=false:=by
      rw [Bool.eq_false_iff];intro hc
      exact hr (vs x.name,.bool true) (List.mem_map.2 ⟨x.name,List.contains_iff_mem.1 hc,rfl⟩) rfl
     rw [hnk,Bool.not_false,Bool.true_and] at hgo
     (repeat' (first|refine aa0 ?_|refine af ?_|refine pq ?_|refine ah ?_|refine ai ?_|refine Wc.skip ?_|refine aa4 ?_|refine aa5 ?_))
     refine au (u:=vs x.name) rfl (b4.cell (o:=0) rfl) ?_
     refine fZ (u:=.bool true) (Maps.string_keyed Tryz.underlying9) m4 hq hr rfl rfl rfl fun w6 m6 c6 s6=>?_
     (repeat' (first|refine aa0 ?_|refine af ?_|refine ah ?_|refine ai ?_|refine aJ ?_|refine aa7 ?_))
     refine aK (i+1) ⟨rfl,rfl,rfl,rfl,trivial⟩ ⟨by omega,?_,?_,Chg.trans n5 c6 fun k hk e=>by omega⟩ (by omega)
     ·rw [hgo,take_snoc hx,List.map_append];rfl
     ·rw [take_snoc hx,List.map_append]
      simpa [PU] using m6
 ·obtain rfl:i=l.length:=by omega
  rw [List.drop_length] at hgo
  rw [hgo]
  exact aW rfl rfl rfl ⟨_,rfl,⟨_,rfl⟩,n2⟩
theorem MZ {Pb:Nat→Prop} {w:World} {v:Value} {l:List Cd} (h:RdS rCd 7 Pb w v l):
 Calls Tryz.prog 92 #[v] w (Ret fun r w'=>r=vi (FU l)∧New w w'):=by
 refine mQ Tryz.func92 rfl Tryz.ntmps92 rfl ?_
 (repeat' (first|refine aa0 ?_|refine aa1 ?_|refine af ?_|refine ah ?_|refine aj ?_|refine ai ?_))
 refine ay (En h) rfl ?_
 rintro _ w1 ⟨⟨k,rfl⟩,n1⟩
 (repeat' (first|refine aa0 ?_|refine aa1 ?_|refine af ?_|refine aa8 ?_|refine ah ?_|refine aj ?_|refine ai ?_|refine ax ?_))
 exact aA rfl rfl ⟨_,rfl,rfl,n1⟩
end Go.Proofs.YtjecgaiaiophpaaGreatDoor
namespace Go.Proofs.YtjecgaiaiophpaaGreatDoor
open Go Wk
open Go.RowKit (Below)
attribute [local irreducible] Go.Calls
theorem Kt {w:World} {va vb:Value} {a b:Cd}:
 Calls Tryz.prog 146 #[.agg (cdC a va).toArray,.agg (cdC b vb).toArray] w (Ret fun r w'=>r=.bool (better a b)∧New w w'):=by
 unfold better
 refine mQ Tryz.func146 rfl Tryz.ntmps146 rfl ?_
 (repeat' (first|refine aj ?_|refine ai ?_))
 refine bJ rfl (fun w1 b1 n1 s1=>?_)
 replace b1:Bk w1 w.heap.size 69 (cdC a va):=b1
 skip
 refine bJ rfl (fun w2 b2 n2 s2=>?_)
 replace b2:Bk w2 w1.heap.size 69 (cdC b vb):=b2
 replace b1:=b1.chg n2 fun e=>e
 replace n2:=New.trans n1 n2
 (repeat' (first|refine aa1 ?_|refine af ?_|refine ah ?_|refine aj ?_|refine ai ?_|refine aa5 ?_))
 refine au (u:=.int .i8 a.score) rfl (b1.cell (o:=4) rfl) ?_
 (repeat' (refine aa5 ?_))
 refine au (u:=.int .i8 b.score) rfl (b2.cell (o:=4) rfl) ?_
 (repeat' (first|refine af ?_|refine ah ?_|refine aj ?_|refine ai ?_|refine Wc.skip ?_|refine aa3 ?_|refine aa4 ?_|refine aa5 ?_|refine pV (fun _=>?_) (fun _=>?_)))
 ·refine au (u:=.int .i8 a.score) rfl (b1.cell (o:=4) rfl) ?_
  (repeat' (refine aa5 ?_))
  refine au (u:=.int .i8 b.score) rfl (b2.cell (o:=4) rfl) ?_
  rw [if_neg (by assumption)]
  (repeat' (first|refine aa1 ?_|refine af ?_|refine ah ?_|refine ax ?_|refine aN ?_|refine bM rfl rfl (fun _=>?_) (fun _=>?_)))
  ·rw [decide_eq_true (by omega)]
   exact aA rfl rfl ⟨_,rfl,rfl,n2⟩
  ·rw [decide_eq_false (by omega)]
   exact aA rfl rfl ⟨_,rfl,rfl,n2⟩
 ·refine au (u:=vs a.name) rfl (b1.cell (o:=0) rfl) ?_
  (repeat' (refine aa5 ?_))
  refine au (u:=vs b.name) rfl (b2.cell (o:=0) rfl) ?_
  rw [if_pos (by omega)]
  refine jA rfl rfl (fun h=>?_) (fun h=>?_)
  ·rw [decide_eq_true h]
   (repeat' (first|refine aa1 ?_|refine af ?_|refine ah ?_|refine ax ?_))
   exact aA rfl rfl ⟨_,rfl,rfl,n2⟩
  ·rw [decide_eq_false h]
   (repeat' (first|refine aa1 ?_|refine af ?_|refine ah ?_|refine ax ?_))
   exact aA rfl rfl ⟨_,rfl,rfl,n2⟩
def xH:Option (Nat×Nat)→List Value
 |some p=>[vi p.1,vi p.2]
 |none=>[vi (-1),vi 0]
abbrev FV:TypeId:=120
theorem Qi {w:World}:Calls Tryz.prog 147 #[] w (Ret fun r w'=>r=.agg (xH none).toArray∧New w w'):=by
 refine mQ Tryz.func147 rfl Tryz.ntmps147 rfl ?_
 (repeat' (first|refine aj ?_|refine ai ?_))
 refine Wl.alloc fun w1 b1 n1 s1=>?_
 replace b1:Bk w1 w.heap.size FV [vi 0,vi 0]:=b1
 (repeat' (first|refine af ?_|refine ah ?_|refine aj ?_|refine ai ?_))
 refine bZ (ps:=[(0,.const (vi (-1)))]) (parts:=[(0,vi (-1))]) rfl rfl (by simp [Value.cells]) ?_
 refine aX (u:=.agg #[vi (-1),vi 0]) (new:=[vi (-1),vi 0]) b1 rfl rfl rfl rfl (Nat.le_refl 2) (by simp;exact ⟨rfl,rfl⟩) fun w2 b2 c2 s2=>?_
 replace b2:Bk w2 w.heap.size FV [vi (-1),vi 0]:=b2
 (repeat' (first|refine af ?_|refine ah ?_|refine ax ?_))
 exact eP (zO (a:=.cell 0 FV) rfl (rO rfl rfl b2 rfl)) ⟨_,rfl,rfl,(Chg.trans n1.any c2 fun _ _ e=>e).toNew fun k hk e=>by omega⟩
def qw:Option Nat→Int
 |some k=>k
 |none=> -1
theorem Qj {Pb Pt:Nat→Prop} {w:World} {v u:Value} {cs:List Cd} {ts:List Nm} (h:RdS rCd 7 Pb w v cs) (ht:RdS (Wk.one vs) 1 Pt w u ts):
 Calls Tryz.prog 94 #[v,u] w (Ret fun r w'=>r=.agg (xH (wE cs ts)).toArray∧New w w'):=by
 obtain ⟨a,cap,rfl,hc1,hc2⟩:=h.form
 obtain ⟨a2,cap2,rfl,hd1,hd2⟩:=ht.form
 simp only [maxLen] at hc2 hd2
 unfold wE
 refine mQ Tryz.func94 rfl Tryz.ntmps94 rfl ?_
 (repeat' (first|refine aj ?_|refine ai ?_))
 refine Wl.alloc fun w1 b1 n1 s1=>?_
 replace b1:Bk w1 w.heap.size FV [vi 0,vi 0]:=b1
 (repeat' (first|refine aa0 ?_|refine af ?_|refine aO rfl ?_|refine ah ?_|refine aj ?_|refine ai ?_|refine Wc.block ?_))
 refine aU (σ:=Nat) (fun k=>[(0,.slice a cs.length cap),(4,.pointer (some ⟨w.heap.size,0,none⟩)),(10,.slice a2 ts.length cap2),(11,vi ts.length),(12,vi k)]) (fun k W=>k≤ts.length∧Be cs 0 ts=Be cs k (ts.drop k)∧New w1 W) (fun k=>ts.length-k) 0 ⟨rfl,rfl,rfl,rfl,rfl,trivial⟩ ⟨Nat.zero_le _,rfl,aV _ _⟩ ?_
 rintro k G W ⟨hk,hgo,nW⟩
 simp only [oO]
 have bW:=b1.chg nW fun e=>e
 have n0W:=New.trans n1 nW
 have hzW:=n0W.size
 (repeat' (first|refine aa0 ?_|refine af ?_|refine ah ?_|refine aj ?_|refine ai ?_|refine Wc.block ?_|refine Wc.skip ?_|refine aQ ?_|refine aS ?_|refine aP ?_|refine aT ?_|refine aa3 ?_|refine aa4 ?_|refine aa9 (fun _=>?_) (fun _=>?_)))
 ·obtain ⟨s,hs⟩:=nN ts (k:=k) (by omega)
  rw [drop_cons hs] at hgo
  simp only [Be,OC] at hgo
  refine bY (ht.keep (nT _) n0W.keep) rfl rfl (by omega) hs fun b o hcell=>?_
  refine au (u:=vs s) rfl hcell ?_
  (repeat' (first|refine aa1 ?_|refine af ?_|refine ah ?_))
  refine aj ?_
  (repeat' (first|refine aa1 ?_|refine af ?_|refine ah ?_|refine ai ?_))
  refine eY (fun F W2=>agrees F [(0,.slice a cs.length cap),(4,.pointer (some ⟨w.heap.size,0,none⟩)),(5,vi k),(7,vi (qw (um cs s 0 none cs))),(10,.slice a2 ts.length cap2),(11,vi ts.length),(12,vi k)]∧New w1 W2) ?_ ?_
  ·(repeat' (first|refine aa0 ?_|refine af ?_|refine aO rfl ?_|refine ah ?_|refine aj ?_|refine ai ?_|refine Wc.block ?_))
   refine aU (σ:=Nat×Option Nat) (fun q=>[(0,.slice a cs.length cap),(4,.pointer (some ⟨w.heap.size,0,none⟩)),(5,vi k),(6,vs s),(7,vi (qw q.2)),(10,.slice a2 ts.length cap2),(11,vi ts.length),(12,vi k),(17,.slice a cs.length cap),(18,vi cs.length),(19,vi q.1)])
    (fun q W2=>q.1≤cs.length∧(∀j,q.2=some j→j<cs.length)∧um cs s 0 none cs=um cs s q.1 q.2 (cs.drop q.1)∧New w1 W2) (fun q=>cs.length-q.1) (0,none) ⟨rfl,rfl,rfl,rfl,rfl,rfl,rfl,rfl,rfl,rfl,rfl,trivial⟩ ⟨Nat.zero_le _,by simp,rfl,nW⟩ ?_
   rintro ⟨i,best⟩ G2 W2 ⟨hi,hb,hbg,n2⟩
   dsimp only at hi hb hbg n2
   simp only [oO]
   have n02:=New.trans n1 n2
   have hz2:=n02.size
   (repeat' (first|refine aa0 ?_|refine af ?_|refine ah ?_|refine aj ?_|refine ai ?_|refine Wc.block ?_|refine Wc.skip ?_|refine aQ ?_|refine aS ?_|refine aP ?_|refine aT ?_|refine aa3 ?_|refine aa4 ?_|refine aa9 (fun _=>?_) (fun _=>?_)))
   ·obtain ⟨c,hc⟩:=nN cs (k:=i) (by omega)
    rw [drop_cons hc] at hbg
    simp only [um] at hbg
    refine bD (h.keep qx n02.keep) rfl rfl (by omega) hc fun b o cs' hl hR hat=>?_
    obtain ⟨cv,rfl,hcv⟩:=hR
    refine bQ hat rfl rfl ?_
    refine Wl.alloc fun w3 b3 n3 s3=>?_
    (repeat' (refine aa1 ?_))
    refine aX (new:=cdC c cv) b3 rfl rfl rfl rfl (show (7:Nat)≤7 from Nat.le_refl 7) (SN.oc _ W2 c _ ⟨cv,rfl,hcv⟩ rfl) fun w4 b4 c4 s4=>?_
    have n24:New W2 w4:=(Chg.trans n3.any c4 fun _ _ e=>e).toNew fun k hk e=>by omega
    have n14:=New.trans n2 n24
    have n04:=New.trans n1 n14
    replace b4:Bk w4 W2.heap.size 69 (cdC c cv):=b4
    have U0:=hcv.keep (nT _) n24.keep
    have h4:=h.keep qx n04.keep
    clear b3 n3 c4
    obtain ⟨ca,cc,rfl,_,_⟩:=U0.form
    have nx: ∀(nb:Option Nat) (w':World) (G3:Fr),New w1 w'→(∀j,nb=some j→j<cs.length)→um cs s 0 none cs=um cs s (i+1) nb (cs.drop (i+1))→(i+1≤cs.length∧(∀j,nb=some j→j<cs.length)∧um cs s 0 none cs=um cs s (i+1) nb (cs.drop (i+1))∧New w1 w'):=fun nb w' _ q1 q2 q3=>⟨by omega,q2,q3,q1⟩
    (repeat' (first|refine af ?_|refine ah ?_|refine aj ?_))
    refine cO rfl (by kernel_rfl) (fun w'=>New w4 w') (Chg.drew _ _) ?_
    intro w5 n5
    (repeat' (refine aa2 (pK (ak ?_))))
    refine aa2 (aB (u:=.slice ca c.compat.length cc) rfl (fun w' hw=>(b4.chg hw fun e=>e).cell (o:=3) rfl) (ak ?_))
    (repeat' (refine aa2 (pF (ak ?_))))
    refine bC rfl (ay (zS (s:=s) (U0.keep (nT _) n5.keep)) rfl ?_)
    rintro _ _ ⟨rfl,rfl⟩
    refine af ⟨rfl,n5,?_⟩
    cases hcn:c.compat.contains s
    ·rw [hcn,if_neg (fun e=>by cases e.1)] at hbg
     (repeat' (first|refine dm ?_|refine gV rfl rfl (by assumption) ?_|refine kJ rfl (by assumption) ?_|refine aa2 (pF (ak ?_))|refine aa2 (dS rfl (by conv=>{lhs;whnf}) (ak ?_))))
     (repeat' (first|refine aa0 ?_|refine af ?_|refine ah ?_|refine ai ?_|refine Wc.skip ?_|refine aJ ?_|refine aa4 ?_|refine aa7 ?_))
     exact aK (i+1,best) ⟨rfl,rfl,rfl,rfl,rfl,rfl,rfl,rfl,rfl,rfl,rfl,trivial⟩ (nx _ _ G2 (New.trans n14 n5) hb hbg) (by dsimp only;omega)
    ·cases best with
     |none=>
      rw [if_pos ⟨hcn,fun j e=>by cases e⟩] at hbg
      (repeat' (first|refine dm ?_|refine dn rfl rfl ?_|refine gV rfl rfl (by assumption) ?_|refine aa2 (pF (ak ?_))|refine aa2 (dM rfl (by conv=>{lhs;whnf}) (ak ?_))|(refine aa2 (eH rfl rfl (fun _=>ak ?_) (fun _=>ak ?_))<;>(first|(exfalso;contradiction)|skip))))
      (repeat' (first|refine aa0 ?_|refine aa1 ?_|refine af ?_|refine ah ?_|refine ai ?_|refine aJ ?_|refine aa3 ?_|refine aa7 ?_))
      exact aK (i+1,some i) ⟨rfl,rfl,rfl,rfl,rfl,rfl,rfl,rfl,rfl,rfl,rfl,trivial⟩ (nx _ _ G2 (New.trans n14 n5) (fun j e=>by cases e;omega) hbg) (by dsimp only;omega)
     |some j=>
      have hj:=hb j rfl
      obtain ⟨d,hd⟩:=nN cs hj
      have hjd:cs.getD j default=d:=by rw [List.getD_eq_getElem?_getD,hd];rfl
      rw [show qw (some j)=(j:Int) from rfl]
      (repeat' (first|refine dn rfl rfl ?_|refine aa2 (pF (ak ?_))|(refine aa2 (eH rfl rfl (fun _=>ak ?_) (fun _=>ak ?_))<;>(first|(exfalso;omega)|skip))))
      refine aa2 (cu (fun w' hw=>(b4.chg hw fun e=>e).at) rfl rfl (ak ?_))
      (repeat' (first|refine dn rfl rfl ?_|refine aa2 (pF (ak ?_))))
      refine aa2 (dD (j:=j) (y:=d) h4 (fun w' hw=>Chg.keep hw fun _ _ _ e=>e) rfl rfl (by omega) (by rw [Int.toNat_natCast];exact hd) fun bb off cs' hcl hR hat=>ak ?_)
      obtain ⟨dv,rfl,_⟩:=hR
      (repeat' (refine dn rfl rfl ?_))
      refine aa2 (cu hat rfl rfl (ak ?_))
      clear hat
      (repeat' (refine dn rfl rfl ?_))
      refine bC rfl (ay (Kt (a:=c) (b:=d)) rfl ?_)
      rintro _ w6 ⟨rfl,n6⟩
      refine af ⟨rfl,New.trans n5 n6,?_⟩
      have n16:=New.trans n14 (New.trans n5 n6)
      cases hbt:better c d
      ·rw [if_neg (fun e=>by have:=e.2 j rfl;rw [hjd,hbt] at this;cases this)] at hbg
       (repeat' (first|refine dm ?_|refine dn rfl rfl ?_|refine aa2 (dM rfl (by conv=>{lhs;whnf}) (ak ?_))|refine aa2 (dS rfl (by conv=>{lhs;whnf}) (ak ?_))))
       (repeat' (first|refine aa0 ?_|refine af ?_|refine ah ?_|refine ai ?_|refine Wc.skip ?_|refine aJ ?_|refine aa4 ?_|refine aa7 ?_))
       exact aK (i+1,some j) ⟨rfl,rfl,rfl,rfl,rfl,rfl,rfl,rfl,rfl,rfl,rfl,trivial⟩ (nx _ _ G2 n16 hb hbg) (by dsimp only;omega)
      ·rw [if_pos ⟨hcn,fun q e=>by cases e;rw [hjd,hbt]⟩] at hbg
       (repeat' (first|refine dm ?_|refine dn rfl rfl ?_|refine aa2 (dM rfl (by conv=>{lhs;whnf}) (ak ?_))|refine aa2 (dS rfl (by conv=>{lhs;whnf}) (ak ?_))))
       (repeat' (first|refine aa0 ?_|refine aa1 ?_|refine af ?_|refine ah ?_|refine ai ?_|refine aJ ?_|refine aa3 ?_|refine aa7 ?_))
       exact aK (i+1,some i) ⟨rfl,rfl,rfl,rfl,rfl,rfl,rfl,rfl,rfl,rfl,rfl,trivial⟩ (nx _ _ G2 n16 (fun j e=>by cases e;omega) hbg) (by dsimp only;omega)
   ·obtain rfl:i=cs.length:=by omega
    rw [List.drop_length] at hbg
    simp only [um] at hbg
    exact dw ⟨⟨rfl,rfl,rfl,by rw [hbg];rfl,rfl,rfl,rfl,trivial⟩,n2⟩
  ·rintro F W2 ⟨ag,n2⟩
   refine Wc.frame _ ag fun G2=>?_
   clear ag
   simp only [oO]
   have bW2:=b1.chg n2 fun e=>e
   cases hbs:um cs s 0 none cs with
   |none=>
    rw [hbs] at hgo
    dsimp only at hgo
    unfold qw
    (repeat' (first|refine aa0 ?_|refine af ?_|refine ah ?_|refine aj ?_|refine ai ?_|refine Wc.skip ?_|refine aJ ?_|refine aa4 ?_|refine aa7 ?_|(refine cZ rfl rfl (fun _=>?_) (fun _=>?_)<;>(first|(exfalso;contradiction)|skip))))
    exact aK (k+1) ⟨rfl,rfl,rfl,rfl,rfl,trivial⟩ ⟨by omega,hgo,n2⟩ (by omega)
   |some i=>
    rw [hbs] at hgo
    dsimp only at hgo
    rw [hgo]
    unfold qw
    (repeat' (first|refine aa0 ?_|refine af ?_|refine ah ?_|refine aj ?_|refine ai ?_|refine aa3 ?_|(refine cZ rfl rfl (fun _=>?_) (fun _=>?_)<;>(first|(exfalso;contradiction)|skip))))
    refine bZ (ps:=[(0,.tmp 44),(1,.tmp 45)]) (parts:=[(0,vi i),(1,vi k)]) rfl rfl (by simp [Value.cells]) ?_
    refine aX (u:=.agg #[vi i,vi k]) (new:=[vi i,vi k]) bW2 rfl rfl rfl rfl (Nat.le_refl 2) (by simp;exact ⟨rfl,rfl⟩) fun w3 b3 c3 s3=>?_
    replace b3:Bk w3 w.heap.size FV [vi i,vi k]:=b3
    (repeat' (first|refine af ?_|refine ah ?_|refine ax ?_|refine aN ?_|refine bf ?_|refine bG ?_))
    exact eP (zO (a:=.cell 4 FV) rfl (rO rfl rfl b3 rfl)) ⟨_,rfl,rfl,(Chg.trans (New.trans n1 n2).any c3 fun _ _ e=>e).toNew fun k hk e=>by omega⟩
 ·obtain rfl:k=ts.length:=by omega
  rw [List.drop_length] at hgo
  rw [hgo]
  refine ay Qi rfl ?_
  rintro _ w2 ⟨rfl,n2⟩
  replace bW:=bW.chg n2 fun e=>e
  refine aX (u:=.agg (xH none).toArray) (new:=xH none) bW rfl rfl rfl rfl (Nat.le_refl 2) (by simp [xH];exact ⟨rfl,rfl⟩) fun w3 b3 c3 s3=>?_
  replace b3:Bk w3 w.heap.size FV (xH none):=b3
  (repeat' (first|refine af ?_|refine ah ?_|refine ax ?_))
  exact eP (zO (a:=.cell 4 FV) rfl (rO rfl rfl b3 rfl)) ⟨_,rfl,rfl,(Chg.trans (New.trans n0W n2).any c3 fun _ _ e=>e).toNew fun k hk e=>by omega⟩
abbrev Na:Rel (Option (Nat×Nat)):=flat xH
theorem CP:qG Na 2:=qH xH (fun x=>by cases x<;>rfl) (fun x c hc=>by cases x<;>simp [xH] at hc<;>rcases hc with rfl|rfl<;>rfl)
theorem Qk {cs:List Cd} {t:List Nd} {i:Nat} (hi:i<t.length):(allM cs t).take (i+1)=(allM cs t).take i++ [wE cs (rE t i)]:=by
 refine take_snoc ?_
 unfold allM
 rw [List.getElem?_map,List.getElem?_range hi]
 rfl
theorem Ku (cs:List Cd) (t:List Nd):(allM cs t).length=t.length:=by unfold allM;simp
theorem Kv {Pb Pt:Nat→Prop} {w:World} {v u:Value} {cs:List Cd} {t:List Nd} (h:RdS rCd 7 Pb w v cs) (ht:RdS rNd 3 Pt w u t) (hc:sK cs=true) (hok:nV t=true):
 Calls Tryz.prog 43 #[v,u] w (Ret fun r w'=>(∃q,r=.tuple #[q,vi 0]∧ny Na FV 2 (fun b=>w.heap.size≤b) NoB w' q (allM cs t))∧New w w'):=by
 obtain ⟨a,cap,rfl,hc1,hc2⟩:=h.form
 obtain ⟨a2,cap2,rfl,hd1,hd2⟩:=ht.form
 have hlen:=oN hok
 refine mQ Tryz.func43 rfl Tryz.ntmps43 rfl ?_
 (repeat' (first|refine aa0 ?_|refine aa1 ?_|refine af ?_|refine ah ?_|refine aj ?_|refine ai ?_))
 refine ay (MZ h) rfl ?_
 rintro _ w1 ⟨rfl,n1⟩
 unfold FU
 rw [if_pos hc]
 (repeat' (first|refine aa0 ?_|refine aa1 ?_|refine af ?_|refine ah ?_|refine aj ?_|refine ai ?_|refine Wc.skip ?_|refine aa4 ?_|(refine pV (fun _=>?_) (fun _=>?_)<;>(first|(exfalso;omega)|skip))))
 refine ay (uJ (ht.keep nO n1.keep)) rfl ?_
 rintro _ w2 ⟨rfl,n2⟩
 replace n2:=New.trans n1 n2
 unfold Ee
 rw [if_pos hok]
 (repeat' (first|refine aa0 ?_|refine aa1 ?_|refine af ?_|refine aa8 ?_|refine aO rfl ?_|refine ah ?_|refine aj ?_|refine ai ?_|refine Wc.skip ?_|refine aa4 ?_|(refine pV (fun _=>?_) (fun _=>?_)<;>(first|(exfalso;omega)|skip))))
 refine iP (R:=Na) (Pe:=NoB) (c:=(t.length:Int)) rfl rfl (by omega) (by omega) (by omega) fun v3 w3 o3 n3=>?_
 replace n3:=New.trans n2 n3
 have hz2:=n2.size
 (repeat' (first|refine aa0 ?_|refine aa1 ?_|refine af ?_|refine aO rfl ?_|refine ah ?_|refine aj ?_|refine ai ?_|refine Wc.block ?_))
 refine aU (σ:=Nat×Value) (fun s=>[(0,.slice a cs.length cap),(1,.slice a2 t.length cap2),(9,s.2),(30,vi t.length),(31,vi s.1)]) (fun s W=>s.1≤t.length∧ny Na FV 2 (fun b=>w.heap.size≤b) NoB W s.2 ((allM cs t).take s.1)∧New w W) (fun s=>t.length-s.1) (0,v3) ⟨rfl,rfl,rfl,rfl,rfl,trivial⟩
  ⟨Nat.zero_le _,o3.mono CP.mo (fun b _ hb=>by omega) (fun _ _ e=>e),n3⟩ ?_
 rintro ⟨i,q⟩ G W ⟨hi,own,nW⟩
 dsimp only at hi own nW
 simp only [oO]
 have hzW:=nW.size
 obtain ⟨qa,qc,rfl,_,_⟩:=own.form
 (repeat' (first|refine aa0 ?_|refine aa1 ?_|refine af ?_|refine ah ?_|refine aj ?_|refine ai ?_|refine Wc.block ?_|refine Wc.skip ?_|refine aQ ?_|refine ax ?_|refine aS ?_|refine aP ?_|refine aT ?_|refine aa3 ?_|refine aa4 ?_|refine aa9 (fun _=>?_) (fun _=>?_)))
 ·refine ay (J5 (i:=i) (ht.keep nO nW.keep) hok (by omega)) rfl ?_
  rintro _ w4 ⟨⟨tv,rfl,o4⟩,n4⟩
  have n04:=New.trans nW n4
  obtain ⟨ta,tc,rfl,_,_⟩:=o4.form
  (repeat' (first|refine aa0 ?_|refine aa1 ?_|refine af ?_|refine aa8 ?_|refine ah ?_|refine ai ?_))
  refine ay (Qj (h.keep qx n04.keep) (o4.rd qR.mo)) rfl ?_
  rintro _ w5 ⟨rfl,n5⟩
  have n45:=New.trans n4 n5
  refine dF (R:=Na) (y:=wE cs (rE t i)) CP (own.new (mV xH) n45) rfl rfl rfl (by cases wE cs (rE t i)<;>rfl) rfl (by omega) (by omega) (by simp only [maxLen,List.length_take];omega) (by simp only [List.length_take];omega) rfl rfl fun v6 w6 p o6 c6 lie=>?_
  have n6:New w w6:=Chg.trans (New.trans nW n45) c6 fun k hk e=>by have:=(own.lt e).1;omega
  rw [←Qk (by omega)] at o6
  (repeat' (first|refine aa0 ?_|refine aa1 ?_|refine af ?_|refine ah ?_|refine ai ?_|refine aJ ?_|refine aa7 ?_))
  refine aK (i+1,v6) ⟨rfl,rfl,rfl,rfl,rfl,trivial⟩ ⟨by dsimp only;omega,o6.mono CP.mo (fun b _ hb=>by have:=n45.size;rcases hb with hb|hb<;>omega) (fun _ _ e=>e),n6⟩ (by dsimp only;omega)
 ·obtain rfl:i=t.length:=by omega
  have e:List.take t.length (allM cs t)=allM cs t:=by rw [←Ku cs t,List.take_length]
  rw [e] at own ⊢
  exact aW rfl rfl rfl ⟨_,rfl,⟨_,rfl,own⟩,nW⟩
end Go.Proofs.YtjecgaiaiophpaaGreatDoor
namespace Go.Proofs.YtjecgaiaiophpaaGreatDoor
open Go Wk
open Go.RowKit (Below)
attribute [local irreducible] Go.Calls
theorem Nc {Pb:Nat→Prop} {w:World} {v:Value} {l:List Nd} {i least:Nat} (h:RdS rNd 3 Pb w v l) (hok:nV l=true) (hi:i<l.length) (hl:least≤i):
 Calls Tryz.prog 269 #[v,vi i,vi least] w (Ret fun r w'=>r=vi 0∧New w w'):=by
 obtain ⟨a,cap,rfl,hc1,hc2⟩:=h.form
 have hlen:=oN hok
 refine mQ Tryz.func269 rfl Tryz.ntmps269 rfl ?_
 (repeat' (first|refine aa0 ?_|refine aa1 ?_|refine af ?_|refine ah ?_|refine aj ?_|refine ai ?_))
 refine ay (uJ h) rfl ?_
 rintro _ w1 ⟨rfl,n1⟩
 unfold Ee
 rw [if_pos hok]
 (repeat' (first|refine aa0 ?_|refine aa1 ?_|refine af ?_|refine aa8 ?_|refine aa6 ?_|refine pq ?_|refine aO rfl ?_|refine ah ?_|refine aj ?_|refine ai ?_|refine Wc.skip ?_|refine ax ?_|refine aa4 ?_|(refine aa9 (fun _=>?_) (fun _=>?_)<;>(first|(exfalso;omega)|skip))|(refine cZ rfl rfl (fun _=>?_) (fun _=>?_)<;>(first|(exfalso;omega)|skip))|(refine pV (fun _=>?_) (fun _=>?_)<;>(first|(exfalso;omega)|skip))))
 exact aA rfl rfl ⟨_,rfl,rfl,n1⟩
theorem Kw {Pb:Nat→Prop} {w:World} {pv:Value} {x:Nd} {nm:Nm} (h:RdS rPr 2 Pb w pv x.oJ) (hx: ∀v,val x.oJ nm=some v→v.length≤1024):
 Calls Tryz.prog 222 #[.agg #[vi x.parent,vs x.name,pv],vs nm] w (Ret fun r w'=>r=vi (qw (FH x nm))∧New w w'):=by
 obtain ⟨a,cap,rfl,hc1,hc2⟩:=h.form
 refine mQ Tryz.func222 rfl Tryz.ntmps222 rfl ?_
 (repeat' (first|refine aj ?_|refine ai ?_))
 refine bJ rfl fun w1 b1 n1 s1=>?_
 replace b1:Bk w1 w.heap.size 51 [vi x.parent,vs x.name,.slice a x.oJ.length cap]:=b1
 (repeat' (first|refine aa1 ?_|refine af ?_|refine ah ?_|refine aj ?_|refine ai ?_))
 refine dh b1 rfl rfl ?_
 (repeat' (refine aa0 ?_))
 refine ay (zN (x:=x) (nm:=nm) (h.keep (nU pC) n1.keep)) rfl ?_
 rintro _ w2 ⟨rfl,n2⟩
 have n02:=New.trans n1 n2
 unfold FH
 cases hv:val x.oJ nm with
 |none=>
  dsimp only
  (repeat' (first|refine aa0 ?_|refine aa1 ?_|refine af ?_|refine aa8 ?_|refine aZ rfl ?_|refine ah ?_|refine aj ?_|refine ai ?_|refine ax ?_|refine aN ?_|refine aa3 ?_))
  exact aA rfl rfl ⟨_,rfl,rfl,n02⟩
 |some s=>
  have hsl:=hx s hv
  dsimp only
  (repeat' (first|refine aa0 ?_|refine aa1 ?_|refine af ?_|refine aa8 ?_|refine aZ rfl ?_|refine ah ?_|refine aj ?_|refine ai ?_|refine Wc.skip ?_|refine aa4 ?_))
  refine ay (Dx (l:=s) (by omega)) rfl ?_
  rintro _ w3 ⟨rfl,n3⟩
  have n03:=New.trans n02 n3
  obtain ⟨n,hn,hnl⟩:=FM s
  unfold FC
  rw [hn,Int.toNat_natCast]
  (repeat' (first|refine aa0 ?_|refine aa1 ?_|refine af ?_|refine aa8 ?_|refine aa6 ?_|refine qi ?_|refine pG ?_|refine pq ?_|refine ah ?_|refine aj ?_|refine ai ?_|refine Wc.skip ?_|refine ax ?_|refine aN ?_|refine aa3 ?_|refine aa4 ?_|refine dP rfl ?_|refine bM rfl rfl (fun _=>?_) (fun _=>?_)|refine pV (fun _=>?_) (fun _=>?_)))
  ·rw [if_neg (by omega)]
   exact aA rfl rfl ⟨_,rfl,rfl,n03⟩
  ·rw [if_pos (by omega)]
   dsimp only
   rw [if_neg (by omega)]
   exact aA rfl rfl ⟨_,rfl,rfl,n03⟩
  ·rw [if_pos (by omega)]
   dsimp only
   rw [if_pos (by omega)]
   refine aA rfl rfl ⟨_,rfl,?_,n03⟩
   show Value.int .i64 (IntKind.i64.wrap (n:Int))=_
   rw [EU (n:=n) rfl (by omega)]
   rfl
def pO (c:Clm):List Value:=[.int .u8 c.kind,w64 c.from_,w64 c.upto]
theorem Ql {w:World} {a b:Clm}:
 Calls Tryz.prog 204 #[.agg (pO a).toArray,.agg (pO b).toArray] w (Ret fun r w'=>r=.bool (FD a b)∧New w w'):=by
 unfold FD
 refine mQ Tryz.func204 rfl Tryz.ntmps204 rfl ?_
 (repeat' (first|refine aj ?_|refine ai ?_))
 refine bJ rfl fun w1 b1 n1 s1=>?_
 replace b1:Bk w1 w.heap.size 198 (pO a):=b1
 skip
 refine bJ rfl fun w2 b2 n2 s2=>?_
 replace b2:Bk w2 w1.heap.size 198 (pO b):=b2
 replace b1:=b1.chg n2 fun e=>e
 replace n2:=New.trans n1 n2
 (repeat' (first|refine aa1 ?_|refine af ?_|refine ah ?_|refine aj ?_|refine ai ?_|refine aa5 ?_))
 refine au (u:=.int .u8 a.kind) rfl (b1.cell (o:=0) rfl) ?_
 (repeat' (refine aa5 ?_))
 refine au (u:=.int .u8 b.kind) rfl (b2.cell (o:=0) rfl) ?_
 (repeat' (first|refine aa0 ?_|refine aa1 ?_|refine af ?_|refine aa6 ?_|refine qi ?_|refine pq ?_|refine ah ?_|refine ax ?_|refine aa5 ?_|refine bV rfl rfl (fun _=>?_) (fun _=>?_)))
 rotate_left
 ·rw [decide_eq_false (by omega)]
  exact aA rfl rfl ⟨_,rfl,rfl,n2⟩
 skip
 refine au (u:=w64 a.from_) rfl (b1.cell (o:=1) rfl) ?_
 (repeat' (first|refine aa6 ?_|refine aa5 ?_))
 refine au (u:=w64 a.upto) rfl (b1.cell (o:=2) rfl) ?_
 (repeat' (first|refine aa0 ?_|refine aa1 ?_|refine af ?_|refine aa6 ?_|refine qi ?_|refine pG ?_|refine pq ?_|refine ah ?_|refine ax ?_|refine aa5 ?_|refine dV rfl rfl (fun _=>?_) (fun _=>?_)))
 rotate_left
 ·rw [decide_eq_false (by omega)]
  exact aA rfl rfl ⟨_,rfl,rfl,n2⟩
 skip
 refine au (u:=w64 b.from_) rfl (b2.cell (o:=1) rfl) ?_
 (repeat' (first|refine aa6 ?_|refine aa5 ?_))
 refine au (u:=w64 b.upto) rfl (b2.cell (o:=2) rfl) ?_
 (repeat' (first|refine aa0 ?_|refine aa1 ?_|refine af ?_|refine aa6 ?_|refine qi ?_|refine pG ?_|refine pq ?_|refine ah ?_|refine ax ?_|refine aa5 ?_|refine dV rfl rfl (fun _=>?_) (fun _=>?_)))
 rotate_left
 ·rw [decide_eq_false (by omega)]
  exact aA rfl rfl ⟨_,rfl,rfl,n2⟩
 skip
 refine au (u:=w64 a.from_) rfl (b1.cell (o:=1) rfl) ?_
 (repeat' (first|refine aa6 ?_|refine aa5 ?_))
 refine au (u:=w64 b.upto) rfl (b2.cell (o:=2) rfl) ?_
 (repeat' (first|refine aa0 ?_|refine aa1 ?_|refine af ?_|refine aa6 ?_|refine qi ?_|refine pG ?_|refine pq ?_|refine ah ?_|refine ax ?_|refine aa5 ?_|refine dV rfl rfl (fun _=>?_) (fun _=>?_)))
 rotate_left
 ·rw [decide_eq_false (by omega)]
  exact aA rfl rfl ⟨_,rfl,rfl,n2⟩
 skip
 refine au (u:=w64 b.from_) rfl (b2.cell (o:=1) rfl) ?_
 (repeat' (first|refine aa6 ?_|refine aa5 ?_))
 refine au (u:=w64 a.upto) rfl (b1.cell (o:=2) rfl) ?_
 (repeat' (first|refine aa1 ?_|refine af ?_|refine aa6 ?_|refine pG ?_|refine ah ?_|refine ax ?_|refine dV rfl rfl (fun _=>?_) (fun _=>?_)))
 ·rw [decide_eq_true (by omega)]
  exact aA rfl rfl ⟨_,rfl,rfl,n2⟩
 ·rw [decide_eq_false (by omega)]
  exact aA rfl rfl ⟨_,rfl,rfl,n2⟩
end Go.Proofs.YtjecgaiaiophpaaGreatDoor
namespace Go.Proofs.YtjecgaiaiophpaaGreatDoor.Wk
open Go Go.RowKit
section
variable {P:Program} {n:Nat} {ds:List Deferred} {Q:Po} {F:Fr} {w w':World} {ops rest:List Oper} {d:Nat} {ty:TypeId} {pos:String} {aft:Array Edge}
theorem yX {t k e:TypeId} {sz bytes:Nat} {agg:Bool} {z:Value} {b:Nat} {l:List (Value×Value)} {key:Value} {q:Lit} (ht:P.underlying t=some (.map k e)) (he:ElT P e sz bytes agg z) (Kd:Maps.Keyed P k) (h:qO P k w b l) (hq:keyOf P k key=some q):
 ∃r f,(Instr.lookup t (.map (some b)) key true).run P w=.ok (.tuple #[r,.bool f]) w∧(f=true∧(key,r)∈l∨f=false∧r=z∧ ∀p∈l,p.1≠key):=by
 obtain ⟨es,clock,hh,rfl,hk⟩:=h
 have hg:=run_getObj_map (P:=P) w b es clock hh
 rcases Kd.find w hq es.toList hk with ⟨hf,hn⟩|⟨j,e0,hf,hj,rfl⟩
 ·refine ⟨z,false,?_,.inr ⟨rfl,rfl,fun p hp=>?_⟩⟩
  ·simp [Instr.lookup,run_underlying ht,hg,Kd.check w _ hq,hf,he.zeroValue]
  ·obtain ⟨e1,he1,rfl⟩:=List.mem_map.1 hp;exact hn e1 he1
 ·refine ⟨e0.val,true,?_,.inl ⟨rfl,List.mem_map.2 ⟨e0,List.mem_of_getElem? hj,rfl⟩⟩⟩
  simp [Instr.lookup,run_underlying ht,hg,Kd.check w _ hq,hf]
theorem jB {x i:Operand} {t k e:TypeId} {sz bytes:Nat} {agg:Bool} {z:Value} {b:Nat} {l:List (Value×Value)} {key:Value} {q:Lit} [ht:Und P t (.map k e)] [he:ElT P e sz bytes agg z] (Kd:Maps.Keyed P k) (h:qO P k w b l) (hq:keyOf P k key=some q)
 (hx:ev n F x=.map (some b)) (hi:ev n F i=key) (c1: ∀r,(key,r)∈l→Wl P n ds Q ops rest (upd F d (.tuple #[r,.bool true])) w) (c2:(∀p∈l,p.1≠key)→Wl P n ds Q ops rest (upd F d (.tuple #[z,.bool false])) w):
 Wl P n ds Q ops (⟨some d,.lookup t x i true,ty,pos,aft,none⟩::rest) F w:=by
 obtain ⟨r,f,hr,⟨rfl,hp⟩|⟨rfl,rfl,hp⟩⟩:=yX ht.h he Kd h hq
 ·exact Wl.val (by simp only [execOp,hx,hi,Sem.run_bind,hr,Result.andThen_ok,Sem.run_pure]) (c1 r hp)
 ·exact Wl.val (by simp only [execOp,hx,hi,Sem.run_bind,hr,Result.andThen_ok,Sem.run_pure]) (c2 hp)
theorem gq {t e m sz bytes WO:Nat} {agg ac6:Bool} {z ez:Value} {ps:List (Nat×Operand)} {parts:List (Nat×Value)} {cs:List Value} [ht:Und P t (.array m e)] [hee:ElT P e 1 WO ac6 ez] [he:ElT P t sz bytes agg z] (hz:z.cells.size=m) (hps:ps.map (fun p=>(p.1,ev n F p.2))=parts) (hp: ∀p∈parts,p.1<m∧p.2.cells= #[p.2])
 (hcs:E9 z.cells parts=cs.toArray) (c:Wl P n ds Q ops rest (upd F d (.agg cs.toArray)) w):Wl P n ds Q ops (⟨some d,.build t ps.toArray,ty,pos,aft,none⟩::rest) F w:=by
 refine Wl.val ?_ c
 subst hps
 have RJ:=fill_flat (m:=m) (places:=fun i=>some (i*1,1)) _ z.cells hz (fun i _=>by rw [Nat.mul_one]) hp
 have:(Instr.build t (ps.map (fun p=>(p.1,ev n F p.2))).toArray).run P w=.ok (.agg cs.toArray) w:=by
  simp only [Instr.build,Sem.run_bind,he.zeroValue,Result.andThen_ok,run_underlying ht.h,hee.sizeOf,RJ,hcs,Sem.run_pure]
 simp only [execOp,List.map_toArray,Sem.run_bind]
 rw [this];rfl
end
end Go.Proofs.YtjecgaiaiophpaaGreatDoor.Wk
namespace Go.Proofs.YtjecgaiaiophpaaGreatDoor.Wk
open Go Go.RowKit
section
variable {P:Program} {n:Nat} {ds:List Deferred} {Q:Po} {F:Fr} {w w':World} {ops rest:List Oper} {d:Nat} {ty:TypeId} {pos:String} {aft:Array Edge}
theorem jC {x i y:Operand} {t k e:TypeId} {b:Nat} {l:List (Value×Value)} {key v0 u:Value} {q:Lit} [ht:Und P t (.map k e)] (Kd:Maps.Keyed P k) (h:qO P k w b l) (hq:keyOf P k key=some q) (hin:(key,v0)∈l)
 (hx:ev n F x=.map (some b)) (hi:ev n F i=key) (hy:ev n F y=u) (c: ∀w' j v,l[j]? =some (key,v)→qO P k w' b (l.set j (key,u))→Chg (fun j=>j=b) w w'→w'.heap.size=w.heap.size→Wl P n ds Q ops rest F w'):
 Wl P n ds Q ops (⟨none,.mapUpdate t x i y,ty,pos,aft,none⟩::rest) F w:=by
 have hlt:=h.lt
 obtain ⟨es,clock,hh,rfl,hk⟩:=h
 have hg:=run_getObj_map (P:=P) w b es clock hh
 rcases Kd.find w hq es.toList hk with ⟨hf,hn⟩|⟨j,e0,hf,hj,rfl⟩
 ·obtain ⟨e1,he1,e2⟩:=List.mem_map.1 hin
  simp only [Prod.mk.injEq] at e2
  exact absurd e2.1 (hn e1 he1)
 ·let es':=es.modify j fun e=>{e with key:=e0.key,val:=u}
  have hl':es'.toList=es.toList.set j {e0 with val:=u}:=by
   have hjs:=(List.getElem?_eq_some_iff.1 hj)
   apply List.ext_getElem?
   intro m
   simp only [es',Array.getElem?_toList,Array.getElem?_modify,List.getElem?_set]
   by_cases hm:j=m
   ·subst hm
    simp only [if_true]
    rw [if_pos hjs.1]
    rw [Array.getElem?_toList] at hj
    rw [hj];rfl
   ·rw [if_neg hm,if_neg hm]
  have h1:(w.heap.setIfInBounds b (.map es' clock))[b]? =some (.map es' clock):=by simp [Array.getElem?_setIfInBounds,hlt]
  have hset:(setObj b (.map es' clock)).run P w=.ok () {w with heap:=w.heap.setIfInBounds b (.map es' clock)}:=by simp [setObj,Sem.run,hh]
  have hpj:(es.toList.map (fun e=>(e.key,e.val)))[j]? =some (e0.key,e0.val):=by rw [List.getElem?_map,hj];rfl
  have hmap:es'.toList.map (fun e=>(e.key,e.val))=(es.toList.map (fun e=>(e.key,e.val))).set j (e0.key,u):=by rw [hl',List.map_set]
  refine fH (w':={w with heap:=w.heap.setIfInBounds b (.map es' clock)}) ?_ (c _ j e0.val hpj ⟨_,_,h1,hmap,fun e he=>?_⟩ ⟨rfl,rfl,rfl,by simp,fun j _ hj=>Array.getElem?_setIfInBounds_ne (Ne.symm hj)⟩ (by simp))
  ·have hst:=Kd.stays w hq
   have hj':es[j]? =some e0:=by rw [Array.getElem?_toList] at hj;exact hj
   simp [execOp,hx,hi,hy,Instr.mapUpdate,run_underlying ht.h,hg,Kd.check w _ hq,hf,hj',hst,hset,es']
  ·rw [hl'] at he
   rcases List.mem_or_eq_of_mem_set he with he|rfl
   ·exact hk e he
   ·exact hk e0 (List.mem_of_getElem? hj)
end
end Go.Proofs.YtjecgaiaiophpaaGreatDoor.Wk
namespace Go.Proofs.YtjecgaiaiophpaaGreatDoor.Wk
open Go Go.RowKit
section
variable {P:Program} {n:Nat} {ds:List Deferred} {Q:Po} {C:World→Prop} {K:Fr→Prop} {F:Fr} {w w':World} {ops rest:List Oper} {d:Nat} {ty:TypeId} {pos:String} {aft:Array Edge}
theorem ny.at {α:Type} {f:α→List Value} {e sz:Nat} {Pb Pe:Nat→Prop} {v:Value} {xs:List α} {g l cap j:Nat} {y:α} (h:ny (flat f) e sz Pb Pe w v xs) (hf:(f y).length=sz) (hv:v=.slice (some ⟨g,0,none⟩) l cap) (hy:xs[j]? =some y):At w g (j*sz) (f y):=by
 obtain ⟨cs,⟨hl,hc⟩,he⟩:=h
 have hj:=(List.getElem?_eq_some_iff.1 hy).1
 rcases hc with ⟨e1,_⟩|⟨g',cap',cur,e1,_,hg,h1,h2,h3,h4⟩
 ·rw [hv] at e1;cases e1
 ·rw [hv] at e1
  cases e1
  intro i u hu
  have hel:(cs.drop (j*sz)).take sz=f y:=he j y hy
  have hi:i<sz:=by rw [←hf];exact (List.getElem?_eq_some_iff.1 hu).1
  rw [←hel,List.getElem?_take,if_pos hi,List.getElem?_drop, ←h4,List.getElem?_take] at hu
  split at hu
  ·simp only [World.cell?,hg]
   simpa using hu
  ·cases hu
theorem lV {x lo:Operand} {t e sz bytes:Nat} {agg:Bool} {z:Value} {k:IntKind} {p:Option Addr} {l cap a:Nat} [ht:Und P t (.slice e)] [he:ElT P e sz bytes agg z] (hx:ev n F x=.slice p l cap) (hl:ev n F lo=.int k a) (h1:a≤l) (h2:l≤cap)
 (c:Wl P n ds Q ops rest (upd F d (.slice (if cap=a then p else p.map (·.add (a*sz))) (l-a) (cap-a))) w):Wl P n ds Q ops (⟨some d,.slice t x (some lo) none none,ty,pos,aft,none⟩::rest) F w:=by
 refine Wl.val (w':=w) ?_ c
 have:=tX (P:=P) (w:=w) (p:=p) (l:=l) (cap:=cap) (lo:=some (.int k a)) (hi:=none) (a:=a) (b:=l) ht.h he (.inr ⟨k,rfl⟩) (.inl ⟨rfl,rfl⟩) h1 h2
 simp only [execOp,hx,hl,Option.map_none,Option.map_some,Sem.run_bind,this,Result.andThen_ok,Sem.run_pure]
theorem lW {x lo:Operand} {t e sz bytes:Nat} {agg:Bool} {z:Value} {k:IntKind} {g o l cap a:Nat} [ht:Und P t (.slice e)] [he:ElT P e sz bytes agg z] (hx:ev n F x=.slice (some ⟨g,o,none⟩) l cap) (hl:ev n F lo=.int k a) (h1:a<l) (h2:l≤cap)
 (c:Wl P n ds Q ops rest (upd F d (.slice (some ⟨g,o+a*sz,none⟩) (l-a) (cap-a))) w):Wl P n ds Q ops (⟨some d,.slice t x (some lo) none none,ty,pos,aft,none⟩::rest) F w:=by
 refine lV hx hl (Nat.le_of_lt h1) h2 ?_
 rw [if_neg (by omega),Option.map_some,addr_add]
 exact c
end
end Go.Proofs.YtjecgaiaiophpaaGreatDoor.Wk
namespace Go.Proofs.YtjecgaiaiophpaaGreatDoor.Wk
open Go Go.RowKit
section
variable {P:Program} {n:Nat} {ds:List Deferred} {Q:Po} {C:World→Prop} {K:Fr→Prop} {F:Fr} {w w':World} {ops rest:List Oper} {d:Nat} {ty:TypeId} {pos:String} {aft:Array Edge}
theorem lX {x i:Operand} {t k e sz bytes:Nat} {agg:Bool} {z:Value} {b:Nat} {l:List (Value×Value)} {key:Value} {q:Lit} [ht:Und P t (.map k e)] [he:ElT P e sz bytes agg z] (Kd:Maps.Keyed P k) (hC: ∀w,C w→qO P k w b l) (hq:keyOf P k key=some q)
 (hu: ∀r r',(key,r)∈l→(key,r')∈l→r=r') (hx:ev n F x=.map (some b)) (hi:ev n F i=key)
 (c1: ∀r,(key,r)∈l→Wq P n ds C K ops rest (upd F d (.tuple #[r,.bool true]))) (c2:(∀p∈l,p.1≠key)→Wq P n ds C K ops rest (upd F d (.tuple #[z,.bool false]))):
 Wq P n ds C K ops (⟨some d,.lookup t x i true,ty,pos,aft,none⟩::rest) F:=by
 by_cases hin: ∃r,(key,r)∈l
 ·obtain ⟨r0,h0⟩:=hin
  refine Wq.val (v:=.tuple #[r0,.bool true]) (fun w hw=>?_) (c1 r0 h0)
  obtain ⟨r,f,hr,⟨rfl,hp⟩|⟨rfl,rfl,hp⟩⟩:=yX ht.h he Kd (hC w hw) hq
  ·rw [hu r0 r h0 hp]
   simp only [execOp,hx,hi,Sem.run_bind,hr,Result.andThen_ok,Sem.run_pure]
  ·exact absurd rfl (hp _ h0)
 ·have hno: ∀p∈l,p.1≠key:=fun p hp e=>hin ⟨p.2,e▸hp⟩
  refine Wq.val (v:=.tuple #[z,.bool false]) (fun w hw=>?_) (c2 hno)
  obtain ⟨r,f,hr,⟨rfl,hp⟩|⟨rfl,rfl,hp⟩⟩:=yX ht.h he Kd (hC w hw) hq
  ·exact absurd rfl (hno _ hp)
  ·simp only [execOp,hx,hi,Sem.run_bind,hr,Result.andThen_ok,Sem.run_pure]
theorem jD {fn:Func} {R:Ending→World→Prop} {t e g sz bytes:Nat} {z:Value} {T:TypeId} {cs:List Value} {u:TypeDesc} [hu:Und P e u] [he:ElT P e sz bytes true z] (h:fn.results= #[.cell t e]) (ht:Nat.blt t n=true) (hp:F t=.pointer (some ⟨g,0,none⟩)) (hb:Bk w g T cs)
 (hd:Iz u=true) (hl:cs.length=sz) (k:R (.returned (.agg cs.toArray)) w):Qfn P n fn R .ret F w:=by
 unfold Qfn
 refine ⟨.agg cs.toArray,results_cell_row h _ w g T cs.toArray (0,0) u ?_ hb hu.h (by cases u<;>first|rfl|cases hd) ?_,k⟩
 ·rw [Array.getD_eq_getD_getElem?,tH,if_pos (by rwa [Nat.blt_eq] at ht)];exact hp
 ·obtain ⟨i,h1,h2,_⟩:=he.inf
  rw [h1,Option.map_some,h2,List.size_toArray,hl]
end
structure LLs {β γ:Type} (f:β→List Value) (g:β→Value) (xs:β→List γ) (h:γ→Value) (te e sz:Nat) (Pb:Nat→Prop) (w:World) (v:Value) (bs:List β):Prop where
 row:ny (flat f) te sz Pb (fun _=>False) w v bs
 el: ∀b∈bs,ny (one h) e 1 Pb (fun _=>False) w (g b) (xs b)
 xY: ∀b∈bs,Sep (g b) v
 sep: ∀(i j:Nat) (b c:β),i≠j→bs[i]? =some b→bs[j]? =some c→Sep (g b) (g c)
section
variable {β γ:Type} {f:β→List Value} {g:β→Value} {xs:β→List γ} {h:γ→Value} {te e sz:Nat} {Pb Pb' M:Nat→Prop} {w w':World} {v:Value} {bs:List β}
theorem jE:LLs f g xs h te e sz Pb w (.slice none 0 0) []:=⟨bK,by simp,by simp,fun i j b c _ hb=>by simp at hb⟩
theorem LLs.chg (H:LLs f g xs h te e sz Pb w v bs) (c:Chg M w w') (hd: ∀k,Pb k→ ¬M k):LLs f g xs h te e sz Pb w' v bs:=
 ⟨H.row.chg (mV f) c fun k hk=>hd k (H.row.lt hk).1,fun b hb=>(H.el b hb).chg (mZ h) c fun k hk=>hd k ((H.el b hb).lt hk).1,H.xY,H.sep⟩
theorem LLs.new (H:LLs f g xs h te e sz Pb w v bs) (c:New w w'):LLs f g xs h te e sz Pb w' v bs:=H.chg c fun _ _ e=>e
theorem LLs.mono (H:LLs f g xs h te e sz Pb w v bs) (hP: ∀b,b<w.heap.size→Pb b→Pb' b):LLs f g xs h te e sz Pb' w v bs:=
 ⟨H.row.mono (nP f) hP (fun _ _ e=>e),fun b hb=>(H.el b hb).mono (nD h) hP (fun _ _ e=>e),H.xY,H.sep⟩
theorem LLs.snoc (H:LLs f g xs h te e sz Pb w v bs) {b:β} {v':Value} (hr:ny (flat f) te sz Pb (fun _=>False) w' v' (bs++ [b])) (c:Chg (fun k=>v.ownBlock=some k) w w') (lie:v'.ownBlock=v.ownBlock∨ ∀k,v'.ownBlock=some k→w.heap.size≤k)
 (hb:ny (one h) e 1 Pb (fun _=>False) w (g b) (xs b)) (hs:Sep (g b) v) (hn: ∀c∈bs,Sep (g b) (g c)):LLs f g xs h te e sz Pb w' v' (bs++ [b]):=by
 have sg: ∀u ys,ny (one h) e 1 Pb (fun _=>False) w u ys→Sep u v→Sep u v':=fun u ys ho s k h1 h2=>by
  rcases lie with e|e
  ·exact s k h1 (e▸h2)
  ·have:=e k h2;have:=(ho.lt h1).2;omega
 refine ⟨hr,fun c hc=>?_,fun c hc=>?_,fun i j p q hij hp hq=>?_⟩
 ·rcases List.mem_append.1 hc with hc|hc
  ·exact (H.el c hc).yJ (mZ h) ‹_› (H.xY c hc)
  ·rw [List.mem_singleton.1 hc];exact hb.yJ (mZ h) ‹_› hs
 ·rcases List.mem_append.1 hc with hc|hc
  ·exact sg _ _ (H.el c hc) (H.xY c hc)
  ·rw [List.mem_singleton.1 hc];exact sg _ _ hb hs
 ·rw [List.getElem?_append] at hp hq
  split at hp<;>split at hq
  ·exact H.sep i j p q hij hp hq
  ·have e1:q=b:=by
    have:=List.mem_of_getElem? hq
    simpa using this
   subst e1
   exact (hn p (List.mem_of_getElem? hp)).symm
  ·have e1:p=b:=by
    have:=List.mem_of_getElem? hp
    simpa using this
   subst e1
   exact hn q (List.mem_of_getElem? hq)
  ·rename_i h1 h2
   exfalso
   have:=(List.getElem?_eq_some_iff.1 hp).1
   have:=(List.getElem?_eq_some_iff.1 hq).1
   simp at*
   omega
theorem LLs.set (H:LLs f g xs h te e sz Pb w v bs) {i:Nat} {b b':β} {w1:World} (hi:bs[i]? =some b) (ho:ny (one h) e 1 Pb (fun _=>False) w1 (g b') (xs b')) (c1:Chg (fun k=>(g b).ownBlock=some k) w w1)
 (lie:(g b').ownBlock=(g b).ownBlock∨ ∀k,(g b').ownBlock=some k→w.heap.size≤k) (hr:ny (flat f) te sz Pb (fun _=>False) w' v (bs.set i b')) (c2:Chg (fun k=>v.ownBlock=some k) w1 w'):LLs f g xs h te e sz Pb w' v (bs.set i b'):=by
 have hb:=List.mem_of_getElem? hi
 have s': ∀u:Value,Sep (g b) u→(∀k,u.ownBlock=some k→k<w.heap.size)→Sep (g b') u:=fun u s hu k h1 h2=>by
  rcases lie with e|e
  ·exact s k (e▸h1) h2
  ·have:=e k h1;have:=hu k h2;omega
 have hvl: ∀k,v.ownBlock=some k→k<w.heap.size:=fun k hk=>(H.row.lt hk).2
 have hil:=(List.getElem?_eq_some_iff.1 hi).1
 have hmem: ∀j c,(bs.set i b')[j]? =some c→(j=i∧c=b')∨(j≠i∧bs[j]? =some c):=fun j c hc=>by
  rw [List.getElem?_set] at hc
  split at hc
  ·rename_i e;subst e
   cases hc
   exact .inl ⟨rfl,rfl⟩
  ·rename_i e;exact .inr ⟨fun e2=>e e2.symm,hc⟩
 refine ⟨hr,fun c hc=>?_,fun c hc=>?_,fun p q x y hpq hx hy=>?_⟩
 ·obtain ⟨j,hj⟩:=List.mem_iff_getElem?.1 hc
  rcases hmem j c hj with ⟨rfl,rfl⟩|⟨hne,hj⟩
  ·exact ho.yJ (mZ h) c2 (s' v (H.xY b hb) hvl)
  ·have hc':=List.mem_of_getElem? hj
   exact ((H.el c hc').yJ (mZ h) c1 (H.sep j i c b hne hj hi)).yJ (mZ h) c2 (H.xY c hc')
 ·obtain ⟨j,hj⟩:=List.mem_iff_getElem?.1 hc
  rcases hmem j c hj with ⟨rfl,rfl⟩|⟨hne,hj⟩
  ·exact s' v (H.xY b hb) hvl
  ·exact H.xY c (List.mem_of_getElem? hj)
 ·rcases hmem p x hx with ⟨e1,e2⟩|⟨hp,hx1⟩<;>rcases hmem q y hy with ⟨e3,e4⟩|⟨hq,hy1⟩
  ·exact absurd (e1.trans e3.symm) hpq
  ·rw [e2]
   exact s' _ (H.sep i q b y (fun e=>hq e.symm) hi hy1) fun k hk=>((H.el y (List.mem_of_getElem? hy1)).lt hk).2
  ·rw [e4]
   exact (s' _ (H.sep i p b x (fun e=>hp e.symm) hi hx1) fun k hk=>((H.el x (List.mem_of_getElem? hx1)).lt hk).2).symm
  ·exact H.sep p q x y hpq hx1 hy1
end
end Go.Proofs.YtjecgaiaiophpaaGreatDoor.Wk
namespace Go.Proofs.YtjecgaiaiophpaaGreatDoor
open Go Wk
open Go.RowKit (Below)
attribute [local irreducible] Go.Calls
theorem zT: ∀(ws:List Nat) (s:List UInt8) (r:List Nat) (s':List UInt8),Ar ws s=some (r,s')→s'.length+4*ws.sum=s.length∧r.length=ws.length
 | [],s,r,s',h=>by simp [Ar] at h;obtain ⟨rfl,rfl⟩:=h;simp
 |w::ws,s,r,s',h=>by
  rw [Ar] at h
  split at h
  ·cases h
  ·obtain ⟨⟨r2,s2⟩,h1,h2⟩:=Option.map_eq_some_iff.1 h
   simp only [Prod.mk.injEq] at h2
   obtain ⟨rfl,rfl⟩:=h2
   have:=zT ws _ _ _ h1
   simp only [List.length_drop] at this
   simp only [List.sum_cons,List.length_cons]
   omega
theorem Ky {ws:List Nat} (hp:0<ws.sum): ∀(f g:Nat) (s:List UInt8),s.length≤f→s.length≤g→xQ ws f s=xQ ws g s
 |0,g,s,hf,_=>by
  obtain rfl:s=[]:=List.eq_nil_of_length_eq_zero (by omega)
  cases g<;>simp [xQ]
 |f+1,0,s,_,hg=>by
  obtain rfl:s=[]:=List.eq_nil_of_length_eq_zero (by omega)
  simp [xQ]
 |f+1,g+1,s,hf,hg=>by
  rw [xQ,xQ]
  split
  ·rfl
  ·rename_i hs
   have h0:0<s.length:=by cases s with|nil=>exact absurd rfl hs|cons=>simp
   cases h:Ar ws s with
   |none=>rfl
   |some q=>
    obtain ⟨r,s'⟩:=q
    have:=(zT ws s r s' h).1
    dsimp only
    rw [Ky hp f g s' (by omega) (by omega)]
theorem Qn (ws:List Nat):xR ws []=some []:=by simp [xR,xQ]
theorem FW {ws:List Nat} (hp:0<ws.sum) {s:List UInt8} (hs:s≠ []):xR ws s=match Ar ws s with
 |none=>none
 |some (r,s')=>(xR ws s').map (r:: ·):=by
 have h0:0<s.length:=by cases s with|nil=>exact absurd rfl hs|cons=>simp
 unfold xR
 obtain ⟨m,hm⟩: ∃m,s.length=m+1:=⟨s.length-1,by omega⟩
 rw [hm,xQ,if_neg hs]
 cases h:Ar ws s with
 |none=>rfl
 |some q=>
  obtain ⟨r,s'⟩:=q
  have:=(zT ws s r s' h).1
  dsimp only
  rw [Ky hp m s'.length s' (by omega) (Nat.le_refl _)]
theorem OM: ∀(ws:List Nat) (s:List UInt8) (r:List Nat) (s':List UInt8),(∀w∈ws,w≤2)→Ar ws s=some (r,s')→ ∀x∈r,x<18446744073709551616
 | [],s,r,s',_,h,x,hx=>by simp [Ar] at h;obtain ⟨rfl,rfl⟩:=h;simp at hx
 |w::ws,s,r,s',hw,h,x,hx=>by
  rw [Ar] at h
  split at h
  ·cases h
  ·obtain ⟨⟨r2,s2⟩,h1,h2⟩:=Option.map_eq_some_iff.1 h
   simp only [Prod.mk.injEq] at h2
   obtain ⟨rfl,rfl⟩:=h2
   rcases List.mem_cons.1 hx with rfl|hx
   ·have h3:=xP (s.take (4*w))
    have h4:=Fz (s.take (4*w)).length 8 (by have:=hw w (by simp);simp only [List.length_take];omega)
    have h8:(256:Nat)^8=18446744073709551616:=by decide
    omega
   ·exact OM ws _ _ _ (fun w hw'=>hw w (List.mem_cons_of_mem _ hw')) h1 x hx
theorem Kz {ws:List Nat} (hw: ∀w∈ws,w≤2): ∀(f:Nat) (s:List UInt8) (rs:List (List Nat)),xQ ws f s=some rs→(∀r∈rs,r.length=ws.length∧ ∀x∈r,x<18446744073709551616)∧rs.length≤f
 |0,s,rs,h=>by
  rw [xQ] at h
  split at h
  ·cases h;simp
  ·cases h
 |f+1,s,rs,h=>by
  rw [xQ] at h
  split at h
  ·cases h;simp
  ·cases hr:Ar ws s with
   |none=>rw [hr] at h;cases h
   |some q=>
    obtain ⟨r,s'⟩:=q
    rw [hr] at h
    dsimp only at h
    obtain ⟨rs',h1,rfl⟩:=Option.map_eq_some_iff.1 h
    obtain ⟨i1,i2⟩:=Kz hw f s' rs' h1
    refine ⟨fun r' hr'=>?_,by simp only [List.length_cons];omega⟩
    rcases List.mem_cons.1 hr' with rfl|hr'
    ·exact ⟨(zT ws s r' s' hr).2,OM ws s r' s' hw hr⟩
    ·exact i1 r' hr'
theorem xZ {ws:List Nat} (hw: ∀w∈ws,w≤2) {s:List UInt8} {rs:List (List Nat)} (h:xR ws s=some rs):(∀r∈rs,r.length=ws.length∧ ∀x∈r,x<18446744073709551616)∧rs.length≤s.length:=Kz hw _ _ _ h
def rRow:Rel (List Nat):=fun Pb w xs cs=> ∃v,cs=[v]∧RdS (Wk.one w64) 1 Pb w v xs
theorem Aj:Stable rRow:=jW (nT _) 1
theorem wX:AY rRow:=AY.RdS (nD _) 1
theorem U3:qG rRow 1:=⟨Aj,wX,fun Pb w x cs ⟨v,e,h⟩ _ c hc=>by
 subst e
 obtain ⟨a,cap,rfl,_⟩:=h.form
 simp at hc;subst hc;rfl⟩
theorem OO:qG (Wk.one w64) 1:=tu _ fun _=>rfl
def KA (w w':World) (r:Value) (o:Option (List (List Nat))):Prop:= ∃v e,r=.tuple #[v,vi e]∧match o with
 |none=>e=4∧v=.slice none 0 0
 |some rs=>e=0∧RdS rRow 1 (fun b=>w.heap.size≤b) w' v rs
theorem H8 {Pb:Nat→Prop} {w:World} {v:Value} {s:List UInt8} {ws:List Nat} (h:RdS (Wk.one viN) 1 Pb w v ws) (hs:s.length≤1024) (hw: ∀x∈ws,x≤2) (hp:0<ws.sum) (hwl:ws.length≤3):
 Calls Tryz.prog 298 #[vs s,v] w (Ret fun r w'=>KA w w' r (xR ws s)∧New w w'):=by
 obtain ⟨a,cap,rfl,hc1,hc2⟩:=h.form
 refine mQ Tryz.func298 rfl Tryz.ntmps298 rfl ?_
 (repeat' (first|refine aa1 ?_|refine af ?_|refine ah ?_|refine aj ?_|refine ai ?_|refine Wc.block ?_))
 refine aU (σ:=List UInt8×Value×List (List Nat)) (fun q=>[(0,vs q.1),(1,.slice a ws.length cap),(6,q.2.1)])
  (fun q W=>q.1.length+q.2.2.length≤1024∧xR ws s=(xR ws q.1).map (q.2.2++ ·)∧ny rRow 392 1 (fun b=>w.heap.size≤b) (fun b=>w.heap.size≤b) W q.2.1 q.2.2∧New w W) (fun q=>q.1.length) (s,.slice none 0 0,[]) ⟨rfl,rfl,rfl,trivial⟩
  ⟨by simp;omega,by simp,bK,aV _ _⟩ ?_
 rintro ⟨t,vo,rs⟩ G W ⟨hlen,hM,own,nW⟩
 dsimp only at hlen hM own nW
 simp only [oO]
 obtain ⟨oa,oc,rfl,_,_⟩:=own.form
 (repeat' (first|refine aa0 ?_|refine aa1 ?_|refine af ?_|refine aO rfl ?_|refine eu rfl ?_|refine ah ?_|refine aj ?_|refine ai ?_|refine Wc.block ?_|refine Wc.skip ?_|refine aQ ?_|refine ax ?_|refine aS ?_|refine aP ?_|refine aT ?_|refine aa3 ?_|refine aa4 ?_|refine bM rfl rfl (fun _=>?_) (fun _=>?_)))
 ·have ht:t≠ []:=by intro e;subst e;simp at*
  have hWl:=nW.size
  refine aU (σ:=Nat×List UInt8×Value×List Nat) (fun q=>[(0,vs q.2.1),(1,.slice a ws.length cap),(6,.slice oa rs.length oc),(7,q.2.2.1),(16,.slice a ws.length cap),(17,vi ws.length),(18,vi q.1)])
   (fun q W'=>q.1≤ws.length∧q.2.1.length≤t.length∧q.2.2.2.length=q.1∧Ar ws t=(Ar (ws.drop q.1) q.2.1).map (fun p=>(q.2.2.2++p.1,p.2))∧ny (Wk.one w64) 196 1 (fun b=>W.heap.size≤b) NoB W' q.2.2.1 q.2.2.2∧New W W')
   (fun q=>ws.length-q.1) (0,t,.slice none 0 0,[]) ⟨rfl,rfl,rfl,rfl,rfl,rfl,rfl,trivial⟩ ⟨Nat.zero_le _,Nat.le_refl _,rfl,by simp,bK,aV _ _⟩ ?_
  rintro ⟨k,u,vr,ns⟩ G2 W2 ⟨hk,hul,hnl,hR,Bz,n2⟩
  dsimp only at hk hul hnl hR Bz n2
  simp only [oO]
  obtain ⟨ra,rc,rfl,_,_⟩:=Bz.form
  (repeat' (first|refine aa0 ?_|refine af ?_|refine ah ?_|refine aj ?_|refine ai ?_|refine Wc.block ?_|refine Wc.skip ?_|refine aQ ?_|refine aS ?_|refine aP ?_|refine aT ?_|refine aa3 ?_|refine aa4 ?_|refine aa9 (fun _=>?_) (fun _=>?_)))
  ·obtain ⟨x,hx⟩:=nN ws (k:=k) (by omega)
   have hxw:=hw x (List.mem_of_getElem? hx)
   refine bY (h.keep (nT _) (New.trans nW n2).keep) rfl rfl (by omega) hx fun b o hcell=>?_
   refine au (u:=vi x) rfl hcell ?_
   have hdr:ws.drop k=x::ws.drop (k+1):=drop_cons hx
   rw [hdr,Ar] at hR
   (repeat' (first|refine aa0 ?_|refine aa1 ?_|refine af ?_|refine eu rfl ?_|refine ah ?_|refine aj ?_|refine ai ?_|refine Wc.skip ?_|refine ax ?_|refine aN ?_|refine bf ?_|refine bG ?_|refine aa3 ?_|refine aa4 ?_|refine gK rfl rfl (by omega) (by omega) ?_|refine aa9 (fun _=>?_) (fun _=>?_)))
   ·rw [if_pos (by omega)] at hR
    rw [hM,FW hp ht,hR]
    exact aW rfl rfl rfl ⟨_,rfl,⟨_,_,rfl,rfl,rfl⟩,New.trans nW n2⟩
   ·rw [if_neg (by omega)] at hR
    have hux:((4:Int)*(x:Int)).toNat=4*x:=by omega
    refine jh (l:=u) rfl rfl (by omega) (by omega) ?_
    rw [hux]
    skip
    refine iQ (l:=u.take (4*x)) rfl (by simp only [maxLen,List.length_take];omega) fun w3 ac7 C fr hC htk hCs n3 s3 hr3=>?_
    generalize hbb:u.take (4*x)=bs at hr3
    have hbl:bs.length=4*x:=by rw [←hbb,List.length_take];omega
    (repeat' (first|refine aa0 ?_|refine af ?_|refine aO rfl ?_|refine ah ?_|refine Wc.block ?_))
    refine aU (σ:=Nat) (fun i=>[(0,vs u),(1,.slice a ws.length cap),(6,.slice oa rs.length oc),(7,.slice ra ns.length rc),(9,vi x),(10,w64 (number (bs.take i))),(16,.slice a ws.length cap),(17,vi ws.length),(18,vi k),(31,.slice (some ⟨W2.heap.size,0,none⟩) bs.length ac7),(32,vi bs.length),(33,vi i)])
     (fun i W'=>i≤bs.length∧W'=w3) (fun i=>bs.length-i) 0 ⟨rfl,rfl,rfl,rfl,rfl,rfl,rfl,rfl,rfl,rfl,rfl,rfl,trivial⟩ ⟨Nat.zero_le _,rfl⟩ ?_
    rintro i G3 _ ⟨hi,rfl⟩
    simp only [oO]
    (repeat' (first|refine aa0 ?_|refine af ?_|refine ah ?_|refine aj ?_|refine ai ?_|refine Wc.block ?_|refine Wc.skip ?_|refine aQ ?_|refine aS ?_|refine aP ?_|refine aT ?_|refine aa3 ?_|refine aa4 ?_|refine aa9 (fun _=>?_) (fun _=>?_)))
    ·obtain ⟨c,hc⟩:=WL bs (k:=i) (by omega)
     have hn:=xP (bs.take i)
     have hp7:=Fz (bs.take i).length 7 (by simp only [List.length_take];omega)
     have hcl:=c.toNat_lt
     have h7:(256:Nat)^7=72057594037927936:=by decide
     refine bY (f:=by8) hr3 rfl rfl (by omega) (by rw [Int.toNat_natCast];exact hc) fun b o hcell=>?_
     refine au (u:=by8 c) rfl hcell ?_
     (repeat' (first|refine aa0 ?_|refine aa1 ?_|refine af ?_|refine ah ?_|refine ai ?_))
     refine jd rfl rfl (by omega) ?_
     (repeat' (first|refine aa0 ?_|refine dP rfl ?_))
     have e1:IntKind.u64.wrap ((number (bs.take i):Int)*2^(min (8:Int).toNat IntKind.u64.bits))=((number (bs.take i)*2^8:Nat):Int):=by
      rw [show (2:Int)^(min (8:Int).toNat IntKind.u64.bits)=256 from by decide,show (2:Nat)^8=256 from by decide,A7 rfl (by omega) (by simp only [IntKind.bits];omega)]
      omega
     have e2:IntKind.u64.wrap (c.toNat:Int)=(c.toNat:Int):=A7 rfl (by omega) (by simp only [IntKind.bits];omega)
     refine Wl.orU (number (bs.take i)) c.toNat 8 rfl e1 e2 (by omega) (by simp only [IntKind.bits];omega) rfl rfl ?_
     (repeat' (first|refine aa0 ?_|refine aa1 ?_|refine af ?_|refine ah ?_|refine ai ?_|refine aJ ?_|refine aa7 ?_))
     refine aK (i+1) ⟨rfl,rfl,rfl,rfl,rfl,?_,rfl,rfl,rfl,rfl,rfl,rfl,trivial⟩ ⟨by omega,rfl⟩ (by omega)
     show Value.int _ _=Value.int _ _
     rw [Eh hc]
    ·obtain rfl:i=bs.length:=by omega
     rw [List.take_length]
     refine dF (R:=Wk.one w64) (y:=number bs) OO (Bz.new (mZ _) n3) rfl rfl rfl rfl rfl (by omega) (by omega) (by simp only [maxLen];omega) (by omega) rfl rfl fun v4 w4 p own4 c4 lie=>?_
     (repeat' (first|refine aa0 ?_|refine aa1 ?_|refine af ?_|refine ah ?_|refine ai ?_|refine gK rfl rfl (by omega) (by omega) ?_))
     refine ji (l:=u) rfl rfl (by omega) (by omega) ?_
     rw [hux]
     (repeat' (first|refine aa0 ?_|refine aa1 ?_|refine af ?_|refine ah ?_|refine ai ?_|refine aJ ?_|refine aa7 ?_))
     refine aK (k+1,u.drop (4*x),v4,ns++ [number bs]) ⟨rfl,rfl,rfl,rfl,rfl,rfl,rfl,trivial⟩ ⟨by dsimp only;omega,by simp only [List.length_drop];omega,by simp;omega,?_,own4.mono OO.mo (fun b hb e=>by rcases e with e|e;exact e;have:=n2.size;have:=n3.size;omega) (fun _ _ e=>e),Chg.trans (New.trans n2 n3) c4 fun b hb e=>by have:=(Bz.lt e).1;omega⟩ (by dsimp only;omega)
     rw [hR,hbb]
     simp only [Option.map_map]
     congr 1
     funext p
     simp
  ·obtain rfl:k=ws.length:=by omega
   rw [List.drop_length] at hR
   simp only [Ar,Option.map_some,List.append_nil] at hR
   have hs2:=n2.size
   have hlu:=zT ws t ns u hR
   have qW:ny rRow 392 1 (fun b=>w.heap.size≤b∧b<W.heap.size) (fun b=>w.heap.size≤b∧b<W.heap.size) W (.slice oa rs.length oc) rs:=own.mono wX (fun b hb e=>⟨e,hb⟩) (fun b hb e=>⟨e,hb⟩)
   have vP:=(qW.keep Aj (n2.keep) (n2.keep)).mono (Pb':=fun b=>w.heap.size≤b) (Pe':=fun b=>w.heap.size≤b) wX (fun b hb e=>e.1) (fun b hb e=>e.1)
   refine dF (R:=rRow) (y:=ns) U3 vP rfl rfl rfl rfl ⟨_,rfl,(Bz.rd (nD _)).mono (nD _) fun b hb e=>?_⟩ (by omega) (by omega) (by simp only [maxLen];omega) (by omega) rfl rfl fun v4 w4 p own4 c4 lie=>?_
   ·rcases e with e|e
    ·exact ⟨by omega,fun e2=>by have:=(qW.lt e2).1;omega⟩
    ·exact e.elim
   (repeat' (first|refine aa1 ?_|refine af ?_|refine aJ ?_))
   refine aK (u,v4,rs++ [ns]) ⟨rfl,rfl,rfl,trivial⟩ ⟨by simp;omega,?_,own4.mono wX (fun b hb e=>by rcases e with e|e;exact e;have:=nW.size;omega) (fun _ _ e=>e),Chg.trans (New.trans nW n2) c4 fun b hb e=>by have:=(qW.lt e).1;omega⟩ (by dsimp only;omega)
   rw [hM,FW hp ht,hR]
   dsimp only
   simp only [Option.map_map]
   congr 1
   funext p
   simp
 ·have ht:t=[]:=by
   cases t with
   |nil=>rfl
   |cons x r=>simp at*;omega
  subst ht
  rw [Qn] at hM
  simp only [Option.map_some,List.append_nil] at hM
  rw [hM]
  exact aW rfl rfl rfl ⟨_,rfl,⟨_,_,rfl,rfl,(own.rd wX).mono wX fun b _ e=>by rcases e with e|e<;>exact e⟩,nW⟩
end Go.Proofs.YtjecgaiaiophpaaGreatDoor
namespace Go.Proofs.YtjecgaiaiophpaaGreatDoor.Wk
open Go Go.RowKit
section
variable {P:Program} {n:Nat} {ds:List Deferred} {Q:Po} {F:Fr} {ops:List Oper} {C:World→Prop}
theorem gu {w:World} {id:Nat} (qs cs:List Nat) {lq lc:List Oper} (hm:P.follows .mixedOrders=true) (hB:(VQ ops qs cs&&(qs.all (fun k=>decide (k<ops.length))&&(cs.all (fun k=>decide (k<ops.length))&& !(pick ops cs).isEmpty)))=true) (hq':pick ops qs=lq) (hc':pick ops cs=lc)
 (C:World→Prop) (hC:C w.drew) (h:Wq P n ds C (fun F'=>Wch P n ds C Q ops lc F' w.drew) ops lq F):Wc P n ds Q (.region id ops.toArray true) F w:=by
 unfold Wc
 subst hq'
 subst hc'
 simp only [Bool.and_eq_true] at hB
 obtain ⟨hB,hq,hc,hne⟩:=hB
 replace hq:=Fb hq
 replace hc:=Fb hc
 simp only [VQ,Bool.and_eq_true,beq_iff_eq] at hB
 obtain ⟨⟨⟨⟨h1,h2⟩,h3⟩,h4⟩,h5⟩:=hB
 refine wp_region_any hm ?_
 refine A8 (last:=cs.getLast?.getD 0) (C:=C) _ _ _ _ ?_
 have h0:zl ops.toArray (Array.replicate ops.toArray.size false):=by
  intro j o hj
  exfalso
  simp only [Array.getD_eq_getD_getElem?,Array.getElem?_replicate] at hj
  split at hj<;>simp at hj
 have HL: ∀listed:Array Bool,zl ops.toArray listed→cs.getLast?.getD 0∈Region.ready .any ops.toArray listed→ ∀i,i≠cs.getLast?.getD 0→i<ops.toArray.size→listed.getD i true=true:=by
  intro listed hcl hr i hil hi2
  by_cases hi:i<listed.size
  ·have:=List.all_eq_true.1 h5 i (List.mem_range.2 hi2)
   have hmem:i∈ahead ops.toArray ops.toArray.size [cs.getLast?.getD 0]:=by simpa using this
   rcases wo hcl hr _ _ (by simp) i hmem with e|e
   ·exact absurd e hil
   ·simpa [Array.getD_eq_getD_getElem?,Array.getElem?_eq_getElem hi] using e
  ·simp [Array.getD_eq_getD_getElem?,Array.getElem?_eq_none (Nat.not_lt.1 hi)]
 have:=BV (P:=P) (C:=C) (Q:=QA n ds Q) (Region.noSelect_spec h1) HL cs.length qs _ (Array.replicate ops.toArray.size false) (act n ds F) w.drew (by simpa using hq) h2 h0 hC ?_
 ·rw [h4] at this;exact this
 ·unfold Wq at h
  refine yH (fun a' ha=>?_) _ _ h
  obtain ⟨F',rfl,hk⟩:=ha
  exact Cb cs _ _ F' _ hc h3 (by intro e;rw [e] at hne;cases hne) hk
end
end Go.Proofs.YtjecgaiaiophpaaGreatDoor.Wk
namespace Go.Proofs.YtjecgaiaiophpaaGreatDoor
open Go Wk
open Go.RowKit (Below)
attribute [local irreducible] Go.Calls
theorem Grw.drew (w:World):Grw w w.drew:=⟨1, #[],by rw [Sort.grow_empty];rfl⟩
theorem Grw.refl (w:World):Grw w w:=⟨0, #[],by rw [Sort.grow_empty];rfl⟩
theorem Grw.alloc {w w':World} (h:Grw w w') (o:Obj):Grw w (w'.alloc o):=by
 obtain ⟨q,os,rfl⟩:=h
 refine ⟨q,os.push o,?_⟩
 simp [Sort.grow,World.alloc]
section
variable {P:Program} {n:Nat} {ds:List Deferred} {Q:Po} {F:Fr} {w:World} {ops rest:List Oper} {d:Nat} {ty:TypeId} {pos:String} {aft:Array Edge}
theorem iU {N:Nat} {ps:List (Nat×Operand)} {t e:TypeId} {bytes:Nat} {agg:Bool} {z:Value} {us:List Int} [ht:Und P t (.slice e)] [he:ElT P e 1 bytes agg z] (hN:us.length=N) (hps:ps.map (fun p=>(p.1,ev n F p.2))=JQ 0 (us.map vi))
 (h0:0<us.length) (h1:us.length≤1000) (c: ∀v o,ny (Wk.one vi) e 1 (fun b=>w.heap.size≤b) NoB (w.alloc o) v us→Wl P n ds Q ops rest (upd F d v) (w.alloc o)):
 Wl P n ds Q ops (⟨some d,.buildSlice t N ps.toArray,ty,pos,aft,none⟩::rest) F w:=by
 subst hN
 have hr:=ve (P:=P) (w:=w) (us:=us.map vi) ht.h he (by intro u hu;obtain ⟨x,_,rfl⟩:=List.mem_map.1 hu;rfl) (by simpa using h0) (by simp;omega)
 have hfl: ∀us:List Int,(us.map vi).flatMap (fun u=>u.cells.toList)=us.map vi:=by
  intro us
  induction us with
  |nil=>rfl
  |cons x r ih=>rw [List.map_cons,List.flatMap_cons,ih];rfl
 rw [hfl,List.length_map] at hr
 refine Wl.val (w':=w.alloc (.cells (us.map vi).toArray e)) ?_ (c (.slice (some ⟨w.heap.size,0,none⟩) us.length us.length) _ ?_)
 ·simp only [execOp,List.map_toArray,hps,Sem.run_bind,hr,Result.andThen_ok,Sem.run_pure]
 ·refine gQ (m:=us.length) rfl ⟨by simp,.inr ⟨w.heap.size,us.length,(us.map vi).toArray,rfl,Nat.le_refl _,heap_alloc_new w _,Nat.le_refl _,by simp only [maxLen];omega,by simp,by rw [Nat.mul_one];exact List.take_of_length_le (by simp)⟩⟩
end
theorem H9 {cs:List Cd} {t:List Nd} {i k:Nat} (hi:i<t.length) (h:qI cs t i=some k): ∃j c,(allM cs t)[i]? =some (some (k,j))∧cs[k]? =some c∧Dy cs t i=c.level:=by
 unfold qI at h
 obtain ⟨⟨k',j⟩,hf,e⟩:=Option.map_eq_some_iff.1 h
 simp only at e
 subst e
 obtain ⟨c,hc⟩:=nN cs (JV hf).1
 refine ⟨j,c,?_,hc,?_⟩
 ·unfold allM
  rw [List.getElem?_map,List.getElem?_range hi,Option.map_some,hf]
 ·unfold Dy qI
  rw [hf]
  simp only [Option.map_some]
  rw [List.getD_eq_getElem?_getD,hc]
  rfl
theorem Nk {Pc Pa Pp:Nat→Prop} {w:World} {bc ba bp:Nat} {vc va vp:Value} {cs:List Cd} {t:List Nd} {a b ka kb:Nat} (hbc:Bk w bc 23 [vc]) (hba:Bk w ba 109 [va]) (hbp:Bk w bp 24 [vp])
 (hc:RdS rCd 7 Pc w vc cs) (ha:RdS Na 2 Pa w va (allM cs t)) (hp:RdS (Wk.one vs) 1 Pp w vp ((List.range t.length).map (oz t))) (hia:a<t.length) (hib:b<t.length) (hka:qI cs t a=some ka) (hkb:qI cs t b=some kb) (hcl:cs.length≤64) (htl:t.length≤512):
 Calls Tryz.prog 199 #[vi a,vi b,.pointer (some ⟨bc,0,none⟩),.pointer (some ⟨ba,0,none⟩),.pointer (some ⟨bp,0,none⟩)] w (Ret fun r w'=>r=vi (qN (Dy cs t) (oz t) a b)∧Grw w w'):=by
 obtain ⟨ac,cc,rfl,_,_⟩:=hc.form
 obtain ⟨aa,ca,rfl,_,_⟩:=ha.form
 obtain ⟨ap,cp,rfl,_,_⟩:=hp.form
 obtain ⟨x2,ca',xm,xc,xl⟩:=H9 hia hka
 obtain ⟨y2,cb',ym,yc,yl⟩:=H9 hib hkb
 have afY:=(List.getElem?_eq_some_iff.1 xc).1
 have afZ:=(List.getElem?_eq_some_iff.1 yc).1
 refine mQ Tryz.func199 rfl Tryz.ntmps199 rfl ?_
 (repeat' (first|refine aa1 ?_|refine af ?_|refine ah ?_|refine aj ?_|refine ai ?_))
 refine gu [0,1,2,3,4,5,6,7,8,9,10,11,12,13,14,15,16,17,19,20,21,22,23,24,25,26] [18,27,28,29,30] rfl (by kernel_rfl) (by simp only [pick,List.getElem?_cons_succ,List.getElem?_cons_zero];rfl) (by simp only [pick,List.getElem?_cons_succ,List.getElem?_cons_zero];rfl) (Grw w) (Grw.drew w) ?_
 skip
 refine aB (u:=.slice ac cs.length cc) rfl (fun w' hw=>(hbc.chg hw.new fun e=>e).cell (o:=0) rfl) ?_
 skip
 refine aB (u:=.slice aa (allM cs t).length ca) rfl (fun w' hw=>(hba.chg hw.new fun e=>e).cell (o:=0) rfl) ?_
 (repeat' (refine pF ?_))
 refine dD (j:=a) (y:=some (ka,x2)) ha (fun w' hw=>hw.new.keep) rfl rfl (by omega) (by rw [Int.toNat_natCast];exact xm) fun bb off cs' hcl hR hat=>?_
 obtain rfl:cs'=xH (some (ka,x2)):=hR
 (repeat' (refine pK ?_))
 refine aB (u:=vi ka) rfl (fun w' hw=>(hat w' hw).get 0 rfl) ?_
 clear hat
 skip
 refine dD (j:=ka) (y:=ca') hc (fun w' hw=>hw.new.keep) rfl rfl (by omega) (by rw [Int.toNat_natCast];exact xc) fun bb off cs' hcl hR hat=>?_
 obtain ⟨af0,rfl,_⟩:=hR
 (repeat' (refine pK ?_))
 refine aB (u:=.int .u8 ca'.level) rfl (fun w' hw=>(hat w' hw).get 2 rfl) ?_
 clear hat
 skip
 refine aB (u:=.slice ac cs.length cc) rfl (fun w' hw=>(hbc.chg hw.new fun e=>e).cell (o:=0) rfl) ?_
 skip
 refine aB (u:=.slice aa (allM cs t).length ca) rfl (fun w' hw=>(hba.chg hw.new fun e=>e).cell (o:=0) rfl) ?_
 (repeat' (refine pF ?_))
 refine dD (j:=b) (y:=some (kb,y2)) ha (fun w' hw=>hw.new.keep) rfl rfl (by omega) (by rw [Int.toNat_natCast];exact ym) fun bb off cs' hcl hR hat=>?_
 obtain rfl:cs'=xH (some (kb,y2)):=hR
 (repeat' (refine pK ?_))
 refine aB (u:=vi kb) rfl (fun w' hw=>(hat w' hw).get 0 rfl) ?_
 clear hat
 skip
 refine dD (j:=kb) (y:=cb') hc (fun w' hw=>hw.new.keep) rfl rfl (by omega) (by rw [Int.toNat_natCast];exact yc) fun bb off cs' hcl hR hat=>?_
 obtain ⟨af2,rfl,_⟩:=hR
 (repeat' (refine pK ?_))
 refine aB (u:=.int .u8 cb'.level) rfl (fun w' hw=>(hat w' hw).get 2 rfl) ?_
 clear hat
 skip
 refine aB (u:=.slice ap ((List.range t.length).map (oz t)).length cp) rfl (fun w' hw=>(hbp.chg hw.new fun e=>e).cell (o:=0) rfl) ?_
 (repeat' (refine pF ?_))
 refine dD (j:=a) (y:=oz t a) hp (fun w' hw=>hw.new.keep) rfl rfl (by omega) (by rw [Int.toNat_natCast,List.getElem?_map,List.getElem?_range hia];rfl) fun bb off cs' hcl hR hat=>?_
 obtain rfl:cs'=[vs (oz t a)]:=hR
 skip
 refine aB (u:=vs (oz t a)) rfl (fun w' hw=>(hat w' hw).get 0 rfl) ?_
 clear hat
 skip
 refine aB (u:=.slice ap ((List.range t.length).map (oz t)).length cp) rfl (fun w' hw=>(hbp.chg hw.new fun e=>e).cell (o:=0) rfl) ?_
 (repeat' (refine pF ?_))
 refine dD (j:=b) (y:=oz t b) hp (fun w' hw=>hw.new.keep) rfl rfl (by omega) (by rw [Int.toNat_natCast,List.getElem?_map,List.getElem?_range hib];rfl) fun bb off cs' hcl hR hat=>?_
 obtain rfl:cs'=[vs (oz t b)]:=hR
 skip
 refine aB (u:=vs (oz t b)) rfl (fun w' hw=>(hat w' hw).get 0 rfl) ?_
 clear hat
 (repeat' (refine ak ?_))
 refine dK ?_
 refine ay (xG (a:=ca'.level) (b:=cb'.level)) rfl ?_
 rintro _ _ ⟨rfl,rfl⟩
 refine af ⟨rfl,Grw.drew w,?_⟩
 refine dK ?_
 refine ay (vO (a:=oz t a) (b:=oz t b)) rfl ?_
 rintro _ _ ⟨rfl,rfl⟩
 refine af ⟨rfl,Grw.drew w,?_⟩
 refine dK ?_
 refine iU (us:=[xF ca'.level cb'.level,CJ (oz t a) (oz t b)]) rfl rfl (by simp) (by simp) fun v o own=>?_
 obtain ⟨va,YC,rfl,_,_⟩:=own.form
 have hgr:Grw w (w.drew.alloc o):=(Grw.drew w).alloc o
 refine af ⟨rfl,hgr,?_⟩
 refine dK ?_
 refine ay (I4 (own.rd (nD _))) rfl ?_
 rintro _ _ ⟨rfl,rfl⟩
 refine af ⟨rfl,hgr,?_⟩
 refine Wch.last ?_
 have hk:=OG (Dy cs t) (oz t) a b
 rw [xl,yl] at hk
 rw [hk]
 (repeat' (first|refine aa1 ?_|refine af ?_|refine ah ?_|refine ax ?_))
 exact aA rfl rfl ⟨_,rfl,rfl,hgr⟩
end Go.Proofs.YtjecgaiaiophpaaGreatDoor
namespace Go.Proofs.YtjecgaiaiophpaaGreatDoor
open Go Wk
open Go.RowKit (Below)
attribute [local irreducible] Go.Calls
section
variable {P:Program} {n:Nat} {ds:List Deferred} {Q:Po} {F:Fr} {w:World} {ops rest:List Oper} {d:Nat} {ty:TypeId} {pos:String} {aft:Array Edge}
theorem jF {α:Type} {f:α→Value} {N:Nat} {ps:List (Nat×Operand)} {t e:TypeId} {bytes:Nat} {agg:Bool} {z:Value} {us:List α} (hf: ∀x,(f x).oneCell'=true) [ht:Und P t (.slice e)] [he:ElT P e 1 bytes agg z] (hN:us.length=N) (hps:ps.map (fun p=>(p.1,ev n F p.2))=JQ 0 (us.map f))
 (h0:0<us.length) (h1:us.length≤1000) (c: ∀v w',ny (Wk.one f) e 1 (fun b=>w.heap.size≤b) NoB w' v us→New w w'→Wl P n ds Q ops rest (upd F d v) w'):
 Wl P n ds Q ops (⟨some d,.buildSlice t N ps.toArray,ty,pos,aft,none⟩::rest) F w:=by
 subst hN
 have hr:=ve (P:=P) (w:=w) (us:=us.map f) ht.h he (by intro u hu;obtain ⟨x,_,rfl⟩:=List.mem_map.1 hu;have:=hf x;cases hx:f x<;>simp_all [Value.cells,Value.oneCell']) (by simpa using h0) (by simp;omega)
 have hfl: ∀us:List α,(us.map f).flatMap (fun u=>u.cells.toList)=us.map f:=by
  intro us
  induction us with
  |nil=>rfl
  |cons x r ih=>
   have:(f x).cells= #[f x]:=by have:=hf x;cases hx:f x<;>simp_all [Value.cells,Value.oneCell']
   rw [List.map_cons,List.flatMap_cons,ih,this];rfl
 rw [hfl,List.length_map] at hr
 refine Wl.val (w':=w.alloc (.cells (us.map f).toArray e)) ?_ (c (.slice (some ⟨w.heap.size,0,none⟩) us.length us.length) _ ?_ (Chg.alloc _ _ _))
 ·simp only [execOp,List.map_toArray,hps,Sem.run_bind,hr,Result.andThen_ok,Sem.run_pure]
 ·refine gQ (m:=us.length) rfl ⟨by simp,.inr ⟨w.heap.size,us.length,(us.map f).toArray,rfl,Nat.le_refl _,heap_alloc_new w _,Nat.le_refl _,by simp only [maxLen];omega,by simp,by rw [Nat.mul_one];exact List.take_of_length_le (by simp)⟩⟩
end
theorem ne4:(4:Int)≠0:=by decide
theorem ne6:(6:Int)≠0:=by decide
theorem OQ:(170:Int)≠0:=by decide
abbrev wP (x:Win):List Value:=[w64 x.1,w64 x.2]
theorem wY:qG (flat wP) 2:=qH _ (fun _=>rfl) fun x c hc=>by simp at hc;rcases hc with rfl|rfl<;>rfl
theorem FX {t:List Nd} {i:Nat} (hi:i<t.length):t[i]? =some (ndA t i):=by
 obtain ⟨x,hx⟩:=nN t hi
 rw [xE hx];exact hx
theorem CS {t:List Nd} (ht:nV t=true) {i:Nat} (hi:i<t.length): ∀nm v,val (ndA t i).oJ nm=some v→v.length≤1024:=fun nm v e=>yT ht hi (nm:=nm) e
theorem FY {w w':World} {r:Value} {o:Option (List (List Nat))} (h:KA w w' r o): ∃v e rs,r=.tuple #[v,vi e]∧RdS rRow 1 (fun b=>w.heap.size≤b) w' v rs∧(o=some rs∧e=0∨o=none∧rs=[]∧e=4):=by
 obtain ⟨v,e,rfl,h⟩:=h
 cases o with
 |none=>obtain ⟨rfl,rfl⟩:=h;exact ⟨_,_,[],rfl,bP,.inr ⟨rfl,rfl,rfl⟩⟩
 |some rs=>obtain ⟨rfl,h⟩:=h;exact ⟨_,_,rs,rfl,h,.inl ⟨rfl,rfl⟩⟩
theorem vX {ps:List Pr} {a s:Nat} (h:vg ps=some (a,s)):1≤a∧a≤2∧s≤2:=by
 have key: ∀nm least dflt n,dflt≤2→least≤dflt→IU ps nm least dflt=some n→least≤n∧n≤2:=by
  intro nm least dflt n h2 h3 h
  unfold IU at h
  split at h
  ·cases h;exact ⟨h3,h2⟩
  ·split at h
   ·split at h
    ·rename_i hc;cases h;exact hc
    ·cases h
   ·cases h
 unfold vg at h
 split at h
 ·rename_i h1 h2
  simp only [Option.some.injEq,Prod.mk.injEq] at h
  obtain ⟨rfl,rfl⟩:=h
  have k1:=key _ _ _ _ (by decide) (by decide) h1
  have k2:=key _ _ _ _ (by decide) (by decide) h2
  omega
 ·cases h
def FZ (w w':World) (r:Value) (o:Option (List Win)):Prop:= ∃v e,r=.tuple #[v,vi e]∧match o with
 |none=>e≠0
 |some ws=>e=0∧ny (flat wP) 344 2 (fun b=>w.heap.size≤b) NoB w' v ws
theorem KC {α:Type} {p:α→Bool} {l:List α} {k:Nat} {x:α} (hx:l[k]? =some x) (h: ∀y∈l.take k,p y=true) (hp:p x=true): ∀y∈l.take (k+1),p y=true:=by
 rw [take_snoc hx]
 intro y hy
 rcases List.mem_append.1 hy with hy|hy
 ·exact h y hy
 ·rw [List.mem_singleton.1 hy];exact hp
theorem SQ {Pb:Nat→Prop} {w:World} {v:Value} {l:List Nd} {i:Nat} (h:RdS rNd 3 Pb w v l) (hok:nV l=true) (h0:i≠0) (hi:i<l.length):
 Calls Tryz.prog 280 #[v,vi i] w (Ret fun r w'=>FZ w w' r (Qc l i)∧New w w'):=by
 obtain ⟨a,cap,rfl,hc1,hc2⟩:=h.form
 have hlen:=oN hok
 have hp:=uo hok h0 hi
 have hx:=FX hi
 have hy:=FX (t:=l) (i:=par l i) (by omega)
 unfold Qc
 refine mQ Tryz.func280 rfl Tryz.ntmps280 rfl ?_
 (repeat' (first|refine aa0 ?_|refine aa1 ?_|refine af ?_|refine ah ?_|refine aj ?_|refine ai ?_))
 refine bD h rfl rfl (by omega) hx fun b o cs hl hR hat=>?_
 obtain ⟨pv,rfl,hpv⟩:=hR
 (repeat' (refine aa5 ?_))
 refine au (u:=vi (ndA l i).parent) rfl (hat.get 0 rfl) ?_
 clear hat
 refine bD h rfl rfl (by omega) (by rw [hp.2,Int.toNat_natCast];exact hy) fun b o cs hl hR hat=>?_
 obtain ⟨pv2,rfl,hpv2⟩:=hR
 refine bQ hat rfl rfl ?_
 refine ay (Bo (x:=ndA l (par l i)) hpv2 (CS hok (by omega))) rfl ?_
 clear hat
 rintro _ w1 ⟨rfl,n1⟩
 cases hsp:vg (ndA l (par l i)).oJ with
 |none=>
  (repeat' (first|refine aa0 ?_|refine aa1 ?_|refine af ?_|refine aa8 ?_|refine ah ?_|refine aj ?_|refine ai ?_|refine ax ?_|refine aN ?_|refine aa3 ?_|(refine pV (fun _=>?_) (fun _=>?_)<;>(first|(exfalso;omega)|skip))))
  exact aW rfl rfl rfl ⟨_,rfl,⟨_,_,rfl,ne4⟩,n1⟩
 |some q=>
  obtain ⟨sa,ss⟩:=q
  have hsl:=vX hsp
  dsimp only
  (repeat' (first|refine aa0 ?_|refine aa1 ?_|refine af ?_|refine aa8 ?_|refine ah ?_|refine aj ?_|refine ai ?_|refine Wc.skip ?_|refine aa4 ?_|(refine pV (fun _=>?_) (fun _=>?_)<;>(first|(exfalso;omega)|skip))))
  refine bD (h.keep nO n1.keep) rfl rfl (by omega) hx fun b o cs hl hR hat=>?_
  obtain ⟨pv3,rfl,WQ⟩:=hR
  refine bQ hat rfl rfl ?_
  clear hat
  refine ay (zM (x:=ndA l i) (nm:=[114,101,103]) WQ) rfl ?_
  rintro _ w2 ⟨rfl,n2⟩
  have n02:=New.trans n1 n2
  have hvl:((sZ l i [114,101,103]).getD []).length≤1024:=xW hok hi
  have ev: ∀o:Option (List UInt8),IW o=.tuple #[vs (o.getD []),.bool o.isSome]:=fun o=>by cases o<;>rfl
  rw [ev]
  generalize hvv:(sZ l i [114,101,103]).getD []=txt at hvl
  have ac8:(val (ndA l i).oJ [114,101,103]).getD []=txt:=hvv
  rw [ac8]
  (repeat' (first|refine aa0 ?_|refine aa1 ?_|refine af ?_|refine aa8 ?_|refine ah ?_|refine aj ?_|refine ai ?_))
  refine jF (f:=viN) (us:=[sa,ss]) (fun _=>rfl) rfl rfl (by simp) (by simp) fun vw w3 ow n3=>?_
  have n03:=New.trans n02 n3
  skip
  refine ay (H8 (s:=txt) (ow.rd (nD _)) hvl (by intro x hx;simp at hx;omega) (by simp;omega) (by simp)) rfl ?_
  rintro _ w4 ⟨hrp,n4⟩
  obtain ⟨vr,e,rs,rfl,hrs,hcase⟩:=FY hrp
  have n04:=New.trans n03 n4
  obtain ⟨ra,rc,rfl,_,_⟩:=hrs.form
  replace hrs:=hrs.mono (Pb':=fun b=>b<w4.heap.size) wX fun b hb _=>hb
  have hlt: ∀r∈rs,(r.length=2∧ ∀x∈r,x<18446744073709551616):=by
   rcases hcase with ⟨h1,_⟩|⟨_,rfl,_⟩
   ·exact (xZ (ws:=[sa,ss]) (by intro x hx;simp at hx;omega) h1).1
   ·intro r hr;simp at hr
  have hrl:rs.length≤1024:=by
   rcases hcase with ⟨h1,_⟩|⟨_,rfl,_⟩
   ·have:=(xZ (ws:=[sa,ss]) (by intro x hx;simp at hx;omega) h1).2;omega
   ·simp
  (repeat' (first|refine aa0 ?_|refine aa1 ?_|refine af ?_|refine aa8 ?_|refine aO rfl ?_|refine ah ?_|refine aj ?_|refine ai ?_|refine Wc.block ?_))
  refine aU (σ:=Nat×Value) (fun q=>[(8,vi e),(12,q.2),(47,.slice ra rs.length rc),(48,vi rs.length),(49,vi q.1)])
   (fun q W=>q.1≤rs.length∧(∀r∈rs.take q.1,fitsW (r.getD 0 0) (r.getD 1 0)=true)∧ny (flat wP) 344 2 (fun b=>w4.heap.size≤b) NoB W q.2 ((rs.take q.1).map fun r=>(r.getD 0 0,r.getD 1 0))∧New w4 W) (fun q=>rs.length-q.1) (0,.slice none 0 0) ⟨rfl,rfl,rfl,rfl,rfl,trivial⟩
   ⟨Nat.zero_le _,by simp,bK,aV _ _⟩ ?_
  rintro ⟨k,vo⟩ G W ⟨hk,hall,own,nW⟩
  dsimp only at hk hall own nW
  simp only [oO]
  obtain ⟨oa,oc,rfl,_,_⟩:=own.form
  have hz4:=n04.size
  (repeat' (first|refine aa0 ?_|refine aa1 ?_|refine af ?_|refine ah ?_|refine aj ?_|refine ai ?_|refine Wc.block ?_|refine Wc.skip ?_|refine aQ ?_|refine ax ?_|refine aS ?_|refine aP ?_|refine aT ?_|refine aa3 ?_|refine aa4 ?_|refine aa9 (fun _=>?_) (fun _=>?_)))
  ·obtain ⟨r,hr⟩:=nN rs (k:=k) (by omega)
   obtain ⟨hr2,hrx⟩:=hlt r (List.mem_of_getElem? hr)
   obtain ⟨p,q,rfl⟩: ∃p q,r=[p,q]:=by
    match r,hr2 with
    | [p,q],_=>exact ⟨p,q,rfl⟩
   have hpl:=hrx p (by simp)
   have hql:=hrx q (by simp)
   refine bD (hrs.keep Aj nW.keep) rfl rfl (by omega) hr fun b o cs hl hR hat=>?_
   obtain ⟨vr,rfl,hvr⟩:=hR
   have hdj: ∀b,b<W.heap.size→b<w4.heap.size→ ¬w4.heap.size≤b:=fun b _ h1 h2=>by omega
   obtain ⟨qa,qc,rfl,_,_⟩:=hvr.form
   refine au (u:=.slice qa 2 qc) rfl (hat.get 0 rfl) ?_
   clear hat
   (repeat' (first|refine aa1 ?_|refine af ?_|refine ah ?_|refine aj ?_))
   refine cO rfl (by kernel_rfl) (fun w'=>New W w') (Chg.drew _ _) ?_
   intro w5 n5
   (repeat' (refine aa2 (pF (ak ?_))))
   refine aa2 (dJ (y:=p) hvr (fun w' hw=>hw.keep) rfl rfl (by omega) rfl fun b o hcell=>ak ?_)
   refine aa2 (aB (u:=w64 p) rfl hcell (ak ?_))
   (repeat' (refine aa2 (pF (ak ?_))))
   refine aa2 (dJ (y:=q) hvr (fun w' hw=>hw.keep) rfl rfl (by omega) rfl fun b o hcell=>ak ?_)
   refine aa2 (aB (u:=w64 q) rfl hcell (ak ?_))
   refine bC rfl (ay (Bq hpl hql) rfl ?_)
   rintro _ _ ⟨rfl,rfl⟩
   refine af ⟨rfl,n5,?_⟩
   (repeat' (first|refine dm ?_|refine aa2 (eG rfl (ak ?_))))
   have hfi:fitsW (([p,q]:List Nat).getD 0 0) (([p,q]:List Nat).getD 1 0)=fitsW p q:=rfl
   cases hf:fitsW p q
   ·have hno: ¬(rs.all (fun r=>fitsW (r.getD 0 0) (r.getD 1 0))=true):=by
     rw [List.all_eq_true];intro e;have:=e _ (List.mem_of_getElem? hr);rw [hfi,hf] at this;cases this
    (repeat' (first|refine aa1 ?_|refine af ?_|refine ah ?_|refine aj ?_|refine ai ?_|refine ax ?_|refine aN ?_|refine bf ?_|refine bG ?_|refine aa3 ?_))
    refine aW rfl rfl rfl ⟨_,rfl,⟨_,_,rfl,?_⟩,New.trans n04 (New.trans nW n5)⟩
    rcases hcase with ⟨h1,rfl⟩|⟨h1,rfl,rfl⟩
    ·rw [h1];dsimp only;rw [if_neg hno];exact ne4
    ·simp at hr
   ·(repeat' (first|refine ah ?_|refine Wc.skip ?_|refine aa4 ?_))
    refine cO rfl (by kernel_rfl) (fun w'=>Chg (fun k=>w4.heap.size≤k) w5 w') (Chg.drew _ _) ?_
    intro w6 n6
    (repeat' (refine aa2 (pF (ak ?_))))
    refine aa2 (dJ (y:=p) hvr (fun w' hw=>(Chg.trans n5.any hw fun k _ e=>e).keep hdj) rfl rfl (by omega) rfl fun b o hcell=>ak ?_)
    refine aa2 (aB (u:=w64 p) rfl hcell (ak ?_))
    (repeat' (refine aa2 (pF (ak ?_))))
    refine aa2 (dJ (y:=q) hvr (fun w' hw=>(Chg.trans n5.any hw fun k _ e=>e).keep hdj) rfl rfl (by omega) rfl fun b o hcell=>ak ?_)
    refine aa2 (aB (u:=w64 q) rfl hcell (ak ?_))
    refine bC rfl (bZ (ps:=[(0,.tmp 64),(1,.tmp 67)]) (parts:=[(0,w64 p),(1,w64 q)]) rfl rfl (by simp [Value.cells]) (af ⟨rfl,n6.any,?_⟩))
    refine bC rfl (dB (R:=flat wP) (y:=(p,q)) (Pe:=NoB) wY rfl rfl rfl rfl (by omega) (by omega) fun vt w7 ot n7 s7 KD=>?_)
    have n67:=New.trans n6 n7
    refine af ⟨rfl,n67.any,?_⟩
    have nW7:=New.trans n5 n67
    refine bC rfl (dH wY (own.new (mV wP) nW7) (ot.rd wY.mo) (fun y cs hy=>hy) rfl rfl (by omega) (by simp only [maxLen,List.length_singleton,List.length_map,List.length_take];omega) (by simp only [List.length_singleton,List.length_map,List.length_take];omega) fun v8 w8 o8 c8 lie _=>?_)
    have hz:=nW.size
    have hz7:=nW7.size
    have n48:New w4 w8:=(Chg.trans (M:=fun k=>w4.heap.size≤k) (New.trans nW nW7).any c8 fun k hk e=>(own.lt e).1).toNew fun k hk e=>by omega
    have c58:Chg (fun k=>w4.heap.size≤k) w5 w8:=Chg.trans n67.any c8 fun k hk e=>(own.lt e).1
    refine af ⟨rfl,c58,?_⟩
    (repeat' (first|refine dm ?_|refine aa2 (fB (by conv=>{lhs;whnf}) (ak ?_))))
    (repeat' (first|refine aa0 ?_|refine af ?_|refine ah ?_|refine ai ?_|refine aJ ?_|refine aa7 ?_))
    refine aK (k+1,v8) ⟨rfl,rfl,rfl,rfl,rfl,trivial⟩ ⟨by dsimp only;omega,KC hr hall (by rw [hfi];exact hf),?_,n48⟩ (by dsimp only;omega)
    rw [take_snoc hr,List.map_append]
    exact o8.mono wY.mo (fun b _ e=>by rcases e with e|e;exact e;omega) (fun _ _ e=>e)
  ·obtain rfl:k=rs.length:=by omega
   rw [List.take_length] at hall
   have hmt:rs.map (fun r=>(r.getD 0 0,r.getD 1 0))=(rs.take rs.length).map fun r=>(r.getD 0 0,r.getD 1 0):=by rw [List.take_length]
   refine aW rfl rfl rfl ⟨_,rfl,⟨_,_,rfl,?_⟩,New.trans n04 nW⟩
   rcases hcase with ⟨h1,rfl⟩|⟨h1,rfl,rfl⟩
   ·rw [h1];dsimp only
    rw [if_pos (List.all_eq_true.2 hall)]
    rw [hmt]
    exact ⟨rfl,own.mono wY.mo (fun b hb e=>by have:w4.heap.size≤b:=e;omega) (fun _ _ e=>e)⟩
   ·rw [h1];exact ne4
end Go.Proofs.YtjecgaiaiophpaaGreatDoor
