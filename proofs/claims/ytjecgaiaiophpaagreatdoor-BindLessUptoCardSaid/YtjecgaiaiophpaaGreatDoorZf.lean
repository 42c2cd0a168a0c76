/-
  Texts of this claim, one behind the other: I1, Bulk, I2, I3.
-/
import Derived.Test.YtjecgaiaiophpaaGreatDoorZe
import Derived.Test.YtjecgaiaiophpaaGreatDoorRows
import Derived.ChangeSame
import Derived.ProofKit
import Derived.JoinedCond
set_option linter.all false
set_option maxHeartbeats 16000000
set_option maxRecDepth 8000
namespace Go.Proofs.YtjecgaiaiophpaaGreatDoor
open Go Wk
open Go.RowKit (Below)
attribute [local irreducible] Go.Calls
theorem U3 {g g':Giv} (ht:g'.tree=g.tree) (hc:g'.cards=g.cards) (hf:g'.fails.length≤g.fails.length) (hg:g'.gone.length≤g.gone.length):qf g'=0∨qf g'=qf g∨qf g'=1:=by
 unfold qf
 rw [ht,hc]
 cases nS g.tree with
 |false=>exact .inr (.inl rfl)
 |true=>
  cases sQ g.cards with
  |false=>exact .inr (.inl rfl)
  |true=>
   rw [if_neg (by decide),if_neg (by decide)]
   by_cases h:512<g'.fails.length∨512<g'.gone.length
   ·rw [if_pos h];exact .inr (.inr rfl)
   ·rw [if_neg h];exact .inl rfl
theorem RF {g g':Giv} (ht:g'.tree=g.tree) (hc:g'.cards=g.cards) (hf:g'.fails.length≤g.fails.length) (hg:g'.gone.length≤g.gone.length) (h:qf g=0):qf g'=0:=by
 rw [xw] at h ⊢
 rw [ht,hc]
 exact ⟨h.1,h.2.1,by omega,by omega⟩
theorem U4 {g g':Giv} (ht:g'.tree=g.tree) (hc:g'.cards=g.cards) (hf: ∀s∈g'.fails,s∈g.fails) (hs: ∀s∈g'.gone,s∈g.gone) (hok:nS g.tree=true) {i:Nat} (hi:i<g.tree.length) (h:(rowOf (oH g) (zD g).2 i).1=0):(rowOf (oH g') (zD g').2 i).1=0:=by
 have h1:=(IX hok g.fails.contains hi).1 h
 have h2:=UF ht hc hf hs h1
 exact (IX (by rw [ht];exact hok) g'.fails.contains (by rw [ht];exact hi)).2 h2
theorem WS (a:Int) {n:Nat} (h:0<n): ∃k:Nat,k<n∧(a.tmod n+n).tmod n=k:=by
 have hn:(0:Int)<n:=by omega
 have h1:=Int.lt_tmod_of_pos a hn
 have h2:=Int.tmod_lt_of_pos a hn
 have h3:0≤a.tmod n+n:=by omega
 have h4:=Int.tmod_nonneg (n:Int) h3
 have h5:=Int.tmod_lt_of_pos (a.tmod n+n) hn
 exact ⟨((a.tmod n+n).tmod n).toNat,by omega,by omega⟩
theorem wM.form {g:Giv} {lo:Nat} {r:Value} {w':World} (h:wM g lo r w'): ∃p1 l1 q1 p2 l2 q2 p3 l3 q3 p4 l4 q4,r=.tuple #[.agg #[.slice p1 l1 q1,.slice p2 l2 q2,.slice p3 l3 q3,.slice p4 l4 q4],vi (qf g)]∧
 (qf g=0→RdR (fun b=>lo≤b) w' (Bf g) (zD g).1 (P5 g).1 (P5 g).2 (.slice p1 l1 q1) (.slice p2 l2 q2) (.slice p3 l3 q3) (.slice p4 l4 q4))∧(qf g=0→l1=g.tree.length)∧(qf g≠0→l1=0):=by
 unfold wM at h
 by_cases he:qf g=0
 ·rw [if_pos he] at h
  obtain ⟨a,b,c,d,rfl,hR⟩:=h
  obtain ⟨⟨p1,q1,rfl⟩,⟨p2,q2,rfl⟩,⟨p3,q3,rfl⟩,⟨p4,q4,rfl⟩⟩:=hR.form
  exact ⟨p1,_,q1,p2,_,q2,p3,_,q3,p4,_,q4,by rw [he],fun _=>hR,fun _=>yC g,fun e=>absurd he e⟩
 ·rw [if_neg he] at h
  exact ⟨none,0,0,none,0,0,none,0,0,none,0,0,h,fun e=>absurd e he,fun e=>absurd e he,fun _=>rfl⟩
theorem sl4 {p1 p2 p3 p4:Option Addr} {l1 q1 l2 q2 l3 q3 l4 q4:Nat}: ∀x∈([.slice p1 l1 q1,.slice p2 l2 q2,.slice p3 l3 q3,.slice p4 l4 q4]:List Value),x.oneCell'=true:=by
 intro x hx
 simp at hx
 rcases hx with rfl|rfl|rfl|rfl<;>rfl
section
variable {P:Program} {n:Nat} {ds:List Deferred} {F:Fr} {ops rest:List Oper} {d:Nat} {ty:TypeId} {pos:String} {aft:Array Edge} {w:World}
theorem jV {α:Type} {R:Rel α} {C:World→Prop} {K:Fr→Prop} {Pb:Nat→Prop} {xs:List α} {x lo:Operand} {t e:TypeId} {sz bytes:Nat} {agg:Bool} {z v:Value} {k:IntKind} {a:Int} [ht:Und P t (.slice e)] [he:ElT P e sz bytes agg z] (h:RdS R sz Pb w v xs) (hx:ev n F x=v) (hh:ev n F lo=.int k a) (h0:0≤a) (h1:a≤xs.length)
 (c: ∀v',RdS R sz Pb w v' (xs.drop a.toNat)→Wq P n ds C K ops rest (upd F d v')):Wq P n ds C K ops (⟨some d,.slice t x (some lo) none none,ty,pos,aft,none⟩::rest) F:=by
 obtain ⟨p,cap,rfl,hc,_⟩:=h.form
 obtain ⟨a,rfl⟩:=Int.eq_ofNat_of_zero_le h0
 refine Wq.val (fun w' _=>?_) (c _ (by simpa using h.sub (a:=a) (b:=xs.length) (by omega) (Nat.le_refl _)))
 have:=rF (P:=P) (w:=w') (p:=p) (l:=xs.length) (lo:=some (.int k a)) (hi:=none) (a:=a) (b:=xs.length) ht.h he (.inr ⟨k,rfl⟩) (.inl ⟨rfl,rfl⟩) (by omega) (by omega:xs.length≤cap)
 simp only [execOp,hx,hh,Option.map_none,Option.map_some,Sem.run_bind,this,Result.andThen_ok,Sem.run_pure]
end
section
variable {Pg:Nat→Prop} {w:World} {g:Giv} {tv cv fv gv:Value}
theorem U5 {i j:Int} (r:RdG Pg w g tv cv fv gv) (z:SzG g) (sh:OI g):
 Calls Tryz.prog 3 #[.agg #[tv,cv,fv,gv],vi i,vi j] w (Ret fun v w'=>v=.bool true∧New w w'):=by
 obtain ⟨ta,tc,rfl,_,_⟩:=r.t.form
 obtain ⟨ca,cc,rfl,_,_⟩:=r.c.form
 obtain ⟨fa,fc,rfl,_,_⟩:=r.f.form
 obtain ⟨ga,gc,rfl,_,_⟩:=r.g.form
 refine ny Tryz.func3 rfl Tryz.ntmps3 rfl ?_
 (repeat' (first|refine au ?_|refine ak ?_))
 refine bI rfl fun w1 b1 n1 s1=>?_
 replace b1:Bk w1 w.heap.size 26 [.slice ta g.tree.length tc,.slice ca g.cards.length cc,.slice fa g.fails.length fc,.slice ga g.gone.length gc]:=b1
 (repeat' (first|refine aa1 ?_|refine af ?_|refine ah ?_|refine au ?_|refine ak ?_))
 refine bP b1 rfl rfl ?_
 refine aB (MI (RdG.keep r n1.keep pX) z) rfl ?_
 rintro _ w2 ⟨⟨xt,xc,xf,xg,rfl,ox⟩,n2⟩
 have rx:=ox.rd
 obtain ⟨xta,xtc,rfl,_,_⟩:=rx.t.form
 obtain ⟨xca,xcc,rfl,_,_⟩:=rx.c.form
 obtain ⟨xfa,xfc,rfl,_,_⟩:=rx.f.form
 obtain ⟨xga,xgc,rfl,_,_⟩:=rx.g.form
 refine Wl.alloc fun w3 b3 n3 s3=>?_
 refine aW (new:=[.slice xta g.tree.length xtc,.slice xca g.cards.length xcc,.slice xfa g.fails.length xfc,.slice xga g.gone.length xgc]) b3 rfl rfl rfl rfl (show (4:Nat)≤4 from Nat.le_refl 4) (by intro c hc;simp at hc;rcases hc with rfl|rfl|rfl|rfl<;>rfl) fun w4 b4 c4 s4=>?_
 have n24:New w2 w4:=(Chg.trans n3.any c4 fun _ _ e=>e).toNew fun k hk e=>by omega
 clear b3 n3 c4 ox
 have n04:=New.trans n1 (New.trans n2 n24)
 have b14:=b1.chg (New.trans n2 n24) fun e=>e
 (repeat' (first|refine af ?_|refine ah ?_|refine au ?_|refine ak ?_))
 refine bP b4 rfl rfl ?_
 refine aB (AP (rx.keep n24.keep pX) sh) rfl ?_
 rintro _ w5 ⟨hr,n5⟩
 obtain ⟨p1,l1,q1,p2,l2,q2,p3,l3,q3,p4,l4,q4,rfl,hR,hl1,hl0⟩:=hr.form
 (repeat' (first|refine aa0 ?_|refine oV ?_))
 refine Wl.alloc fun w6 b6 n6 s6=>?_
 refine aW (new:=[.slice p1 l1 q1,.slice p2 l2 q2,.slice p3 l3 q3,.slice p4 l4 q4]) b6 rfl rfl rfl rfl (show (4:Nat)≤4 from Nat.le_refl 4) sl4 fun w7 b7 c7 s7=>?_
 have n57:New w5 w7:=(Chg.trans n6.any c7 fun _ _ e=>e).toNew fun k hk e=>by omega
 clear b6 n6 c7
 have n07:=New.trans n04 (New.trans n5 n57)
 have b17:=b14.chg (New.trans n5 n57) fun e=>e
 generalize hb8:w5.heap.size=b8 at*
 (repeat' (first|refine aa1 ?_|refine af ?_|refine ah ?_|refine au ?_|refine ak ?_))
 refine bP b17 rfl rfl ?_
 refine aB (MI (RdG.keep r n07.keep pX) z) rfl ?_
 rintro _ w8 ⟨⟨yt,yc,yf,yg,rfl,oy⟩,n8⟩
 have ry:=oy.rd
 obtain ⟨yta,ytc,rfl,_,_⟩:=ry.t.form
 obtain ⟨yca,ycc,rfl,_,_⟩:=ry.c.form
 obtain ⟨yfa,yfc,rfl,_,_⟩:=ry.f.form
 obtain ⟨yga,ygc,rfl,_,_⟩:=ry.g.form
 refine Wl.alloc fun w9 b9 n9 s9=>?_
 refine aW (new:=[.slice yta g.tree.length ytc,.slice yca g.cards.length ycc,.slice yfa g.fails.length yfc,.slice yga g.gone.length ygc]) b9 rfl rfl rfl rfl (show (4:Nat)≤4 from Nat.le_refl 4) sl4 fun w10 b10 c10 s10=>?_
 replace b10:Bk w10 w8.heap.size 27 [.slice yta g.tree.length ytc,.slice yca g.cards.length ycc,.slice yfa g.fails.length yfc,.slice yga g.gone.length ygc]:=b10
 have Fb:New w8 w10:=(Chg.trans n9.any c10 fun _ _ e=>e).toNew fun k hk e=>by omega
 replace ry:=(RdG.keep ry Fb.keep pX)
 have rb:RdG (fun b=>b<w8.heap.size) w10 g (.slice yta g.tree.length ytc) (.slice yca g.cards.length ycc) (.slice yfa g.fails.length yfc) (.slice yga g.gone.length ygc):=by
  have h8:=oy.rd
  exact RdG.keep ⟨h8.t.mono yP fun b hb _=>hb,h8.c.mono Jp fun b hb _=>hb,h8.f.mono (nO _) fun b hb _=>hb,h8.g.mono (nO _) fun b hb _=>hb⟩ Fb.keep pX
 clear b9 n9 c10 oy ry
 have X3:=New.trans n8 Fb
 have ZP:=b7.chg X3 fun e=>e
 have ZQ:=fun e=>(((hR e).new n57).mono (Pb':=fun b=>b<w7.heap.size) fun b hb _=>hb).new X3
 have XF:=New.trans n07 X3
 have ahl:=b7.lt
 have hz8:=n8.size
 have Zz:=Fb.size
 clear hR b7 b17 n8 Fb
 generalize hgb:w8.heap.size=gb at*
 (repeat' (first|refine af ?_|refine ah ?_))
 refine dU (fun F W=> ∃(yf:Value) (k:Nat),agrees F [(1,vi i),(2,vi j),(8,pT b8),(9,vi (qf g)),(10,pT gb)]∧Bk W gb 27 [.slice yta g.tree.length ytc,.slice yca g.cards.length ycc,yf,.slice yga g.gone.length ygc]∧RdS (Wk.one vs) 1 (fun b=>b<gb) w10 yf (g.fails.drop k)∧Chg (fun k=>k=gb) w10 W) ?_ ?_
 ·(repeat' (first|refine au ?_|refine ak ?_|refine aa5 ?_))
  refine ay (u:=.slice yfa g.fails.length yfc) rfl (b10.cell (o:=2) rfl) ?_
  (repeat' (first|refine af ?_|refine aI rfl ?_|refine ah ?_|refine Wc.skip ?_|refine aa3 ?_|refine aa4 ?_|refine bF rfl rfl (fun _=>?_) (fun _=>?_)))
  ·obtain ⟨k,hk,ek⟩:=WS i (n:=g.fails.length) (by omega)
   have hn:(0:Int)<g.fails.length:=by omega
   have hb1:=Int.lt_tmod_of_pos i hn
   have hb2:=Int.tmod_lt_of_pos i hn
   have hzf:=z.f
   refine bK rfl (by kernel_rfl) (fun w'=>New w10 w') (Chg.drew _ _) ?_
   intro w11 n11
   (repeat' (refine aa2 (aa8 (ax ?_))))
   refine aa2 (aF (u:=.slice yfa g.fails.length yfc) rfl (fun w' hw=>(b10.chg hw fun e=>e).cell (o:=2) rfl) (ax ?_))
   (repeat' (first|refine aa2 (pG (ax ?_))|refine aa2 (aa8 (ax ?_))))
   refine aa2 (aF (u:=.slice yfa g.fails.length yfc) rfl (fun w' hw=>(b10.chg hw fun e=>e).cell (o:=2) rfl) (ax ?_))
   (repeat' (refine aa2 (eX rfl (ax ?_))))
   refine aa2 (iC rfl rfl (by omega) (ax ?_))
   (repeat' (refine aa2 (aa8 (ax ?_))))
   refine aa2 (aF (u:=.slice yfa g.fails.length yfc) rfl (fun w' hw=>(b10.chg hw fun e=>e).cell (o:=2) rfl) (ax ?_))
   (repeat' (first|refine aa2 (eX rfl (ax ?_))|refine aa2 (aa8 (ax ?_))|refine aa2 (Wq.add rfl rfl (by omega) (by omega) (ax ?_))))
   refine aa2 (aF (u:=.slice yfa g.fails.length yfc) rfl (fun w' hw=>(b10.chg hw fun e=>e).cell (o:=2) rfl) (ax ?_))
   (repeat' (refine aa2 (eX rfl (ax ?_))))
   refine aa2 (iC rfl rfl (by omega) (ax ?_))
   rw [ek]
   refine aa2 (jV rb.f rfl rfl (by omega) (by omega) fun v' hv'=>ax ?_)
   (repeat' (refine aa2 (aa8 (ax ?_))))
   rw [Int.toNat_natCast] at hv'
   obtain ⟨va,vc,hvf,_,_⟩:=hv'.form
   refine Wt.last rfl (aY (u:=v') (b10.chg n11 fun e=>e) rfl (show (2:Nat)<4 by omega) rfl (by rw [hvf];rfl) fun w12 b12 c12=>?_)
   refine af ?_
   skip
   exact bY ⟨v',k,⟨rfl,rfl,rfl,rfl,rfl,trivial⟩,b12,hv',Chg.trans n11.any c12 fun _ _ e=>e⟩
  ·exact bY ⟨_,0,⟨rfl,rfl,rfl,rfl,rfl,trivial⟩,b10,rb.f,aS _ _⟩
 rintro F W ⟨yf,kf,hF,bW,hyf,cW⟩
 rw [←oh hF]
 simp only [oN]
 clear hF b10
 have hzW:=cW.size
 obtain ⟨fa2,fc2,rfl,_,_⟩:=hyf.form
 have kpW:Keep (fun b=>b<gb) w10 W:=cW.keep fun b _ hb e=>by have hb:b<gb:=hb;omega
 skip
 refine dU (fun F W'=> ∃(yg:Value) (k:Nat),agrees F [(8,pT b8),(9,vi (qf g)),(10,pT gb)]∧Bk W' gb 27 [.slice yta g.tree.length ytc,.slice yca g.cards.length ycc,.slice fa2 (g.fails.drop kf).length fc2,yg]∧RdS (Wk.one vs) 1 (fun b=>b<gb) w10 yg (g.gone.drop k)∧Chg (fun k=>k=gb) w10 W') ?_ ?_
 ·(repeat' (first|refine au ?_|refine ak ?_|refine aa5 ?_))
  refine ay (u:=.slice yga g.gone.length ygc) rfl (bW.cell (o:=3) rfl) ?_
  (repeat' (first|refine af ?_|refine aI rfl ?_|refine ah ?_|refine Wc.skip ?_|refine aa3 ?_|refine aa4 ?_|refine bF rfl rfl (fun _=>?_) (fun _=>?_)))
  ·obtain ⟨k,hk,ek⟩:=WS j (n:=g.gone.length) (by omega)
   have hn:(0:Int)<g.gone.length:=by omega
   have hb1:=Int.lt_tmod_of_pos j hn
   have hb2:=Int.tmod_lt_of_pos j hn
   have hzf:=z.g
   refine bK rfl (by kernel_rfl) (fun w'=>New W w') (Chg.drew _ _) ?_
   intro w11 n11
   (repeat' (refine aa2 (aa8 (ax ?_))))
   refine aa2 (aF (u:=.slice yga g.gone.length ygc) rfl (fun w' hw=>(bW.chg hw fun e=>e).cell (o:=3) rfl) (ax ?_))
   (repeat' (first|refine aa2 (pG (ax ?_))|refine aa2 (aa8 (ax ?_))))
   refine aa2 (aF (u:=.slice yga g.gone.length ygc) rfl (fun w' hw=>(bW.chg hw fun e=>e).cell (o:=3) rfl) (ax ?_))
   (repeat' (refine aa2 (eX rfl (ax ?_))))
   refine aa2 (iC rfl rfl (by omega) (ax ?_))
   (repeat' (refine aa2 (aa8 (ax ?_))))
   refine aa2 (aF (u:=.slice yga g.gone.length ygc) rfl (fun w' hw=>(bW.chg hw fun e=>e).cell (o:=3) rfl) (ax ?_))
   (repeat' (first|refine aa2 (eX rfl (ax ?_))|refine aa2 (aa8 (ax ?_))|refine aa2 (Wq.add rfl rfl (by omega) (by omega) (ax ?_))))
   refine aa2 (aF (u:=.slice yga g.gone.length ygc) rfl (fun w' hw=>(bW.chg hw fun e=>e).cell (o:=3) rfl) (ax ?_))
   (repeat' (refine aa2 (eX rfl (ax ?_))))
   refine aa2 (iC rfl rfl (by omega) (ax ?_))
   rw [ek]
   refine aa2 (jV rb.g rfl rfl (by omega) (by omega) fun v' hv'=>ax ?_)
   (repeat' (refine aa2 (aa8 (ax ?_))))
   rw [Int.toNat_natCast] at hv'
   obtain ⟨va,vc,hvf,_,_⟩:=hv'.form
   refine Wt.last rfl (aY (u:=v') (bW.chg n11 fun e=>e) rfl (show (3:Nat)<4 by omega) rfl (by rw [hvf];rfl) fun w12 b12 c12=>?_)
   refine af ?_
   skip
   exact bY ⟨v',k,⟨rfl,rfl,rfl,trivial⟩,b12,hv',Chg.trans (Chg.trans cW n11.any fun _ _ e=>e) c12 fun _ _ e=>e⟩
  ·exact bY ⟨_,0,⟨rfl,rfl,rfl,trivial⟩,bW,rb.g,cW⟩
 clear bW cW hzW kpW
 rintro F W ⟨yg,kg,hF,bW,hyg,cW⟩
 rw [←oh hF]
 simp only [oN]
 clear hF
 have hzW:=cW.size
 obtain ⟨ga2,gc2,rfl,_,_⟩:=hyg.form
 have kpW:Keep (fun b=>b<gb) w10 W:=cW.keep fun b _ hb e=>by have hb:b<gb:=hb;omega
 have nW:New w W:=(Chg.trans (M:=fun k=>k=gb) XF.any cW fun k _ e=>e).toNew fun k hk e=>by have:=n07.size;omega
 obtain ⟨g',hg'⟩: ∃g':Giv,g'=⟨g.tree,g.cards,g.fails.drop kf,g.gone.drop kg⟩:=⟨_,rfl⟩
 have rW:RdG (fun b=>b<gb) W g' (.slice yta g.tree.length ytc) (.slice yca g.cards.length ycc) (.slice fa2 (g.fails.drop kf).length fc2) (.slice ga2 (g.gone.drop kg).length gc2):=by
  rw [hg']
  exact ⟨rb.t.keep nR kpW,rb.c.keep pX kpW,hyf.keep (nN _) kpW,hyg.keep (nN _) kpW⟩
 have hgt:g'.tree=g.tree:=by rw [hg']
 have hgc:g'.cards=g.cards:=by rw [hg']
 have hgf: ∀s∈g'.fails,s∈g.fails:=by rw [hg'];exact fun s hs=>List.mem_of_mem_drop hs
 have hgg: ∀s∈g'.gone,s∈g.gone:=by rw [hg'];exact fun s hs=>List.mem_of_mem_drop hs
 have hfl:g'.fails.length≤g.fails.length:=by rw [hg'];simp
 have hgl:g'.gone.length≤g.gone.length:=by rw [hg'];simp
 have sh':OI g':=⟨fun x hx=>sh.f x (hgf x hx),fun x hx=>sh.g x (hgg x hx)⟩
 have b8W:=ZP.chg cW fun e=>by omega
 have hRW:=fun e=>((ZQ e).mono (Pb':=fun b=>b<gb) (fun b hb e=>by have e:b<w7.heap.size:=e;show b<gb;omega)).chg cW fun k hk e=>by have hk:k<gb:=hk;omega
 clear hg' hyf hyg rb ZQ ZP kpW
 (repeat' (first|refine au ?_|refine ak ?_))
 refine bP bW rfl rfl ?_
 refine aB (AP rW sh') rfl ?_
 rintro _ w13 ⟨hs,n13⟩
 obtain ⟨s1,sl1,t1,s2,sl2,t2,s3,sl3,t3,s4,aeI,t4,rfl,hS,hsl1,hsl0⟩:=hs.form
 (repeat' (first|refine aa0 ?_|refine oV ?_))
 refine Wl.alloc fun w14 b14 n14 s14=>?_
 refine aW (new:=[.slice s1 sl1 t1,.slice s2 sl2 t2,.slice s3 sl3 t3,.slice s4 aeI t4]) b14 rfl rfl rfl rfl (show (4:Nat)≤4 from Nat.le_refl 4) sl4 fun w15 b15 c15 s15=>?_
 have U6:New w13 w15:=(Chg.trans n14.any c15 fun _ _ e=>e).toNew fun k hk e=>by omega
 clear b14 n14 c15
 have nWx:=New.trans n13 U6
 have b8x:=b8W.chg nWx fun e=>e
 have hRx:=fun e=>(hRW e).new nWx
 have hSx:=fun e=>(hS e).new U6
 have n0x:=New.trans nW nWx
 clear b8W hRW hS nW n13 U6 nWx
 have hle:=U3 hgt hgc hfl hgl
 have hlz:=RF hgt hgc hfl hgl
 by_cases he:qf g=0
 ·have he':=hlz he
  have hok:=(xw.1 he).1
  have hR:=hRx he
  have hS:=hSx he'
  have hl:=hl1 he
  have hl':=hsl1 he'
  rw [hgt] at hl'
  subst hl hl'
  have oR:=hR.rows.rd (nK _)
  have oS:=hS.rows.rd (nK _)
  rw [he,he']
  (repeat' (first|refine aa0 ?_|refine aa1 ?_|refine af ?_|refine aa6 ?_|refine ah ?_|refine au ?_|refine ak ?_|refine Wc.skip ?_|refine aa4 ?_|refine aa5 ?_|(refine pV (fun _=>?_) (fun _=>?_)<;>(first|(exfalso;omega)|skip))))
  refine ay (u:=.slice s1 g.tree.length t1) rfl (b15.cell (o:=0) rfl) ?_
  (repeat' (first|refine aa6 ?_|refine aI rfl ?_|refine aa5 ?_))
  refine ay (u:=.slice p1 g.tree.length q1) rfl (b8x.cell (o:=0) rfl) ?_
  (repeat' (first|refine aa1 ?_|refine af ?_|refine aa6 ?_|refine pF ?_|refine aI rfl ?_|refine ah ?_|refine au ?_|refine ak ?_|refine Wc.block ?_|refine Wc.skip ?_|refine aa4 ?_|(refine pV (fun _=>?_) (fun _=>?_)<;>(first|(exfalso;omega)|skip))))
  have hrl:=yC g
  have aeJ:=yC g'
  rw [hgt] at aeJ
  have htl:=oO hok
  refine aQ (σ:=Nat) (fun k=>[(8,pT b8),(11,pT w13.heap.size),(13,vi k)]) (fun k W'=>k≤g.tree.length∧New w15 W') (fun k=>g.tree.length-k) 0 ⟨rfl,rfl,rfl,trivial⟩ ⟨Nat.zero_le _,aS _ _⟩ ?_
  rintro k F2 W2 ⟨hk,n2'⟩
  simp only [oN]
  have b8y:=b8x.chg n2' fun e=>e
  have aeK:=b15.chg n2' fun e=>e
  (repeat' (first|refine aa0 ?_|refine au ?_|refine ak ?_|refine aa5 ?_))
  refine ay (u:=.slice p1 g.tree.length q1) rfl (b8y.cell (o:=0) rfl) ?_
  (repeat' (first|refine af ?_|refine aI rfl ?_|refine ah ?_|refine au ?_|refine ak ?_|refine Wc.block ?_|refine Wc.skip ?_|refine aN ?_|refine aO ?_|refine aK ?_|refine aP ?_|refine aa3 ?_|refine aa4 ?_|refine aa5 ?_|refine aa9 (fun _=>?_) (fun _=>?_)))
  ·have g1:=yD (g:=g) (i:=k) (by omega)
   have g2:=yD (g:=g') (i:=k) (by rw [hgt];omega)
   have hlr:=U4 hgt hgc hgf hgg hok (i:=k) (by omega)
   refine ay (u:=.slice p1 g.tree.length q1) rfl (b8y.cell (o:=0) rfl) ?_
   (repeat' (refine aa0 ?_))
   refine aZ (oR.keep (oI _) n2'.keep) rfl rfl (by omega) (by rw [Int.toNat_natCast];exact g1) fun b o cs hl hR hat=>?_
   obtain rfl:cs=rwC _:=hR
   (repeat' (refine aa5 ?_))
   refine ay (u:=.int .u8 (rowOf (oH g) (zD g).2 k).1) rfl (hat.get 0 rfl) ?_
   clear hat
   generalize rowOf (oH g) (zD g).2 k=x1 at*
   (repeat' (first|refine aa0 ?_|refine aa1 ?_|refine af ?_|refine aa6 ?_|refine qh ?_|refine pF ?_|refine ah ?_|refine ak ?_|refine Wc.skip ?_|refine aH ?_|refine aa4 ?_|refine aa5 ?_|refine aa7 ?_|refine bZ rfl rfl (fun _=>?_) (fun _=>?_)))
   ·refine ay (u:=.slice s1 g.tree.length t1) rfl (aeK.cell (o:=0) rfl) ?_
    (repeat' (first|refine aa0 ?_|refine aa6 ?_))
    refine aZ (oS.keep (oI _) n2'.keep) rfl rfl (by omega) (by rw [Int.toNat_natCast];exact g2) fun b o cs hl hR hat=>?_
    obtain rfl:cs=rwC _:=hR
    (repeat' (first|refine aa6 ?_|refine aa5 ?_))
    refine ay (u:=.int .u8 (rowOf (oH g') (zD g').2 k).1) rfl (hat.get 0 rfl) ?_
    clear hat
    have h0:=hlr (by omega)
    generalize rowOf (oH g') (zD g').2 k=x2 at*
    rw [h0]
    (repeat' (first|refine aa0 ?_|refine aa1 ?_|refine af ?_|refine aa6 ?_|refine pJ ?_|refine ah ?_|refine ak ?_|refine Wc.skip ?_|refine aH ?_|refine aa4 ?_|refine aa7 ?_|(refine pV (fun _=>?_) (fun _=>?_)<;>(first|(exfalso;omega)|skip))))
    exact aG (k+1) ⟨rfl,rfl,rfl,trivial⟩ ⟨by omega,n2'⟩ (by omega)
   ·exact aG (k+1) ⟨rfl,rfl,rfl,trivial⟩ ⟨by omega,n2'⟩ (by omega)
  ·refine aB He rfl ?_
   rintro _ w20 ⟨rfl,n20⟩
   (repeat' (first|refine aa1 ?_|refine af ?_|refine ah ?_|refine aA ?_))
   exact aC rfl rfl ⟨_,rfl,rfl,New.trans n0x (New.trans n2' n20)⟩
 ·have fin: ∀w20,New w15 w20→New w w20:=fun w20 n=>New.trans n0x n
  rcases hle with h|h|h<;>rw [h]<;>
  (
  (repeat' (first|refine aa0 ?_|refine aa1 ?_|refine af ?_|refine aa6 ?_|refine qh ?_|refine pJ ?_|refine pF ?_|refine ah ?_|refine au ?_|refine ak ?_|refine aa3 ?_|(refine bZ rfl rfl (fun _=>?_) (fun _=>?_)<;>(first|(exfalso;omega)|skip))|(refine pV (fun _=>?_) (fun _=>?_)<;>(first|(exfalso;omega)|skip))))
  all_goals (
   refine aB He rfl ?_
   rintro _ w20 ⟨rfl,n20⟩
   (repeat' (first|refine aa1 ?_|refine af ?_|refine pJ ?_|refine ah ?_|refine aA ?_|refine aJ ?_))
   exact aC rfl rfl ⟨_,rfl,rfl,fin _ n20⟩))
end
end Go.Proofs.YtjecgaiaiophpaaGreatDoor
namespace Go.Proofs.YtjecgaiaiophpaaGreatDoor
open Go Wk
theorem U7 {H:Type} (d:DataW H):1≤Rows.uptoBulk d:=by
 cases d with
 |lit l=>cases l<;>simp [Rows.uptoBulk]
 |_=>simp [Rows.uptoBulk]
theorem U8 {H:Type} (l:List (DataW H)):l.length≤Rows.uptoBulkAll l:=by
 induction l with
 |nil=>simp [Rows.uptoBulkAll]
 |cons x r ih=>have:=U7 x;simp only [Rows.uptoBulkAll,List.length_cons];omega
theorem AQ {α:Type} {D:Dat α} {H:Type} {xs:List α} {d:DataW H} (h:wR D H xs d):xs.length≤Rows.uptoBulk d:=by
 rcases h with ⟨rfl,rfl⟩|⟨es,sp,rfl,hl,_⟩
 ·simp
 ·have:=U8 es
  simp only [Rows.uptoBulk]
  omega
theorem MN {α:Type} {D:Dat α} {H:Type} (μ:α→Nat) (hμ: ∀x d,D H x d→μ x≤Rows.uptoBulk d): ∀(xs:List α) (es:List (DataW H)),es.length=xs.length→(∀(i:Nat) (x:α),xs[i]? =some x→ ∃y,es[i]? =some y∧D H x y)→(xs.map μ).sum≤Rows.uptoBulkAll es
 | [],es,_,_=>by simp
 |x::xs,[],h,_=>by simp at h
 |x::xs,e::es,h,hd=>by
  obtain ⟨y,hy,hD⟩:=hd 0 x rfl
  simp at hy
  subst hy
  have ih:=MN μ hμ xs es (by simpa using h) (fun i x hx=>by
   obtain ⟨y,hy,hD⟩:=hd (i+1) x (by simpa using hx)
   exact ⟨y,by simpa using hy,hD⟩)
  have:=hμ x e hD
  simp only [List.map_cons,List.sum_cons,Rows.uptoBulkAll]
  omega
theorem OM {α:Type} {D:Dat α} {H:Type} {xs:List α} {d:DataW H} (μ:α→Nat) (hμ: ∀x d,D H x d→μ x≤Rows.uptoBulk d) (h:wR D H xs d):(xs.map μ).sum≤Rows.uptoBulk d:=by
 rcases h with ⟨rfl,rfl⟩|⟨es,sp,rfl,hl,hd⟩
 ·simp
 ·have:=MN μ hμ xs es hl hd
  simp only [Rows.uptoBulk]
  omega
theorem MO {H:Type} (l:List UInt8) (d:DataW H) (h:vC H l d):l.length+1≤Rows.uptoBulk d:=by
 obtain ⟨rfl,_⟩:=h
 simp [Rows.uptoBulk]
end Go.Proofs.YtjecgaiaiophpaaGreatDoor
namespace Go.Proofs.YtjecgaiaiophpaaGreatDoor
open Go Wk Go.ChangeShapes
theorem aeL:Tryz.prog.cellsOf 3=1:=by kernel_rfl
theorem cU8:Tryz.prog.cellsOf 5=1:=by kernel_rfl
theorem cI8:Tryz.prog.cellsOf 66=1:=by kernel_rfl
theorem aeM:Tryz.prog.cellsOf 67=1:=by kernel_rfl
theorem cStr:Tryz.prog.cellsOf 9=1:=by kernel_rfl
theorem aeN:Tryz.prog.cellsOf 49=1:=by kernel_rfl
theorem aeO:Tryz.prog.cellsOf 22=1:=by kernel_rfl
theorem aeP:Tryz.prog.cellsOf 23=1:=by kernel_rfl
theorem U9:Tryz.prog.cellsOf 24=1:=by kernel_rfl
theorem cPr:Tryz.prog.cellsOf 99=2:=by kernel_rfl
theorem cNd:Tryz.prog.cellsOf 51=3:=by kernel_rfl
theorem cCd:Tryz.prog.cellsOf 69=7:=by kernel_rfl
theorem cGv:Tryz.prog.cellsOf 26=4:=by kernel_rfl
theorem ZR {α:Type} {l:List α} (h:l.length=2): ∃a b,l=[a,b]:=by
 match l,h with
 | [a,b],_=>exact ⟨a,b,rfl⟩
theorem ZT {α:Type} {l:List α} (h:l.length=3): ∃a b c,l=[a,b,c]:=by
 match l,h with
 | [a,b,c],_=>exact ⟨a,b,c,rfl⟩
theorem ZU {α:Type} {l:List α} (h:l.length=4): ∃a b c d,l=[a,b,c,d]:=by
 match l,h with
 | [a,b,c,d],_=>exact ⟨a,b,c,d,rfl⟩
theorem ZV {α:Type} {l:List α} (h:l.length=7): ∃a b c d e f g,l=[a,b,c,d,e,f,g]:=by
 match l,h with
 | [a,b,c,d,e,f,g],_=>exact ⟨a,b,c,d,e,f,g,rfl⟩
def Va:Dat Pr:=fun H x d=> ∃d0 d1,d=.agg [d0,d1]∧vC H x.1 d0∧vC H x.2 d1
def Vb:Dat Nd:=fun H x d=> ∃d0 d1 d2,d=.agg [d0,d1,d2]∧FH .i64 H x.parent d0∧vC H x.name d1∧wR Va H x.nU d2
def Vd:Dat Cd:=fun H x d=> ∃d0 d1 d2 d3 d4 d5 d6,d=.agg [d0,d1,d2,d3,d4,d5,d6]∧vC H x.name d0∧vC H x.family d1∧FH .u8 H x.level d2∧wR vC H x.compat d3∧FH .i8 H x.score d4∧vC H x.uI d5∧FH .i16 H x.entry d6
def WT:Dat Giv:=fun H x d=> ∃d0 d1 d2 d3,d=.agg [d0,d1,d2,d3]∧wR Vb H x.tree d0∧wR Vd H x.cards d1∧wR vC H x.fails d2∧wR vC H x.gone d3
def rGv:Rel Giv:=fun Pb w g cs=> ∃tv cv fv gv,cs=[tv,cv,fv,gv]∧RdG Pb w g tv cv fv gv
theorem Ve:Opens Tryz.prog 99 rPr Va:=by
 intro H enc w fuel cs d ps h
 obtain ⟨xs,n,rfl,hx,hl,hlen,hf⟩:=DataW.trod_struct Tryz.underlying99 h
 rw [cPr] at hl
 obtain ⟨c0,c1,rfl⟩:=ZR hl
 obtain ⟨y0,y1,rfl⟩:=ZR (show xs.length=2 from hlen)
 have e0:DataW.trod enc Tryz.prog w 0 (fun _=>true) true n 9 (([c0,c1].drop 0).take (Tryz.prog.cellsOf 9))=some y0:=hf 0 _ rfl
 rw [cStr] at e0
 have e1:DataW.trod enc Tryz.prog w 0 (fun _=>true) true n 9 (([c0,c1].drop 1).take (Tryz.prog.cellsOf 9))=some y1:=hf 1 _ rfl
 rw [cStr] at e1
 cases hx
 obtain ⟨s0,r0,q0⟩:=uN Tryz.underlying9 H enc w n _ _ _ e0
 obtain ⟨s1,r1,q1⟩:=uN Tryz.underlying9 H enc w n _ _ _ e1
 have r0':[c0]=[vs s0]:=r0 (fun _=>True) (fun _ _=>trivial)
 have r1':[c1]=[vs s1]:=r1 (fun _=>True) (fun _ _=>trivial)
 cases r0'
 cases r1'
 exact ⟨(s0,s1),fun _ _=>rfl,_,_,rfl,q0,q1⟩
theorem RG:Opens Tryz.prog 49 (rSl rPr 2) (wR Va):=wS Tryz.underlying49 cPr (by decide) Ve
theorem Vf:Opens Tryz.prog 51 rNd Vb:=by
 intro H enc w fuel cs d ps h
 obtain ⟨xs,n,rfl,hx,hl,hlen,hf⟩:=DataW.trod_struct Tryz.underlying51 h
 rw [cNd] at hl
 obtain ⟨c0,c1,c2,rfl⟩:=ZT hl
 obtain ⟨y0,y1,y2,rfl⟩:=ZT (show xs.length=3 from hlen)
 have e0:DataW.trod enc Tryz.prog w 0 (fun _=>true) true n 3 (([c0,c1,c2].drop 0).take (Tryz.prog.cellsOf 3))=some y0:=hf 0 _ rfl
 rw [aeL] at e0
 have e1:DataW.trod enc Tryz.prog w 0 (fun _=>true) true n 9 (([c0,c1,c2].drop 1).take (Tryz.prog.cellsOf 9))=some y1:=hf 1 _ rfl
 rw [cStr] at e1
 have e2:DataW.trod enc Tryz.prog w 0 (fun _=>true) true n 49 (([c0,c1,c2].drop 2).take (Tryz.prog.cellsOf 49))=some y2:=hf 2 _ rfl
 rw [aeN] at e2
 cases hx
 obtain ⟨s0,r0,q0⟩:=Aj Tryz.underlying3 H enc w n _ _ _ e0
 obtain ⟨s1,r1,q1⟩:=uN Tryz.underlying9 H enc w n _ _ _ e1
 obtain ⟨s2,r2,q2⟩:=RG H enc w n _ _ _ e2
 have r0':[c0]=[vi s0]:=r0 (fun _=>True) (fun _ _=>trivial)
 have r1':[c1]=[vs s1]:=r1 (fun _=>True) (fun _ _=>trivial)
 cases r0'
 cases r1'
 refine ⟨⟨s0,s1,s2⟩,fun Pb hP=>?_,_,_,_,rfl,q0,q1,q2⟩
 obtain ⟨v,hv,hr⟩:=r2 Pb fun p hp=>hP p (by simp;exact .inr (.inr hp))
 have hv':[c2]=[v]:=hv
 cases hv'
 exact ⟨c2,rfl,hr⟩
theorem RH:Opens Tryz.prog 22 (rSl rNd 3) (wR Vb):=wS Tryz.underlying22 cNd (by decide) Vf
theorem Cj:Opens Tryz.prog 24 (rSl (Wk.one vs) 1) (wR vC):=wS Tryz.underlying24 cStr (by decide) (uN Tryz.underlying9)
theorem Vg:Opens Tryz.prog 69 rCd Vd:=by
 intro H enc w fuel cs d ps h
 obtain ⟨xs,n,rfl,hx,hl,hlen,hf⟩:=DataW.trod_struct Tryz.underlying69 h
 rw [cCd] at hl
 obtain ⟨c0,c1,c2,c3,c4,c5,c6,rfl⟩:=ZV hl
 obtain ⟨y0,y1,y2,y3,y4,y5,y6,rfl⟩:=ZV (show xs.length=7 from hlen)
 have e0:DataW.trod enc Tryz.prog w 0 (fun _=>true) true n 9 (([c0,c1,c2,c3,c4,c5,c6].drop 0).take (Tryz.prog.cellsOf 9))=some y0:=hf 0 _ rfl
 rw [cStr] at e0
 have e1:DataW.trod enc Tryz.prog w 0 (fun _=>true) true n 9 (([c0,c1,c2,c3,c4,c5,c6].drop 1).take (Tryz.prog.cellsOf 9))=some y1:=hf 1 _ rfl
 rw [cStr] at e1
 have e2:DataW.trod enc Tryz.prog w 0 (fun _=>true) true n 5 (([c0,c1,c2,c3,c4,c5,c6].drop 2).take (Tryz.prog.cellsOf 5))=some y2:=hf 2 _ rfl
 rw [cU8] at e2
 have e3:DataW.trod enc Tryz.prog w 0 (fun _=>true) true n 24 (([c0,c1,c2,c3,c4,c5,c6].drop 3).take (Tryz.prog.cellsOf 24))=some y3:=hf 3 _ rfl
 rw [U9] at e3
 have e4:DataW.trod enc Tryz.prog w 0 (fun _=>true) true n 66 (([c0,c1,c2,c3,c4,c5,c6].drop 4).take (Tryz.prog.cellsOf 66))=some y4:=hf 4 _ rfl
 rw [cI8] at e4
 have e5:DataW.trod enc Tryz.prog w 0 (fun _=>true) true n 9 (([c0,c1,c2,c3,c4,c5,c6].drop 5).take (Tryz.prog.cellsOf 9))=some y5:=hf 5 _ rfl
 rw [cStr] at e5
 have e6:DataW.trod enc Tryz.prog w 0 (fun _=>true) true n 67 (([c0,c1,c2,c3,c4,c5,c6].drop 6).take (Tryz.prog.cellsOf 67))=some y6:=hf 6 _ rfl
 rw [aeM] at e6
 cases hx
 obtain ⟨s0,r0,q0⟩:=uN Tryz.underlying9 H enc w n _ _ _ e0
 obtain ⟨s1,r1,q1⟩:=uN Tryz.underlying9 H enc w n _ _ _ e1
 obtain ⟨s2,r2,q2⟩:=Aj Tryz.underlying5 H enc w n _ _ _ e2
 obtain ⟨s3,r3,q3⟩:=Cj H enc w n _ _ _ e3
 obtain ⟨s4,r4,q4⟩:=Aj Tryz.underlying66 H enc w n _ _ _ e4
 obtain ⟨s5,r5,q5⟩:=uN Tryz.underlying9 H enc w n _ _ _ e5
 obtain ⟨s6,r6,q6⟩:=Aj Tryz.underlying67 H enc w n _ _ _ e6
 have r0':[c0]=[vs s0]:=r0 (fun _=>True) (fun _ _=>trivial)
 have r1':[c1]=[vs s1]:=r1 (fun _=>True) (fun _ _=>trivial)
 have r2':[c2]=[.int .u8 s2]:=r2 (fun _=>True) (fun _ _=>trivial)
 have r4':[c4]=[.int .i8 s4]:=r4 (fun _=>True) (fun _ _=>trivial)
 have r5':[c5]=[vs s5]:=r5 (fun _=>True) (fun _ _=>trivial)
 have r6':[c6]=[.int .i16 s6]:=r6 (fun _=>True) (fun _ _=>trivial)
 cases r0'
 cases r1'
 cases r2'
 cases r4'
 cases r5'
 cases r6'
 refine ⟨⟨s0,s1,s2,s3,s4,s5,s6⟩,fun Pb hP=>?_,_,_,_,_,_,_,_,rfl,q0,q1,q2,q3,q4,q5,q6⟩
 obtain ⟨v,hv,hr⟩:=r3 Pb fun p hp=>hP p (by simp;exact .inr (.inr (.inr (.inl hp))))
 have hv':[c3]=[v]:=hv
 cases hv'
 exact ⟨c3,rfl,hr⟩
theorem RI:Opens Tryz.prog 23 (rSl rCd 7) (wR Vd):=wS Tryz.underlying23 cCd (by decide) Vg
theorem Vh:Opens Tryz.prog 26 rGv WT:=by
 intro H enc w fuel cs d ps h
 obtain ⟨xs,n,rfl,hx,hl,hlen,hf⟩:=DataW.trod_struct Tryz.underlying26 h
 rw [cGv] at hl
 obtain ⟨c0,c1,c2,c3,rfl⟩:=ZU hl
 obtain ⟨y0,y1,y2,y3,rfl⟩:=ZU (show xs.length=4 from hlen)
 have e0:DataW.trod enc Tryz.prog w 0 (fun _=>true) true n 22 (([c0,c1,c2,c3].drop 0).take (Tryz.prog.cellsOf 22))=some y0:=hf 0 _ rfl
 rw [aeO] at e0
 have e1:DataW.trod enc Tryz.prog w 0 (fun _=>true) true n 23 (([c0,c1,c2,c3].drop 1).take (Tryz.prog.cellsOf 23))=some y1:=hf 1 _ rfl
 rw [aeP] at e1
 have e2:DataW.trod enc Tryz.prog w 0 (fun _=>true) true n 24 (([c0,c1,c2,c3].drop 2).take (Tryz.prog.cellsOf 24))=some y2:=hf 2 _ rfl
 rw [U9] at e2
 have e3:DataW.trod enc Tryz.prog w 0 (fun _=>true) true n 24 (([c0,c1,c2,c3].drop 3).take (Tryz.prog.cellsOf 24))=some y3:=hf 3 _ rfl
 rw [U9] at e3
 cases hx
 obtain ⟨s0,r0,q0⟩:=RH H enc w n _ _ _ e0
 obtain ⟨s1,r1,q1⟩:=RI H enc w n _ _ _ e1
 obtain ⟨s2,r2,q2⟩:=Cj H enc w n _ _ _ e2
 obtain ⟨s3,r3,q3⟩:=Cj H enc w n _ _ _ e3
 refine ⟨⟨s0,s1,s2,s3⟩,fun Pb hP=>?_,_,_,_,_,rfl,q0,q1,q2,q3⟩
 obtain ⟨v0,hv0,hr0⟩:=r0 Pb fun p hp=>hP p (by simp;exact .inl hp)
 obtain ⟨v1,hv1,hr1⟩:=r1 Pb fun p hp=>hP p (by simp;exact .inr (.inl hp))
 obtain ⟨v2,hv2,hr2⟩:=r2 Pb fun p hp=>hP p (by simp;exact .inr (.inr (.inl hp)))
 obtain ⟨v3,hv3,hr3⟩:=r3 Pb fun p hp=>hP p (by simp;exact .inr (.inr (.inr hp)))
 have h0:[c0]=[v0]:=hv0
 have h1:[c1]=[v1]:=hv1
 have h2:[c2]=[v2]:=hv2
 have h3:[c3]=[v3]:=hv3
 cases h0
 cases h1
 cases h2
 cases h3
 exact ⟨c0,c1,c2,c3,rfl,hr0,hr1,hr2,hr3⟩
theorem X4 {l:List Nat} {x:Nat} (h:x∈l):x≤l.sum:=by
 induction l with
 |nil=>simp at h
 |cons y r ih=>
  simp only [List.sum_cons]
  rcases List.mem_cons.1 h with rfl|h
  ·omega
  ·have:=ih h;omega
theorem DL {α:Type} {D:Dat α} {H:Type} {xs:List α} {d:DataW H} (μ:α→Nat) (hμ: ∀x d,D H x d→μ x≤Rows.uptoBulk d) (h:wR D H xs d): ∀x∈xs,μ x≤Rows.uptoBulk d:=fun x hx=>
 Nat.le_trans (X4 (List.mem_map.2 ⟨x,hx,rfl⟩:μ x∈xs.map μ)) (OM μ hμ h)
theorem WU {H:Type} {g:Giv} {d:DataW H} (h:WT H g d) (hb:Rows.uptoBulk d≤1048576):SzG g∧OI g:=by
 obtain ⟨d0,d1,d2,d3,rfl,h0,h1,h2,h3⟩:=h
 simp only [Rows.uptoBulk,Rows.uptoBulkAll] at hb
 have a0:=AQ h0
 have a1:=AQ h1
 have a2:=AQ h2
 have a3:=AQ h3
 have b0:=DL (fun x:Nd=>x.nU.length) (fun x d ⟨e0,e1,e2,e,p0,p1,p2⟩=>by
  subst e
  have:=AQ p2
  simp only [Rows.uptoBulk,Rows.uptoBulkAll];omega) h0
 have b1:=DL (fun x:Cd=>x.compat.length) (fun x d ⟨e0,e1,e2,e3,e4,e5,e6,e,p0,p1,p2,p3,_⟩=>by
  subst e
  have:=AQ p3
  simp only [Rows.uptoBulk,Rows.uptoBulkAll];omega) h1
 have b2:=DL (fun x:List UInt8=>x.length) (fun x d p=>by have:=MO x d p;omega) h2
 have b3:=DL (fun x:List UInt8=>x.length) (fun x d p=>by have:=MO x d p;omega) h3
 exact ⟨⟨by omega,fun x hx=>by have:=b0 x hx;omega,by omega,fun x hx=>by have:=b1 x hx;omega,by omega,by omega⟩,⟨fun x hx=>by have:=b2 x hx;omega,fun x hx=>by have:=b3 x hx;omega⟩⟩
theorem cells4 {cs:Array Value} {a b c d:Value} (h:(Value.agg cs).cells.toList=[a,b,c,d]):cs= #[a,b,c,d]:=by
 have:cs.toList=[a,b,c,d]:=h
 cases cs;simp_all
end Go.Proofs.YtjecgaiaiophpaaGreatDoor
namespace Go.Proofs.YtjecgaiaiophpaaGreatDoor
open Go
theorem tt {a b:Bool} (ha:a=true) (hb:b=true):(a&&b)=true:=by rw [ha,hb];rfl
theorem RJ {P:Program} {f:FuncId} {fn:Func} {s:ChangeSpec} {c:OpenClaim}
 (h1:c.wf (OpenSpec.ofChange s)=true) (h2:laidOutB P=true) (h3:mapsRowed P=true) (h4:fn.params.all (P.readableRec ·)=true) (h5:namedTie P c.named s.vars=true)
 (h6:(c.stops == [])=true) (h7:(P.stops == [])=true) (h8:(c.knobs == [])=true) (h9:(P.stopKnobs == [])=true)
 (h10:(c.inPlace == P.inPlace f)=true) (h11:(c.unfollowed == P.unfollowed f)=true) (h12:(c.recurses == P.recurses f)=true) (h13:(c.named == P.varsNamed f)=true)
 (h14:(c.maps == (fn.params.toList++s.plain.varTypes P).any (P.mapsRec ·))=true) (h15:(c.ifaces == (fn.params.toList++s.plain.varTypes P).any (P.ifacesRec ·))=true) (h16:(c.mapsOut == P.mapsAmong fn.resultTypes.toList)=true)
 (h17:(c.loops == (fn.params.toList++s.plain.varTypes P).any (P.loopsFrom ·))=true) (h18:(c.wideKeys == (fn.params.toList++s.plain.varTypes P++fn.resultTypes.toList).any (P.wideKeysFrom ·))=true)
 (h19:s.vars.all (P.varReadable ·)=true) (h20:fn.resultTypes.all (fun t=>P.readableRec t&&decide (t<P.types.size))=true) (h21:(c.ifacesOut == fn.resultTypes.toList.any (P.ifacesRec ·))=true) (h22:(c.loopsOut == fn.resultTypes.toList.any (P.loopsFrom ·))=true)
 (h23:(c.plainKeys == P.plainKeys)=true) (h24:c.shortTexts.isNone=true) (h25:P.stopsHeard=true) (h26:P.mayEnter=true) (h27:(c.lifted == P.liftsFinal)=true) (h28:(P.make == some c.make)=true)
 (h29:(c.kinds == (if c.domain.isEmpty then [] else fn.params.toList.map fun t=>match P.underlying t with|some (.int k)=>some k|_=>none))=true) (h30:(c.pinned == c.pinnedBy)=true)
 (h31:(c.veiled == (fn.params.toList++s.plain.varTypes P++fn.resultTypes.toList).any (P.veiledRec ·))=true) (h32:c.veiledFits P fn.params.toList (fn.params.toList++s.plain.varTypes P++fn.resultTypes.toList)=true):joinedFacts P f fn s c=true:=by
 unfold joinedFacts
 exact tt (tt (tt (tt (tt (tt (tt (tt (tt (tt (tt (tt (tt (tt (tt (tt (tt (tt (tt (tt (tt (tt (tt (tt (tt (tt (tt (tt (tt (tt (tt h1 h2) h3) h4) h5) h6) h7) h8) h9) h10) h11) h12) h13) h14) h15) h16) h17) h18) h19) h20) h21) h22) h23) h24) h25) h26) h27) h28) h29) h30) h31) h32
theorem ZW:mapsRowed Tryz.prog=true:=by kernel_rfl
theorem ZX:laidOutB Tryz.prog=true:=by kernel_rfl
theorem aeQ:Tryz.prog.mayEnter=true:=by kernel_rfl
theorem X5:Tryz.prog.stopsHeard=true:=by kernel_rfl
end Go.Proofs.YtjecgaiaiophpaaGreatDoor
